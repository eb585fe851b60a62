/- Arguments that are slices of elements of several cells, read as lists: whatever the element's reading is. -/
import Derived.Test.YtajaijidecomdaaGreatDoorG01
import Derived.Deep.Slices
import Derived.ChangeArms
import Derived.DataReads
namespace Go.Proofs.YtajaijidecomdaaGreatDoor
open Go.RowKit Go.Lib Go.ChangeShapes Go.WideShapes

section
variable {H : Type} {en : TypeId × Value → H} {P : Program} {w : World} {base : Nat} {spare : Nat → Bool} {held : Bool}
/-- A slice that came in is a list, each element as its own reading says. -/
theorem arg_list {α : Type} {enc : α → List Value} {size : Nat} {Q : α → Prop} {t e : TypeId} {fuel : Nat} {A : Option Addr} {n c : Nat} {x : DataW H × List MemPlace} (ht : P.underlying t = some (.slice e)) (hC : P.cellsOf e = size) (hs : 0 < size)
    (hdec : ∀ (k : Nat) (cs : List Value) (y : DataW H × List MemPlace), cs.length = size → DataW.trod en P w base spare held k e cs = some y → ∃ a : α, cs = enc a ∧ Q a) (h : DataW.trod en P w base spare held fuel t [.slice A n c] = some x) :
    ∃ l : List α, Lst enc size w w.heap.size A n l ∧ (∀ a ∈ l, Q a) ∧ (A = none → n = 0 ∧ c = 0) ∧ n ≤ c ∧ c ≤ maxLen := by
  rcases Go.Deep.open_slice ht h with ⟨hcs, _⟩ | ⟨a, len, cap, m, k, D, Pl, hcs, hb, hl, hm, hmm, hx, hi⟩
  · obtain ⟨rfl, rfl, rfl⟩ : A = none ∧ n = 0 ∧ c = 0 := by simpa using hcs
    exact ⟨[], ⟨rfl, fun h => absurd h (by omega)⟩, by simp, fun _ => ⟨rfl, rfl⟩, Nat.le_refl _, Nat.zero_le _⟩
  · obtain ⟨rfl, rfl, rfl⟩ : A = some a ∧ n = len ∧ c = cap := by simpa using hcs
    have hnm : n ≤ m := by rw [hmm]; split <;> omega
    rw [hC] at hi
    have hone : ∀ i, i < n → ∃ y : α, Q y ∧ ∀ j u, (enc y)[j]? = some u → w.cell? (a.add (i * size + j)) = some u := by
      intro i hin
      obtain ⟨cs', hc, ht'⟩ := hi i (by omega)
      obtain ⟨_, hcl, hat⟩ := World.cells?_some hc
      obtain ⟨y, rfl, hq⟩ := hdec k cs' _ hcl ht'
      refine ⟨y, hq, fun j u hu => ?_⟩
      have hj := (List.getElem?_eq_some_iff.1 hu).1
      rw [hcl] at hj
      rw [← Go.Deep.add_add, hat j hj, hu]
    have hlist : ∀ q, q ≤ n → ∃ l : List α, l.length = q ∧ (∀ y ∈ l, Q y) ∧ ∀ i y, l[i]? = some y → ∀ j u, (enc y)[j]? = some u → w.cell? (a.add (i * size + j)) = some u := by
      intro q
      induction q with
      | zero => intro _; exact ⟨[], rfl, by simp, fun i y h => by simp at h⟩
      | succ q ih =>
        intro hq
        obtain ⟨l, h1, h2, h3⟩ := ih (by omega)
        obtain ⟨y, hy1, hy2⟩ := hone q (by omega)
        refine ⟨l ++ [y], by simp [h1], fun z hz => ?_, fun i z hz => ?_⟩
        · rcases List.mem_append.1 hz with hz | hz
          · exact h2 z hz
          · rw [List.mem_singleton.1 hz]; exact hy1
        · by_cases hiq : i < q
          · rw [List.getElem?_append_left (by omega)] at hz
            exact h3 i z hz
          · have hi2 := (List.getElem?_eq_some_iff.1 hz).1
            rw [List.length_append, h1, List.length_singleton] at hi2
            obtain rfl : i = q := by omega
            rw [List.getElem?_append_right (by omega), h1, Nat.sub_self] at hz
            obtain rfl : y = z := by simpa using hz
            exact hy2
    obtain ⟨l, h1, h2, h3⟩ := hlist n (Nat.le_refl _)
    refine ⟨l, ⟨h1, fun h0 => ?_⟩, h2, fun h => by simp at h, hl, hm⟩
    obtain ⟨cs', hc, ht'⟩ := hi 0 (by omega)
    obtain ⟨_, hcl, hat⟩ := World.cells?_some hc
    have hc0 : w.cell? a = some (cs'[0]'(by omega)) := by
      have := hat 0 hs
      rw [Nat.zero_mul] at this
      rw [show a = (a.add 0).add 0 by simp [Addr.add], this]
      exact List.getElem?_eq_getElem _
    have hsp := World.cell?_spot hc0
    obtain ⟨b, off, spot⟩ := a
    subst hsp
    refine ⟨b, off, rfl, World.block_lt_of_cell? w _ hc0, fun i y hy j u hu => ?_⟩
    have := h3 i y hy j u hu
    rw [show (⟨b, off, none⟩ : Addr).add (i * size + j) = ⟨b, off + i * size + j, none⟩ by
      simp only [Addr.add]
      split
      · simp; try omega
      · simp; try omega] at this
    exact this
/-- A field of one cell among a struct's. -/
theorem field_one {t : TypeId} {n i o : Nat} {cs rest : List Value} {c : Value} {xs : List (DataW H × List MemPlace)} (hc : P.cellsOf t = 1) (ho : cs.drop o = c :: rest) (hi : i < xs.length) (h : DataW.trod en P w base spare held n t ((cs.drop o).take (P.cellsOf t)) = xs[i]?) :
    ∃ y, DataW.trod en P w base spare held n t [c] = some y := by
  rw [hc, ho] at h
  exact ⟨xs[i], by rw [show [c] = (c :: rest).take 1 from rfl, h]; exact List.getElem?_eq_getElem hi⟩
theorem field_int {k : IntKind} {t : TypeId} {n i o : Nat} {cs rest : List Value} {c : Value} {xs : List (DataW H × List MemPlace)} (hu : P.underlying t = some (.int k)) (hc : P.cellsOf t = 1) (ho : cs.drop o = c :: rest) (hi : i < xs.length) (h : DataW.trod en P w base spare held n t ((cs.drop o).take (P.cellsOf t)) = xs[i]?) :
    ∃ q, c = .int k q ∧ (Lit.int k q).wf = true := by
  obtain ⟨y, hy⟩ := field_one hc ho hi h
  obtain ⟨q, h1, _, h2⟩ := DataW.trod_int hu hy
  exact ⟨q, by simpa using h1, h2⟩
end
end Go.Proofs.YtajaijidecomdaaGreatDoor
