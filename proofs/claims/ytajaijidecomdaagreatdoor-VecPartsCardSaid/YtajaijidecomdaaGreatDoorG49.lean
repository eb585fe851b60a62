/- Arguments that are slices of slices, read as lists of lists, with what the form's own reach says of their lengths. Arguments that are lists of labels. Labels that came in, with the form's own reach of their texts. -/
import Derived.Test.YtajaijidecomdaaGreatDoorArgs
import Derived.SizedLaws
import Derived.Test.YtajaijidecomdaaGreatDoorLabCmp
import Derived.ProofKit
import Derived.ChangeSame
namespace Go.Proofs.YtajaijidecomdaaGreatDoor
open Go.RowKit Go.Lib Go.ChangeShapes Go.WideShapes

section
variable {H : Type} {en : TypeId × Value → H} {P : Program} {w : World} {base : Nat} {spare : Nat → Bool} {held : Bool}
/-- A slice that came in is a list; each element's reading is told with its datum. -/
theorem arg_listD {α : Type} {enc : α → List Value} {size : Nat} {Q : α → DataW H → Prop} {t e : TypeId} {fuel : Nat} {A : Option Addr} {n c : Nat} {x : DataW H × List MemPlace} (ht : P.underlying t = some (.slice e)) (hC : P.cellsOf e = size) (hs : 0 < size)
    (hdec : ∀ (k : Nat) (cs : List Value) (y : DataW H × List MemPlace), cs.length = size → DataW.trod en P w base spare held k e cs = some y → ∃ a : α, cs = enc a ∧ Q a y.1) (h : DataW.trod en P w base spare held fuel t [.slice A n c] = some x) :
    ∃ (l : List α) (elems rest : List (DataW H)), Lst enc size w w.heap.size A n l ∧ (∀ a ∈ l, ∃ d ∈ elems, Q a d) ∧ (A = none → n = 0 ∧ c = 0) ∧ n ≤ c ∧ c ≤ maxLen ∧ (l = [] ∨ x.1 = .slice elems rest) := by
  rcases Go.Deep.open_slice ht h with ⟨hcs, _⟩ | ⟨a, len, cap, m, k, D, Pl, hcs, hb, hl, hm, hmm, hx, hi⟩
  · obtain ⟨rfl, rfl, rfl⟩ : A = none ∧ n = 0 ∧ c = 0 := by simpa using hcs
    exact ⟨[], [], [], ⟨rfl, fun h => absurd h (by omega)⟩, by simp, fun _ => ⟨rfl, rfl⟩, Nat.le_refl _, Nat.zero_le _, .inl rfl⟩
  · obtain ⟨rfl, rfl, rfl⟩ : A = some a ∧ n = len ∧ c = cap := by simpa using hcs
    have hnm : n ≤ m := by rw [hmm]; split <;> omega
    rw [hC] at hi
    have hone : ∀ i, i < n → ∃ y : α, Q y (D i) ∧ ∀ j u, (enc y)[j]? = some u → w.cell? (a.add (i * size + j)) = some u := by
      intro i hin
      obtain ⟨cs', hc, ht'⟩ := hi i (by omega)
      obtain ⟨_, hcl, hat⟩ := World.cells?_some hc
      obtain ⟨y, rfl, hq⟩ := hdec k cs' _ hcl ht'
      refine ⟨y, hq, fun j u hu => ?_⟩
      have hj := (List.getElem?_eq_some_iff.1 hu).1
      rw [hcl] at hj
      rw [← Go.Deep.add_add, hat j hj, hu]
    have hlist : ∀ q, q ≤ n → ∃ l : List α, l.length = q ∧ (∀ y ∈ l, ∃ i, i < n ∧ Q y (D i)) ∧ ∀ i y, l[i]? = some y → ∀ j u, (enc y)[j]? = some u → w.cell? (a.add (i * size + j)) = some u := by
      intro q
      induction q with
      | zero => intro _; exact ⟨[], rfl, by simp, fun i y h => by simp at h⟩
      | succ q ih =>
        intro hq
        obtain ⟨l, h1, h2, h3⟩ := ih (by omega)
        obtain ⟨y, hy1, hy2⟩ := hone q (by omega)
        refine ⟨l ++ [y], by simp [h1], fun z hz => ?_, fun i z hz => ?_⟩
        · rcases List.mem_append.1 hz with hz | hz
          · exact h2 z hz
          · rw [List.mem_singleton.1 hz]; exact ⟨q, by omega, hy1⟩
        · by_cases hiq : i < q
          · rw [List.getElem?_append_left (by omega)] at hz
            exact h3 i z hz
          · have hi2 := (List.getElem?_eq_some_iff.1 hz).1
            rw [List.length_append, h1, List.length_singleton] at hi2
            obtain rfl : i = q := by omega
            rw [List.getElem?_append_right (by omega), h1, Nat.sub_self] at hz
            obtain rfl : y = z := by simpa using hz
            exact hy2
    obtain ⟨l, h1, h2, h3⟩ := hlist n (Nat.le_refl _)
    refine ⟨l, (List.range n).map D, (List.range (m - n)).map fun j => D (n + j), ⟨h1, fun h0 => ?_⟩, fun y hy => ?_, fun h => by simp at h, hl, hm, .inr (by rw [hx])⟩
    · obtain ⟨cs', hc, ht'⟩ := hi 0 (by omega)
      obtain ⟨_, hcl, hat⟩ := World.cells?_some hc
      have hc0 : w.cell? a = some (cs'[0]'(by omega)) := by
        have := hat 0 hs
        rw [Nat.zero_mul] at this
        rw [show a = (a.add 0).add 0 by simp [Addr.add], this]
        exact List.getElem?_eq_getElem _
      have hsp := World.cell?_spot hc0
      obtain ⟨b, off, spot⟩ := a
      subst hsp
      refine ⟨b, off, rfl, World.block_lt_of_cell? w _ hc0, fun i y hy j u hu => ?_⟩
      have := h3 i y hy j u hu
      rw [show (⟨b, off, none⟩ : Addr).add (i * size + j) = ⟨b, off + i * size + j, none⟩ by
        simp only [Addr.add]
        split
        · simp; try omega
        · simp; try omega] at this
      exact this
    · obtain ⟨i, hi', hq⟩ := h2 y hy
      exact ⟨D i, List.mem_map.2 ⟨i, List.mem_range.2 hi', rfl⟩, hq⟩
theorem weightsAll_mem {e : TypeId} : ∀ {l : List (DataW H)} {d : DataW H}, d ∈ l → ∀ n ∈ d.weights P e, n ∈ DataW.weightsAll P e l
  | d' :: r, d, hd, n, hn => by
    simp only [DataW.weightsAll, List.mem_append]
    rcases List.mem_cons.1 hd with rfl | h
    · exact Or.inl hn
    · exact Or.inr (weightsAll_mem h n hn)
/-- The form's own reach, of a slice within a slice. -/
theorem reach_inner {ts : List TypeId} {ds : List (DataW H)} (h : (DataW.weightsEach P ts ds).all (· ≤ reachBytes) = true) {j : Nat} {t e q : TypeId} {elems rest e' sp' : List (DataW H)}
    (ht : ts[j]? = some t) (hd : ds[j]? = some (.slice elems rest)) (hu : P.underlying t = some (.slice e)) (hu2 : P.underlying e = some (.slice q)) (hx : DataW.slice e' sp' ∈ elems) : (e'.length + sp'.length) * P.bytesOf q ≤ reachBytes := by
  refine of_decide_eq_true (List.all_eq_true.1 h _ (DataW.weights_mem_each ht hd _ ?_))
  simp only [DataW.weights, hu, List.mem_cons, List.mem_append]
  exact Or.inr (Or.inl (weightsAll_mem hx _ (by simp [DataW.weights, hu2])))
/-- What is known of a list within a list of lists. -/
structure In1 {α : Type} (w : World) (enc : α → List Value) (size : Nat) (Q : α → Prop) (y : Option Addr × Nat × Nat × List α) (d : DataW H) : Prop where
  lst : Lst enc size w w.heap.size y.1 y.2.1 y.2.2.2
  all : ∀ a ∈ y.2.2.2, Q a
  nil : y.1 = none → y.2.1 = 0 ∧ y.2.2.1 = 0
  data : y.2.2.2 = [] ∨ ∃ e' sp', d = .slice e' sp' ∧ e'.length = y.2.2.2.length
theorem dec_in {α : Type} {enc : α → List Value} {size : Nat} {Q : α → Prop} {e q : TypeId} (hu : P.underlying e = some (.slice q)) (hC : P.cellsOf q = size) (hs : 0 < size) (hdec : ∀ (k : Nat) (cs : List Value) (y : DataW H × List MemPlace), cs.length = size → DataW.trod en P w base spare held k q cs = some y → ∃ a : α, cs = enc a ∧ Q a)
    (k : Nat) (cs : List Value) (y : DataW H × List MemPlace) (_hl : cs.length = 1) (h : DataW.trod en P w base spare held k e cs = some y) : ∃ z : Option Addr × Nat × Nat × List α, cs = [Value.slice z.1 z.2.1 z.2.2.1] ∧ In1 w enc size Q z y.1 := by
  rcases Go.Deep.open_slice hu h with ⟨rfl, _⟩ | ⟨a, len, cap, m, n, D, Pl, rfl, _, _, _, _, hx, _⟩
  · exact ⟨(none, 0, 0, []), rfl, ⟨⟨rfl, fun h => absurd h (by simp)⟩, by simp, fun _ => ⟨rfl, rfl⟩, .inl rfl⟩⟩
  · obtain ⟨l, h1, h2, h3, _, _⟩ := arg_list hu hC hs hdec h
    refine ⟨(some a, len, cap, l), rfl, ⟨h1, h2, h3, .inr ⟨_, _, by rw [hx], ?_⟩⟩⟩
    rw [List.length_map, List.length_range]
    exact h1.1.symm
end
end Go.Proofs.YtajaijidecomdaaGreatDoor
namespace Go.Proofs.YtajaijidecomdaaGreatDoor
open Go.RowKit Go.Lib Go.ChangeShapes Go.WideShapes

section
variable {H : Type} {en : TypeId × Value → H} {w : World} {base : Nat} {spare : Nat → Bool} {held : Bool}
set_option maxRecDepth 100000 in
/-- A label that came in. -/
theorem dec_label (k : Nat) (cs : List Value) (y : DataW H × List MemPlace) (hl : cs.length = 2) (h : DataW.trod en Tryz.prog w base spare held k 104 cs = some y) : ∃ x : Lb, cs = x.cells ∧ (x.nm.size ≤ maxLen ∧ x.vl.size ≤ maxLen) := by
  obtain ⟨xs, n, _, _, _, hxl, hf⟩ := DataW.trod_struct Tryz.underlying104 h
  have hxl' : xs.length = 2 := hxl
  have h1 : Tryz.prog.cellsOf 9 = 1 := by kernel_rfl
  match cs, hl, xs, hxl' with
  | [c0, c1], _, [y0, y1], _ =>
    have f0 := hf 0 _ rfl
    have f1 := hf 1 _ rfl
    obtain ⟨s0, e0, _, z0⟩ := DataW.trod_string Tryz.underlying9 f0
    obtain ⟨s1, e1, _, z1⟩ := DataW.trod_string Tryz.underlying9 f1
    have g0 : [c0] = [.string s0] := e0
    have g1 : [c1] = [.string s1] := e1
    obtain rfl : c0 = .string s0 := by simpa using g0
    obtain rfl : c1 = .string s1 := by simpa using g1
    exact ⟨⟨s0, s1⟩, rfl, z0, z1⟩
end
end Go.Proofs.YtajaijidecomdaaGreatDoor
namespace Go.Proofs.YtajaijidecomdaaGreatDoor
open Go.RowKit Go.Lib Go.ChangeShapes Go.WideShapes

section
variable {H : Type} {en : TypeId × Value → H} {w : World} {base : Nat} {spare : Nat → Bool} {held : Bool}
def labD (x : Lb) : DataW H := .agg [.lit (.string x.nm.data.toList), .lit (.string x.vl.data.toList)]
set_option maxRecDepth 100000 in
/-- A label that came in, with its datum. -/
theorem dec_labelD (k : Nat) (cs : List Value) (y : DataW H × List MemPlace) (hl : cs.length = 2) (h : DataW.trod en Tryz.prog w base spare held k 104 cs = some y) : ∃ x : Lb, cs = x.cells ∧ y.1 = labD x := by
  obtain ⟨xs, n, _, hy, _, hxl, hf⟩ := DataW.trod_struct Tryz.underlying104 h
  have hxl' : xs.length = 2 := hxl
  have h1 : Tryz.prog.cellsOf 9 = 1 := by kernel_rfl
  match cs, hl, xs, hxl' with
  | [c0, c1], _, [y0, y1], _ =>
    have f0 := hf 0 _ rfl
    have f1 := hf 1 _ rfl
    obtain ⟨s0, e0, d0, z0⟩ := DataW.trod_string Tryz.underlying9 f0
    obtain ⟨s1, e1, d1, z1⟩ := DataW.trod_string Tryz.underlying9 f1
    have g0 : [c0] = [.string s0] := e0
    have g1 : [c1] = [.string s1] := e1
    obtain rfl : c0 = .string s0 := by simpa using g0
    obtain rfl : c1 = .string s1 := by simpa using g1
    subst d0 d1 hy
    exact ⟨⟨s0, s1⟩, rfl, rfl⟩
set_option maxRecDepth 100000 in
theorem reach_label {ts : List TypeId} {ds elems rest : List (DataW H)} (h : (DataW.weightsEach Tryz.prog ts ds).all (· ≤ reachBytes) = true) {j : Nat} (ht : ts[j]? = some 88) (hd : ds[j]? = some (.slice elems rest)) {x : Lb} (hx : labD x ∈ elems) :
    x.nm.size ≤ 140737488351232 ∧ x.vl.size ≤ 140737488351232 := by
  have hw : ∀ m ∈ (labD x : DataW H).weights Tryz.prog 104, m ≤ 140737488351232 := fun m hm => by
    have := of_decide_eq_true (List.all_eq_true.1 h m (DataW.weights_mem_each ht hd _ (by
      simp only [DataW.weights, Tryz.underlying88, List.mem_cons, List.mem_append]
      exact Or.inr (Or.inl (weightsAll_mem hx _ hm)))))
    exact this
  have he : (labD x : DataW H).weights Tryz.prog 104 = [x.nm.data.toList.length, x.vl.data.toList.length] := by
    unfold labD
    simp [DataW.weights, Tryz.underlying104, DataW.weightsEach]
  rw [he] at hw
  have h1 := hw _ (by simp : x.nm.data.toList.length ∈ [x.nm.data.toList.length, x.vl.data.toList.length])
  have h2 := hw _ (by simp : x.vl.data.toList.length ∈ [x.nm.data.toList.length, x.vl.data.toList.length])
  rw [Array.length_toList] at h1 h2
  exact ⟨h1, h2⟩
end
end Go.Proofs.YtajaijidecomdaaGreatDoor
