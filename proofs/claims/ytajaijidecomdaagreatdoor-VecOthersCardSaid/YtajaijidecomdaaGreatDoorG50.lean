/- Arguments that are slices of elements of several cells, read as lists: whatever the element's reading is. Arguments that are slices of slices, read as lists of lists, with what the form's own reach says of their lengths. Arguments that are lists of labels. Labels that came in, with the form's own reach of their texts. Arguments that are vectors, numbers, truth values. Arguments that are lists of texts. An argument that is a matching. -/
import Derived.Test.YtajaijidecomdaaGreatDoorG02
import Derived.Deep.Slices
import Derived.ChangeArms
import Derived.DataReads
import Derived.SizedLaws
import Derived.Test.YtajaijidecomdaaGreatDoorG03
import Derived.ProofKit
import Derived.ChangeSame
import Derived.Test.YtajaijidecomdaaGreatDoorG47
import Derived.OpenShut
import Derived.Test.YtajaijidecomdaaGreatDoorG12
import Derived.Test.YtajaijidecomdaaGreatDoorG44
namespace Go.Proofs.YtajaijidecomdaaGreatDoor
open Go.RowKit Go.Lib Go.ChangeShapes Go.WideShapes

section
variable {H : Type} {en : TypeId × Value → H} {P : Program} {w : World} {base : Nat} {spare : Nat → Bool} {held : Bool}
/-- A slice that came in is a list, each element as its own reading says. -/
theorem arg_list {α : Type} {enc : α → List Value} {size : Nat} {Q : α → Prop} {t e : TypeId} {fuel : Nat} {A : Option Addr} {n c : Nat} {x : DataW H × List MemPlace} (ht : P.underlying t = some (.slice e)) (hC : P.cellsOf e = size) (hs : 0 < size)
    (hdec : ∀ (k : Nat) (cs : List Value) (y : DataW H × List MemPlace), cs.length = size → DataW.trod en P w base spare held k e cs = some y → ∃ a : α, cs = enc a ∧ Q a) (h : DataW.trod en P w base spare held fuel t [.slice A n c] = some x) :
    ∃ l : List α, Lst enc size w w.heap.size A n l ∧ (∀ a ∈ l, Q a) ∧ (A = none → n = 0 ∧ c = 0) ∧ n ≤ c ∧ c ≤ maxLen := by
  rcases Go.Deep.open_slice ht h with ⟨hcs, _⟩ | ⟨a, len, cap, m, k, D, Pl, hcs, hb, hl, hm, hmm, hx, hi⟩
  · obtain ⟨rfl, rfl, rfl⟩ : A = none ∧ n = 0 ∧ c = 0 := by simpa using hcs
    exact ⟨[], ⟨rfl, fun h => absurd h (by omega)⟩, by simp, fun _ => ⟨rfl, rfl⟩, Nat.le_refl _, Nat.zero_le _⟩
  · obtain ⟨rfl, rfl, rfl⟩ : A = some a ∧ n = len ∧ c = cap := by simpa using hcs
    have hnm : n ≤ m := by rw [hmm]; split <;> omega
    rw [hC] at hi
    have hone : ∀ i, i < n → ∃ y : α, Q y ∧ ∀ j u, (enc y)[j]? = some u → w.cell? (a.add (i * size + j)) = some u := by
      intro i hin
      obtain ⟨cs', hc, ht'⟩ := hi i (by omega)
      obtain ⟨_, hcl, hat⟩ := World.cells?_some hc
      obtain ⟨y, rfl, hq⟩ := hdec k cs' _ hcl ht'
      refine ⟨y, hq, fun j u hu => ?_⟩
      have hj := (List.getElem?_eq_some_iff.1 hu).1
      rw [hcl] at hj
      rw [← Go.Deep.add_add, hat j hj, hu]
    have hlist : ∀ q, q ≤ n → ∃ l : List α, l.length = q ∧ (∀ y ∈ l, Q y) ∧ ∀ i y, l[i]? = some y → ∀ j u, (enc y)[j]? = some u → w.cell? (a.add (i * size + j)) = some u := by
      intro q
      induction q with
      | zero => intro _; exact ⟨[], rfl, by simp, fun i y h => by simp at h⟩
      | succ q ih =>
        intro hq
        obtain ⟨l, h1, h2, h3⟩ := ih (by omega)
        obtain ⟨y, hy1, hy2⟩ := hone q (by omega)
        refine ⟨l ++ [y], by simp [h1], fun z hz => ?_, fun i z hz => ?_⟩
        · rcases List.mem_append.1 hz with hz | hz
          · exact h2 z hz
          · rw [List.mem_singleton.1 hz]; exact hy1
        · by_cases hiq : i < q
          · rw [List.getElem?_append_left (by omega)] at hz
            exact h3 i z hz
          · have hi2 := (List.getElem?_eq_some_iff.1 hz).1
            rw [List.length_append, h1, List.length_singleton] at hi2
            obtain rfl : i = q := by omega
            rw [List.getElem?_append_right (by omega), h1, Nat.sub_self] at hz
            obtain rfl : y = z := by simpa using hz
            exact hy2
    obtain ⟨l, h1, h2, h3⟩ := hlist n (Nat.le_refl _)
    refine ⟨l, ⟨h1, fun h0 => ?_⟩, h2, fun h => by simp at h, hl, hm⟩
    obtain ⟨cs', hc, ht'⟩ := hi 0 (by omega)
    obtain ⟨_, hcl, hat⟩ := World.cells?_some hc
    have hc0 : w.cell? a = some (cs'[0]'(by omega)) := by
      have := hat 0 hs
      rw [Nat.zero_mul] at this
      rw [show a = (a.add 0).add 0 by simp [Addr.add], this]
      exact List.getElem?_eq_getElem _
    have hsp := World.cell?_spot hc0
    obtain ⟨b, off, spot⟩ := a
    subst hsp
    refine ⟨b, off, rfl, World.block_lt_of_cell? w _ hc0, fun i y hy j u hu => ?_⟩
    have := h3 i y hy j u hu
    rw [show (⟨b, off, none⟩ : Addr).add (i * size + j) = ⟨b, off + i * size + j, none⟩ by
      simp only [Addr.add]
      split
      · simp; try omega
      · simp; try omega] at this
    exact this
/-- A field of one cell among a struct's. -/
theorem field_one {t : TypeId} {n i o : Nat} {cs rest : List Value} {c : Value} {xs : List (DataW H × List MemPlace)} (hc : P.cellsOf t = 1) (ho : cs.drop o = c :: rest) (hi : i < xs.length) (h : DataW.trod en P w base spare held n t ((cs.drop o).take (P.cellsOf t)) = xs[i]?) :
    ∃ y, DataW.trod en P w base spare held n t [c] = some y := by
  rw [hc, ho] at h
  exact ⟨xs[i], by rw [show [c] = (c :: rest).take 1 from rfl, h]; exact List.getElem?_eq_getElem hi⟩
theorem field_int {k : IntKind} {t : TypeId} {n i o : Nat} {cs rest : List Value} {c : Value} {xs : List (DataW H × List MemPlace)} (hu : P.underlying t = some (.int k)) (hc : P.cellsOf t = 1) (ho : cs.drop o = c :: rest) (hi : i < xs.length) (h : DataW.trod en P w base spare held n t ((cs.drop o).take (P.cellsOf t)) = xs[i]?) :
    ∃ q, c = .int k q ∧ (Lit.int k q).wf = true := by
  obtain ⟨y, hy⟩ := field_one hc ho hi h
  obtain ⟨q, h1, _, h2⟩ := DataW.trod_int hu hy
  exact ⟨q, by simpa using h1, h2⟩
end
end Go.Proofs.YtajaijidecomdaaGreatDoor
namespace Go.Proofs.YtajaijidecomdaaGreatDoor
open Go.RowKit Go.Lib Go.ChangeShapes Go.WideShapes

section
variable {H : Type} {en : TypeId × Value → H} {P : Program} {w : World} {base : Nat} {spare : Nat → Bool} {held : Bool}
/-- A slice that came in is a list; each element's reading is told with its datum. -/
theorem arg_listD {α : Type} {enc : α → List Value} {size : Nat} {Q : α → DataW H → Prop} {t e : TypeId} {fuel : Nat} {A : Option Addr} {n c : Nat} {x : DataW H × List MemPlace} (ht : P.underlying t = some (.slice e)) (hC : P.cellsOf e = size) (hs : 0 < size)
    (hdec : ∀ (k : Nat) (cs : List Value) (y : DataW H × List MemPlace), cs.length = size → DataW.trod en P w base spare held k e cs = some y → ∃ a : α, cs = enc a ∧ Q a y.1) (h : DataW.trod en P w base spare held fuel t [.slice A n c] = some x) :
    ∃ (l : List α) (elems rest : List (DataW H)), Lst enc size w w.heap.size A n l ∧ (∀ a ∈ l, ∃ d ∈ elems, Q a d) ∧ (A = none → n = 0 ∧ c = 0) ∧ n ≤ c ∧ c ≤ maxLen ∧ (l = [] ∨ x.1 = .slice elems rest) := by
  rcases Go.Deep.open_slice ht h with ⟨hcs, _⟩ | ⟨a, len, cap, m, k, D, Pl, hcs, hb, hl, hm, hmm, hx, hi⟩
  · obtain ⟨rfl, rfl, rfl⟩ : A = none ∧ n = 0 ∧ c = 0 := by simpa using hcs
    exact ⟨[], [], [], ⟨rfl, fun h => absurd h (by omega)⟩, by simp, fun _ => ⟨rfl, rfl⟩, Nat.le_refl _, Nat.zero_le _, .inl rfl⟩
  · obtain ⟨rfl, rfl, rfl⟩ : A = some a ∧ n = len ∧ c = cap := by simpa using hcs
    have hnm : n ≤ m := by rw [hmm]; split <;> omega
    rw [hC] at hi
    have hone : ∀ i, i < n → ∃ y : α, Q y (D i) ∧ ∀ j u, (enc y)[j]? = some u → w.cell? (a.add (i * size + j)) = some u := by
      intro i hin
      obtain ⟨cs', hc, ht'⟩ := hi i (by omega)
      obtain ⟨_, hcl, hat⟩ := World.cells?_some hc
      obtain ⟨y, rfl, hq⟩ := hdec k cs' _ hcl ht'
      refine ⟨y, hq, fun j u hu => ?_⟩
      have hj := (List.getElem?_eq_some_iff.1 hu).1
      rw [hcl] at hj
      rw [← Go.Deep.add_add, hat j hj, hu]
    have hlist : ∀ q, q ≤ n → ∃ l : List α, l.length = q ∧ (∀ y ∈ l, ∃ i, i < n ∧ Q y (D i)) ∧ ∀ i y, l[i]? = some y → ∀ j u, (enc y)[j]? = some u → w.cell? (a.add (i * size + j)) = some u := by
      intro q
      induction q with
      | zero => intro _; exact ⟨[], rfl, by simp, fun i y h => by simp at h⟩
      | succ q ih =>
        intro hq
        obtain ⟨l, h1, h2, h3⟩ := ih (by omega)
        obtain ⟨y, hy1, hy2⟩ := hone q (by omega)
        refine ⟨l ++ [y], by simp [h1], fun z hz => ?_, fun i z hz => ?_⟩
        · rcases List.mem_append.1 hz with hz | hz
          · exact h2 z hz
          · rw [List.mem_singleton.1 hz]; exact ⟨q, by omega, hy1⟩
        · by_cases hiq : i < q
          · rw [List.getElem?_append_left (by omega)] at hz
            exact h3 i z hz
          · have hi2 := (List.getElem?_eq_some_iff.1 hz).1
            rw [List.length_append, h1, List.length_singleton] at hi2
            obtain rfl : i = q := by omega
            rw [List.getElem?_append_right (by omega), h1, Nat.sub_self] at hz
            obtain rfl : y = z := by simpa using hz
            exact hy2
    obtain ⟨l, h1, h2, h3⟩ := hlist n (Nat.le_refl _)
    refine ⟨l, (List.range n).map D, (List.range (m - n)).map fun j => D (n + j), ⟨h1, fun h0 => ?_⟩, fun y hy => ?_, fun h => by simp at h, hl, hm, .inr (by rw [hx])⟩
    · obtain ⟨cs', hc, ht'⟩ := hi 0 (by omega)
      obtain ⟨_, hcl, hat⟩ := World.cells?_some hc
      have hc0 : w.cell? a = some (cs'[0]'(by omega)) := by
        have := hat 0 hs
        rw [Nat.zero_mul] at this
        rw [show a = (a.add 0).add 0 by simp [Addr.add], this]
        exact List.getElem?_eq_getElem _
      have hsp := World.cell?_spot hc0
      obtain ⟨b, off, spot⟩ := a
      subst hsp
      refine ⟨b, off, rfl, World.block_lt_of_cell? w _ hc0, fun i y hy j u hu => ?_⟩
      have := h3 i y hy j u hu
      rw [show (⟨b, off, none⟩ : Addr).add (i * size + j) = ⟨b, off + i * size + j, none⟩ by
        simp only [Addr.add]
        split
        · simp; try omega
        · simp; try omega] at this
      exact this
    · obtain ⟨i, hi', hq⟩ := h2 y hy
      exact ⟨D i, List.mem_map.2 ⟨i, List.mem_range.2 hi', rfl⟩, hq⟩
theorem weightsAll_mem {e : TypeId} : ∀ {l : List (DataW H)} {d : DataW H}, d ∈ l → ∀ n ∈ d.weights P e, n ∈ DataW.weightsAll P e l
  | d' :: r, d, hd, n, hn => by
    simp only [DataW.weightsAll, List.mem_append]
    rcases List.mem_cons.1 hd with rfl | h
    · exact Or.inl hn
    · exact Or.inr (weightsAll_mem h n hn)
/-- The form's own reach, of a slice within a slice. -/
theorem reach_inner {ts : List TypeId} {ds : List (DataW H)} (h : (DataW.weightsEach P ts ds).all (· ≤ reachBytes) = true) {j : Nat} {t e q : TypeId} {elems rest e' sp' : List (DataW H)}
    (ht : ts[j]? = some t) (hd : ds[j]? = some (.slice elems rest)) (hu : P.underlying t = some (.slice e)) (hu2 : P.underlying e = some (.slice q)) (hx : DataW.slice e' sp' ∈ elems) : (e'.length + sp'.length) * P.bytesOf q ≤ reachBytes := by
  refine of_decide_eq_true (List.all_eq_true.1 h _ (DataW.weights_mem_each ht hd _ ?_))
  simp only [DataW.weights, hu, List.mem_cons, List.mem_append]
  exact Or.inr (Or.inl (weightsAll_mem hx _ (by simp [DataW.weights, hu2])))
/-- What is known of a list within a list of lists. -/
structure In1 {α : Type} (w : World) (enc : α → List Value) (size : Nat) (Q : α → Prop) (y : Option Addr × Nat × Nat × List α) (d : DataW H) : Prop where
  lst : Lst enc size w w.heap.size y.1 y.2.1 y.2.2.2
  all : ∀ a ∈ y.2.2.2, Q a
  nil : y.1 = none → y.2.1 = 0 ∧ y.2.2.1 = 0
  data : y.2.2.2 = [] ∨ ∃ e' sp', d = .slice e' sp' ∧ e'.length = y.2.2.2.length
theorem dec_in {α : Type} {enc : α → List Value} {size : Nat} {Q : α → Prop} {e q : TypeId} (hu : P.underlying e = some (.slice q)) (hC : P.cellsOf q = size) (hs : 0 < size) (hdec : ∀ (k : Nat) (cs : List Value) (y : DataW H × List MemPlace), cs.length = size → DataW.trod en P w base spare held k q cs = some y → ∃ a : α, cs = enc a ∧ Q a)
    (k : Nat) (cs : List Value) (y : DataW H × List MemPlace) (_hl : cs.length = 1) (h : DataW.trod en P w base spare held k e cs = some y) : ∃ z : Option Addr × Nat × Nat × List α, cs = [Value.slice z.1 z.2.1 z.2.2.1] ∧ In1 w enc size Q z y.1 := by
  rcases Go.Deep.open_slice hu h with ⟨rfl, _⟩ | ⟨a, len, cap, m, n, D, Pl, rfl, _, _, _, _, hx, _⟩
  · exact ⟨(none, 0, 0, []), rfl, ⟨⟨rfl, fun h => absurd h (by simp)⟩, by simp, fun _ => ⟨rfl, rfl⟩, .inl rfl⟩⟩
  · obtain ⟨l, h1, h2, h3, _, _⟩ := arg_list hu hC hs hdec h
    refine ⟨(some a, len, cap, l), rfl, ⟨h1, h2, h3, .inr ⟨_, _, by rw [hx], ?_⟩⟩⟩
    rw [List.length_map, List.length_range]
    exact h1.1.symm
end
end Go.Proofs.YtajaijidecomdaaGreatDoor
namespace Go.Proofs.YtajaijidecomdaaGreatDoor
open Go.RowKit Go.Lib Go.ChangeShapes Go.WideShapes

section
variable {H : Type} {en : TypeId × Value → H} {w : World} {base : Nat} {spare : Nat → Bool} {held : Bool}
set_option maxRecDepth 100000 in
/-- A label that came in. -/
theorem dec_label (k : Nat) (cs : List Value) (y : DataW H × List MemPlace) (hl : cs.length = 2) (h : DataW.trod en Tryz.prog w base spare held k 104 cs = some y) : ∃ x : Lb, cs = x.cells ∧ (x.nm.size ≤ maxLen ∧ x.vl.size ≤ maxLen) := by
  obtain ⟨xs, n, _, _, _, hxl, hf⟩ := DataW.trod_struct Tryz.underlying104 h
  have hxl' : xs.length = 2 := hxl
  have h1 : Tryz.prog.cellsOf 9 = 1 := by kernel_rfl
  match cs, hl, xs, hxl' with
  | [c0, c1], _, [y0, y1], _ =>
    have f0 := hf 0 _ rfl
    have f1 := hf 1 _ rfl
    obtain ⟨s0, e0, _, z0⟩ := DataW.trod_string Tryz.underlying9 f0
    obtain ⟨s1, e1, _, z1⟩ := DataW.trod_string Tryz.underlying9 f1
    have g0 : [c0] = [.string s0] := e0
    have g1 : [c1] = [.string s1] := e1
    obtain rfl : c0 = .string s0 := by simpa using g0
    obtain rfl : c1 = .string s1 := by simpa using g1
    exact ⟨⟨s0, s1⟩, rfl, z0, z1⟩
end
end Go.Proofs.YtajaijidecomdaaGreatDoor
namespace Go.Proofs.YtajaijidecomdaaGreatDoor
open Go.RowKit Go.Lib Go.ChangeShapes Go.WideShapes

section
variable {H : Type} {en : TypeId × Value → H} {w : World} {base : Nat} {spare : Nat → Bool} {held : Bool}
def labD (x : Lb) : DataW H := .agg [.lit (.string x.nm.data.toList), .lit (.string x.vl.data.toList)]
set_option maxRecDepth 100000 in
/-- A label that came in, with its datum. -/
theorem dec_labelD (k : Nat) (cs : List Value) (y : DataW H × List MemPlace) (hl : cs.length = 2) (h : DataW.trod en Tryz.prog w base spare held k 104 cs = some y) : ∃ x : Lb, cs = x.cells ∧ y.1 = labD x := by
  obtain ⟨xs, n, _, hy, _, hxl, hf⟩ := DataW.trod_struct Tryz.underlying104 h
  have hxl' : xs.length = 2 := hxl
  have h1 : Tryz.prog.cellsOf 9 = 1 := by kernel_rfl
  match cs, hl, xs, hxl' with
  | [c0, c1], _, [y0, y1], _ =>
    have f0 := hf 0 _ rfl
    have f1 := hf 1 _ rfl
    obtain ⟨s0, e0, d0, z0⟩ := DataW.trod_string Tryz.underlying9 f0
    obtain ⟨s1, e1, d1, z1⟩ := DataW.trod_string Tryz.underlying9 f1
    have g0 : [c0] = [.string s0] := e0
    have g1 : [c1] = [.string s1] := e1
    obtain rfl : c0 = .string s0 := by simpa using g0
    obtain rfl : c1 = .string s1 := by simpa using g1
    subst d0 d1 hy
    exact ⟨⟨s0, s1⟩, rfl, rfl⟩
set_option maxRecDepth 100000 in
theorem reach_label {ts : List TypeId} {ds elems rest : List (DataW H)} (h : (DataW.weightsEach Tryz.prog ts ds).all (· ≤ reachBytes) = true) {j : Nat} (ht : ts[j]? = some 88) (hd : ds[j]? = some (.slice elems rest)) {x : Lb} (hx : labD x ∈ elems) :
    x.nm.size ≤ 140737488351232 ∧ x.vl.size ≤ 140737488351232 := by
  have hw : ∀ m ∈ (labD x : DataW H).weights Tryz.prog 104, m ≤ 140737488351232 := fun m hm => by
    have := of_decide_eq_true (List.all_eq_true.1 h m (DataW.weights_mem_each ht hd _ (by
      simp only [DataW.weights, Tryz.underlying88, List.mem_cons, List.mem_append]
      exact Or.inr (Or.inl (weightsAll_mem hx _ hm)))))
    exact this
  have he : (labD x : DataW H).weights Tryz.prog 104 = [x.nm.data.toList.length, x.vl.data.toList.length] := by
    unfold labD
    simp [DataW.weights, Tryz.underlying104, DataW.weightsEach]
  rw [he] at hw
  have h1 := hw _ (by simp : x.nm.data.toList.length ∈ [x.nm.data.toList.length, x.vl.data.toList.length])
  have h2 := hw _ (by simp : x.vl.data.toList.length ∈ [x.nm.data.toList.length, x.vl.data.toList.length])
  rw [Array.length_toList] at h1 h2
  exact ⟨h1, h2⟩
end
end Go.Proofs.YtajaijidecomdaaGreatDoor
namespace Go.Proofs.YtajaijidecomdaaGreatDoor
open Go.RowKit Go.Lib Go.ChangeShapes Go.WideShapes

section
variable {H : Type} {en : TypeId × Value → H} {w : World} {base : Nat} {spare : Nat → Bool} {held : Bool}
theorem u64_of {q : Int} (h : (Lit.int .u64 q).wf = true) : ∃ v : UInt64, q = (v.toNat : Int) := by
  have h1 : 0 ≤ q ∧ q < 2 ^ 64 := by
    unfold Lit.wf at h
    simp [IntKind.min, IntKind.max, IntKind.signed, IntKind.bits] at h
    omega
  refine ⟨UInt64.ofNat q.toNat, ?_⟩
  rw [UInt64.toNat_ofNat']
  omega
theorem u8_of {q : Int} (h : (Lit.int .u8 q).wf = true) : 0 ≤ q ∧ q < 256 := by
  unfold Lit.wf at h
  simp [IntKind.min, IntKind.max, IntKind.signed, IntKind.bits] at h
  omega
/-- What is known of an element that came in. -/
structure InE (w : World) (z : Ev) (d : DataW H) : Prop where
  lst : Lst Lb.cells 2 w w.heap.size z.A z.n z.l
  nil : z.A = none → z.n = 0 ∧ z.c = 0
  data : ∃ dl dv : DataW H, d = .agg [dl, dv] ∧ (z.l = [] ∨ ∃ e' sp', dl = .slice e' sp' ∧ e'.length = z.n ∧ ∀ x ∈ z.l, labD x ∈ e')
set_option maxRecDepth 100000 in
theorem slice_lenE {t e : TypeId} {k : Nat} {A : Option Addr} {n c : Nat} {x : DataW H × List MemPlace} {elems rest : List (DataW H)} (ht : Tryz.prog.underlying t = some (.slice e)) (h : DataW.trod en Tryz.prog w base spare held k t [.slice A n c] = some x) (hx : x.1 = .slice elems rest) : elems.length = n := by
  rcases Go.Deep.open_slice ht h with ⟨hcs, hx2⟩ | ⟨a, len, cap, m', k', D, Pl, hcs, _, _, _, _, hx2, _⟩
  · rw [hx2] at hx; cases hx
  · obtain ⟨rfl, rfl, rfl⟩ : A = some a ∧ n = len ∧ c = cap := by simpa using hcs
    rw [hx2] at hx
    injection hx with e1 _
    rw [← e1, List.length_map, List.length_range]
set_option maxRecDepth 100000 in
/-- An element that came in. -/
theorem dec_elem (k : Nat) (cs : List Value) (y : DataW H × List MemPlace) (hl : cs.length = 2) (h : DataW.trod en Tryz.prog w base spare held k 90 cs = some y) : ∃ z : Ev, cs = encEv z ∧ InE w z y.1 := by
  obtain ⟨xs, n, _, hy, _, hxl, hf⟩ := DataW.trod_struct Tryz.underlying90 h
  have hxl' : xs.length = 2 := hxl
  match cs, hl, xs, hxl' with
  | [c0, c1], _, [y0, y1], _ =>
    have f0 := hf 0 _ rfl
    have f1 := hf 1 _ rfl
    have g0 : DataW.trod en Tryz.prog w base spare held n 88 [c0] = some y0 := f0
    have g1 : DataW.trod en Tryz.prog w base spare held n 24 [c1] = some y1 := f1
    subst hy
    obtain ⟨q1, e1, _, w1⟩ := DataW.trod_int Tryz.underlying24 g1
    obtain rfl : c1 = .int .u64 q1 := by simpa using e1
    obtain ⟨v, rfl⟩ := u64_of w1
    obtain ⟨A, ln, cp, rfl⟩ : ∃ A ln cp, c0 = .slice A ln cp := by
      rcases Go.Deep.open_slice Tryz.underlying88 g0 with ⟨hcs, _⟩ | ⟨a, len, cap, m', k', D, Pl, hcs, _, _, _, _, hx, _⟩
      · exact ⟨none, 0, 0, by simpa using hcs⟩
      · exact ⟨some a, len, cap, by simpa using hcs⟩
    obtain ⟨l, elems, rest, h1, h2, h3, _, _, h5⟩ := arg_listD (enc := Lb.cells) (size := 2) (Q := fun x d => d = labD x) Tryz.underlying88 (by kernel_rfl) (by omega) dec_labelD g0
    refine ⟨⟨A, ln, cp, l, v⟩, rfl, ⟨h1, h3, _, _, rfl, ?_⟩⟩
    rcases h5 with h5 | h5
    · exact .inl h5
    · refine .inr ⟨elems, rest, h5, slice_lenE Tryz.underlying88 g0 h5, fun x hx' => ?_⟩
      obtain ⟨d, hd, rfl⟩ := h2 x hx'
      exact hd
end
theorem bytes_elm : Tryz.prog.bytesOf 90 = 32 := by kernel_rfl
theorem bytes_labE : Tryz.prog.bytesOf 104 = 32 := by kernel_rfl
theorem reach_eqE : reachBytes = 140737488351232 := rfl
/-- What the form's own reach says of an element that came in. -/
theorem bigE_of {H : Type} {w : World} {ds elems rest : List (DataW H)} {ts : List TypeId} {j : Nat} {z : Ev} {d : DataW H} (h : (DataW.weightsEach Tryz.prog ts ds).all (· ≤ reachBytes) = true) (ht : ts[j]? = some 33) (hd : ds[j]? = some (.slice elems rest)) (hm : d ∈ elems) (hz : InE w z d) : EBig w z := by
  obtain ⟨dl, dg, rfl, hdat⟩ := hz.data
  have hin : ∀ q ∈ (DataW.agg [dl, dg] : DataW H).weights Tryz.prog 90, q ≤ 140737488351232 := fun q hq => by
    have := of_decide_eq_true (List.all_eq_true.1 h q (DataW.weights_mem_each ht hd _ (by
      simp only [DataW.weights, Tryz.underlying33, List.mem_cons, List.mem_append]
      exact Or.inr (Or.inl (weightsAll_mem hm _ hq)))))
    exact this
  have hw : ∀ q ∈ (dl : DataW H).weights Tryz.prog 88, q ≤ 140737488351232 := fun q hq => hin q (by
        simp only [DataW.weights, Tryz.underlying90]
        simp only [List.map_cons, DataW.weightsEach, List.mem_append]
        exact Or.inl hq)
  refine ⟨hz.lst, hz.nil, ?_, ?_⟩
  · rcases hdat with h0 | ⟨e', sp', rfl, hl, _⟩
    · have := hz.lst.1
      rw [h0] at this
      simp at this
      omega
    · have := hw ((e'.length + sp'.length) * Tryz.prog.bytesOf 104) (by simp [DataW.weights, Tryz.underlying88])
      rw [bytes_labE, hl] at this
      omega
  · intro x hx
    rcases hdat with h0 | ⟨e', sp', rfl, _, hx'⟩
    · rw [h0] at hx; cases hx
    · have hwx : ∀ q ∈ (labD x : DataW H).weights Tryz.prog 104, q ≤ 140737488351232 := fun q hq => hw q (by
        simp only [DataW.weights, Tryz.underlying88, List.mem_cons, List.mem_append]
        exact Or.inr (Or.inl (weightsAll_mem (hx' x hx) _ hq)))
      have he : (labD x : DataW H).weights Tryz.prog 104 = [x.nm.data.toList.length, x.vl.data.toList.length] := by
        unfold labD
        simp [DataW.weights, Tryz.underlying104, DataW.weightsEach]
      rw [he] at hwx
      have h1 := hwx _ (by simp : x.nm.data.toList.length ∈ [x.nm.data.toList.length, x.vl.data.toList.length])
      have h2 := hwx _ (by simp : x.vl.data.toList.length ∈ [x.nm.data.toList.length, x.vl.data.toList.length])
      rw [Array.length_toList] at h1 h2
      exact ⟨h1, h2⟩
/-- One argument: a vector. -/
theorem arg_elm {H : Type} {enc : TypeId × Value → H} {W : World} {ts : List TypeId} {ds : List (DataW H)} {j : Nat} {a0 : Option Addr} {len0 cap0 : Nat} {d0 : DataW H} {p0 : List MemPlace} (hsz : (DataW.weightsEach Tryz.prog ts ds).all (· ≤ reachBytes) = true) (ht : ts[j]? = some 33) (hd : ds[j]? = some d0)
    (h0 : DataW.Trod enc Tryz.prog W 0 (fun _ => true) true 33 (.slice a0 len0 cap0) d0 p0) :
    ∃ l : List Ev, Lst encEv 2 W W.heap.size a0 len0 l ∧ (a0 = none → len0 = 0 ∧ cap0 = 0) ∧ len0 ≤ 140737488355328 ∧ ∀ z ∈ l, EBig W z := by
  have hslc : ∃ (l : List Ev) (elems rest : List (DataW H)), Lst encEv 2 W W.heap.size a0 len0 l ∧ (∀ z ∈ l, ∃ d ∈ elems, InE W z d) ∧ (a0 = none → len0 = 0 ∧ cap0 = 0) ∧ len0 ≤ cap0 ∧ cap0 ≤ maxLen ∧ (l = [] ∨ d0 = .slice elems rest) := by
    obtain ⟨fuel, hf⟩ := h0
    exact arg_listD Tryz.underlying33 (by kernel_rfl) (by omega) dec_elem hf
  obtain ⟨l, elems, rest, hL, hin, hnil, hle, hcm, hdat⟩ := hslc
  refine ⟨l, hL, hnil, ?_, fun z hz => ?_⟩
  · rcases hdat with h | h
    · have := hL.1; rw [h] at this; simp at this; omega
    · obtain ⟨fuel, hf⟩ := h0
      have hl := slice_lenE Tryz.underlying33 hf h
      have := sized_slice hsz (j := j) (t := 33) (e := 90) ht (by rw [hd, h]) Tryz.underlying33
      rw [bytes_elm, reach_eqE, hl] at this
      omega
  · obtain ⟨d, hd', hi⟩ := hin z hz
    rcases hdat with h | h
    · rw [h] at hz; cases hz
    · exact bigE_of hsz ht (by rw [hd, h]) hd' hi
end Go.Proofs.YtajaijidecomdaaGreatDoor
namespace Go.Proofs.YtajaijidecomdaaGreatDoor
open Go.RowKit Go.Lib Go.ChangeShapes Go.WideShapes

section
variable {H : Type} {en : TypeId × Value → H} {w : World} {base : Nat} {spare : Nat → Bool} {held : Bool}
/-- A text that came in. -/
theorem dec_text (k : Nat) (cs : List Value) (y : DataW H × List MemPlace) (_ : cs.length = 1) (h : DataW.trod en Tryz.prog w base spare held k 9 cs = some y) : ∃ x : ByteArray, cs = encTx x ∧ x.size ≤ maxLen := by
  obtain ⟨s, e, _, z⟩ := DataW.trod_string Tryz.underlying9 h
  exact ⟨s, e, z⟩
end
end Go.Proofs.YtajaijidecomdaaGreatDoor
namespace Go.Proofs.YtajaijidecomdaaGreatDoor
open Go.RowKit Go.Lib Go.ChangeShapes Go.WideShapes

section
variable {H : Type} {en : TypeId × Value → H} {w : World} {base : Nat} {spare : Nat → Bool} {held : Bool}
set_option maxRecDepth 100000 in
theorem slice_of {c0 : Value} {k : Nat} {x : DataW H × List MemPlace} (g0 : DataW.trod en Tryz.prog w base spare held k 78 [c0] = some x) : ∃ A ln cp, c0 = .slice A ln cp := by
  rcases Go.Deep.open_slice Tryz.underlying78 g0 with ⟨hcs, _⟩ | ⟨a, len, cap, m', k', D, Pl, hcs, _, _, _, _, hx, _⟩
  · exact ⟨none, 0, 0, by simpa using hcs⟩
  · exact ⟨some a, len, cap, by simpa using hcs⟩
set_option maxRecDepth 100000 in
/-- A matching that came in. -/
theorem dec_mat (k : Nat) (cs : List Value) (y : DataW H × List MemPlace) (hl : cs.length = 4) (h : DataW.trod en Tryz.prog w base spare held k 80 cs = some y) : ∃ m : Mv, cs = cellsM m ∧ MRaw w m ∧ 0 ≤ m.card ∧ m.card < 256 := by
  obtain ⟨xs, n, _, hy, _, hxl, hf⟩ := DataW.trod_struct Tryz.underlying80 h
  have hxl' : xs.length = 4 := hxl
  match cs, hl, xs, hxl' with
  | [c0, c1, c2, c3], _, [y0, y1, y2, y3], _ =>
    have f0 := hf 0 _ rfl
    have f1 := hf 1 _ rfl
    have f2 := hf 2 _ rfl
    have f3 := hf 3 _ rfl
    have g0 : DataW.trod en Tryz.prog w base spare held n 5 [c0] = some y0 := f0
    have g1 : DataW.trod en Tryz.prog w base spare held n 4 [c1] = some y1 := f1
    have g2 : DataW.trod en Tryz.prog w base spare held n 78 [c2] = some y2 := f2
    have g3 : DataW.trod en Tryz.prog w base spare held n 78 [c3] = some y3 := f3
    obtain ⟨q0, e0, _, w0⟩ := DataW.trod_int Tryz.underlying5 g0
    obtain rfl : c0 = .int .u8 q0 := by simpa using e0
    obtain ⟨z0, z1⟩ := u8_of w0
    obtain ⟨b, e1, _⟩ := DataW.trod_bool Tryz.underlying4 g1
    obtain rfl : c1 = .bool b := by simpa using e1
    obtain ⟨A, ln, cp, rfl⟩ := slice_of g2
    obtain ⟨A', ln', cp', rfl⟩ := slice_of g3
    obtain ⟨l, h1, h2, h3, h4, h5⟩ := arg_list (enc := encTx) (size := 1) Tryz.underlying78 (by kernel_rfl) (by omega) dec_text g2
    obtain ⟨l', k1, k2, k3, k4, k5⟩ := arg_list (enc := encTx) (size := 1) Tryz.underlying78 (by kernel_rfl) (by omega) dec_text g3
    exact ⟨⟨q0, b, A, ln, cp, l, A', ln', cp', l'⟩, rfl, ⟨h1, h3, h2, k1, k3, k2⟩, z0, z1⟩
end
theorem arg_mat {H : Type} {enc : TypeId × Value → H} {W : World} {cs : Array Value} {d0 : DataW H} {p0 : List MemPlace} (hcs : cs.size = Tryz.prog.cellsOf 80) (h0 : DataW.Trod enc Tryz.prog W 0 (fun _ => true) true 80 (.agg cs) d0 p0) :
    ∃ m : Mv, Value.agg cs = valM m ∧ MRaw W m ∧ 0 ≤ m.card ∧ m.card < 256 := by
  obtain ⟨fuel, hf⟩ := h0
  have hlen : cs.toList.length = 4 := by rw [Array.length_toList, hcs]; kernel_rfl
  obtain ⟨m, e, h⟩ := dec_mat fuel cs.toList _ hlen hf
  refine ⟨m, ?_, h⟩
  have h2 : cs = (cellsM m).toArray := by rw [← e]
  rw [h2]
  rfl
end Go.Proofs.YtajaijidecomdaaGreatDoor
