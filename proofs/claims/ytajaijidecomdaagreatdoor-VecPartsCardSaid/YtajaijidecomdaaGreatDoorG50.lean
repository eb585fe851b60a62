/- Arguments that are vectors, numbers, truth values. Arguments that are lists of texts. An argument that is a matching. A world that meets the row's condition on the listed variables (a table of math/bits, two of unicode/utf8): the witness. -/
import Derived.Test.YtajaijidecomdaaGreatDoorG49
import Derived.Test.YtajaijidecomdaaGreatDoorG45
import Derived.OpenShut
import Derived.Test.YtajaijidecomdaaGreatDoorArgs
import Derived.Test.YtajaijidecomdaaGreatDoorG15
import Derived.ProofKit
import Derived.ChangeSame
import Derived.Test.YtajaijidecomdaaGreatDoorG40
import Derived.Test.YtajaijidecomdaaGreatDoorRows
import Derived.Lay
import Derived.LaidHandle
import Derived.LaidLaws
import Derived.Stop.Joined
namespace Go.Proofs.YtajaijidecomdaaGreatDoor
open Go.RowKit Go.Lib Go.ChangeShapes Go.WideShapes

section
variable {H : Type} {en : TypeId × Value → H} {w : World} {base : Nat} {spare : Nat → Bool} {held : Bool}
theorem u64_of {q : Int} (h : (Lit.int .u64 q).wf = true) : ∃ v : UInt64, q = (v.toNat : Int) := by
  have h1 : 0 ≤ q ∧ q < 2 ^ 64 := by
    unfold Lit.wf at h
    simp [IntKind.min, IntKind.max, IntKind.signed, IntKind.bits] at h
    omega
  refine ⟨UInt64.ofNat q.toNat, ?_⟩
  rw [UInt64.toNat_ofNat']
  omega
theorem u8_of {q : Int} (h : (Lit.int .u8 q).wf = true) : 0 ≤ q ∧ q < 256 := by
  unfold Lit.wf at h
  simp [IntKind.min, IntKind.max, IntKind.signed, IntKind.bits] at h
  omega
/-- What is known of an element that came in. -/
structure InE (w : World) (z : Ev) (d : DataW H) : Prop where
  lst : Lst Lb.cells 2 w w.heap.size z.A z.n z.l
  nil : z.A = none → z.n = 0 ∧ z.c = 0
  data : ∃ dl dv : DataW H, d = .agg [dl, dv] ∧ (z.l = [] ∨ ∃ e' sp', dl = .slice e' sp' ∧ e'.length = z.n ∧ ∀ x ∈ z.l, labD x ∈ e')
set_option maxRecDepth 100000 in
theorem slice_lenE {t e : TypeId} {k : Nat} {A : Option Addr} {n c : Nat} {x : DataW H × List MemPlace} {elems rest : List (DataW H)} (ht : Tryz.prog.underlying t = some (.slice e)) (h : DataW.trod en Tryz.prog w base spare held k t [.slice A n c] = some x) (hx : x.1 = .slice elems rest) : elems.length = n := by
  rcases Go.Deep.open_slice ht h with ⟨hcs, hx2⟩ | ⟨a, len, cap, m', k', D, Pl, hcs, _, _, _, _, hx2, _⟩
  · rw [hx2] at hx; cases hx
  · obtain ⟨rfl, rfl, rfl⟩ : A = some a ∧ n = len ∧ c = cap := by simpa using hcs
    rw [hx2] at hx
    injection hx with e1 _
    rw [← e1, List.length_map, List.length_range]
set_option maxRecDepth 100000 in
/-- An element that came in. -/
theorem dec_elem (k : Nat) (cs : List Value) (y : DataW H × List MemPlace) (hl : cs.length = 2) (h : DataW.trod en Tryz.prog w base spare held k 90 cs = some y) : ∃ z : Ev, cs = encEv z ∧ InE w z y.1 := by
  obtain ⟨xs, n, _, hy, _, hxl, hf⟩ := DataW.trod_struct Tryz.underlying90 h
  have hxl' : xs.length = 2 := hxl
  match cs, hl, xs, hxl' with
  | [c0, c1], _, [y0, y1], _ =>
    have f0 := hf 0 _ rfl
    have f1 := hf 1 _ rfl
    have g0 : DataW.trod en Tryz.prog w base spare held n 88 [c0] = some y0 := f0
    have g1 : DataW.trod en Tryz.prog w base spare held n 24 [c1] = some y1 := f1
    subst hy
    obtain ⟨q1, e1, _, w1⟩ := DataW.trod_int Tryz.underlying24 g1
    obtain rfl : c1 = .int .u64 q1 := by simpa using e1
    obtain ⟨v, rfl⟩ := u64_of w1
    obtain ⟨A, ln, cp, rfl⟩ : ∃ A ln cp, c0 = .slice A ln cp := by
      rcases Go.Deep.open_slice Tryz.underlying88 g0 with ⟨hcs, _⟩ | ⟨a, len, cap, m', k', D, Pl, hcs, _, _, _, _, hx, _⟩
      · exact ⟨none, 0, 0, by simpa using hcs⟩
      · exact ⟨some a, len, cap, by simpa using hcs⟩
    obtain ⟨l, elems, rest, h1, h2, h3, _, _, h5⟩ := arg_listD (enc := Lb.cells) (size := 2) (Q := fun x d => d = labD x) Tryz.underlying88 (by kernel_rfl) (by omega) dec_labelD g0
    refine ⟨⟨A, ln, cp, l, v⟩, rfl, ⟨h1, h3, _, _, rfl, ?_⟩⟩
    rcases h5 with h5 | h5
    · exact .inl h5
    · refine .inr ⟨elems, rest, h5, slice_lenE Tryz.underlying88 g0 h5, fun x hx' => ?_⟩
      obtain ⟨d, hd, rfl⟩ := h2 x hx'
      exact hd
end
theorem bytes_elm : Tryz.prog.bytesOf 90 = 32 := by kernel_rfl
theorem bytes_labE : Tryz.prog.bytesOf 104 = 32 := by kernel_rfl
theorem reach_eqE : reachBytes = 140737488351232 := rfl
/-- What the form's own reach says of an element that came in. -/
theorem bigE_of {H : Type} {w : World} {ds elems rest : List (DataW H)} {ts : List TypeId} {j : Nat} {z : Ev} {d : DataW H} (h : (DataW.weightsEach Tryz.prog ts ds).all (· ≤ reachBytes) = true) (ht : ts[j]? = some 33) (hd : ds[j]? = some (.slice elems rest)) (hm : d ∈ elems) (hz : InE w z d) : EBig w z := by
  obtain ⟨dl, dg, rfl, hdat⟩ := hz.data
  have hin : ∀ q ∈ (DataW.agg [dl, dg] : DataW H).weights Tryz.prog 90, q ≤ 140737488351232 := fun q hq => by
    have := of_decide_eq_true (List.all_eq_true.1 h q (DataW.weights_mem_each ht hd _ (by
      simp only [DataW.weights, Tryz.underlying33, List.mem_cons, List.mem_append]
      exact Or.inr (Or.inl (weightsAll_mem hm _ hq)))))
    exact this
  have hw : ∀ q ∈ (dl : DataW H).weights Tryz.prog 88, q ≤ 140737488351232 := fun q hq => hin q (by
        simp only [DataW.weights, Tryz.underlying90]
        simp only [List.map_cons, DataW.weightsEach, List.mem_append]
        exact Or.inl hq)
  refine ⟨hz.lst, hz.nil, ?_, ?_⟩
  · rcases hdat with h0 | ⟨e', sp', rfl, hl, _⟩
    · have := hz.lst.1
      rw [h0] at this
      simp at this
      omega
    · have := hw ((e'.length + sp'.length) * Tryz.prog.bytesOf 104) (by simp [DataW.weights, Tryz.underlying88])
      rw [bytes_labE, hl] at this
      omega
  · intro x hx
    rcases hdat with h0 | ⟨e', sp', rfl, _, hx'⟩
    · rw [h0] at hx; cases hx
    · have hwx : ∀ q ∈ (labD x : DataW H).weights Tryz.prog 104, q ≤ 140737488351232 := fun q hq => hw q (by
        simp only [DataW.weights, Tryz.underlying88, List.mem_cons, List.mem_append]
        exact Or.inr (Or.inl (weightsAll_mem (hx' x hx) _ hq)))
      have he : (labD x : DataW H).weights Tryz.prog 104 = [x.nm.data.toList.length, x.vl.data.toList.length] := by
        unfold labD
        simp [DataW.weights, Tryz.underlying104, DataW.weightsEach]
      rw [he] at hwx
      have h1 := hwx _ (by simp : x.nm.data.toList.length ∈ [x.nm.data.toList.length, x.vl.data.toList.length])
      have h2 := hwx _ (by simp : x.vl.data.toList.length ∈ [x.nm.data.toList.length, x.vl.data.toList.length])
      rw [Array.length_toList] at h1 h2
      exact ⟨h1, h2⟩
/-- One argument: a vector. -/
theorem arg_elm {H : Type} {enc : TypeId × Value → H} {W : World} {ts : List TypeId} {ds : List (DataW H)} {j : Nat} {a0 : Option Addr} {len0 cap0 : Nat} {d0 : DataW H} {p0 : List MemPlace} (hsz : (DataW.weightsEach Tryz.prog ts ds).all (· ≤ reachBytes) = true) (ht : ts[j]? = some 33) (hd : ds[j]? = some d0)
    (h0 : DataW.Trod enc Tryz.prog W 0 (fun _ => true) true 33 (.slice a0 len0 cap0) d0 p0) :
    ∃ l : List Ev, Lst encEv 2 W W.heap.size a0 len0 l ∧ (a0 = none → len0 = 0 ∧ cap0 = 0) ∧ len0 ≤ 140737488355328 ∧ ∀ z ∈ l, EBig W z := by
  have hslc : ∃ (l : List Ev) (elems rest : List (DataW H)), Lst encEv 2 W W.heap.size a0 len0 l ∧ (∀ z ∈ l, ∃ d ∈ elems, InE W z d) ∧ (a0 = none → len0 = 0 ∧ cap0 = 0) ∧ len0 ≤ cap0 ∧ cap0 ≤ maxLen ∧ (l = [] ∨ d0 = .slice elems rest) := by
    obtain ⟨fuel, hf⟩ := h0
    exact arg_listD Tryz.underlying33 (by kernel_rfl) (by omega) dec_elem hf
  obtain ⟨l, elems, rest, hL, hin, hnil, hle, hcm, hdat⟩ := hslc
  refine ⟨l, hL, hnil, ?_, fun z hz => ?_⟩
  · rcases hdat with h | h
    · have := hL.1; rw [h] at this; simp at this; omega
    · obtain ⟨fuel, hf⟩ := h0
      have hl := slice_lenE Tryz.underlying33 hf h
      have := sized_slice hsz (j := j) (t := 33) (e := 90) ht (by rw [hd, h]) Tryz.underlying33
      rw [bytes_elm, reach_eqE, hl] at this
      omega
  · obtain ⟨d, hd', hi⟩ := hin z hz
    rcases hdat with h | h
    · rw [h] at hz; cases hz
    · exact bigE_of hsz ht (by rw [hd, h]) hd' hi
end Go.Proofs.YtajaijidecomdaaGreatDoor
namespace Go.Proofs.YtajaijidecomdaaGreatDoor
open Go.RowKit Go.Lib Go.ChangeShapes Go.WideShapes

section
variable {H : Type} {en : TypeId × Value → H} {w : World} {base : Nat} {spare : Nat → Bool} {held : Bool}
/-- A text that came in. -/
theorem dec_text (k : Nat) (cs : List Value) (y : DataW H × List MemPlace) (_ : cs.length = 1) (h : DataW.trod en Tryz.prog w base spare held k 9 cs = some y) : ∃ x : ByteArray, cs = encTx x ∧ x.size ≤ maxLen := by
  obtain ⟨s, e, _, z⟩ := DataW.trod_string Tryz.underlying9 h
  exact ⟨s, e, z⟩
end
end Go.Proofs.YtajaijidecomdaaGreatDoor
namespace Go.Proofs.YtajaijidecomdaaGreatDoor
open Go.RowKit Go.Lib Go.ChangeShapes Go.WideShapes

section
variable {H : Type} {en : TypeId × Value → H} {w : World} {base : Nat} {spare : Nat → Bool} {held : Bool}
set_option maxRecDepth 100000 in
theorem slice_of {c0 : Value} {k : Nat} {x : DataW H × List MemPlace} (g0 : DataW.trod en Tryz.prog w base spare held k 78 [c0] = some x) : ∃ A ln cp, c0 = .slice A ln cp := by
  rcases Go.Deep.open_slice Tryz.underlying78 g0 with ⟨hcs, _⟩ | ⟨a, len, cap, m', k', D, Pl, hcs, _, _, _, _, hx, _⟩
  · exact ⟨none, 0, 0, by simpa using hcs⟩
  · exact ⟨some a, len, cap, by simpa using hcs⟩
set_option maxRecDepth 100000 in
/-- A matching that came in. -/
theorem dec_mat (k : Nat) (cs : List Value) (y : DataW H × List MemPlace) (hl : cs.length = 4) (h : DataW.trod en Tryz.prog w base spare held k 80 cs = some y) : ∃ m : Mv, cs = cellsM m ∧ MRaw w m ∧ 0 ≤ m.card ∧ m.card < 256 := by
  obtain ⟨xs, n, _, hy, _, hxl, hf⟩ := DataW.trod_struct Tryz.underlying80 h
  have hxl' : xs.length = 4 := hxl
  match cs, hl, xs, hxl' with
  | [c0, c1, c2, c3], _, [y0, y1, y2, y3], _ =>
    have f0 := hf 0 _ rfl
    have f1 := hf 1 _ rfl
    have f2 := hf 2 _ rfl
    have f3 := hf 3 _ rfl
    have g0 : DataW.trod en Tryz.prog w base spare held n 5 [c0] = some y0 := f0
    have g1 : DataW.trod en Tryz.prog w base spare held n 4 [c1] = some y1 := f1
    have g2 : DataW.trod en Tryz.prog w base spare held n 78 [c2] = some y2 := f2
    have g3 : DataW.trod en Tryz.prog w base spare held n 78 [c3] = some y3 := f3
    obtain ⟨q0, e0, _, w0⟩ := DataW.trod_int Tryz.underlying5 g0
    obtain rfl : c0 = .int .u8 q0 := by simpa using e0
    obtain ⟨z0, z1⟩ := u8_of w0
    obtain ⟨b, e1, _⟩ := DataW.trod_bool Tryz.underlying4 g1
    obtain rfl : c1 = .bool b := by simpa using e1
    obtain ⟨A, ln, cp, rfl⟩ := slice_of g2
    obtain ⟨A', ln', cp', rfl⟩ := slice_of g3
    obtain ⟨l, h1, h2, h3, h4, h5⟩ := arg_list (enc := encTx) (size := 1) Tryz.underlying78 (by kernel_rfl) (by omega) dec_text g2
    obtain ⟨l', k1, k2, k3, k4, k5⟩ := arg_list (enc := encTx) (size := 1) Tryz.underlying78 (by kernel_rfl) (by omega) dec_text g3
    exact ⟨⟨q0, b, A, ln, cp, l, A', ln', cp', l'⟩, rfl, ⟨h1, h3, h2, k1, k3, k2⟩, z0, z1⟩
end
theorem arg_mat {H : Type} {enc : TypeId × Value → H} {W : World} {cs : Array Value} {d0 : DataW H} {p0 : List MemPlace} (hcs : cs.size = Tryz.prog.cellsOf 80) (h0 : DataW.Trod enc Tryz.prog W 0 (fun _ => true) true 80 (.agg cs) d0 p0) :
    ∃ m : Mv, Value.agg cs = valM m ∧ MRaw W m ∧ 0 ≤ m.card ∧ m.card < 256 := by
  obtain ⟨fuel, hf⟩ := h0
  have hlen : cs.toList.length = 4 := by rw [Array.length_toList, hcs]; kernel_rfl
  obtain ⟨m, e, h⟩ := dec_mat fuel cs.toList _ hlen hf
  refine ⟨m, ?_, h⟩
  have h2 : cs = (cellsM m).toArray := by rw [← e]
  rw [h2]
  rfl
end Go.Proofs.YtajaijidecomdaaGreatDoor
namespace Go.Proofs.YtajaijidecomdaaGreatDoor

/-- What the row lists. -/
def listed : List (String × DataW Unit) := [("math/bits.deBruijn64tab", Rows.laid_math_bits_deBruijn64tab), ("unicode/utf8.acceptRanges", Rows.laid_unicode_utf8_acceptRanges), ("unicode/utf8.first", Rows.laid_unicode_utf8_first)]
theorem listed_filter : (listed.filter fun x => x.2.handleName?.isNone) = listed := by kernel_rfl
theorem plain_filter : (listed.filter fun x => ["math/bits.deBruijn64tab", "unicode/utf8.acceptRanges", "unicode/utf8.first"].contains x.1) = listed := by kernel_rfl
theorem plain_rest : (listed.filter fun x => !["math/bits.deBruijn64tab", "unicode/utf8.acceptRanges", "unicode/utf8.first"].contains x.1) = [] := by kernel_rfl
theorem laid_met (os : Os) (args : Array Value) : laidMetH Tryz.prog listed (((World.holding Tryz.prog os ⟨#[], #[], []⟩).layVars Tryz.prog listed).forCall (fun _ _ => 0) ⟨#[], args, []⟩).memory := by
  refine laidMetH_of_parts ?_ (by kernel_rfl)
  rw [listed_filter]
  refine laidMet_layVars (w0 := World.holding Tryz.prog os ⟨#[], #[], []⟩) ["math/bits.deBruijn64tab", "unicode/utf8.acceptRanges", "unicode/utf8.first"] [] ?_ ?_ ?_ ?_
  · rw [plain_filter]; simp [World.memory, World.forCall, Input.heap]
  · rw [plain_filter]; kernel_rfl
  · rw [plain_filter]; kernel_rfl
  · rw [plain_rest]; exact LaidIn.none
theorem laid_shaped (os : Os) (args : Array Value) : (((World.holding Tryz.prog os ⟨#[], #[], []⟩).layVars Tryz.prog listed).forCall (fun _ _ => 0) ⟨#[], args, []⟩).Shaped Tryz.prog :=
  World.shaped_of_ZipB (by kernel_rfl) (by kernel_rfl)
theorem laid_os (os : Os) : ((World.holding Tryz.prog os ⟨#[], #[], []⟩).layVars Tryz.prog listed).os = os := World.layVars_os _ _ _
end Go.Proofs.YtajaijidecomdaaGreatDoor
