/-
  MergeSamples of chapter 17: samples of any lists are put together as the chapter says; the lists stay. No condition.
-/
import Derived.Test.YtglafbfbgjihbaaRows
import Derived.Test.YtglafbfbgjihbaaMergeSam
import Derived.Test.YtglafbfbgjihbaaArgs2
import Derived.WalkKit
import Derived.ProofKit
import Derived.OpenShut
import Derived.ShutString
import Derived.ChangeOld
import Derived.Below
namespace Go.Proofs.Ytglafbfbgjihbaa.mergeSamples
open Go.ChangeShapes Go.WideShapes Go.ChangeAt Go.RowKit
set_option linter.unusedVariables false

theorem own : ownKnob Try.prog.godebug = none := by kernel_rfl
theorem laidOut : laidOutB Try.prog = true := by kernel_rfl

section
variable {H : Type} {en : TypeId × Value → H} {w : World} {base : Nat} {spare : Nat → Bool} {held : Bool}
set_option maxRecDepth 100000 in
/-- A sample that came in. -/
theorem dec_sam (k : Nat) (cs : List Value) (y : DataW H × List MemPlace) (hl : cs.length = 2) (h : DataW.trod en Try.prog w base spare held k 129 cs = some y) : ∃ m : Int × Int, cs = encS m ∧ True := by
  obtain ⟨xs, n, _, _, _, hxl, hf⟩ := DataW.trod_struct Try.underlying129 h
  have hxl' : xs.length = 2 := hxl
  match cs, hl with
  | [c0, c1], _ =>
    obtain ⟨q0, rfl, _⟩ := field_int (i := 0) (o := 0) Try.underlying2 (by kernel_rfl) rfl (by omega) (hf 0 _ rfl)
    obtain ⟨q1, rfl, _⟩ := field_int (i := 1) (o := 1) Try.underlying127 (by kernel_rfl) rfl (by omega) (hf 1 _ rfl)
    exact ⟨(q0, q1), rfl, trivial⟩
end
theorem bytes_sam : Try.prog.bytesOf 129 = 16 := by kernel_rfl
theorem bytes_sams : Try.prog.bytesOf 73 = 24 := by kernel_rfl
theorem reach_eq : reachBytes = 140737488351232 := rfl
/-- What was opened, as the lists that they are. -/
theorem lls_of {w : World} {A : Option Addr} {n : Nat} {l : List (Option Addr × Nat × Nat × List (Int × Int))} (h : Lst (fun z : Option Addr × Nat × Nat × List (Int × Int) => [Value.slice z.1 z.2.1 z.2.2.1]) 1 w w.heap.size A n l)
    (hq : ∀ z ∈ l, Lst encS 2 w w.heap.size z.1 z.2.1 z.2.2.2 ∧ (z.1 = none → z.2.1 = 0 ∧ z.2.2.1 = 0)) : Lls w w.heap.size A n (l.map fun z => z.2.2.2) := by
  refine ⟨by rw [List.length_map]; exact h.1, fun h0 => ?_⟩
  obtain ⟨b, off, e, hb, hc⟩ := h.2 h0
  refine ⟨b, off, e, hb, fun k xs hx => ?_⟩
  rw [List.getElem?_map] at hx
  cases hz : l[k]? with
  | none => rw [hz] at hx; cases hx
  | some z =>
    rw [hz] at hx
    obtain rfl : z.2.2.2 = xs := by simpa using hx
    obtain ⟨h1, h2⟩ := hq z (List.mem_of_getElem? hz)
    have hlen := h1.1
    refine ⟨z.1, z.2.2.1, ?_, by rw [hlen]; exact h1, fun q => by rw [hlen]; exact h2 q⟩
    have := hc k z hz 0 _ rfl
    rw [Nat.mul_one, Nat.add_zero] at this
    rw [this, hlen]

/-! ### THE ROW's STEP: WRITTEN OUT: LEAVE IT -/
set_option maxRecDepth 100000 in
theorem lifted (os : Os) (started : os.Started) (H : Type) (enc : TypeId × Value → H) :
    ReturnsInHanded {} Try.checked os 5 .any (Rows.mergeSamplesSpec.pre6 enc Try.prog Try.f5 Rows.mergeSamplesRow.domain false) (Rows.mergeSamplesSpec.post enc Try.prog Try.f5 false true false false) := by
  refine returnsInHanded_of_change_sized (C := Try.checked) own started (by kernel_rfl) Try.func5
    (ChangeSpec.witness6 (enc := enc) (C := Try.checked) false ⟨#[], #[.slice none 0 0], []⟩ 8 (by kernel_rfl) (by kernel_rfl) (by kernel_rfl) (by kernel_rfl)) ?_
  intro W base args ds gs before hval0 hW hcnd hsz0 _
  have hsz : (DataW.weightsEach Try.prog (Try.f5.params.toList ++ Rows.mergeSamplesSpec.plain.varTypes Try.prog) (ds ++ gs)).all (· ≤ reachBytes) = true := hsz0
  clear hsz0
  have hval : ∀ (j : Nat) t v, Try.f5.params[j]? = some t → args[j]? = some v → Value.okWide Try.prog W .any base t v := hval0
  have hW' := hW
  obtain ⟨p, q, hA0, hV, rfl, hfz, hnd⟩ := hW
  have hA : DataW.TrodAll enc Try.prog W 0 (fun _ => true) true Try.f5.params.toList args.toList ds p := hA0
  rw [Try.params5] at hA hval hsz
  obtain ⟨v0, vs0, d0, ds0, p0, q0, hargs, rfl, rfl, h0, r0⟩ := trodAll_cons hA
  obtain ⟨rfl, rfl, rfl⟩ := trodAll_nil r0
  obtain rfl : args = #[v0] := by cases args; simp_all
  obtain ⟨rfl, rfl⟩ := trodVars_none hV
  obtain ⟨a0, len0, cap0, rfl⟩ := okWide_slice Try.underlying41 (hval 0 41 v0 rfl rfl)
  have k0 := h0
  have lt0 : ∀ x ∈ p0, x.block < W.heap.size := by obtain ⟨m, hm⟩ := k0; exact DataW.trod_lt m _ _ _ hm
  have hslc : ∃ (l : List (Option Addr × Nat × Nat × List (Int × Int))) (elems rest : List (DataW H)), Lst (fun z : Option Addr × Nat × Nat × List (Int × Int) => [Value.slice z.1 z.2.1 z.2.2.1]) 1 W W.heap.size a0 len0 l ∧ (∀ z ∈ l, ∃ d ∈ elems, In1 W encS 2 (fun _ => True) z d) ∧ (a0 = none → len0 = 0 ∧ cap0 = 0) ∧ len0 ≤ cap0 ∧ cap0 ≤ maxLen ∧ (l = [] ∨ d0 = .slice elems rest) := by
    obtain ⟨fuel, hf⟩ := h0
    exact arg_listD Try.underlying41 (by kernel_rfl) (by omega) (dec_in Try.underlying73 (by kernel_rfl) (by omega) dec_sam) hf
  obtain ⟨l, elems, rest, hL, hin, hnil, hle, hcm, hdat⟩ := hslc
  have hls := lls_of hL (fun z hz => by obtain ⟨d, _, hd⟩ := hin z hz; exact ⟨hd.lst, hd.nil⟩)
  have hb1 : ∀ xs ∈ l.map (fun z => z.2.2.2), xs.length ≤ 140737488355328 := by
    intro xs hxs
    obtain ⟨z, hz, rfl⟩ := List.mem_map.1 hxs
    obtain ⟨d, hd, hi⟩ := hin z hz
    rcases hi.data with h | ⟨e', sp', rfl, hlen⟩
    · rw [h]; simp
    · rcases hdat with h | h
      · rw [h] at hz; cases hz
      · have := reach_inner hsz (j := 0) (t := 41) (e := 73) (q := 129) rfl (by rw [h]; rfl) Try.underlying41 Try.underlying73 hd
        rw [bytes_sam, reach_eq, hlen] at this
        omega
  have hb2 : len0 ≤ 140737488355328 := by
    rcases hdat with h | h
    · have := hL.1; rw [h] at this; simp at this; omega
    · obtain ⟨fuel, hf⟩ := h0
      rcases Go.Deep.open_slice Try.underlying41 hf with ⟨hcs, _⟩ | ⟨a, len, cap, m, k, D, Pl, hcs, _, _, _, _, hx, _⟩
      · obtain ⟨_, rfl, _⟩ : a0 = none ∧ len0 = 0 ∧ cap0 = 0 := by simpa [Value.cells] using hcs
        omega
      · obtain ⟨_, rfl, _⟩ : a0 = some a ∧ len0 = len ∧ cap0 = cap := by simpa [Value.cells] using hcs
        have he : d0 = .slice ((List.range len0).map D) ((List.range (m - len0)).map fun j => D (len0 + j)) := congrArg Prod.fst hx
        have := sized_slice hsz (j := 0) (t := 41) (e := 73) rfl (by rw [he]; rfl) Try.underlying41
        rw [bytes_sams, reach_eq, List.length_map, List.length_range] at this
        omega
  clear hA0 hval0
  refine (mergeSam_any a0 len0 cap0 _ W hls hb1 hb2).mono fun e W' ⟨he, bel⟩ => ?_
  subst he
  exact ⟨_, rfl, _, _, _, [], _, [], hW', trodAll_mk1 (shut_bool Try.underlying4 _), (trodAll_cons_mk (Below.trod laidOut (by kernel_rfl) (of_decide_eq_true (by kernel_rfl)) k0 bel lt0) trodAll_mk0), rfl, bel.frame _, fun h => by cases h⟩

theorem over : Rows.mergeSamplesRow.holds Try.pinned (OpenSpec.ofChange Rows.mergeSamplesSpec) :=
  OpenClaim.holds_of_wide 5 Try.f5 rfl rfl rfl rfl rfl rfl rfl ⟨rfl, rfl, rfl, rfl, rfl⟩ rfl rfl rfl rfl rfl (by kernel_rfl) Try.func5 (by kernel_rfl)
    (of_decide_eq_true (by kernel_rfl)) (by unfold Func.isWrapper; first | (rw [if_pos (by decide +kernel)]; kernel_rfl) | (rw [if_neg (by decide +kernel)]; exact ⟨rfl, rfl⟩))
    (fun os started H enc _ => lifted os started H enc)

/-- ████ THE STATEMENT ████ -/
theorem proved : Rows.MergeSamplesSaid := over
end Go.Proofs.Ytglafbfbgjihbaa.mergeSamples
