/-
  LabelsTexts of chapter 07: Name and Parse say of any text what the chapter says, with the place of what is wrong; Print says any labels so. No condition.
-/
import Derived.Test.YtchggapclmdpaaaGreatDoorRows
import Derived.Test.YtchggapclmdpaaaGreatDoorCards
import Derived.Test.YtchggapclmdpaaaGreatDoorTie
import Derived.Test.YtchggapclmdpaaaGreatDoorTexts7
import Derived.Test.YtchggapclmdpaaaGreatDoorGv
import Derived.Test.YtchggapclmdpaaaGreatDoorLaid7
import Derived.Test.YtchggapclmdpaaaGreatDoorLaid8
import Derived.WalkKit
import Derived.ProofKit
import Derived.OpenShut
import Derived.ShutString
import Derived.ChangeOld
import Derived.Below
import Derived.LaidMore
import Derived.SevenTiedAt
import Derived.Stop.Joined
namespace Go.Proofs.YtchggapclmdpaaaGreatDoor.labelsTexts
open Go.ChangeShapes Go.WideShapes Go.ChangeAt Go.RowKit
set_option linter.unusedVariables false

theorem own : ownKnob Tryz.prog.godebug = none := by kernel_rfl
theorem laidOut : laidOutB Tryz.prog = true := by kernel_rfl

/-! ### THE ROW's STEP: WRITTEN OUT: LEAVE IT -/
set_option maxRecDepth 100000 in
theorem lifted (os : Os) (started : os.Started) (H : Type) (enc : TypeId × Value → H) :
    ReturnsInHanded {} Tryz.checked os 3 .any (fun w args => (Rows.labelsTextsSpec.pre enc Tryz.prog Tryz.f3 Rows.labelsTextsRow.domain false w args ∧ laidMetH Tryz.prog listed w) ∧ sizedMet enc Tryz.prog Tryz.f3 (OpenSpec.ofChange Rows.labelsTextsSpec) false w args)
      (Rows.labelsTextsSpec.post enc Tryz.prog Tryz.f3 false true false false) := by
  refine returnsInHanded_of_change_and (C := Tryz.checked) (X := fun w _ => laidMetH Tryz.prog listed w) (fun _ _ _ hh h => h.of_heap hh) own started (by kernel_rfl) Tryz.func3
    (ChangeSpec.witness_shaped (enc := enc) (C := Tryz.checked) (os := os) (X := fun w _ => laidMetH Tryz.prog listed w) false ((setHandle Tryz.prog 5 326 178 (World.holding Tryz.prog os ⟨#[], #[], []⟩)).layVars Tryz.prog listedPlain) #[.string ByteArray.empty, .slice none 0 0] 8 (laid_os _) (laid_shaped _ _) (by kernel_rfl) (by kernel_rfl) (by kernel_rfl) (laid_met _ _)) ?_
  intro W base args ds gs before hval0 hW hcnd hreach hLaid _
  have hval : ∀ (j : Nat) t v, Tryz.f3.params[j]? = some t → args[j]? = some v → Value.okWide Tryz.prog W .any base t v := hval0
  have hW' := hW
  obtain ⟨p, q, hA0, hV, rfl, hfz, hnd⟩ := hW
  have hA : DataW.TrodAll enc Tryz.prog W 0 (fun _ => true) true Tryz.f3.params.toList args.toList ds p := hA0
  rw [Tryz.params3] at hA hval
  obtain ⟨v0, vs0, d0, ds0, p0, q0, hargs, rfl, rfl, h0, r0⟩ := trodAll_cons hA
  obtain ⟨v1, vs1, d1, ds1, p1, q1, rfl, rfl, rfl, h1, r1⟩ := trodAll_cons r0
  obtain ⟨rfl, rfl, rfl⟩ := trodAll_nil r1
  obtain rfl : args = #[v0, v1] := by cases args; simp_all
  obtain ⟨rfl, rfl⟩ := trodVars_none hV
  obtain ⟨s0, rfl⟩ := okWide_string Tryz.underlying9 (hval 0 9 v0 rfl rfl)
  obtain ⟨a1, len1, cap1, rfl⟩ := okWide_slice Tryz.underlying22 (hval 1 22 v1 rfl rfl)
  have k0 := h0
  have k1 := h1
  have lt0 : ∀ x ∈ p0, x.block < W.heap.size := by obtain ⟨m, hm⟩ := k0; exact DataW.trod_lt m _ _ _ hm
  have lt1 : ∀ x ∈ p1, x.block < W.heap.size := by obtain ⟨m, hm⟩ := k1; exact DataW.trod_lt m _ _ _ hm
  have z0 : s0.size ≤ maxLen := by
    obtain ⟨fuel, hf⟩ := h0
    obtain ⟨s, e1, _, e2⟩ := DataW.trod_string Tryz.underlying9 hf
    have e3 : [Value.string s0] = [Value.string s] := e1
    obtain rfl : s0 = s := by simpa using e3
    exact e2
  obtain ⟨l1, elems1, rest1, hL1, hq1, hnil1, hle1, hcm1, hdat1⟩ : ∃ (l : List Lb) (elems rest : List (DataW H)), Lst Lb.cells 2 W W.heap.size a1 len1 l ∧ (∀ x ∈ l, ∃ d ∈ elems, d = labD x) ∧ (a1 = none → len1 = 0 ∧ cap1 = 0) ∧ len1 ≤ cap1 ∧ cap1 ≤ maxLen ∧ (l = [] ∨ d1 = .slice elems rest) := by
    obtain ⟨fuel, hf⟩ := h1
    exact arg_listD Tryz.underlying22 (by kernel_rfl) (by omega) dec_labelD hf
  have hsz1 : ∀ x ∈ l1, x.nm.size ≤ 140737488351232 ∧ x.vl.size ≤ 140737488351232 := by
    rcases hdat1 with h | h
    · intro x hx; rw [h] at hx; cases hx
    · intro x hx
      obtain ⟨d, hd, rfl⟩ := hq1 x hx
      exact reach_label hreach (j := 1) rfl (by rw [h]; rfl) hd
  clear hA0 hval0
  obtain ⟨ea, eb, hE⟩ := laidE_of hLaid
  refine (texts_any W.heap.size ea eb s0 a1 len1 cap1 l1 W hE z0 hL1 (by unfold maxLen at *; omega) hsz1).mono fun e W' ⟨he, bel⟩ => ?_
  subst he
  exact ⟨_, rfl, _, _, _, [], _, [], hW', trodAll_mk1 (shut_bool Tryz.underlying4 _), (trodAll_cons_mk (Below.trod laidOut (by kernel_rfl) (of_decide_eq_true (by kernel_rfl)) k0 bel lt0) (trodAll_cons_mk (Below.trod laidOut (by kernel_rfl) (of_decide_eq_true (by kernel_rfl)) k1 bel lt1) trodAll_mk0)), rfl, bel.frame _, fun h => by cases h⟩

theorem over : Rows.LabelsTextsSaid :=
  OpenClaim.holds_of_wide 3 Tryz.f3 rfl rfl rfl rfl rfl rfl rfl ⟨rfl, rfl, rfl, rfl, rfl⟩ rfl rfl rfl rfl rfl (by kernel_rfl) Tryz.func3 (by kernel_rfl)
    (of_decide_eq_true (by kernel_rfl)) (by unfold Func.isWrapper; first | (rw [if_pos (by decide +kernel)]; kernel_rfl) | (rw [if_neg (by decide +kernel)]; exact ⟨rfl, rfl⟩))
    (fun os started H enc _ => lifted os started H enc)

/-- ████ THE STATEMENT ████ -/
theorem proved : Rows.LabelsTextsCardSaid :=
  Claim7.holds_tied_plain_at .later [] [.data, .handle, .sentinel, .sentinel, .pinned] true (true, "01073a03e6cda9e79faccb1c1524215d36dacb2fdd3889b8c2ccffd8f7565bbb") true over (fun _ h => by cases h) (by kernel_rfl) (fun _ h => by cases h) labelsTexts_row_tie rfl ⟨rfl, rfl⟩ (by kernel_rfl) rfl
    (fun f fn hf hfn => by
      obtain rfl : f = 3 := Option.some.inj ((show Tryz.prog.funcNamed "barograph/barographlaw07.LabelsTexts" = some 3 by kernel_rfl).symm.trans hf) |>.symm
      obtain rfl : fn = Tryz.f3 := (Option.some.inj (Tryz.func3.symm.trans hfn)).symm
      exact ⟨by kernel_rfl, fun j t ht => by
        rw [Tryz.params3] at ht
        have hm : t ∈ [9, 22] := by simpa using Array.mem_of_getElem? ht
        have hall : ([9, 22].all fun u => !Tryz.prog.wantsStandIn u) = true := by kernel_rfl
        exact (show Tryz.prog.wantsStandIn t = false by simpa using List.all_eq_true.1 hall t hm)⟩)
    (by kernel_rfl)
end Go.Proofs.YtchggapclmdpaaaGreatDoor.labelsTexts
