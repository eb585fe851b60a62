/-
  LabelsTurns of chapter 07: Get, With, Keep and Without take of any labels what the chapter says; what is handed in stays, what comes out is its owner's. No condition.
-/
import Derived.Test.YtchggapclmdpaaaGreatDoorRows
import Derived.Test.YtchggapclmdpaaaGreatDoorCards
import Derived.Test.YtchggapclmdpaaaGreatDoorTie
import Derived.Test.YtchggapclmdpaaaGreatDoorTurns7
import Derived.Test.YtchggapclmdpaaaGreatDoorGg
import Derived.Test.YtchggapclmdpaaaGreatDoorArgTx
import Derived.Test.YtchggapclmdpaaaGreatDoorLaid7
import Derived.WalkKit
import Derived.ProofKit
import Derived.OpenShut
import Derived.ShutString
import Derived.ChangeOld
import Derived.Below
import Derived.LaidMore
import Derived.SevenTiedAt
import Derived.Stop.Joined
namespace Go.Proofs.YtchggapclmdpaaaGreatDoor.labelsTurns
open Go.ChangeShapes Go.WideShapes Go.ChangeAt Go.RowKit
set_option linter.unusedVariables false

theorem own : ownKnob Tryz.prog.godebug = none := by kernel_rfl
theorem laidOut : laidOutB Tryz.prog = true := by kernel_rfl

/-! ### THE ROW's STEP: WRITTEN OUT: LEAVE IT -/
set_option maxRecDepth 100000 in
theorem lifted (os : Os) (started : os.Started) (H : Type) (enc : TypeId × Value → H) :
    ReturnsInHanded {} Tryz.checked os 8 .any (fun w args => (Rows.labelsTurnsSpec.pre enc Tryz.prog Tryz.f8 Rows.labelsTurnsRow.domain false w args ∧ laidMetH Tryz.prog listed w) ∧ sizedMet enc Tryz.prog Tryz.f8 (OpenSpec.ofChange Rows.labelsTurnsSpec) false w args)
      (Rows.labelsTurnsSpec.post enc Tryz.prog Tryz.f8 false true false false) := by
  refine returnsInHanded_of_change_and (C := Tryz.checked) (X := fun w _ => laidMetH Tryz.prog listed w) (fun _ _ _ hh h => h.of_heap hh) own started (by kernel_rfl) Tryz.func8
    (ChangeSpec.witness_shaped (enc := enc) (C := Tryz.checked) (os := os) (X := fun w _ => laidMetH Tryz.prog listed w) false ((setHandle Tryz.prog 5 326 178 (World.holding Tryz.prog os ⟨#[], #[], []⟩)).layVars Tryz.prog listedPlain) #[.slice none 0 0, .string ByteArray.empty, .string ByteArray.empty, .slice none 0 0] 8 (laid_os _) (laid_shaped _ _) (by kernel_rfl) (by kernel_rfl) (by kernel_rfl) (laid_met _ _)) ?_
  intro W base args ds gs before hval0 hW hcnd _ _ _
  have hval : ∀ (j : Nat) t v, Tryz.f8.params[j]? = some t → args[j]? = some v → Value.okWide Tryz.prog W .any base t v := hval0
  have hW' := hW
  obtain ⟨p, q, hA0, hV, rfl, hfz, hnd⟩ := hW
  have hA : DataW.TrodAll enc Tryz.prog W 0 (fun _ => true) true Tryz.f8.params.toList args.toList ds p := hA0
  rw [Tryz.params8] at hA hval
  obtain ⟨v0, vs0, d0, ds0, p0, q0, hargs, rfl, rfl, h0, r0⟩ := trodAll_cons hA
  obtain ⟨v1, vs1, d1, ds1, p1, q1, rfl, rfl, rfl, h1, r1⟩ := trodAll_cons r0
  obtain ⟨v2, vs2, d2, ds2, p2, q2, rfl, rfl, rfl, h2, r2⟩ := trodAll_cons r1
  obtain ⟨v3, vs3, d3, ds3, p3, q3, rfl, rfl, rfl, h3, r3⟩ := trodAll_cons r2
  obtain ⟨rfl, rfl, rfl⟩ := trodAll_nil r3
  obtain rfl : args = #[v0, v1, v2, v3] := by cases args; simp_all
  obtain ⟨rfl, rfl⟩ := trodVars_none hV
  obtain ⟨a0, len0, cap0, rfl⟩ := okWide_slice Tryz.underlying22 (hval 0 22 v0 rfl rfl)
  obtain ⟨s1, rfl⟩ := okWide_string Tryz.underlying9 (hval 1 9 v1 rfl rfl)
  obtain ⟨s2, rfl⟩ := okWide_string Tryz.underlying9 (hval 2 9 v2 rfl rfl)
  obtain ⟨a3, len3, cap3, rfl⟩ := okWide_slice Tryz.underlying84 (hval 3 84 v3 rfl rfl)
  have k0 := h0
  have k1 := h1
  have k2 := h2
  have k3 := h3
  have lt0 : ∀ x ∈ p0, x.block < W.heap.size := by obtain ⟨m, hm⟩ := k0; exact DataW.trod_lt m _ _ _ hm
  have lt1 : ∀ x ∈ p1, x.block < W.heap.size := by obtain ⟨m, hm⟩ := k1; exact DataW.trod_lt m _ _ _ hm
  have lt2 : ∀ x ∈ p2, x.block < W.heap.size := by obtain ⟨m, hm⟩ := k2; exact DataW.trod_lt m _ _ _ hm
  have lt3 : ∀ x ∈ p3, x.block < W.heap.size := by obtain ⟨m, hm⟩ := k3; exact DataW.trod_lt m _ _ _ hm
  obtain ⟨l0, hL0, hq0, hnil0, hle0, hcm0⟩ : ∃ l : List Lb, Lst Lb.cells 2 W W.heap.size a0 len0 l ∧ (∀ x ∈ l, x.nm.size ≤ maxLen ∧ x.vl.size ≤ maxLen) ∧ (a0 = none → len0 = 0 ∧ cap0 = 0) ∧ len0 ≤ cap0 ∧ cap0 ≤ maxLen := by
    obtain ⟨fuel, hf⟩ := h0
    exact arg_list Tryz.underlying22 (by kernel_rfl) (by omega) dec_label hf
  have z1 : s1.size ≤ maxLen := by
    obtain ⟨fuel, hf⟩ := h1
    obtain ⟨s, e1, _, e2⟩ := DataW.trod_string Tryz.underlying9 hf
    have e3 : [Value.string s1] = [Value.string s] := e1
    obtain rfl : s1 = s := by simpa using e3
    exact e2
  have z2 : s2.size ≤ maxLen := by
    obtain ⟨fuel, hf⟩ := h2
    obtain ⟨s, e1, _, e2⟩ := DataW.trod_string Tryz.underlying9 hf
    have e3 : [Value.string s2] = [Value.string s] := e1
    obtain rfl : s2 = s := by simpa using e3
    exact e2
  obtain ⟨l3, hL3, hq3, hnil3, hle3, hcm3⟩ : ∃ l : List ByteArray, Lst encTx 1 W W.heap.size a3 len3 l ∧ (∀ x ∈ l, x.size ≤ maxLen) ∧ (a3 = none → len3 = 0 ∧ cap3 = 0) ∧ len3 ≤ cap3 ∧ cap3 ≤ maxLen := by
    obtain ⟨fuel, hf⟩ := h3
    exact arg_list Tryz.underlying84 (by kernel_rfl) (by omega) dec_text hf
  clear hA0 hval0
  refine (turns_any a0 a3 len0 cap0 len3 cap3 l0 s1 s2 l3 W hL0 hnil0 hL3 hnil3 (by unfold maxLen at *; omega) (fun x hx => (hq0 x hx).1) hq3).mono fun e W' ⟨he, bel⟩ => ?_
  subst he
  exact ⟨_, rfl, _, _, _, [], _, [], hW', trodAll_mk1 (shut_bool Tryz.underlying4 _), (trodAll_cons_mk (Below.trod laidOut (by kernel_rfl) (of_decide_eq_true (by kernel_rfl)) k0 bel lt0) (trodAll_cons_mk (Below.trod laidOut (by kernel_rfl) (of_decide_eq_true (by kernel_rfl)) k1 bel lt1) (trodAll_cons_mk (Below.trod laidOut (by kernel_rfl) (of_decide_eq_true (by kernel_rfl)) k2 bel lt2) (trodAll_cons_mk (Below.trod laidOut (by kernel_rfl) (of_decide_eq_true (by kernel_rfl)) k3 bel lt3) trodAll_mk0)))), rfl, bel.frame _, fun h => by cases h⟩

theorem over : Rows.LabelsTurnsSaid :=
  OpenClaim.holds_of_wide 8 Tryz.f8 rfl rfl rfl rfl rfl rfl rfl ⟨rfl, rfl, rfl, rfl, rfl⟩ rfl rfl rfl rfl rfl (by kernel_rfl) Tryz.func8 (by kernel_rfl)
    (of_decide_eq_true (by kernel_rfl)) (by unfold Func.isWrapper; first | (rw [if_pos (by decide +kernel)]; kernel_rfl) | (rw [if_neg (by decide +kernel)]; exact ⟨rfl, rfl⟩))
    (fun os started H enc _ => lifted os started H enc)

/-- ████ THE STATEMENT ████ -/
theorem proved : Rows.LabelsTurnsCardSaid :=
  Claim7.holds_tied_plain_at .later [] [.data, .handle, .sentinel, .sentinel, .pinned] true (true, "01073a03e6cda9e79faccb1c1524215d36dacb2fdd3889b8c2ccffd8f7565bbb") true over (fun _ h => by cases h) (by kernel_rfl) (fun _ h => by cases h) labelsTurns_row_tie rfl ⟨rfl, rfl⟩ (by kernel_rfl) rfl
    (fun f fn hf hfn => by
      obtain rfl : f = 8 := Option.some.inj ((show Tryz.prog.funcNamed "barograph/barographlaw07.LabelsTurns" = some 8 by kernel_rfl).symm.trans hf) |>.symm
      obtain rfl : fn = Tryz.f8 := (Option.some.inj (Tryz.func8.symm.trans hfn)).symm
      exact ⟨by kernel_rfl, fun j t ht => by
        rw [Tryz.params8] at ht
        have hm : t ∈ [22, 9, 9, 84] := by simpa using Array.mem_of_getElem? ht
        have hall : ([22, 9, 9, 84].all fun u => !Tryz.prog.wantsStandIn u) = true := by kernel_rfl
        exact (show Tryz.prog.wantsStandIn t = false by simpa using List.all_eq_true.1 hall t hm)⟩)
    (by kernel_rfl)
end Go.Proofs.YtchggapclmdpaaaGreatDoor.labelsTurns
