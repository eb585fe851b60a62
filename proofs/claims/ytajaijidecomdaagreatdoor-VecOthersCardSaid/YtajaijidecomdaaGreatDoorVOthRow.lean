/- VecOthers of chapter 25: Key, Negative and Sorted come to what the document says, of any elements. No condition. -/
import Derived.Test.YtajaijidecomdaaGreatDoorRows
import Derived.Test.YtajaijidecomdaaGreatDoorCards
import Derived.Test.YtajaijidecomdaaGreatDoorTie
import Derived.Test.YtajaijidecomdaaGreatDoorG51
import Derived.Test.YtajaijidecomdaaGreatDoorG50
import Derived.WalkKit
import Derived.ProofKit
import Derived.OpenShut
import Derived.ShutString
import Derived.ChangeOld
import Derived.Below
import Derived.LaidMore
import Derived.SevenTiedAt
import Derived.Stop.Joined
namespace Go.Proofs.YtajaijidecomdaaGreatDoor.vecOthers
open Go.ChangeShapes Go.WideShapes Go.ChangeAt Go.RowKit
set_option linter.unusedVariables false

theorem own : ownKnob Tryz.prog.godebug = none := by kernel_rfl
theorem laidOut : laidOutB Tryz.prog = true := by kernel_rfl

/-! ### THE ROW's STEP: WRITTEN OUT: LEAVE IT -/
set_option maxRecDepth 100000 in
theorem lifted (os : Os) (started : os.Started) (H : Type) (enc : TypeId × Value → H) :
    ReturnsInHanded {} Tryz.checked os 9 .any (fun w args => (Rows.vecOthersSpec.pre enc Tryz.prog Tryz.f9 Rows.vecOthersRow.domain false w args ∧ laidMetH Tryz.prog listed w) ∧ sizedMet enc Tryz.prog Tryz.f9 (OpenSpec.ofChange Rows.vecOthersSpec) false w args)
      (Rows.vecOthersSpec.post enc Tryz.prog Tryz.f9 false true false false) := by
  refine returnsInHanded_of_change_and (C := Tryz.checked) (X := fun w _ => laidMetH Tryz.prog listed w) (fun _ _ _ hh h => h.of_heap hh) own started (by kernel_rfl) Tryz.func9
    (ChangeSpec.witness_shaped (enc := enc) (C := Tryz.checked) (os := os) (X := fun w _ => laidMetH Tryz.prog listed w) false ((World.holding Tryz.prog os ⟨#[], #[], []⟩).layVars Tryz.prog listed) #[.agg #[.int .u8 0, .bool false, .slice none 0 0, .slice none 0 0], .slice none 0 0] 8 (laid_os _) (laid_shaped _ _) (by kernel_rfl) (by kernel_rfl) (by kernel_rfl) (laid_met _ _)) ?_
  intro W base args ds gs before hval0 hW hcnd hsz0 hLaid _
  have hsz : (DataW.weightsEach Tryz.prog (Tryz.f9.params.toList ++ Rows.vecOthersSpec.plain.varTypes Tryz.prog) (ds ++ gs)).all (· ≤ reachBytes) = true := hsz0
  clear hsz0
  have hval : ∀ (j : Nat) t v, Tryz.f9.params[j]? = some t → args[j]? = some v → Value.okWide Tryz.prog W .any base t v := hval0
  have hW' := hW
  obtain ⟨p, q, hA0, hV, rfl, hfz, hnd⟩ := hW
  have hA : DataW.TrodAll enc Tryz.prog W 0 (fun _ => true) true Tryz.f9.params.toList args.toList ds p := hA0
  rw [Tryz.params9] at hA hval hsz
  obtain ⟨v0, vs0, d0, ds0, p0, q0, hargs, rfl, rfl, h0, r0⟩ := trodAll_cons hA
  obtain ⟨v1, vs1, d1, ds1, p1, q1, rfl, rfl, rfl, h1, r1⟩ := trodAll_cons r0
  obtain ⟨rfl, rfl, rfl⟩ := trodAll_nil r1
  obtain rfl : args = #[v0, v1] := by cases args; simp_all
  obtain ⟨rfl, rfl⟩ := trodVars_none hV
  obtain ⟨cs0, rfl, hcs0⟩ := okWide_struct Tryz.underlying80 (hval 0 80 v0 rfl rfl)
  obtain ⟨a1, len1, cap1, rfl⟩ := okWide_slice Tryz.underlying33 (hval 1 33 v1 rfl rfl)
  have k0 := h0
  have k1 := h1
  have lt0 : ∀ x ∈ p0, x.block < W.heap.size := by obtain ⟨m, hm⟩ := k0; exact DataW.trod_lt m _ _ _ hm
  have lt1 : ∀ x ∈ p1, x.block < W.heap.size := by obtain ⟨m, hm⟩ := k1; exact DataW.trod_lt m _ _ _ hm
  obtain ⟨m0, hme0, hM0, mlo0, mhi0⟩ := arg_mat hcs0 h0
  obtain ⟨l1, hL1, hnil1, hb1, hT1⟩ := arg_elm hsz (j := 1) rfl rfl h1
  clear hA0 hval0
  have hwalk := vecOthers_any m0 a1 len1 cap1 l1 W hM0 hL1 hnil1 hb1 hT1
  rw [← hme0] at hwalk
  refine (hwalk).mono fun e W' ⟨he, bel⟩ => ?_
  subst he
  exact ⟨_, rfl, _, _, _, [], _, [], hW', trodAll_mk1 (shut_bool Tryz.underlying4 _), (trodAll_cons_mk (Below.trod laidOut (by kernel_rfl) (of_decide_eq_true (by kernel_rfl)) k0 bel lt0) (trodAll_cons_mk (Below.trod laidOut (by kernel_rfl) (of_decide_eq_true (by kernel_rfl)) k1 bel lt1) trodAll_mk0)), rfl, bel.frame _, fun h => by cases h⟩

theorem f1 : (Rows.vecOthersRow.inPlace == Tryz.prog.inPlace 9) = true := by kernel_rfl
theorem f2 : (Rows.vecOthersRow.unfollowed == Tryz.prog.unfollowed 9) = true := by kernel_rfl
theorem f3 : (Rows.vecOthersRow.recurses == Tryz.prog.recurses 9) = true := by kernel_rfl
theorem f4 : (Rows.vecOthersRow.named == Tryz.prog.varsNamed 9) = true := by kernel_rfl
theorem f5 : mapsRowed Tryz.prog = true := by kernel_rfl
theorem f6 : (Rows.vecOthersRow.lifted == Tryz.prog.liftsFinal) = true := by kernel_rfl
theorem closed : joinedFacts Tryz.prog 9 Tryz.f9 Rows.vecOthersSpec Rows.vecOthersRow = true := by
  unfold joinedFacts
  rw [f1, f2, f3, f4, f5, f6]
  kernel_rfl
theorem inst : Tryz.f9.isInstance Tryz.prog Rows.vecOthersRow.origin Rows.vecOthersRow.targs := (of_decide_eq_true (by kernel_rfl))
theorem wrap : Tryz.f9.isWrapper Tryz.prog Rows.vecOthersRow.wrapper Rows.vecOthersRow.mainSum := (by unfold Func.isWrapper; first | (rw [if_pos (by decide +kernel)]; kernel_rfl) | (rw [if_neg (by decide +kernel)]; exact ⟨rfl, rfl⟩))
theorem over : Rows.VecOthersSaid :=
  OpenClaim.holds_of_wide 9 Tryz.f9 rfl rfl rfl rfl rfl rfl rfl ⟨rfl, rfl, rfl, rfl, rfl⟩ rfl rfl rfl rfl rfl (by kernel_rfl) Tryz.func9 closed inst wrap
    (fun os started H enc _ => lifted os started H enc)

theorem p1 : Rows.vecOthersRow.wfByText (OpenSpec.ofChange Rows.vecOthersSpec) = true := by kernel_rfl
theorem p2 : Tryz.pinned.checked.prog.mainIs = some (true, "870f2a71f65e6923abf16c26784592e6c1f01f491fef11aa812794cd18fc66dc".toList) := by kernel_rfl
theorem p3 : Tryz.prog.funcNamed "barograph/barographlaw25.VecOthers" = some 9 := by kernel_rfl
theorem p4 : false = Tryz.pinned.checked.prog.looks [] := by kernel_rfl
theorem p5 : ([80, 33].all fun u => !Tryz.prog.wantsStandIn u) = true := by kernel_rfl
theorem p6 : false = Rows.vecOthersRow.goesBy Tryz.pinned.checked.prog := by kernel_rfl
/-- ████ THE STATEMENT ████ -/
theorem proved : Rows.VecOthersCardSaid :=
  Claim7.holds_tied_plain_at .later [] [.data, .data, .pinned] true (true, "870f2a71f65e6923abf16c26784592e6c1f01f491fef11aa812794cd18fc66dc") false over (fun _ h => by cases h) p1 (fun _ h => by cases h) vecOthers_row_tie rfl ⟨rfl, rfl⟩ p2 rfl
    (fun f fn hf hfn => by
      obtain rfl : f = 9 := Option.some.inj (p3.symm.trans hf) |>.symm
      obtain rfl : fn = Tryz.f9 := (Option.some.inj (Tryz.func9.symm.trans hfn)).symm
      exact ⟨p4, fun j t ht => by
        rw [Tryz.params9] at ht
        have hm : t ∈ [80, 33] := by simpa using Array.mem_of_getElem? ht
        exact (show Tryz.prog.wantsStandIn t = false by simpa using List.all_eq_true.1 p5 t hm)⟩)
    p6
end Go.Proofs.YtajaijidecomdaaGreatDoor.vecOthers
