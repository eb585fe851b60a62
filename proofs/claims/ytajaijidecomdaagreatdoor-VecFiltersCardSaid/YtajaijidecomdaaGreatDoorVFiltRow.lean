/- VecFilters of chapter 25: A vector against a number: each element is held or not as the chapter says. No condition. -/
import Derived.Test.YtajaijidecomdaaGreatDoorRows
import Derived.Test.YtajaijidecomdaaGreatDoorCards
import Derived.Test.YtajaijidecomdaaGreatDoorTie
import Derived.Test.YtajaijidecomdaaGreatDoorVFilt
import Derived.Test.YtajaijidecomdaaGreatDoorG50
import Derived.WalkKit
import Derived.ProofKit
import Derived.OpenShut
import Derived.ShutString
import Derived.ChangeOld
import Derived.Below
import Derived.LaidMore
import Derived.SevenTiedAt
import Derived.Stop.Joined
namespace Go.Proofs.YtajaijidecomdaaGreatDoor.vecFilters
open Go.ChangeShapes Go.WideShapes Go.ChangeAt Go.RowKit
set_option linter.unusedVariables false

theorem own : ownKnob Tryz.prog.godebug = none := by kernel_rfl
theorem laidOut : laidOutB Tryz.prog = true := by kernel_rfl

/-! ### THE ROW's STEP: WRITTEN OUT: LEAVE IT -/
set_option maxRecDepth 100000 in
theorem lifted (os : Os) (started : os.Started) (H : Type) (enc : TypeId × Value → H) :
    ReturnsInHanded {} Tryz.checked os 8 .any (fun w args => (Rows.vecFiltersSpec.pre enc Tryz.prog Tryz.f8 Rows.vecFiltersRow.domain false w args ∧ laidMetH Tryz.prog listed w) ∧ sizedMet enc Tryz.prog Tryz.f8 (OpenSpec.ofChange Rows.vecFiltersSpec) false w args)
      (Rows.vecFiltersSpec.post enc Tryz.prog Tryz.f8 false true false false) := by
  refine returnsInHanded_of_change_and (C := Tryz.checked) (X := fun w _ => laidMetH Tryz.prog listed w) (fun _ _ _ hh h => h.of_heap hh) own started (by kernel_rfl) Tryz.func8
    (ChangeSpec.witness_shaped (enc := enc) (C := Tryz.checked) (os := os) (X := fun w _ => laidMetH Tryz.prog listed w) false ((World.holding Tryz.prog os ⟨#[], #[], []⟩).layVars Tryz.prog listed) #[.int .u8 0, .slice none 0 0, .int .u64 0, .bool false] 8 (laid_os _) (laid_shaped _ _) (by kernel_rfl) (by kernel_rfl) (by kernel_rfl) (laid_met _ _)) ?_
  intro W base args ds gs before hval0 hW hcnd hsz0 hLaid _
  have hsz : (DataW.weightsEach Tryz.prog (Tryz.f8.params.toList ++ Rows.vecFiltersSpec.plain.varTypes Tryz.prog) (ds ++ gs)).all (· ≤ reachBytes) = true := hsz0
  clear hsz0
  have hval : ∀ (j : Nat) t v, Tryz.f8.params[j]? = some t → args[j]? = some v → Value.okWide Tryz.prog W .any base t v := hval0
  have hW' := hW
  obtain ⟨p, q, hA0, hV, rfl, hfz, hnd⟩ := hW
  have hA : DataW.TrodAll enc Tryz.prog W 0 (fun _ => true) true Tryz.f8.params.toList args.toList ds p := hA0
  rw [Tryz.params8] at hA hval hsz
  obtain ⟨v0, vs0, d0, ds0, p0, q0, hargs, rfl, rfl, h0, r0⟩ := trodAll_cons hA
  obtain ⟨v1, vs1, d1, ds1, p1, q1, rfl, rfl, rfl, h1, r1⟩ := trodAll_cons r0
  obtain ⟨v2, vs2, d2, ds2, p2, q2, rfl, rfl, rfl, h2, r2⟩ := trodAll_cons r1
  obtain ⟨v3, vs3, d3, ds3, p3, q3, rfl, rfl, rfl, h3, r3⟩ := trodAll_cons r2
  obtain ⟨rfl, rfl, rfl⟩ := trodAll_nil r3
  obtain rfl : args = #[v0, v1, v2, v3] := by cases args; simp_all
  obtain ⟨rfl, rfl⟩ := trodVars_none hV
  obtain ⟨u0, rfl⟩ := okWide_int (k := .u8) Tryz.underlying5 (hval 0 5 v0 rfl rfl)
  obtain ⟨a1, len1, cap1, rfl⟩ := okWide_slice Tryz.underlying33 (hval 1 33 v1 rfl rfl)
  obtain ⟨u2, rfl⟩ := okWide_int (k := .u64) Tryz.underlying24 (hval 2 24 v2 rfl rfl)
  obtain ⟨b3, rfl⟩ := okWide_bool Tryz.underlying4 (hval 3 4 v3 rfl rfl)
  have k0 := h0
  have k1 := h1
  have k2 := h2
  have k3 := h3
  have lt0 : ∀ x ∈ p0, x.block < W.heap.size := by obtain ⟨m, hm⟩ := k0; exact DataW.trod_lt m _ _ _ hm
  have lt1 : ∀ x ∈ p1, x.block < W.heap.size := by obtain ⟨m, hm⟩ := k1; exact DataW.trod_lt m _ _ _ hm
  have lt2 : ∀ x ∈ p2, x.block < W.heap.size := by obtain ⟨m, hm⟩ := k2; exact DataW.trod_lt m _ _ _ hm
  have lt3 : ∀ x ∈ p3, x.block < W.heap.size := by obtain ⟨m, hm⟩ := k3; exact DataW.trod_lt m _ _ _ hm
  have wf0 : (Lit.int .u8 u0).wf = true := by
    obtain ⟨fuel, hf⟩ := h0
    obtain ⟨q, e1, _, e2⟩ := DataW.trod_int Tryz.underlying5 hf
    have e3 : [Value.int _ u0] = [Value.int _ q] := e1
    obtain rfl : u0 = q := by simpa using e3
    exact e2
  obtain ⟨lo0, hi0⟩ := u8_of wf0
  obtain ⟨l1, hL1, hnil1, hb1, hT1⟩ := arg_elm hsz (j := 1) rfl rfl h1
  have wf2 : (Lit.int .u64 u2).wf = true := by
    obtain ⟨fuel, hf⟩ := h2
    obtain ⟨q, e1, _, e2⟩ := DataW.trod_int Tryz.underlying24 hf
    have e3 : [Value.int _ u2] = [Value.int _ q] := e1
    obtain rfl : u2 = q := by simpa using e3
    exact e2
  obtain ⟨n2, rfl⟩ := u64_of wf2
  clear hA0 hval0
  refine (vecFilters_any u0 lo0 hi0 a1 len1 cap1 l1 n2 b3 W hL1 hnil1 hb1 hT1).mono fun e W' ⟨he, bel⟩ => ?_
  subst he
  exact ⟨_, rfl, _, _, _, [], _, [], hW', trodAll_mk1 (shut_bool Tryz.underlying4 _), (trodAll_cons_mk (Below.trod laidOut (by kernel_rfl) (of_decide_eq_true (by kernel_rfl)) k0 bel lt0) (trodAll_cons_mk (Below.trod laidOut (by kernel_rfl) (of_decide_eq_true (by kernel_rfl)) k1 bel lt1) (trodAll_cons_mk (Below.trod laidOut (by kernel_rfl) (of_decide_eq_true (by kernel_rfl)) k2 bel lt2) (trodAll_cons_mk (Below.trod laidOut (by kernel_rfl) (of_decide_eq_true (by kernel_rfl)) k3 bel lt3) trodAll_mk0)))), rfl, bel.frame _, fun h => by cases h⟩

theorem f1 : (Rows.vecFiltersRow.inPlace == Tryz.prog.inPlace 8) = true := by kernel_rfl
theorem f2 : (Rows.vecFiltersRow.unfollowed == Tryz.prog.unfollowed 8) = true := by kernel_rfl
theorem f3 : (Rows.vecFiltersRow.recurses == Tryz.prog.recurses 8) = true := by kernel_rfl
theorem f4 : (Rows.vecFiltersRow.named == Tryz.prog.varsNamed 8) = true := by kernel_rfl
theorem f5 : mapsRowed Tryz.prog = true := by kernel_rfl
theorem f6 : (Rows.vecFiltersRow.lifted == Tryz.prog.liftsFinal) = true := by kernel_rfl
theorem closed : joinedFacts Tryz.prog 8 Tryz.f8 Rows.vecFiltersSpec Rows.vecFiltersRow = true := by
  unfold joinedFacts
  rw [f1, f2, f3, f4, f5, f6]
  kernel_rfl
theorem inst : Tryz.f8.isInstance Tryz.prog Rows.vecFiltersRow.origin Rows.vecFiltersRow.targs := (of_decide_eq_true (by kernel_rfl))
theorem wrap : Tryz.f8.isWrapper Tryz.prog Rows.vecFiltersRow.wrapper Rows.vecFiltersRow.mainSum := (by unfold Func.isWrapper; first | (rw [if_pos (by decide +kernel)]; kernel_rfl) | (rw [if_neg (by decide +kernel)]; exact ⟨rfl, rfl⟩))
theorem over : Rows.VecFiltersSaid :=
  OpenClaim.holds_of_wide 8 Tryz.f8 rfl rfl rfl rfl rfl rfl rfl ⟨rfl, rfl, rfl, rfl, rfl⟩ rfl rfl rfl rfl rfl (by kernel_rfl) Tryz.func8 closed inst wrap
    (fun os started H enc _ => lifted os started H enc)

theorem p1 : Rows.vecFiltersRow.wfByText (OpenSpec.ofChange Rows.vecFiltersSpec) = true := by kernel_rfl
theorem p2 : Tryz.pinned.checked.prog.mainIs = some (true, "870f2a71f65e6923abf16c26784592e6c1f01f491fef11aa812794cd18fc66dc".toList) := by kernel_rfl
theorem p3 : Tryz.prog.funcNamed "barograph/barographlaw25.VecFilters" = some 8 := by kernel_rfl
theorem p4 : false = Tryz.pinned.checked.prog.looks [] := by kernel_rfl
theorem p5 : ([5, 33, 24, 4].all fun u => !Tryz.prog.wantsStandIn u) = true := by kernel_rfl
theorem p6 : false = Rows.vecFiltersRow.goesBy Tryz.pinned.checked.prog := by kernel_rfl
/-- ████ THE STATEMENT ████ -/
theorem proved : Rows.VecFiltersCardSaid :=
  Claim7.holds_tied_plain_at .later [] [.data, .data, .pinned] true (true, "870f2a71f65e6923abf16c26784592e6c1f01f491fef11aa812794cd18fc66dc") false over (fun _ h => by cases h) p1 (fun _ h => by cases h) vecFilters_row_tie rfl ⟨rfl, rfl⟩ p2 rfl
    (fun f fn hf hfn => by
      obtain rfl : f = 8 := Option.some.inj (p3.symm.trans hf) |>.symm
      obtain rfl : fn = Tryz.f8 := (Option.some.inj (Tryz.func8.symm.trans hfn)).symm
      exact ⟨p4, fun j t ht => by
        rw [Tryz.params8] at ht
        have hm : t ∈ [5, 33, 24, 4] := by simpa using Array.mem_of_getElem? ht
        exact (show Tryz.prog.wantsStandIn t = false by simpa using List.all_eq_true.1 p5 t hm)⟩)
    p6
end Go.Proofs.YtajaijidecomdaaGreatDoor.vecFilters
