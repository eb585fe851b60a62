/- MergeSeries of chapter 17: series of any lists are put together by their labels as the chapter says; the lists stay. No condition. -/
import Derived.Test.YtihidnmpngeohaaGreatRows
import Derived.Test.YtihidnmpngeohaaGreatMergeSerW
import Derived.Test.YtihidnmpngeohaaGreatG51
import Derived.WalkKit
import Derived.ProofKit
import Derived.OpenShut
import Derived.ShutString
import Derived.ChangeOld
import Derived.Below
namespace Go.Proofs.YtihidnmpngeohaaGreat.mergeSeries
open Go.ChangeShapes Go.WideShapes Go.ChangeAt Go.RowKit
set_option linter.unusedVariables false

theorem own : ownKnob Tryz.prog.godebug = none := by kernel_rfl
theorem laidOut : laidOutB Tryz.prog = true := by kernel_rfl

theorem bytes_ser : Tryz.prog.bytesOf 132 = 48 := by kernel_rfl
theorem bytes_lab : Tryz.prog.bytesOf 29 = 32 := by kernel_rfl
theorem bytes_sam : Tryz.prog.bytesOf 95 = 16 := by kernel_rfl
theorem reach_eq : reachBytes = 140737488351232 := rfl
/-- What the form's own reach says of a series that came in. -/
theorem big_of {H : Type} {w : World} {ds elems rest : List (DataW H)} {ts : List TypeId} {j : Nat} {z : Sv} {d : DataW H} (h : (DataW.weightsEach Tryz.prog ts ds).all (· ≤ reachBytes) = true) (ht : ts[j]? = some 70) (hd : ds[j]? = some (.slice elems rest)) (hm : d ∈ elems) (hz : InS w z d) : SBig w z := by
  obtain ⟨dl, dg, rfl, hdat, hsat⟩ := hz.data
  have hin : ∀ q ∈ (DataW.agg [dl, dg] : DataW H).weights Tryz.prog 132, q ≤ 140737488351232 := fun q hq => by
    have := of_decide_eq_true (List.all_eq_true.1 h q (DataW.weights_mem_each ht hd _ (by
      simp only [DataW.weights, Tryz.underlying70, List.mem_cons, List.mem_append]
      exact Or.inr (Or.inl (weightsAll_mem hm _ hq)))))
    exact this
  have hw : ∀ q ∈ (dl : DataW H).weights Tryz.prog 23, q ≤ 140737488351232 := fun q hq => hin q (by
        simp only [DataW.weights, Tryz.underlying132]
        simp only [List.map_cons, DataW.weightsEach, List.mem_append]
        exact Or.inl hq)
  have hs : ∀ q ∈ (dg : DataW H).weights Tryz.prog 90, q ≤ 140737488351232 := fun q hq => hin q (by
        simp only [DataW.weights, Tryz.underlying132]
        simp only [List.map_cons, DataW.weightsEach, List.mem_append]
        exact Or.inr (Or.inl hq))
  refine ⟨hz.lst, hz.nil, ?_, hz.sst, hz.snil, ?_, ?_⟩
  · rcases hdat with h0 | ⟨e', sp', rfl, hl, _⟩
    · have := hz.lst.1
      rw [h0] at this
      simp at this
      omega
    · have := hw ((e'.length + sp'.length) * Tryz.prog.bytesOf 29) (by simp [DataW.weights, Tryz.underlying23])
      rw [bytes_lab, hl] at this
      omega
  · rcases hsat with h0 | ⟨e', sp', rfl, hl⟩
    · have := hz.sst.1
      rw [h0] at this
      simp at this
      omega
    · have := hs ((e'.length + sp'.length) * Tryz.prog.bytesOf 95) (by simp [DataW.weights, Tryz.underlying90])
      rw [bytes_sam, hl] at this
      omega
  · intro x hx
    rcases hdat with h0 | ⟨e', sp', rfl, _, hx'⟩
    · rw [h0] at hx; cases hx
    · have hwx : ∀ q ∈ (labD x : DataW H).weights Tryz.prog 29, q ≤ 140737488351232 := fun q hq => hw q (by
        simp only [DataW.weights, Tryz.underlying23, List.mem_cons, List.mem_append]
        exact Or.inr (Or.inl (weightsAll_mem (hx' x hx) _ hq)))
      have he : (labD x : DataW H).weights Tryz.prog 29 = [x.nm.data.toList.length, x.vl.data.toList.length] := by
        unfold labD
        simp [DataW.weights, Tryz.underlying29, DataW.weightsEach]
      rw [he] at hwx
      have h1 := hwx _ (by simp : x.nm.data.toList.length ∈ [x.nm.data.toList.length, x.vl.data.toList.length])
      have h2 := hwx _ (by simp : x.vl.data.toList.length ∈ [x.nm.data.toList.length, x.vl.data.toList.length])
      rw [Array.length_toList] at h1 h2
      exact ⟨h1, h2⟩

/-! ### THE ROW's STEP: WRITTEN OUT: LEAVE IT -/
/-- One argument: a list of series. -/
theorem arg_ser {H : Type} {enc : TypeId × Value → H} {W : World} {ts : List TypeId} {ds : List (DataW H)} {j : Nat} {a0 : Option Addr} {len0 cap0 : Nat} {d0 : DataW H} {p0 : List MemPlace} (hsz : (DataW.weightsEach Tryz.prog ts ds).all (· ≤ reachBytes) = true) (ht : ts[j]? = some 70) (hd : ds[j]? = some d0)
    (h0 : DataW.Trod enc Tryz.prog W 0 (fun _ => true) true 70 (.slice a0 len0 cap0) d0 p0) :
    ∃ l : List Sv, Lst encSv 2 W W.heap.size a0 len0 l ∧ len0 ≤ 140737488355328 ∧ ∀ z ∈ l, SBig W z := by
  have hslc : ∃ (l : List Sv) (elems rest : List (DataW H)), Lst encSv 2 W W.heap.size a0 len0 l ∧ (∀ z ∈ l, ∃ d ∈ elems, InS W z d) ∧ (a0 = none → len0 = 0 ∧ cap0 = 0) ∧ len0 ≤ cap0 ∧ cap0 ≤ maxLen ∧ (l = [] ∨ d0 = .slice elems rest) := by
    obtain ⟨fuel, hf⟩ := h0
    exact arg_listD Tryz.underlying70 (by kernel_rfl) (by omega) dec_ser hf
  obtain ⟨l, elems, rest, hL, hin, hnil, hle, hcm, hdat⟩ := hslc
  refine ⟨l, hL, ?_, fun z hz => ?_⟩
  · rcases hdat with h | h
    · have := hL.1; rw [h] at this; simp at this; omega
    · obtain ⟨fuel, hf⟩ := h0
      have hl := slice_len Tryz.underlying70 hf h
      have := sized_slice hsz (j := j) (t := 70) (e := 132) ht (by rw [hd, h]) Tryz.underlying70
      rw [bytes_ser, reach_eq, hl] at this
      omega
  · obtain ⟨d, hd', hi⟩ := hin z hz
    rcases hdat with h | h
    · rw [h] at hz; cases hz
    · exact big_of hsz ht (by rw [hd, h]) hd' hi
set_option maxRecDepth 100000 in
theorem lifted (os : Os) (started : os.Started) (H : Type) (enc : TypeId × Value → H) :
    ReturnsInHanded {} Tryz.checked os 4 .any (Rows.mergeSeriesSpec.pre6 enc Tryz.prog Tryz.f4 Rows.mergeSeriesRow.domain false) (Rows.mergeSeriesSpec.post enc Tryz.prog Tryz.f4 false true false false) := by
  refine returnsInHanded_of_change_sized (C := Tryz.checked) own started (by kernel_rfl) Tryz.func4
    (ChangeSpec.witness6 (enc := enc) (C := Tryz.checked) false ⟨#[], #[.slice none 0 0, .slice none 0 0, .slice none 0 0], []⟩ 8 (by kernel_rfl) (by kernel_rfl) (by kernel_rfl) (by kernel_rfl)) ?_
  intro W base args ds gs before hval0 hW hcnd hsz0 _
  have hsz : (DataW.weightsEach Tryz.prog (Tryz.f4.params.toList ++ Rows.mergeSeriesSpec.plain.varTypes Tryz.prog) (ds ++ gs)).all (· ≤ reachBytes) = true := hsz0
  clear hsz0
  have hval : ∀ (j : Nat) t v, Tryz.f4.params[j]? = some t → args[j]? = some v → Value.okWide Tryz.prog W .any base t v := hval0
  have hW' := hW
  obtain ⟨p, q, hA0, hV, rfl, hfz, hnd⟩ := hW
  have hA : DataW.TrodAll enc Tryz.prog W 0 (fun _ => true) true Tryz.f4.params.toList args.toList ds p := hA0
  rw [Tryz.params4] at hA hval hsz
  obtain ⟨v0, vs0, d0, ds0, p0, q0, hargs, rfl, rfl, h0, r0⟩ := trodAll_cons hA
  obtain ⟨v1, vs1, d1, ds1, p1, q1, rfl, rfl, rfl, h1, r1⟩ := trodAll_cons r0
  obtain ⟨v2, vs2, d2, ds2, p2, q2, rfl, rfl, rfl, h2, r2⟩ := trodAll_cons r1
  obtain ⟨rfl, rfl, rfl⟩ := trodAll_nil r2
  obtain rfl : args = #[v0, v1, v2] := by cases args; simp_all
  obtain ⟨rfl, rfl⟩ := trodVars_none hV
  obtain ⟨a0, len0, cap0, rfl⟩ := okWide_slice Tryz.underlying70 (hval 0 70 v0 rfl rfl)
  obtain ⟨a1, len1, cap1, rfl⟩ := okWide_slice Tryz.underlying70 (hval 1 70 v1 rfl rfl)
  obtain ⟨a2, len2, cap2, rfl⟩ := okWide_slice Tryz.underlying70 (hval 2 70 v2 rfl rfl)
  have k0 := h0
  have k1 := h1
  have k2 := h2
  have lt0 : ∀ x ∈ p0, x.block < W.heap.size := by obtain ⟨m, hm⟩ := k0; exact DataW.trod_lt m _ _ _ hm
  have lt1 : ∀ x ∈ p1, x.block < W.heap.size := by obtain ⟨m, hm⟩ := k1; exact DataW.trod_lt m _ _ _ hm
  have lt2 : ∀ x ∈ p2, x.block < W.heap.size := by obtain ⟨m, hm⟩ := k2; exact DataW.trod_lt m _ _ _ hm
  obtain ⟨l0, hL0, hb0, hT0⟩ := arg_ser hsz (j := 0) rfl rfl h0
  obtain ⟨l1, hL1, hb1, hT1⟩ := arg_ser hsz (j := 1) rfl rfl h1
  obtain ⟨l2, hL2, hb2, hT2⟩ := arg_ser hsz (j := 2) rfl rfl h2
  clear hA0 hval0
  refine (mergeSer_any a0 a1 a2 len0 cap0 len1 cap1 len2 cap2 l0 l1 l2 W hL0 hL1 hL2 hb0 hb1 hb2 hT0 hT1 hT2).mono fun e W' ⟨he, bel⟩ => ?_
  subst he
  exact ⟨_, rfl, _, _, _, [], _, [], hW', trodAll_mk1 (shut_bool Tryz.underlying4 _), (trodAll_cons_mk (Below.trod laidOut (by kernel_rfl) (of_decide_eq_true (by kernel_rfl)) k0 bel lt0) (trodAll_cons_mk (Below.trod laidOut (by kernel_rfl) (of_decide_eq_true (by kernel_rfl)) k1 bel lt1) (trodAll_cons_mk (Below.trod laidOut (by kernel_rfl) (of_decide_eq_true (by kernel_rfl)) k2 bel lt2) trodAll_mk0))), rfl, bel.frame _, fun h => by cases h⟩

theorem over : Rows.mergeSeriesRow.holds Tryz.pinned (OpenSpec.ofChange Rows.mergeSeriesSpec) :=
  OpenClaim.holds_of_wide 4 Tryz.f4 rfl rfl rfl rfl rfl rfl rfl ⟨rfl, rfl, rfl, rfl, rfl⟩ rfl rfl rfl rfl rfl (by kernel_rfl) Tryz.func4 (by kernel_rfl)
    (of_decide_eq_true (by kernel_rfl)) (by unfold Func.isWrapper; first | (rw [if_pos (by decide +kernel)]; kernel_rfl) | (rw [if_neg (by decide +kernel)]; exact ⟨rfl, rfl⟩))
    (fun os started H enc _ => lifted os started H enc)

/-- ████ THE STATEMENT ████ -/
theorem proved : Rows.MergeSeriesSaid := over
end Go.Proofs.YtihidnmpngeohaaGreat.mergeSeries
