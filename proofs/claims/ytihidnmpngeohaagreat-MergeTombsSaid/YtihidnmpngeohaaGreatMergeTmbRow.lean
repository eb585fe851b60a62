/- MergeTombs of chapter 17: tombs are put together as the chapter says; what came in stays. No condition. -/
import Derived.Test.YtihidnmpngeohaaGreatRows
import Derived.Test.YtihidnmpngeohaaGreatMergeTmb
import Derived.Test.YtihidnmpngeohaaGreatG51
import Derived.WalkKit
import Derived.ProofKit
import Derived.OpenShut
import Derived.ShutString
import Derived.ChangeOld
import Derived.Below
namespace Go.Proofs.YtihidnmpngeohaaGreat.mergeTombs
open Go.ChangeShapes Go.WideShapes Go.ChangeAt Go.RowKit
set_option linter.unusedVariables false

theorem own : ownKnob Tryz.prog.godebug = none := by kernel_rfl
theorem laidOut : laidOutB Tryz.prog = true := by kernel_rfl

theorem bytes_tomb : Tryz.prog.bytesOf 27 = 40 := by kernel_rfl
theorem bytes_lab : Tryz.prog.bytesOf 29 = 32 := by kernel_rfl
theorem reach_eq : reachBytes = 140737488351232 := rfl
/-- What the form's own reach says of a tomb that came in. -/
theorem big_of {H : Type} {w : World} {ds elems rest : List (DataW H)} {ts : List TypeId} {j : Nat} {z : Tv} {d : DataW H} (h : (DataW.weightsEach Tryz.prog ts ds).all (· ≤ reachBytes) = true) (ht : ts[j]? = some 22) (hd : ds[j]? = some (.slice elems rest)) (hm : d ∈ elems) (hz : InT w z d) : TBig w z := by
  obtain ⟨dl, dg, rfl, hdat⟩ := hz.data
  have hw : ∀ q ∈ (dl : DataW H).weights Tryz.prog 23, q ≤ 140737488351232 := fun q hq => by
    have := of_decide_eq_true (List.all_eq_true.1 h q (DataW.weights_mem_each ht hd _ (by
      simp only [DataW.weights, Tryz.underlying22, List.mem_cons, List.mem_append]
      exact Or.inr (Or.inl (weightsAll_mem hm _ (by
        simp only [DataW.weights, Tryz.underlying27]
        simp only [List.map_cons, DataW.weightsEach, List.mem_append]
        exact Or.inl hq))))))
    exact this
  refine ⟨hz.lst, hz.nil, ?_, hz.fits, ?_⟩
  · rcases hdat with h0 | ⟨e', sp', rfl, hl, _⟩
    · have := hz.lst.1
      rw [h0] at this
      simp at this
      omega
    · have := hw ((e'.length + sp'.length) * Tryz.prog.bytesOf 29) (by simp [DataW.weights, Tryz.underlying23])
      rw [bytes_lab, hl] at this
      omega
  · intro x hx
    rcases hdat with h0 | ⟨e', sp', rfl, _, hx'⟩
    · rw [h0] at hx; cases hx
    · have hwx : ∀ q ∈ (labD x : DataW H).weights Tryz.prog 29, q ≤ 140737488351232 := fun q hq => hw q (by
        simp only [DataW.weights, Tryz.underlying23, List.mem_cons, List.mem_append]
        exact Or.inr (Or.inl (weightsAll_mem (hx' x hx) _ hq)))
      have he : (labD x : DataW H).weights Tryz.prog 29 = [x.nm.data.toList.length, x.vl.data.toList.length] := by
        unfold labD
        simp [DataW.weights, Tryz.underlying29, DataW.weightsEach]
      rw [he] at hwx
      have h1 := hwx _ (by simp : x.nm.data.toList.length ∈ [x.nm.data.toList.length, x.vl.data.toList.length])
      have h2 := hwx _ (by simp : x.vl.data.toList.length ∈ [x.nm.data.toList.length, x.vl.data.toList.length])
      rw [Array.length_toList] at h1 h2
      exact ⟨h1, h2⟩

/-! ### THE ROW's STEP: WRITTEN OUT: LEAVE IT -/
set_option maxRecDepth 100000 in
theorem lifted (os : Os) (started : os.Started) (H : Type) (enc : TypeId × Value → H) :
    ReturnsInHanded {} Tryz.checked os 3 .any (Rows.mergeTombsSpec.pre6 enc Tryz.prog Tryz.f3 Rows.mergeTombsRow.domain false) (Rows.mergeTombsSpec.post enc Tryz.prog Tryz.f3 false true false false) := by
  refine returnsInHanded_of_change_sized (C := Tryz.checked) own started (by kernel_rfl) Tryz.func3
    (ChangeSpec.witness6 (enc := enc) (C := Tryz.checked) false ⟨#[], #[.slice none 0 0], []⟩ 8 (by kernel_rfl) (by kernel_rfl) (by kernel_rfl) (by kernel_rfl)) ?_
  intro W base args ds gs before hval0 hW hcnd hsz0 _
  have hsz : (DataW.weightsEach Tryz.prog (Tryz.f3.params.toList ++ Rows.mergeTombsSpec.plain.varTypes Tryz.prog) (ds ++ gs)).all (· ≤ reachBytes) = true := hsz0
  clear hsz0
  have hval : ∀ (j : Nat) t v, Tryz.f3.params[j]? = some t → args[j]? = some v → Value.okWide Tryz.prog W .any base t v := hval0
  have hW' := hW
  obtain ⟨p, q, hA0, hV, rfl, hfz, hnd⟩ := hW
  have hA : DataW.TrodAll enc Tryz.prog W 0 (fun _ => true) true Tryz.f3.params.toList args.toList ds p := hA0
  rw [Tryz.params3] at hA hval hsz
  obtain ⟨v0, vs0, d0, ds0, p0, q0, hargs, rfl, rfl, h0, r0⟩ := trodAll_cons hA
  obtain ⟨rfl, rfl, rfl⟩ := trodAll_nil r0
  obtain rfl : args = #[v0] := by cases args; simp_all
  obtain ⟨rfl, rfl⟩ := trodVars_none hV
  obtain ⟨a0, len0, cap0, rfl⟩ := okWide_slice Tryz.underlying22 (hval 0 22 v0 rfl rfl)
  have k0 := h0
  have lt0 : ∀ x ∈ p0, x.block < W.heap.size := by obtain ⟨m, hm⟩ := k0; exact DataW.trod_lt m _ _ _ hm
  have hslc : ∃ (l : List Tv) (elems rest : List (DataW H)), Lst encTb 3 W W.heap.size a0 len0 l ∧ (∀ z ∈ l, ∃ d ∈ elems, InT W z d) ∧ (a0 = none → len0 = 0 ∧ cap0 = 0) ∧ len0 ≤ cap0 ∧ cap0 ≤ maxLen ∧ (l = [] ∨ d0 = .slice elems rest) := by
    obtain ⟨fuel, hf⟩ := h0
    exact arg_listD Tryz.underlying22 (by kernel_rfl) (by omega) dec_tomb hf
  obtain ⟨l, elems, rest, hL, hin, hnil, hle, hcm, hdat⟩ := hslc
  have hT : ∀ z ∈ l, TBig W z := by
    intro z hz
    obtain ⟨d, hd, hi⟩ := hin z hz
    rcases hdat with h | h
    · rw [h] at hz; cases hz
    · exact big_of hsz (j := 0) rfl (by rw [h]; rfl) hd hi
  have hb2 : len0 ≤ 140737488355328 := by
    rcases hdat with h | h
    · have := hL.1; rw [h] at this; simp at this; omega
    · obtain ⟨fuel, hf⟩ := h0
      rcases Go.Deep.open_slice Tryz.underlying22 hf with ⟨hcs, _⟩ | ⟨a, len, cap, m, k, D, Pl, hcs, _, _, _, _, hx, _⟩
      · obtain ⟨_, rfl, _⟩ : a0 = none ∧ len0 = 0 ∧ cap0 = 0 := by simpa [Value.cells] using hcs
        omega
      · obtain ⟨_, rfl, _⟩ : a0 = some a ∧ len0 = len ∧ cap0 = cap := by simpa [Value.cells] using hcs
        have he : d0 = .slice ((List.range len0).map D) ((List.range (m - len0)).map fun j => D (len0 + j)) := congrArg Prod.fst hx
        have := sized_slice hsz (j := 0) (t := 22) (e := 27) rfl (by rw [he]; rfl) Tryz.underlying22
        rw [bytes_tomb, reach_eq, List.length_map, List.length_range] at this
        omega
  clear hA0 hval0
  refine (mergeTmb_any a0 len0 cap0 l W hL hb2 hT).mono fun e W' ⟨he, bel⟩ => ?_
  subst he
  exact ⟨_, rfl, _, _, _, [], _, [], hW', trodAll_mk1 (shut_bool Tryz.underlying4 _), (trodAll_cons_mk (Below.trod laidOut (by kernel_rfl) (of_decide_eq_true (by kernel_rfl)) k0 bel lt0) trodAll_mk0), rfl, bel.frame _, fun h => by cases h⟩

theorem over : Rows.mergeTombsRow.holds Tryz.pinned (OpenSpec.ofChange Rows.mergeTombsSpec) :=
  OpenClaim.holds_of_wide 3 Tryz.f3 rfl rfl rfl rfl rfl rfl rfl ⟨rfl, rfl, rfl, rfl, rfl⟩ rfl rfl rfl rfl rfl (by kernel_rfl) Tryz.func3 (by kernel_rfl)
    (of_decide_eq_true (by kernel_rfl)) (by unfold Func.isWrapper; first | (rw [if_pos (by decide +kernel)]; kernel_rfl) | (rw [if_neg (by decide +kernel)]; exact ⟨rfl, rfl⟩))
    (fun os started H enc _ => lifted os started H enc)

/-- ████ THE STATEMENT ████ -/
theorem proved : Rows.MergeTombsSaid := over
end Go.Proofs.YtihidnmpngeohaaGreat.mergeTombs
