/-
  MergeTimes of chapter 17: Intervals, Without and In make of any lists what the chapter says; what is handed in stays. No condition.
-/
import Derived.Test.YtglafbfbgjihbaaGreatRows
import Derived.Test.YtglafbfbgjihbaaGreatTimes
import Derived.Test.YtglafbfbgjihbaaGreatArgs
import Derived.WalkKit
import Derived.ProofKit
import Derived.OpenShut
import Derived.ShutString
import Derived.ChangeOld
import Derived.Below
namespace Go.Proofs.YtglafbfbgjihbaaGreat.mergeTimes
open Go.ChangeShapes Go.WideShapes Go.ChangeAt Go.RowKit
set_option linter.unusedVariables false

theorem own : ownKnob Tryz.prog.godebug = none := by kernel_rfl
theorem laidOut : laidOutB Tryz.prog = true := by kernel_rfl

section
variable {H : Type} {en : TypeId × Value → H} {w : World} {base : Nat} {spare : Nat → Bool} {held : Bool}
set_option maxRecDepth 100000 in
/-- An interval that came in. -/
theorem dec_iv (k : Nat) (cs : List Value) (y : DataW H × List MemPlace) (hl : cs.length = 2) (h : DataW.trod en Tryz.prog w base spare held k 25 cs = some y) : ∃ m : Int × Int, cs = encI m ∧ (-9223372036854775808 ≤ m.1 ∧ m.1 ≤ 9223372036854775807 ∧ -9223372036854775808 ≤ m.2 ∧ m.2 ≤ 9223372036854775807) := by
  obtain ⟨xs, n, _, _, _, hxl, hf⟩ := DataW.trod_struct Tryz.underlying25 h
  have hxl' : xs.length = 2 := hxl
  match cs, hl with
  | [c0, c1], _ =>
    obtain ⟨q0, rfl, w0⟩ := field_int (i := 0) (o := 0) Tryz.underlying2 (by kernel_rfl) rfl (by omega) (hf 0 _ rfl)
    obtain ⟨q1, rfl, w1⟩ := field_int (i := 1) (o := 1) Tryz.underlying2 (by kernel_rfl) rfl (by omega) (hf 1 _ rfl)
    have h0 := bounds_i64 w0
    have h1 := bounds_i64 w1
    exact ⟨(q0, q1), rfl, h0.1, by have := h0.2; show q0 ≤ 9223372036854775807; omega, h1.1, by have := h1.2; show q1 ≤ 9223372036854775807; omega⟩
set_option maxRecDepth 100000 in
/-- A sample that came in. -/
theorem dec_sam (k : Nat) (cs : List Value) (y : DataW H × List MemPlace) (hl : cs.length = 2) (h : DataW.trod en Tryz.prog w base spare held k 94 cs = some y) : ∃ m : Int × Int, cs = encS m ∧ True := by
  obtain ⟨xs, n, _, _, _, hxl, hf⟩ := DataW.trod_struct Tryz.underlying94 h
  have hxl' : xs.length = 2 := hxl
  match cs, hl with
  | [c0, c1], _ =>
    obtain ⟨q0, rfl, _⟩ := field_int (i := 0) (o := 0) Tryz.underlying2 (by kernel_rfl) rfl (by omega) (hf 0 _ rfl)
    obtain ⟨q1, rfl, _⟩ := field_int (i := 1) (o := 1) Tryz.underlying92 (by kernel_rfl) rfl (by omega) (hf 1 _ rfl)
    exact ⟨(q0, q1), rfl, trivial⟩
end
set_option maxRecDepth 100000 in
theorem walk (A A' : Option Addr) (n c n' c' : Nat) (s l : List (Int × Int)) (y : Int × Int) (w : World) (hS : Lst encS 2 w w.heap.size A n s) (hSnil : A = none → n = 0 ∧ c = 0) (hL : Lst encI 2 w w.heap.size A' n' l) (hnil : A' = none → n' = 0 ∧ c' = 0) (hw : ∀ x ∈ l, Fits x) :
    Calls Tryz.prog 3 #[.slice A n c, .slice A' n' c', .agg #[.int .i64 y.1, .int .i64 y.2]] w fun e w' => e = .returned (.bool true) ∧ Below w.heap.size w w' := by
  by_cases hn : 3000 < n
  · have hn' : (3000 : Int) < (n : Int) := by omega
    clear hS hSnil hL hnil hw
    go_enter Tryz.func3, Tryz.ntmps3
    go_wp2
    go_ret
    exact ⟨rfl, (Below.refl _ _).alloc (Nat.le_refl _) _⟩
  · by_cases hn2 : 300 < n'
    · have hn' : ¬ (3000 : Int) < (n : Int) := by omega
      have hn2' : (300 : Int) < (n' : Int) := by omega
      clear hS hSnil hL hnil hw
      go_enter Tryz.func3, Tryz.ntmps3
      go_wp2
      go_ret
      exact ⟨rfl, (Below.refl _ _).alloc (Nat.le_refl _) _⟩
    · exact times_any A A' n c n' c' s l y w hS hSnil (by omega) hL hnil (by omega) hw

/-! ### THE ROW's STEP: WRITTEN OUT: LEAVE IT -/
set_option maxRecDepth 100000 in
theorem lifted (os : Os) (started : os.Started) (H : Type) (enc : TypeId × Value → H) :
    ReturnsInHanded {} Tryz.checked os 3 .any (Rows.mergeTimesSpec.pre6 enc Tryz.prog Tryz.f3 Rows.mergeTimesRow.domain false) (Rows.mergeTimesSpec.post enc Tryz.prog Tryz.f3 false true false false) := by
  refine returnsInHanded_of_change (C := Tryz.checked) own started (by kernel_rfl) Tryz.func3
    (ChangeSpec.witness6 (enc := enc) (C := Tryz.checked) false ⟨#[], #[.slice none 0 0, .slice none 0 0, .agg #[.int .i64 0, .int .i64 0]], []⟩ 8 (by kernel_rfl) (by kernel_rfl) (by kernel_rfl) (by kernel_rfl)) ?_
  intro W base args ds gs before hval0 hW hcnd _
  have hval : ∀ (j : Nat) t v, Tryz.f3.params[j]? = some t → args[j]? = some v → Value.okWide Tryz.prog W .any base t v := hval0
  have hW' := hW
  obtain ⟨p, q, hA0, hV, rfl, hfz, hnd⟩ := hW
  have hA : DataW.TrodAll enc Tryz.prog W 0 (fun _ => true) true Tryz.f3.params.toList args.toList ds p := hA0
  rw [Tryz.params3] at hA hval
  obtain ⟨v0, vs0, d0, ds0, p0, q0, hargs, rfl, rfl, h0, r0⟩ := trodAll_cons hA
  obtain ⟨v1, vs1, d1, ds1, p1, q1, rfl, rfl, rfl, h1, r1⟩ := trodAll_cons r0
  obtain ⟨v2, vs2, d2, ds2, p2, q2, rfl, rfl, rfl, h2, r2⟩ := trodAll_cons r1
  obtain ⟨rfl, rfl, rfl⟩ := trodAll_nil r2
  obtain rfl : args = #[v0, v1, v2] := by cases args; simp_all
  obtain ⟨rfl, rfl⟩ := trodVars_none hV
  obtain ⟨a0, len0, cap0, rfl⟩ := okWide_slice Tryz.underlying22 (hval 0 22 v0 rfl rfl)
  obtain ⟨a1, len1, cap1, rfl⟩ := okWide_slice Tryz.underlying23 (hval 1 23 v1 rfl rfl)
  obtain ⟨cs2, rfl, hcs2⟩ := okWide_struct Tryz.underlying25 (hval 2 25 v2 rfl rfl)
  have k0 := h0
  have k1 := h1
  have k2 := h2
  have lt0 : ∀ x ∈ p0, x.block < W.heap.size := by obtain ⟨m, hm⟩ := k0; exact DataW.trod_lt m _ _ _ hm
  have lt1 : ∀ x ∈ p1, x.block < W.heap.size := by obtain ⟨m, hm⟩ := k1; exact DataW.trod_lt m _ _ _ hm
  have lt2 : ∀ x ∈ p2, x.block < W.heap.size := by obtain ⟨m, hm⟩ := k2; exact DataW.trod_lt m _ _ _ hm
  obtain ⟨s, hS, _, hSnil, hSle, hScm⟩ : ∃ l : List (Int × Int), Lst encS 2 W W.heap.size a0 len0 l ∧ (∀ x ∈ l, True) ∧ (a0 = none → len0 = 0 ∧ cap0 = 0) ∧ len0 ≤ cap0 ∧ cap0 ≤ maxLen := by
    obtain ⟨fuel, hf⟩ := h0
    exact arg_list Tryz.underlying22 (by kernel_rfl) (by omega) dec_sam hf
  obtain ⟨l, hL, hok, hnil, hle, hcm⟩ : ∃ l : List (Int × Int), Lst encI 2 W W.heap.size a1 len1 l ∧ (∀ x ∈ l, Fits x) ∧ (a1 = none → len1 = 0 ∧ cap1 = 0) ∧ len1 ≤ cap1 ∧ cap1 ≤ maxLen := by
    obtain ⟨fuel, hf⟩ := h1
    exact arg_list Tryz.underlying23 (by kernel_rfl) (by omega) dec_iv hf
  obtain ⟨y, hy⟩ : ∃ y : Int × Int, cs2 = #[.int .i64 y.1, .int .i64 y.2] := by
    obtain ⟨fuel, hf⟩ := h2
    have hlen : cs2.toList.length = 2 := by rw [Array.length_toList, hcs2]; kernel_rfl
    obtain ⟨m, hm, _⟩ := dec_iv fuel cs2.toList _ hlen hf
    exact ⟨m, by rw [← Array.toArray_toList (xs := cs2), hm]; rfl⟩
  subst hy
  clear hA0 hval0
  refine (walk a0 a1 len0 cap0 len1 cap1 s l y W hS hSnil hL hnil hok).mono fun e W' ⟨he, bel⟩ => ?_
  subst he
  exact ⟨_, rfl, _, _, _, [], _, [], hW', trodAll_mk1 (shut_bool Tryz.underlying4 _), (trodAll_cons_mk (Below.trod laidOut (by kernel_rfl) (of_decide_eq_true (by kernel_rfl)) k0 bel lt0) (trodAll_cons_mk (Below.trod laidOut (by kernel_rfl) (of_decide_eq_true (by kernel_rfl)) k1 bel lt1) (trodAll_cons_mk (Below.trod laidOut (by kernel_rfl) (of_decide_eq_true (by kernel_rfl)) k2 bel lt2) trodAll_mk0))), rfl, bel.frame _, fun h => by cases h⟩

theorem over : Rows.mergeTimesRow.holds Tryz.pinned (OpenSpec.ofChange Rows.mergeTimesSpec) :=
  OpenClaim.holds_of_wide 3 Tryz.f3 rfl rfl rfl rfl rfl rfl rfl ⟨rfl, rfl, rfl, rfl, rfl⟩ rfl rfl rfl rfl rfl (by kernel_rfl) Tryz.func3 (by kernel_rfl)
    (of_decide_eq_true (by kernel_rfl)) (by unfold Func.isWrapper; first | (rw [if_pos (by decide +kernel)]; kernel_rfl) | (rw [if_neg (by decide +kernel)]; exact ⟨rfl, rfl⟩))
    (fun os started H enc _ => lifted os started H enc)

/-- ████ THE STATEMENT ████ -/
theorem proved : Rows.MergeTimesSaid := over
end Go.Proofs.YtglafbfbgjihbaaGreat.mergeTimes
