/-
  MergeCover of chapter 17: intervals that are put together have just the times that they had, rise, and leave at least one time between each two. No condition.
-/
import Derived.Test.YtglafbfbgjihbaaRows
import Derived.Test.YtglafbfbgjihbaaCover
import Derived.Test.YtglafbfbgjihbaaArgs
import Derived.WalkKit
import Derived.ProofKit
import Derived.OpenShut
import Derived.ShutString
import Derived.ChangeOld
import Derived.Below
namespace Go.Proofs.Ytglafbfbgjihbaa.mergeCover
open Go.ChangeShapes Go.WideShapes Go.ChangeAt Go.RowKit
set_option linter.unusedVariables false

theorem own : ownKnob Try.prog.godebug = none := by kernel_rfl
theorem laidOut : laidOutB Try.prog = true := by kernel_rfl

section
variable {H : Type} {en : TypeId × Value → H} {w : World} {base : Nat} {spare : Nat → Bool} {held : Bool}
set_option maxRecDepth 100000 in
/-- An interval that came in. -/
theorem dec_iv (k : Nat) (cs : List Value) (y : DataW H × List MemPlace) (hl : cs.length = 2) (h : DataW.trod en Try.prog w base spare held k 83 cs = some y) : ∃ m : Int × Int, cs = encI m ∧ (-9223372036854775808 ≤ m.1 ∧ m.1 ≤ 9223372036854775807 ∧ -9223372036854775808 ≤ m.2 ∧ m.2 ≤ 9223372036854775807) := by
  obtain ⟨xs, n, _, _, _, hxl, hf⟩ := DataW.trod_struct Try.underlying83 h
  have hxl' : xs.length = 2 := hxl
  match cs, hl with
  | [c0, c1], _ =>
    obtain ⟨q0, rfl, w0⟩ := field_int (i := 0) (o := 0) Try.underlying2 (by kernel_rfl) rfl (by omega) (hf 0 _ rfl)
    obtain ⟨q1, rfl, w1⟩ := field_int (i := 1) (o := 1) Try.underlying2 (by kernel_rfl) rfl (by omega) (hf 1 _ rfl)
    have h0 := bounds_i64 w0
    have h1 := bounds_i64 w1
    exact ⟨(q0, q1), rfl, h0.1, by have := h0.2; show q0 ≤ 9223372036854775807; omega, h1.1, by have := h1.2; show q1 ≤ 9223372036854775807; omega⟩
end
set_option maxRecDepth 100000 in
theorem walk (A : Option Addr) (n c : Nat) (l : List (Int × Int)) (t : Int) (w : World) (hr : Lst encI 2 w w.heap.size A n l) (hnil : A = none → n = 0 ∧ c = 0) (hok : ∀ x ∈ l, -9223372036854775808 ≤ x.1 ∧ x.1 ≤ 9223372036854775807 ∧ -9223372036854775808 ≤ x.2 ∧ x.2 ≤ 9223372036854775807) :
    Calls Try.prog 6 #[.slice A n c, .int .i64 t] w fun e w' => e = .returned (.bool true) ∧ Below w.heap.size w w' := by
  by_cases hn : 3000 < n
  · have hn' : (3000 : Int) < (n : Int) := by omega
    clear hr hnil hok
    go_enter Try.func6, Try.ntmps6
    go_wp2
    go_ret
    exact ⟨rfl, Below.refl _ _⟩
  · exact cover_any A n c l t w hr hnil (by omega) hok

/-! ### THE ROW's STEP: WRITTEN OUT: LEAVE IT -/
set_option maxRecDepth 100000 in
theorem lifted (os : Os) (started : os.Started) (H : Type) (enc : TypeId × Value → H) :
    ReturnsInHanded {} Try.checked os 6 .any (Rows.mergeCoverSpec.pre6 enc Try.prog Try.f6 Rows.mergeCoverRow.domain false) (Rows.mergeCoverSpec.post enc Try.prog Try.f6 false true false false) := by
  refine returnsInHanded_of_change (C := Try.checked) own started (by kernel_rfl) Try.func6
    (ChangeSpec.witness6 (enc := enc) (C := Try.checked) false ⟨#[], #[.slice none 0 0, .int .i64 0], []⟩ 8 (by kernel_rfl) (by kernel_rfl) (by kernel_rfl) (by kernel_rfl)) ?_
  intro W base args ds gs before hval0 hW hcnd _
  have hval : ∀ (j : Nat) t v, Try.f6.params[j]? = some t → args[j]? = some v → Value.okWide Try.prog W .any base t v := hval0
  have hW' := hW
  obtain ⟨p, q, hA0, hV, rfl, hfz, hnd⟩ := hW
  have hA : DataW.TrodAll enc Try.prog W 0 (fun _ => true) true Try.f6.params.toList args.toList ds p := hA0
  rw [Try.params6] at hA hval
  obtain ⟨v0, vs0, d0, ds0, p0, q0, hargs, rfl, rfl, h0, r0⟩ := trodAll_cons hA
  obtain ⟨v1, vs1, d1, ds1, p1, q1, rfl, rfl, rfl, h1, r1⟩ := trodAll_cons r0
  obtain ⟨rfl, rfl, rfl⟩ := trodAll_nil r1
  obtain rfl : args = #[v0, v1] := by cases args; simp_all
  obtain ⟨rfl, rfl⟩ := trodVars_none hV
  obtain ⟨a0, len0, cap0, rfl⟩ := okWide_slice Try.underlying80 (hval 0 80 v0 rfl rfl)
  obtain ⟨a1, rfl, rfl, rfl, w1⟩ := open_int Try.underlying2 (hval 1 2 v1 rfl rfl) h1
  have k0 := h0
  have lt0 : ∀ x ∈ p0, x.block < W.heap.size := by obtain ⟨m, hm⟩ := k0; exact DataW.trod_lt m _ _ _ hm
  obtain ⟨l, hL, hok, hnil, hle, hcm⟩ : ∃ l : List (Int × Int), Lst encI 2 W W.heap.size a0 len0 l ∧ (∀ x ∈ l, -9223372036854775808 ≤ x.1 ∧ x.1 ≤ 9223372036854775807 ∧ -9223372036854775808 ≤ x.2 ∧ x.2 ≤ 9223372036854775807) ∧ (a0 = none → len0 = 0 ∧ cap0 = 0) ∧ len0 ≤ cap0 ∧ cap0 ≤ maxLen := by
    obtain ⟨fuel, hf⟩ := h0
    exact arg_list Try.underlying80 (by kernel_rfl) (by omega) dec_iv hf
  clear hA0 hval0
  refine (walk a0 len0 cap0 l a1 W hL hnil hok).mono fun e W' ⟨he, bel⟩ => ?_
  subst he
  exact ⟨_, rfl, _, _, _, [], _, [], hW', trodAll_mk1 (shut_bool Try.underlying4 _), (trodAll_cons_mk (Below.trod laidOut (by kernel_rfl) (of_decide_eq_true (by kernel_rfl)) k0 bel lt0) (trodAll_cons_mk (shut_int Try.underlying2 w1) trodAll_mk0)), rfl, bel.frame _, fun h => by cases h⟩

theorem over : Rows.mergeCoverRow.holds Try.pinned (OpenSpec.ofChange Rows.mergeCoverSpec) :=
  OpenClaim.holds_of_wide 6 Try.f6 rfl rfl rfl rfl rfl rfl rfl ⟨rfl, rfl, rfl, rfl, rfl⟩ rfl rfl rfl rfl rfl (by kernel_rfl) Try.func6 (by kernel_rfl)
    (of_decide_eq_true (by kernel_rfl)) (by unfold Func.isWrapper; first | (rw [if_pos (by decide +kernel)]; kernel_rfl) | (rw [if_neg (by decide +kernel)]; exact ⟨rfl, rfl⟩))
    (fun os started H enc _ => lifted os started H enc)

/-- ████ THE STATEMENT ████ -/
theorem proved : Rows.MergeCoverSaid := over
end Go.Proofs.Ytglafbfbgjihbaa.mergeCover
