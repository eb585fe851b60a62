/-
  CompactPlans of chapter 19: which blocks are put together, and the next number, are what the chapter says of any metas; the metas stay. No condition.
-/
import Derived.Test.YtglafbfbgjihbaaRows
import Derived.Test.YtglafbfbgjihbaaPlans
import Derived.Test.YtglafbfbgjihbaaArgs
import Derived.WalkKit
import Derived.ProofKit
import Derived.OpenShut
import Derived.ShutString
import Derived.ChangeOld
import Derived.Below
namespace Go.Proofs.Ytglafbfbgjihbaa.compactPlans
open Go.ChangeShapes Go.WideShapes Go.ChangeAt Go.RowKit
set_option linter.unusedVariables false

theorem own : ownKnob Try.prog.godebug = none := by kernel_rfl
theorem laidOut : laidOutB Try.prog = true := by kernel_rfl

section
variable {H : Type} {en : TypeId × Value → H} {w : World} {base : Nat} {spare : Nat → Bool} {held : Bool}
set_option maxRecDepth 100000 in
/-- A meta that came in. -/
theorem dec_meta (k : Nat) (cs : List Value) (y : DataW H × List MemPlace) (hl : cs.length = 5) (h : DataW.trod en Try.prog w base spare held k 71 cs = some y) : ∃ m : Mt, cs = m.cells ∧ m.ok := by
  obtain ⟨xs, n, _, _, _, hxl, hf⟩ := DataW.trod_struct Try.underlying71 h
  have hxl' : xs.length = 5 := hxl
  match cs, hl with
  | [c0, c1, c2, c3, c4], _ =>
    obtain ⟨q0, rfl, w0⟩ := field_int (i := 0) (o := 0) Try.underlying26 (by kernel_rfl) rfl (by omega) (hf 0 _ rfl)
    obtain ⟨q1, rfl, _⟩ := field_int (i := 1) (o := 1) Try.underlying2 (by kernel_rfl) rfl (by omega) (hf 1 _ rfl)
    obtain ⟨q2, rfl, _⟩ := field_int (i := 2) (o := 2) Try.underlying2 (by kernel_rfl) rfl (by omega) (hf 2 _ rfl)
    obtain ⟨q3, rfl, _⟩ := field_int (i := 3) (o := 3) Try.underlying3 (by kernel_rfl) rfl (by omega) (hf 3 _ rfl)
    obtain ⟨q4, rfl, w4⟩ := field_int (i := 4) (o := 4) Try.underlying3 (by kernel_rfl) rfl (by omega) (hf 4 _ rfl)
    have h0 := bounds_u32 w0
    exact ⟨⟨q0, q1, q2, q3, q4⟩, rfl, h0.1, by have := h0.2; show q0 < 4294967296; omega, w4⟩
end
set_option maxRecDepth 100000 in
theorem walk (A : Option Addr) (n c : Nat) (l : List Mt) (w : World) (hr : Lst Mt.cells 5 w w.heap.size A n l) (hnil : A = none → n = 0 ∧ c = 0) (hok : ∀ m ∈ l, m.ok) :
    Calls Try.prog 3 #[.slice A n c] w fun e w' => e = .returned (.bool true) ∧ Below w.heap.size w w' := by
  by_cases hn : 200 < n
  · have hn' : (200 : Int) < (n : Int) := by omega
    clear hr hnil hok
    go_enter Try.func3, Try.ntmps3
    go_wp2
    go_ret
    exact ⟨rfl, Below.refl _ _⟩
  · exact plans_any A n c l w hr hnil hok (by omega)

/-! ### THE ROW's STEP: WRITTEN OUT: LEAVE IT -/
set_option maxRecDepth 100000 in
theorem lifted (os : Os) (started : os.Started) (H : Type) (enc : TypeId × Value → H) :
    ReturnsInHanded {} Try.checked os 3 .any (Rows.compactPlansSpec.pre6 enc Try.prog Try.f3 Rows.compactPlansRow.domain false) (Rows.compactPlansSpec.post enc Try.prog Try.f3 false true false false) := by
  refine returnsInHanded_of_change (C := Try.checked) own started (by kernel_rfl) Try.func3
    (ChangeSpec.witness6 (enc := enc) (C := Try.checked) false ⟨#[], #[.slice none 0 0], []⟩ 8 (by kernel_rfl) (by kernel_rfl) (by kernel_rfl) (by kernel_rfl)) ?_
  intro W base args ds gs before hval0 hW hcnd _
  have hval : ∀ (j : Nat) t v, Try.f3.params[j]? = some t → args[j]? = some v → Value.okWide Try.prog W .any base t v := hval0
  have hW' := hW
  obtain ⟨p, q, hA0, hV, rfl, hfz, hnd⟩ := hW
  have hA : DataW.TrodAll enc Try.prog W 0 (fun _ => true) true Try.f3.params.toList args.toList ds p := hA0
  rw [Try.params3] at hA hval
  obtain ⟨v0, vs0, d0, ds0, p0, q0, hargs, rfl, rfl, h0, r0⟩ := trodAll_cons hA
  obtain ⟨rfl, rfl, rfl⟩ := trodAll_nil r0
  obtain rfl : args = #[v0] := by cases args; simp_all
  obtain ⟨rfl, rfl⟩ := trodVars_none hV
  obtain ⟨a0, len0, cap0, rfl⟩ := okWide_slice Try.underlying22 (hval 0 22 v0 rfl rfl)
  have k0 := h0
  have lt0 : ∀ x ∈ p0, x.block < W.heap.size := by obtain ⟨m, hm⟩ := k0; exact DataW.trod_lt m _ _ _ hm
  obtain ⟨l, hL, hok, hnil, hle, hcm⟩ : ∃ l : List Mt, Lst Mt.cells 5 W W.heap.size a0 len0 l ∧ (∀ m ∈ l, m.ok) ∧ (a0 = none → len0 = 0 ∧ cap0 = 0) ∧ len0 ≤ cap0 ∧ cap0 ≤ maxLen := by
    obtain ⟨fuel, hf⟩ := h0
    exact arg_list Try.underlying22 (by kernel_rfl) (by omega) dec_meta hf
  clear hA0 hval0
  refine (walk a0 len0 cap0 l W hL hnil hok).mono fun e W' ⟨he, bel⟩ => ?_
  subst he
  exact ⟨_, rfl, _, _, _, [], _, [], hW', trodAll_mk1 (shut_bool Try.underlying4 _), (trodAll_cons_mk (Below.trod laidOut (by kernel_rfl) (of_decide_eq_true (by kernel_rfl)) k0 bel lt0) trodAll_mk0), rfl, bel.frame _, fun h => by cases h⟩

theorem over : Rows.compactPlansRow.holds Try.pinned (OpenSpec.ofChange Rows.compactPlansSpec) :=
  OpenClaim.holds_of_wide 3 Try.f3 rfl rfl rfl rfl rfl rfl rfl ⟨rfl, rfl, rfl, rfl, rfl⟩ rfl rfl rfl rfl rfl (by kernel_rfl) Try.func3 (by kernel_rfl)
    (of_decide_eq_true (by kernel_rfl)) (by unfold Func.isWrapper; first | (rw [if_pos (by decide +kernel)]; kernel_rfl) | (rw [if_neg (by decide +kernel)]; exact ⟨rfl, rfl⟩))
    (fun os started H enc _ => lifted os started H enc)

/-- ████ THE STATEMENT ████ -/
theorem proved : Rows.CompactPlansSaid := over
end Go.Proofs.Ytglafbfbgjihbaa.compactPlans
