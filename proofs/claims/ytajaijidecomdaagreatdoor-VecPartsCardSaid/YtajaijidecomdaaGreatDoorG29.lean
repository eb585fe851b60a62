/- vec.compares, holds, reckons. vec.Numbers at comparisons. -/
import Derived.Test.YtajaijidecomdaaGreatDoorG26
import Derived.Test.YtajaijidecomdaaGreatDoorVGrp
namespace Go.Proofs.YtajaijidecomdaaGreatDoor
open Go.RowKit Go.Lib
open Go.Maps (Keyed)

theorem compares_any (op : Int) (w : World) : Calls Tryz.prog 37 #[.int .u8 op] w fun e w' => e = .returned (.bool (decide (8 ≤ op) && decide (op ≤ 13))) ∧ w' = w := by
  by_cases h1 : 8 ≤ op
  · have h1' : (8 : Int) ≤ op := h1
    rw [decide_eq_true h1, Bool.true_and]
    go_enter Tryz.func37, Tryz.ntmps37
    go_wp2
    go_ret
    exact ⟨rfl, rfl⟩
  · rw [decide_eq_false h1, Bool.false_and]
    go_enter Tryz.func37, Tryz.ntmps37
    go_wp2
    go_ret
    exact ⟨rfl, rfl⟩
set_option maxHeartbeats 2000000 in
theorem holds_any (op : Int) (hop : op = 8 ∨ op = 9 ∨ op = 10 ∨ op = 11 ∨ op = 12 ∨ op = 13) (a b : Nat) (ha : a < 2 ^ 64) (hb : b < 2 ^ 64) (w : World) :
    Calls Tryz.prog 38 #[.int .u8 op, .int .u64 a, .int .u64 b] w fun e w' => e = .returned (.bool (holdsB op a b)) ∧ w' = w := by
  have hcmp := fun w => cmp_any a b ha hb w
  unfold holdsB
  rcases order_cases ha hb with ⟨_, h1, h2⟩ | ⟨_, h1, h2⟩ | ⟨_, h1, h2⟩ | ⟨_, h1, h2⟩
  all_goals
    simp only [h1, h2] at hcmp ⊢
    clear h1 h2
    rcases hop with rfl | rfl | rfl | rfl | rfl | rfl
  all_goals
    go_enter Tryz.func38, Tryz.ntmps38
    go_wp2_with (go_at_call 118; refine (hcmp _).mono ?_; rintro e w' ⟨rfl, rfl⟩)
    go_ret
    exact ⟨rfl, rfl⟩
theorem wpList_insert_own {H : Type} {P : Program} (w : World) {ops : Array Oper} {rest : List Oper} {o : Oper} {a : Act} {Q : Exit → Act → World → Prop}
    (hg : o.guard = none) (m x v : Operand) (t : TypeId) (hop : o.op = Op.insert t m x v)
    (k e : TypeId) (K : Maps.Keyed P k) (ht : P.underlying t = some (.map k e)) (R : Value → Option (DataW H × List MemPlace)) (b n : Nat) (D : DataW H)
    (hm : a.eval m = .map (some b)) (hown : w.ownsMap P k R b n D) (hn : n < maxLen) (key val : Value) (kl : Lit) (hx : a.eval x = key) (hv : a.eval v = val) (hkey : keyOf P k key = some kl)
    (d : DataW H) (ps : List MemPlace) (hval : R val = some (d, ps))
    (hK : ∀ w', w'.ownsMap P k R b (n + 1) (D.put kl d) → w.grownBy w' (some b) → wpList P ops Q rest (a.put o.dst undef) w') :
    wpList P ops Q (o :: rest) a w := by
  refine wpList_plain hg fun K' hK' => ?_
  obtain ⟨w', hrun, r1, r2⟩ := hown.update K ht hn hkey hval
  unfold Oper.wp
  simp [execOp, hop, hm, hx, hv, hrun, Result.andThen]
  exact hK' _ _ (hK w' r1 r2)
theorem Tryz.keyedOp : Keyed Tryz.prog 22 := Maps.int_keyed Tryz.underlying22
theorem opLit (a : Int) (h : (Lit.int .u8 a).wf = true) : keyOf Tryz.prog 22 (.int .u8 a) = some (.int .u8 a) := Maps.keyOf_int_mk Tryz.underlying22 h
theorem Tryz.zeroReck : ∀ W, (zeroValue 97).run Tryz.prog W = .ok .nilFunc W := fun W => by kernel_rfl
/-- What reckons makes of an operator. -/
def reckV (op : Int) : Value :=
  if op = 1 then .func (.func 111) #[] #[] else if op = 2 then .func (.func 112) #[] #[] else if op = 3 then .func (.func 113) #[] #[] else if op = 4 then .func (.func 114) #[] #[] else
  if op = 5 then .func (.func 115) #[] #[] else if op = 6 then .func (.func 116) #[] #[] else if op = 7 then .func (.func 117) #[] #[] else .nilFunc
/-- The map of the operators. -/
def reckD : DataW Value := ((((((((DataW.map (H := Value) []).put (.int .u8 1) (.held (.func (.func 111) #[] #[]))).put (.int .u8 2) (.held (.func (.func 112) #[] #[]))).put (.int .u8 3) (.held (.func (.func 113) #[] #[]))).put (.int .u8 4) (.held (.func (.func 114) #[] #[]))).put (.int .u8 5) (.held (.func (.func 115) #[] #[]))).put (.int .u8 6) (.held (.func (.func 116) #[] #[]))).put (.int .u8 7) (.held (.func (.func 117) #[] #[])))
theorem atKey_u8 (a b : Int) (D : DataW Value) (hD : Maps.IsMap D) (v z : DataW Value) : (D.put (.int .u8 a) v).atKey (.int .u8 b) z = if b = a then v else D.atKey (.int .u8 b) z := by
  by_cases h : b = a
  · subst h
    rw [if_pos rfl, Maps.atKey_put_same hD (by trivial)]
  · rw [if_neg h, Maps.atKey_put_other (fun e => h (by injection e))]
theorem isMap_put {D : DataW Value} (h : Maps.IsMap D) (k : Lit) (v : DataW Value) : Maps.IsMap (D.put k v) := by
  obtain ⟨es, rfl⟩ := h
  exact ⟨_, rfl⟩
theorem reck_at (op : Int) : reckD.atKey (.int .u8 op) (.held .nilFunc) = .held (reckV op) := by
  have h0 : Maps.IsMap (DataW.map (H := Value) []) := ⟨_, rfl⟩
  unfold reckD reckV
  repeat rw [atKey_u8 _ _ _ (by repeat (first | exact h0 | apply isMap_put))]
  have e : (DataW.map (H := Value) []).atKey (.int .u8 op) (.held .nilFunc) = .held .nilFunc := rfl
  rw [e]
  repeat' split
  all_goals first | rfl | (exfalso; omega)
set_option maxHeartbeats 2000000 in
set_option maxRecDepth 100000 in
theorem reckons_any (op : Int) (h0 : 0 ≤ op) (h1 : op < 256) (w : World) : Calls Tryz.prog 36 #[.int .u8 op] w fun e w' => e = .returned (reckV op) ∧ Below w.heap.size w w' := by
  have hmm := @run_makeMap Tryz.prog
  have hko := opLit op (by unfold Lit.wf; simp [IntKind.min, IntKind.max, IntKind.signed, IntKind.bits]; omega)
  have HK := Lib.hid hko
  clear hko
  have hown0 := World.ownsMap_made w Tryz.prog 22 RV
  have hb0 : Below w.heap.size w (w.alloc (.map #[] 0)) := (Below.refl _ _).alloc (Nat.le_refl _) _
  have H0 := Lib.hid (show _ ∧ _ from ⟨hown0, hb0⟩)
  clear hown0 hb0
  go_enter Tryz.func36, Tryz.ntmps36
  go_wp2_with (first | (refine wpList_insert_own _ rfl _ _ _ 148 rfl 22 97 Tryz.keyedOp Tryz.underlying148 RV w.heap.size 0 _ rfl H0.out.1 (by unfold maxLen; omega) _ _ _ rfl rfl (opLit 1 rfl) (.held _) [] rfl ?_) | fail)
  intro w1 hown hg
  have H1 := Lib.hid (show _ ∧ _ from ⟨hown, H0.out.2.grown hg H0.out.2.size (fun j hj => by injection hj with hj; omega)⟩)
  clear hown hg
  go_wp2_with (first | (refine wpList_insert_own _ rfl _ _ _ 148 rfl 22 97 Tryz.keyedOp Tryz.underlying148 RV w.heap.size 1 _ rfl H1.out.1 (by unfold maxLen; omega) _ _ _ rfl rfl (opLit 2 rfl) (.held _) [] rfl ?_) | fail)
  intro w2 hown hg
  have H2 := Lib.hid (show _ ∧ _ from ⟨hown, H1.out.2.grown hg H1.out.2.size (fun j hj => by injection hj with hj; omega)⟩)
  clear hown hg
  go_wp2_with (first | (refine wpList_insert_own _ rfl _ _ _ 148 rfl 22 97 Tryz.keyedOp Tryz.underlying148 RV w.heap.size 2 _ rfl H2.out.1 (by unfold maxLen; omega) _ _ _ rfl rfl (opLit 3 rfl) (.held _) [] rfl ?_) | fail)
  intro w3 hown hg
  have H3 := Lib.hid (show _ ∧ _ from ⟨hown, H2.out.2.grown hg H2.out.2.size (fun j hj => by injection hj with hj; omega)⟩)
  clear hown hg
  go_wp2_with (first | (refine wpList_insert_own _ rfl _ _ _ 148 rfl 22 97 Tryz.keyedOp Tryz.underlying148 RV w.heap.size 3 _ rfl H3.out.1 (by unfold maxLen; omega) _ _ _ rfl rfl (opLit 4 rfl) (.held _) [] rfl ?_) | fail)
  intro w4 hown hg
  have H4 := Lib.hid (show _ ∧ _ from ⟨hown, H3.out.2.grown hg H3.out.2.size (fun j hj => by injection hj with hj; omega)⟩)
  clear hown hg
  go_wp2_with (first | (refine wpList_insert_own _ rfl _ _ _ 148 rfl 22 97 Tryz.keyedOp Tryz.underlying148 RV w.heap.size 4 _ rfl H4.out.1 (by unfold maxLen; omega) _ _ _ rfl rfl (opLit 5 rfl) (.held _) [] rfl ?_) | fail)
  intro w5 hown hg
  have H5 := Lib.hid (show _ ∧ _ from ⟨hown, H4.out.2.grown hg H4.out.2.size (fun j hj => by injection hj with hj; omega)⟩)
  clear hown hg
  go_wp2_with (first | (refine wpList_insert_own _ rfl _ _ _ 148 rfl 22 97 Tryz.keyedOp Tryz.underlying148 RV w.heap.size 5 _ rfl H5.out.1 (by unfold maxLen; omega) _ _ _ rfl rfl (opLit 6 rfl) (.held _) [] rfl ?_) | fail)
  intro w6 hown hg
  have H6 := Lib.hid (show _ ∧ _ from ⟨hown, H5.out.2.grown hg H5.out.2.size (fun j hj => by injection hj with hj; omega)⟩)
  clear hown hg
  go_wp2_with (first | (refine wpList_insert_own _ rfl _ _ _ 148 rfl 22 97 Tryz.keyedOp Tryz.underlying148 RV w.heap.size 6 _ rfl H6.out.1 (by unfold maxLen; omega) _ _ _ rfl rfl (opLit 7 rfl) (.held _) [] rfl ?_) | fail)
  intro w7 hown hg
  have H7 := Lib.hid (show _ ∧ _ from ⟨hown, H6.out.2.grown hg H6.out.2.size (fun j hj => by injection hj with hj; omega)⟩)
  clear hown hg
  go_wp2_with (first | (at_lookup; refine wpList_lookup_held _ rfl _ _ 148 rfl 22 97 Tryz.keyedOp Tryz.underlying148 .nilFunc (Tryz.zeroReck _) w.heap.size 7 _ rfl H7.out.1 _ (.int .u8 op) rfl HK.out (reckV op) (reck_at op) ?_) | fail)
  go_wp2
  go_ret
  exact ⟨rfl, H7.out.2⟩
end Go.Proofs.YtajaijidecomdaaGreatDoor
namespace Go.Proofs.YtajaijidecomdaaGreatDoor
open Go.RowKit Go.Lib

theorem bits_any (x : Nat) (hx : x < 2 ^ 64) (w : World) : Calls Tryz.prog 119 #[.float .f64 x] w fun e w' => e = .returned (.int .u64 (if FL.isNaN x then FL.theNaN else x : Nat)) ∧ w' = w := by
  have hb := fun w => Tryz.run_bits x w
  have ho : (FloatKind.f64.format.order x x != some .eq) = FL.isNaN x := by
    rcases order_cases hx hx with ⟨ho, h1, h2⟩ | ⟨ho, h1, h2⟩ | ⟨ho, h1, h2⟩ | ⟨ho, h1, h2⟩
    all_goals
      unfold cmpOk cmpN FL.cmpI at *
      rw [ho]
      cases hn : FL.isNaN x <;> simp_all
  cases hn : FL.isNaN x with
  | true =>
    rw [hn] at ho
    rw [if_pos rfl]
    go_enter Tryz.func119, Tryz.ntmps119
    go_wp2
    go_ret
    exact ⟨rfl, rfl⟩
  | false =>
    rw [hn] at ho
    rw [if_neg (by decide)]
    go_enter Tryz.func119, Tryz.ntmps119
    go_wp2
    go_ret
    exact ⟨rfl, rfl⟩
theorem int_num (n : Int) (x : Nat) (hx : x < 2 ^ 64) (hn : FL.isNaN x = false) (w : World) (hcv : ∀ w, (convert 2 152 (.int .i64 n)).run Tryz.prog w = .ok (.float .f64 x) w) : Calls Tryz.prog 39 #[.int .i64 n] w fun e w' => e = .returned (.int .u64 x) ∧ w' = w := by
  have hb := fun w => bits_any x hx w
  rw [hn, if_neg (by decide)] at hb
  go_enter Tryz.func39, Tryz.ntmps39
  go_wp2_with (go_at_call 119; refine (hb _).mono ?_; rintro e w1 ⟨rfl, rfl⟩)
  go_ret
  exact ⟨rfl, rfl⟩
theorem int_one (w : World) : Calls Tryz.prog 39 #[.int .i64 1] w fun e w' => e = .returned (.int .u64 oneU.toNat) ∧ w' = w := int_num 1 oneU.toNat (by decide) (by decide) w (fun w => by kernel_rfl)
theorem int_zero (w : World) : Calls Tryz.prog 39 #[.int .i64 0] w fun e w' => e = .returned (.int .u64 (0 : UInt64).toNat) ∧ w' = w := int_num 0 (0 : UInt64).toNat (by decide) (by decide) w (fun w => by kernel_rfl)
theorem Tryz.neqFuncNil : ∀ w, (binOp .neq 97 .nilFunc .nilFunc).run Tryz.prog w = .ok (.bool false) w := fun w => by kernel_rfl
set_option maxHeartbeats 4000000 in
set_option maxRecDepth 100000 in
theorem numbers_cmp (op : Int) (hop : op = 8 ∨ op = 9 ∨ op = 10 ∨ op = 11 ∨ op = 12 ∨ op = 13) (isBool : Bool) (a b : UInt64) (w : World) :
    Calls Tryz.prog 10 #[.int .u8 op, .bool isBool, .int .u64 a.toNat, .int .u64 b.toNat] w fun e w' => e = .returned (.tuple #[.int .u64 (numC op isBool a b).1.toNat, .bool (numC op isBool a b).2, .int .u16 0]) ∧ Below w.heap.size w w' := by
  have hr := fun w => reckons_any op (by omega) (by omega) w
  have hv : reckV op = .nilFunc := by rcases hop with rfl | rfl | rfl | rfl | rfl | rfl <;> rfl
  rw [hv] at hr
  have hc := fun w => compares_any op w
  have hv2 : (decide (8 ≤ op) && decide (op ≤ 13)) = true := by rcases hop with rfl | rfl | rfl | rfl | rfl | rfl <;> rfl
  rw [hv2] at hc
  have hh := fun w => holds_any op hop a.toNat b.toNat a.toNat_lt b.toNat_lt w
  unfold numC
  generalize holdsB op a.toNat b.toNat = h at hh ⊢
  obtain ⟨u1, hu1⟩ : ∃ u, oneU = u := ⟨_, rfl⟩
  have H1 := int_one
  rw [hu1] at H1 ⊢
  have H0 := int_zero
  have hq := Tryz.neqFuncNil
  clear hu1
  cases isBool <;> cases h
  all_goals
    simp only [Bool.false_eq_true, if_false, if_true]
    go_enter Tryz.func10, Tryz.ntmps10
    go_wp2_with (first
      | (go_at_call 36; refine (hr _).mono ?_; rintro e w1 ⟨rfl, hb1⟩; have HB := Lib.hid hb1; clear hb1)
      | (go_at_call 37; refine (hc _).mono ?_; rintro e w1 ⟨rfl, rfl⟩)
      | (go_at_call 38; refine (hh _).mono ?_; rintro e w1 ⟨rfl, rfl⟩)
      | (go_at_call 39; first | (refine (H1 _).mono ?_; rintro e w1 ⟨rfl, rfl⟩) | (refine (H0 _).mono ?_; rintro e w1 ⟨rfl, rfl⟩)))
    exact bodyPost_ret (by simp [results, Tryz.results10, go_sem]) rfl ⟨rfl, HB.out⟩
end Go.Proofs.YtajaijidecomdaaGreatDoor
