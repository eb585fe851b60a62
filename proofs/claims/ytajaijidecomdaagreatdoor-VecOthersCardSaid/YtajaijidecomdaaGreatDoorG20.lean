/- vec.compares, holds, reckons. vec.Numbers at comparisons. vec.Number: an operator of a vector and a number. -/
import Derived.Test.YtajaijidecomdaaGreatDoorG14
import Derived.Test.YtajaijidecomdaaGreatDoorG19
import Derived.Test.YtajaijidecomdaaGreatDoorTurn7
namespace Go.Proofs.YtajaijidecomdaaGreatDoor
open Go.RowKit Go.Lib
open Go.Maps (Keyed)

theorem compares_any (op : Int) (w : World) : Calls Tryz.prog 37 #[.int .u8 op] w fun e w' => e = .returned (.bool (decide (8 ≤ op) && decide (op ≤ 13))) ∧ w' = w := by
  by_cases h1 : 8 ≤ op
  · have h1' : (8 : Int) ≤ op := h1
    rw [decide_eq_true h1, Bool.true_and]
    go_enter Tryz.func37, Tryz.ntmps37
    go_wp2
    go_ret
    exact ⟨rfl, rfl⟩
  · rw [decide_eq_false h1, Bool.false_and]
    go_enter Tryz.func37, Tryz.ntmps37
    go_wp2
    go_ret
    exact ⟨rfl, rfl⟩
set_option maxHeartbeats 2000000 in
theorem holds_any (op : Int) (hop : op = 8 ∨ op = 9 ∨ op = 10 ∨ op = 11 ∨ op = 12 ∨ op = 13) (a b : Nat) (ha : a < 2 ^ 64) (hb : b < 2 ^ 64) (w : World) :
    Calls Tryz.prog 38 #[.int .u8 op, .int .u64 a, .int .u64 b] w fun e w' => e = .returned (.bool (holdsB op a b)) ∧ w' = w := by
  have hcmp := fun w => cmp_any a b ha hb w
  unfold holdsB
  rcases order_cases ha hb with ⟨_, h1, h2⟩ | ⟨_, h1, h2⟩ | ⟨_, h1, h2⟩ | ⟨_, h1, h2⟩
  all_goals
    simp only [h1, h2] at hcmp ⊢
    clear h1 h2
    rcases hop with rfl | rfl | rfl | rfl | rfl | rfl
  all_goals
    go_enter Tryz.func38, Tryz.ntmps38
    go_wp2_with (go_at_call 118; refine (hcmp _).mono ?_; rintro e w' ⟨rfl, rfl⟩)
    go_ret
    exact ⟨rfl, rfl⟩
theorem wpList_insert_own {H : Type} {P : Program} (w : World) {ops : Array Oper} {rest : List Oper} {o : Oper} {a : Act} {Q : Exit → Act → World → Prop}
    (hg : o.guard = none) (m x v : Operand) (t : TypeId) (hop : o.op = Op.insert t m x v)
    (k e : TypeId) (K : Maps.Keyed P k) (ht : P.underlying t = some (.map k e)) (R : Value → Option (DataW H × List MemPlace)) (b n : Nat) (D : DataW H)
    (hm : a.eval m = .map (some b)) (hown : w.ownsMap P k R b n D) (hn : n < maxLen) (key val : Value) (kl : Lit) (hx : a.eval x = key) (hv : a.eval v = val) (hkey : keyOf P k key = some kl)
    (d : DataW H) (ps : List MemPlace) (hval : R val = some (d, ps))
    (hK : ∀ w', w'.ownsMap P k R b (n + 1) (D.put kl d) → w.grownBy w' (some b) → wpList P ops Q rest (a.put o.dst undef) w') :
    wpList P ops Q (o :: rest) a w := by
  refine wpList_plain hg fun K' hK' => ?_
  obtain ⟨w', hrun, r1, r2⟩ := hown.update K ht hn hkey hval
  unfold Oper.wp
  simp [execOp, hop, hm, hx, hv, hrun, Result.andThen]
  exact hK' _ _ (hK w' r1 r2)
theorem Tryz.keyedOp : Keyed Tryz.prog 22 := Maps.int_keyed Tryz.underlying22
theorem opLit (a : Int) (h : (Lit.int .u8 a).wf = true) : keyOf Tryz.prog 22 (.int .u8 a) = some (.int .u8 a) := Maps.keyOf_int_mk Tryz.underlying22 h
theorem Tryz.zeroReck : ∀ W, (zeroValue 97).run Tryz.prog W = .ok .nilFunc W := fun W => by kernel_rfl
/-- What reckons makes of an operator. -/
def reckV (op : Int) : Value :=
  if op = 1 then .func (.func 111) #[] #[] else if op = 2 then .func (.func 112) #[] #[] else if op = 3 then .func (.func 113) #[] #[] else if op = 4 then .func (.func 114) #[] #[] else
  if op = 5 then .func (.func 115) #[] #[] else if op = 6 then .func (.func 116) #[] #[] else if op = 7 then .func (.func 117) #[] #[] else .nilFunc
/-- The map of the operators. -/
def reckD : DataW Value := ((((((((DataW.map (H := Value) []).put (.int .u8 1) (.held (.func (.func 111) #[] #[]))).put (.int .u8 2) (.held (.func (.func 112) #[] #[]))).put (.int .u8 3) (.held (.func (.func 113) #[] #[]))).put (.int .u8 4) (.held (.func (.func 114) #[] #[]))).put (.int .u8 5) (.held (.func (.func 115) #[] #[]))).put (.int .u8 6) (.held (.func (.func 116) #[] #[]))).put (.int .u8 7) (.held (.func (.func 117) #[] #[])))
theorem atKey_u8 (a b : Int) (D : DataW Value) (hD : Maps.IsMap D) (v z : DataW Value) : (D.put (.int .u8 a) v).atKey (.int .u8 b) z = if b = a then v else D.atKey (.int .u8 b) z := by
  by_cases h : b = a
  · subst h
    rw [if_pos rfl, Maps.atKey_put_same hD (by trivial)]
  · rw [if_neg h, Maps.atKey_put_other (fun e => h (by injection e))]
theorem isMap_put {D : DataW Value} (h : Maps.IsMap D) (k : Lit) (v : DataW Value) : Maps.IsMap (D.put k v) := by
  obtain ⟨es, rfl⟩ := h
  exact ⟨_, rfl⟩
theorem reck_at (op : Int) : reckD.atKey (.int .u8 op) (.held .nilFunc) = .held (reckV op) := by
  have h0 : Maps.IsMap (DataW.map (H := Value) []) := ⟨_, rfl⟩
  unfold reckD reckV
  repeat rw [atKey_u8 _ _ _ (by repeat (first | exact h0 | apply isMap_put))]
  have e : (DataW.map (H := Value) []).atKey (.int .u8 op) (.held .nilFunc) = .held .nilFunc := rfl
  rw [e]
  repeat' split
  all_goals first | rfl | (exfalso; omega)
set_option maxHeartbeats 2000000 in
set_option maxRecDepth 100000 in
theorem reckons_any (op : Int) (h0 : 0 ≤ op) (h1 : op < 256) (w : World) : Calls Tryz.prog 36 #[.int .u8 op] w fun e w' => e = .returned (reckV op) ∧ Below w.heap.size w w' := by
  have hmm := @run_makeMap Tryz.prog
  have hko := opLit op (by unfold Lit.wf; simp [IntKind.min, IntKind.max, IntKind.signed, IntKind.bits]; omega)
  have HK := Lib.hid hko
  clear hko
  have hown0 := World.ownsMap_made w Tryz.prog 22 RV
  have hb0 : Below w.heap.size w (w.alloc (.map #[] 0)) := (Below.refl _ _).alloc (Nat.le_refl _) _
  have H0 := Lib.hid (show _ ∧ _ from ⟨hown0, hb0⟩)
  clear hown0 hb0
  go_enter Tryz.func36, Tryz.ntmps36
  go_wp2_with (first | (refine wpList_insert_own _ rfl _ _ _ 148 rfl 22 97 Tryz.keyedOp Tryz.underlying148 RV w.heap.size 0 _ rfl H0.out.1 (by unfold maxLen; omega) _ _ _ rfl rfl (opLit 1 rfl) (.held _) [] rfl ?_) | fail)
  intro w1 hown hg
  have H1 := Lib.hid (show _ ∧ _ from ⟨hown, H0.out.2.grown hg H0.out.2.size (fun j hj => by injection hj with hj; omega)⟩)
  clear hown hg
  go_wp2_with (first | (refine wpList_insert_own _ rfl _ _ _ 148 rfl 22 97 Tryz.keyedOp Tryz.underlying148 RV w.heap.size 1 _ rfl H1.out.1 (by unfold maxLen; omega) _ _ _ rfl rfl (opLit 2 rfl) (.held _) [] rfl ?_) | fail)
  intro w2 hown hg
  have H2 := Lib.hid (show _ ∧ _ from ⟨hown, H1.out.2.grown hg H1.out.2.size (fun j hj => by injection hj with hj; omega)⟩)
  clear hown hg
  go_wp2_with (first | (refine wpList_insert_own _ rfl _ _ _ 148 rfl 22 97 Tryz.keyedOp Tryz.underlying148 RV w.heap.size 2 _ rfl H2.out.1 (by unfold maxLen; omega) _ _ _ rfl rfl (opLit 3 rfl) (.held _) [] rfl ?_) | fail)
  intro w3 hown hg
  have H3 := Lib.hid (show _ ∧ _ from ⟨hown, H2.out.2.grown hg H2.out.2.size (fun j hj => by injection hj with hj; omega)⟩)
  clear hown hg
  go_wp2_with (first | (refine wpList_insert_own _ rfl _ _ _ 148 rfl 22 97 Tryz.keyedOp Tryz.underlying148 RV w.heap.size 3 _ rfl H3.out.1 (by unfold maxLen; omega) _ _ _ rfl rfl (opLit 4 rfl) (.held _) [] rfl ?_) | fail)
  intro w4 hown hg
  have H4 := Lib.hid (show _ ∧ _ from ⟨hown, H3.out.2.grown hg H3.out.2.size (fun j hj => by injection hj with hj; omega)⟩)
  clear hown hg
  go_wp2_with (first | (refine wpList_insert_own _ rfl _ _ _ 148 rfl 22 97 Tryz.keyedOp Tryz.underlying148 RV w.heap.size 4 _ rfl H4.out.1 (by unfold maxLen; omega) _ _ _ rfl rfl (opLit 5 rfl) (.held _) [] rfl ?_) | fail)
  intro w5 hown hg
  have H5 := Lib.hid (show _ ∧ _ from ⟨hown, H4.out.2.grown hg H4.out.2.size (fun j hj => by injection hj with hj; omega)⟩)
  clear hown hg
  go_wp2_with (first | (refine wpList_insert_own _ rfl _ _ _ 148 rfl 22 97 Tryz.keyedOp Tryz.underlying148 RV w.heap.size 5 _ rfl H5.out.1 (by unfold maxLen; omega) _ _ _ rfl rfl (opLit 6 rfl) (.held _) [] rfl ?_) | fail)
  intro w6 hown hg
  have H6 := Lib.hid (show _ ∧ _ from ⟨hown, H5.out.2.grown hg H5.out.2.size (fun j hj => by injection hj with hj; omega)⟩)
  clear hown hg
  go_wp2_with (first | (refine wpList_insert_own _ rfl _ _ _ 148 rfl 22 97 Tryz.keyedOp Tryz.underlying148 RV w.heap.size 6 _ rfl H6.out.1 (by unfold maxLen; omega) _ _ _ rfl rfl (opLit 7 rfl) (.held _) [] rfl ?_) | fail)
  intro w7 hown hg
  have H7 := Lib.hid (show _ ∧ _ from ⟨hown, H6.out.2.grown hg H6.out.2.size (fun j hj => by injection hj with hj; omega)⟩)
  clear hown hg
  go_wp2_with (first | (at_lookup; refine wpList_lookup_held _ rfl _ _ 148 rfl 22 97 Tryz.keyedOp Tryz.underlying148 .nilFunc (Tryz.zeroReck _) w.heap.size 7 _ rfl H7.out.1 _ (.int .u8 op) rfl HK.out (reckV op) (reck_at op) ?_) | fail)
  go_wp2
  go_ret
  exact ⟨rfl, H7.out.2⟩
end Go.Proofs.YtajaijidecomdaaGreatDoor
namespace Go.Proofs.YtajaijidecomdaaGreatDoor
open Go.RowKit Go.Lib

theorem bits_any (x : Nat) (hx : x < 2 ^ 64) (w : World) : Calls Tryz.prog 119 #[.float .f64 x] w fun e w' => e = .returned (.int .u64 (if FL.isNaN x then FL.theNaN else x : Nat)) ∧ w' = w := by
  have hb := fun w => Tryz.run_bits x w
  have ho : (FloatKind.f64.format.order x x != some .eq) = FL.isNaN x := by
    rcases order_cases hx hx with ⟨ho, h1, h2⟩ | ⟨ho, h1, h2⟩ | ⟨ho, h1, h2⟩ | ⟨ho, h1, h2⟩
    all_goals
      unfold cmpOk cmpN FL.cmpI at *
      rw [ho]
      cases hn : FL.isNaN x <;> simp_all
  cases hn : FL.isNaN x with
  | true =>
    rw [hn] at ho
    rw [if_pos rfl]
    go_enter Tryz.func119, Tryz.ntmps119
    go_wp2
    go_ret
    exact ⟨rfl, rfl⟩
  | false =>
    rw [hn] at ho
    rw [if_neg (by decide)]
    go_enter Tryz.func119, Tryz.ntmps119
    go_wp2
    go_ret
    exact ⟨rfl, rfl⟩
theorem int_num (n : Int) (x : Nat) (hx : x < 2 ^ 64) (hn : FL.isNaN x = false) (w : World) (hcv : ∀ w, (convert 2 152 (.int .i64 n)).run Tryz.prog w = .ok (.float .f64 x) w) : Calls Tryz.prog 39 #[.int .i64 n] w fun e w' => e = .returned (.int .u64 x) ∧ w' = w := by
  have hb := fun w => bits_any x hx w
  rw [hn, if_neg (by decide)] at hb
  go_enter Tryz.func39, Tryz.ntmps39
  go_wp2_with (go_at_call 119; refine (hb _).mono ?_; rintro e w1 ⟨rfl, rfl⟩)
  go_ret
  exact ⟨rfl, rfl⟩
theorem int_one (w : World) : Calls Tryz.prog 39 #[.int .i64 1] w fun e w' => e = .returned (.int .u64 oneU.toNat) ∧ w' = w := int_num 1 oneU.toNat (by decide) (by decide) w (fun w => by kernel_rfl)
theorem int_zero (w : World) : Calls Tryz.prog 39 #[.int .i64 0] w fun e w' => e = .returned (.int .u64 (0 : UInt64).toNat) ∧ w' = w := int_num 0 (0 : UInt64).toNat (by decide) (by decide) w (fun w => by kernel_rfl)
theorem Tryz.neqFuncNil : ∀ w, (binOp .neq 97 .nilFunc .nilFunc).run Tryz.prog w = .ok (.bool false) w := fun w => by kernel_rfl
set_option maxHeartbeats 4000000 in
set_option maxRecDepth 100000 in
theorem numbers_cmp (op : Int) (hop : op = 8 ∨ op = 9 ∨ op = 10 ∨ op = 11 ∨ op = 12 ∨ op = 13) (isBool : Bool) (a b : UInt64) (w : World) :
    Calls Tryz.prog 10 #[.int .u8 op, .bool isBool, .int .u64 a.toNat, .int .u64 b.toNat] w fun e w' => e = .returned (.tuple #[.int .u64 (numC op isBool a b).1.toNat, .bool (numC op isBool a b).2, .int .u16 0]) ∧ Below w.heap.size w w' := by
  have hr := fun w => reckons_any op (by omega) (by omega) w
  have hv : reckV op = .nilFunc := by rcases hop with rfl | rfl | rfl | rfl | rfl | rfl <;> rfl
  rw [hv] at hr
  have hc := fun w => compares_any op w
  have hv2 : (decide (8 ≤ op) && decide (op ≤ 13)) = true := by rcases hop with rfl | rfl | rfl | rfl | rfl | rfl <;> rfl
  rw [hv2] at hc
  have hh := fun w => holds_any op hop a.toNat b.toNat a.toNat_lt b.toNat_lt w
  unfold numC
  generalize holdsB op a.toNat b.toNat = h at hh ⊢
  obtain ⟨u1, hu1⟩ : ∃ u, oneU = u := ⟨_, rfl⟩
  have H1 := int_one
  rw [hu1] at H1 ⊢
  have H0 := int_zero
  have hq := Tryz.neqFuncNil
  clear hu1
  cases isBool <;> cases h
  all_goals
    simp only [Bool.false_eq_true, if_false, if_true]
    go_enter Tryz.func10, Tryz.ntmps10
    go_wp2_with (first
      | (go_at_call 36; refine (hr _).mono ?_; rintro e w1 ⟨rfl, hb1⟩; have HB := Lib.hid hb1; clear hb1)
      | (go_at_call 37; refine (hc _).mono ?_; rintro e w1 ⟨rfl, rfl⟩)
      | (go_at_call 38; refine (hh _).mono ?_; rintro e w1 ⟨rfl, rfl⟩)
      | (go_at_call 39; first | (refine (H1 _).mono ?_; rintro e w1 ⟨rfl, rfl⟩) | (refine (H0 _).mono ?_; rintro e w1 ⟨rfl, rfl⟩)))
    exact bodyPost_ret (by simp [results, Tryz.results10, go_sem]) rfl ⟨rfl, HB.out⟩
end Go.Proofs.YtajaijidecomdaaGreatDoor
namespace Go.Proofs.YtajaijidecomdaaGreatDoor
open Go.RowKit Go.Lib Go.Sort

/-- Where an element's labels lie: in what came in, or in memory of the call's own. -/
def Src (w wr : World) (o : Ev) : Prop := Eat w w.heap.size o ∨ (wr.ownsRow w.heap.size 104 2 (valE o) o.n (o.l.flatMap Lb.cells) ∧ Fine o.l)
theorem Src.below {w wr w' : World} {o : Ev} (h : Src w wr o) (hb : Below wr.heap.size wr w') : Src w w' o := h.imp_right fun h => ⟨owns_below h.1 hb, h.2⟩
theorem Src.kept {w wr w' : World} {o : Ev} {v : Value} {n s B : Nat} {xs : List Value} (h : Src w wr o) (hr : wr.ownsRow B 90 s v n xs) (hg : wr.grownBy w' v.ownBlock) : Src w w' o := h.imp_right fun h => ⟨h.1.kept hg (owns_apart h.1 hr (by decide)), h.2⟩
theorem Src.eat {w wr : World} {o : Ev} (h : Src w wr o) (hb : Below w.heap.size w wr) : Eat wr wr.heap.size o := by
  rcases h with h | ⟨h, hf⟩
  · exact h.on hb
  · obtain ⟨h1, h2, h3⟩ := owns_lst h Lb.len (by omega)
    exact ⟨h1, h2, by rw [← h3]; exact hf.1, hf.2⟩
/-- A row of such elements can be read. -/
theorem row_els {w wr : World} {A : Option Addr} {n c : Nat} {os : List Ev} (hr : wr.ownsRow w.heap.size 90 2 (.slice A n c) n (os.flatMap encEv)) (hs : ∀ o ∈ os, Src w wr o) (hb : Below w.heap.size w wr) (hn : n ≤ 100000) : Els wr wr.heap.size A n c os := by
  obtain ⟨h1, h2, _⟩ := owns_lst hr encEv_len (by omega)
  exact ⟨h1, h2, hn, fun o ho => (hs o ho).eat hb⟩
theorem numOut_snoc (nf : UInt64 → UInt64 → UInt64 × Bool) (fresh : Bool) (s : UInt64) (left : Bool) (v : List El) (x : El) : numOut nf fresh s left (v ++ [x]) = numOut nf fresh s left v ++ (if (if left then nf s x.2 else nf x.2 s).2 then [if fresh then (lessL x.1 [nameT], (if left then nf s x.2 else nf x.2 s).1) else x] else []) := by
  unfold numOut
  rw [List.filterMap_append]
  congr 1
  simp only [List.filterMap_cons, List.filterMap_nil]
  generalize (if left = true then nf s x.2 else nf x.2 s) = r
  obtain ⟨y, b⟩ := r
  cases b <;> cases fresh <;> simp
theorem box_two {w : World} {b : Nat} {u v : Value} {e : TypeId} (h : w.heap[b]? = some (Obj.cells #[u, v] e (0, 0))) : w.cell? ⟨b, 0, none⟩ = some u ∧ w.cell? ⟨b, 1, none⟩ = some v ∧ w.frozen? ⟨b, 0, none⟩ = false ∧ w.frozen? ⟨b, 1, none⟩ = false :=
  ⟨by rw [cell_of_row w b 0 _ _ _ h]; rfl, by rw [cell_of_row w b 1 _ _ _ h]; rfl, by unfold World.frozen?; rw [show w.heap[b]? = _ from h]; rfl, by unfold World.frozen?; rw [show w.heap[b]? = _ from h]; rfl⟩
/-- The loop's state. -/
structure NumSt (w wr : World) (nf : UInt64 → UInt64 → UInt64 × Bool) (fresh : Bool) (s : UInt64) (left : Bool) (es : List Ev) (k : Nat) (v : Value) (os : List Ev) : Prop where
  row : wr.ownsRow w.heap.size 90 2 v os.length (os.flatMap encEv)
  src : ∀ o ∈ os, Src w wr o
  el : os.map Ev.el = numOut nf fresh s left ((es.take k).map Ev.el)
  old : Below w.heap.size w wr
  few : os.length ≤ k
theorem NumSt.skip {w wr w' : World} {nf : UInt64 → UInt64 → UInt64 × Bool} {fresh : Bool} {s : UInt64} {left : Bool} {es : List Ev} {k : Nat} {v : Value} {os : List Ev} {x : Ev} (h : NumSt w wr nf fresh s left es k v os) (hx : es[k]? = some x) (hb : Below wr.heap.size wr w') (hf : (if left then nf s x.v else nf x.v s).2 = false) : NumSt w w' nf fresh s left es (k + 1) v os := by
  obtain ⟨hk, he⟩ := List.getElem?_eq_some_iff.1 hx
  refine ⟨owns_below h.row hb, fun o ho => (h.src o ho).below hb, ?_, h.old.trans (hb.mono h.old.size), by have := h.few; omega⟩
  rw [List.take_succ_eq_append_getElem hk, he, List.map_append, List.map_singleton, numOut_snoc, h.el, show x.el.2 = x.v from rfl, hf]
  simp
theorem NumSt.add {w wr wa wz : World} {nf : UInt64 → UInt64 → UInt64 × Bool} {fresh : Bool} {s : UInt64} {left : Bool} {es : List Ev} {k : Nat} {v v' : Value} {os : List Ev} {x o : Ev} (h : NumSt w wr nf fresh s left es k v os) (hx : es[k]? = some x) (hba : Below wr.heap.size wr wa)
    (ho : Src w wa o) (hr : wz.ownsRow w.heap.size 90 2 v' (os.length + 1) (os.flatMap encEv ++ encEv o)) (hg : wa.grownBy wz v.ownBlock) (hf : (if left then nf s x.v else nf x.v s).2 = true) (he : o.el = if fresh then (lessL x.l [nameT], (if left then nf s x.v else nf x.v s).1) else x.el) : NumSt w wz nf fresh s left es (k + 1) v' (os ++ [o]) := by
  obtain ⟨hk, hxe⟩ := List.getElem?_eq_some_iff.1 hx
  have hra := owns_below h.row hba
  refine ⟨by rw [List.length_append, List.length_singleton, List.flatMap_append, List.flatMap_singleton]; exact hr, fun q hq => ?_, ?_, ?_, by have := h.few; simp; omega⟩
  · rcases List.mem_append.1 hq with hq | hq
    · exact ((h.src q hq).below hba).kept hra hg
    · rw [List.mem_singleton.1 hq]; exact ho.kept hra hg
  · rw [List.take_succ_eq_append_getElem hk, hxe, List.map_append, List.map_append, List.map_singleton, List.map_singleton, numOut_snoc, h.el, show x.el.2 = x.v from rfl, hf, he]
    rfl
  · exact (h.old.trans (hba.mono h.old.size)).grown hg (Nat.le_trans h.old.size hba.size) (fun j hj => (hra.lt j hj).1)
theorem encTx_name (W : World) : Lst encTx 1 (W.alloc (.cells #[.string nameT] 9)) (W.alloc (.cells #[.string nameT] 9)).heap.size (some ⟨W.heap.size, 0, none⟩) 1 [nameT] :=
  ⟨rfl, fun _ => ⟨W.heap.size, 0, rfl, by simp, fun k x hx i u hu => by
    have hk := (List.getElem?_eq_some_iff.1 hx).1
    obtain rfl : k = 0 := by simpa using hk
    obtain rfl : nameT = x := by simpa using hx
    have hi := (List.getElem?_eq_some_iff.1 hu).1
    obtain rfl : i = 0 := by simpa [encTx] using hi
    obtain rfl : Value.string nameT = u := by simpa [encTx] using hu
    simp⟩⟩
theorem src_new {w w4 : World} {A : Option Addr} {m c B box : Nat} {R : List Lb} {y : UInt64} {a b : Value} (ho : w4.ownsRow B 104 2 (.slice A m c) m (R.flatMap Lb.cells)) (hB : w.heap.size ≤ B) (hbox : box < B) (hf : Fine R) (o : Obj) :
    Src w (((w4.setCell ⟨box, 0, none⟩ a).setCell ⟨box, 1, none⟩ b).alloc o) ⟨A, m, c, R, y⟩ := by
  have h1 : (Value.slice A m c).ownBlock ≠ some box := fun e => by have := (ho.lt box e).1; omega
  exact .inr ⟨(owns_set_other (owns_set_other (owns_base ho hB) (p := ⟨box, 0, none⟩) h1 a) (p := ⟨box, 1, none⟩) h1 b).alloc o, hf⟩
/-- What Number hands back. -/
abbrev NumberPost := DonePost
set_option maxHeartbeats 8000000 in
set_option maxRecDepth 100000 in
theorem number_any (op : Int) (isBool cb : Bool) (nf : UInt64 → UInt64 → UInt64 × Bool)
    (hnum : ∀ (a b : UInt64) (W : World), Calls Tryz.prog 10 #[.int .u8 op, .bool isBool, .int .u64 a.toNat, .int .u64 b.toNat] W fun e w' => e = .returned (.tuple #[.int .u64 (nf a b).1.toNat, .bool (nf a b).2, .int .u16 0]) ∧ Below W.heap.size W w')
    (hcmp : ∀ W, Calls Tryz.prog 37 #[.int .u8 op] W fun e w' => e = .returned (.bool cb) ∧ w' = W)
    (A : Option Addr) (n c : Nat) (es : List Ev) (s : UInt64) (left : Bool) (w : World) (hE : Els w w.heap.size A n c es) :
    Calls Tryz.prog 15 #[.int .u8 op, .bool isBool, .slice A n c, .int .u64 s.toNat, .bool left] w (DonePost (numberL nf (isBool || !cb) s left (es.map Ev.el)) w) := by
  have hform := fun w1 (hb : Below w.heap.size w w1) => form_any A n c es w1 (hE.on hb)
  unfold numberL
  obtain ⟨f, hf⟩ : ∃ f, formL (es.map Ev.el) = f := ⟨_, rfl⟩
  rw [hf] at hform ⊢
  have hn := hE.few
  have hln := hE.lst.1
  have h00 := hnum 0 0
  have HC := Lib.hid (show _ ∧ _ ∧ _ ∧ _ from ⟨h00, hform, hE, hnum⟩)
  clear hform hf h00 hE hnum
  cases f with
  | false =>
    rw [if_neg (by decide)]
    go_enter Tryz.func15, Tryz.ntmps15
    go_wp2_with (first
      | (go_at_call 10; refine (HC.out.1 _).mono ?_; rintro e w1 ⟨rfl, hb1⟩; have H1 := Lib.hid hb1; clear hb1)
      | (go_at_call 52; refine (HC.out.2.1 _ H1.out).mono ?_; rintro e w2 ⟨rfl, hb2⟩; have H2 := Lib.hid (H1.out.trans (hb2.mono H1.out.size)); clear hb2))
    exact bodyPost_ret (v := .tuple #[.slice none 0 0, .int .u16 253]) (by simp [results, Tryz.results15, go_sem]) rfl ⟨.slice none 0 0, [], rfl, OutEv.nil _ _, rfl, H2.out⟩
  | true =>
    rw [if_pos rfl]
    obtain ⟨i0, hi, hz0, hz1, hz2⟩ := info_parts Tryz.infoElem
    have HI := Lib.hid (show _ ∧ _ ∧ _ ∧ _ from ⟨hi, hz0, hz1, hz2⟩)
    clear hi hz0 hz1 hz2
    go_enter Tryz.func15, Tryz.ntmps15
    go_wp2_with (first
      | (go_at_call 10; refine (HC.out.1 _).mono ?_; rintro e w1 ⟨rfl, hb1⟩; have H1 := Lib.hid hb1; clear hb1)
      | (go_at_call 52; refine (HC.out.2.1 _ H1.out).mono ?_; rintro e w2 ⟨rfl, hb2⟩; have H2 := Lib.hid (H1.out.trans (hb2.mono H1.out.size)); clear hb2))
    go_loopw [15, 38] (fun v iv wr => ∃ (k : Nat) (os : List Ev), k ≤ n ∧ iv = .int .i64 k ∧ Hid (NumSt w wr nf (isBool || !cb) s left es k v os)) (fun _ iv _ => n - (intOf iv).toNat)
    case atStart => exact ⟨0, [], Nat.zero_le _, rfl, Lib.hid ⟨World.ownsRow_nil _ _ _ _, by simp, rfl, H2.out, Nat.le_refl _⟩⟩
    case round =>
      obtain ⟨k, os, hk, rfl, HR⟩ := hrel
      by_cases hlt : k < n
      · obtain ⟨b, off, x, rfl, hb, hx, hcl⟩ := HC.out.2.2.1.lst.at hlt
        have c0 := (HR.out.old.cell (p := ⟨b, off + k * 2 + 0, none⟩) hb).trans (hcl 0 _ rfl)
        have c1 := (HR.out.old.cell (p := ⟨b, off + k * 2 + 1, none⟩) hb).trans (hcl 1 _ rfl)
        simp only [Nat.add_zero] at c0
        have hxE := HC.out.2.2.1.each x (List.mem_of_getElem? hx)
        have hnx := fun W => HC.out.2.2.2 (if left then s else x.v) (if left then x.v else s) W
        have hfew := HR.out.few
        have hsz := HR.out.old.size
        have hr2 : (nf (if left then s else x.v) (if left then x.v else s)) = (if left then nf s x.v else nf x.v s) := by cases left <;> rfl
        obtain ⟨y, hy⟩ : ∃ y, (if left then nf s x.v else nf x.v s).1 = y := ⟨_, rfl⟩
        obtain ⟨ok, hok⟩ : ∃ ok, (if left then nf s x.v else nf x.v s).2 = ok := ⟨_, rfl⟩
        rw [hr2, hy, hok] at hnx
        have HX := Lib.hid (show _ ∧ _ ∧ _ ∧ _ from ⟨hx, hxE, hok, hy⟩)
        have HN := Lib.hid hnx
        clear hx hxE hcl hnx hr2 hok hy
        obtain ⟨hi, hz0, hz1, hz2⟩ := HI.out
        cases ok with
        | false =>
          cases left with
          | false =>
            go_wp2_with (first | (go_at_call 10; refine (HN.out _).mono ?_; rintro e w3 ⟨rfl, hb3⟩; have H3 := Lib.hid (((Below.refl _ wr).alloc (Nat.le_refl _) _).trans (hb3.mono (by simp))); clear hb3))
            go_roundw
            case measure => simp [intOf]; omega
            case rel => exact ⟨k + 1, os, hlt, by simp, Lib.hid (HR.out.skip HX.out.1 H3.out HX.out.2.2.1)⟩
          | true =>
            go_wp2_with (first | (go_at_call 10; refine (HN.out _).mono ?_; rintro e w3 ⟨rfl, hb3⟩; have H3 := Lib.hid (((Below.refl _ wr).alloc (Nat.le_refl _) _).trans (hb3.mono (by simp))); clear hb3))
            go_roundw
            case measure => simp [intOf]; omega
            case rel => exact ⟨k + 1, os, hlt, by simp, Lib.hid (HR.out.skip HX.out.1 H3.out HX.out.2.2.1)⟩
        | true =>
          cases left <;> cases isBool <;> cases cb
          all_goals
            go_wp2_with (first
              | (go_at_call 10; refine (HN.out _).mono ?_; rintro e w3 ⟨rfl, hb3⟩; have hbox3 := (hb3.block wr.heap.size (by simp)).trans (heap_alloc_new wr _); obtain ⟨x0, x1, f0, f1⟩ := box_two hbox3; have H3 := Lib.hid (show _ ∧ _ from ⟨((Below.refl _ wr).alloc (Nat.le_refl _) _).trans (hb3.mono (by simp)), hbox3⟩); have hs3 : wr.heap.size < w3.heap.size := (by have := hb3.size; simp at this; omega); have hra3 := owns_below HR.out.row H3.out.1; clear hb3 hbox3)
              | (go_at_call 37; refine (hcmp _).mono ?_; rintro e w' ⟨rfl, hw⟩; rw [hw]; clear hw w')
              | (go_at_call 53; refine (without_any x.A (some ⟨w3.heap.size, 0, none⟩) x.n x.c 1 1 x.l [nameT] _ (((HX.out.2.1.on HR.out.old).on H3.out.1).on ((Below.refl _ w3).alloc (Nat.le_refl _) _)).lst (encTx_name w3) (by have := HX.out.2.1.few; omega) (by omega) (fun q hq => by have := (HX.out.2.1.sz q hq).1; unfold maxLen; omega) (fun q hq => by rw [List.mem_singleton.1 hq]; decide)).mono ?_; rintro e w4 ⟨v4, rfl, ho4, hb4⟩; obtain ⟨A4, c4, rfl, _, _⟩ := owns_slice ho4; have hbox4 := (hb4.block wr.heap.size (by simp; omega)).trans ((heap_alloc_old w3 _ (by omega)).trans H3.out.2); obtain ⟨y0, y1, g0, g1⟩ := box_two hbox4; have hs4 : w3.heap.size < w4.heap.size := (by have := hb4.size; simp at this; omega); have H4 := Lib.hid (show _ ∧ _ ∧ _ from ⟨src_new (w := w) (box := wr.heap.size) (y := y) (a := .slice A4 (lessL x.l [nameT]).length c4) (b := .int .u64 y.toNat) ho4 (by simp; omega) (by simp; omega) (fine_filter HX.out.2.1.fine _) (.cells #[.slice A4 (lessL x.l [nameT]).length c4, .int .u64 y.toNat] 90), (((H3.out.1.trans (((Below.refl w3.heap.size w3).alloc (Nat.le_refl _) (.cells #[.string nameT] 9)).trans (hb4.mono (by simp)) |>.mono (by omega))).setCell (p := ⟨wr.heap.size, 0, none⟩) (Nat.le_refl _) (.slice A4 (lessL x.l [nameT]).length c4)).setCell (p := ⟨wr.heap.size, 1, none⟩) (Nat.le_refl _) (.int .u64 y.toNat)).alloc (by simp; omega) (.cells #[.slice A4 (lessL x.l [nameT]).length c4, .int .u64 y.toNat] 90), hbox4⟩); have hra4 := owns_below HR.out.row H4.out.2.1; have hcl4 : ∀ j u, (encEv ⟨A4, (lessL x.l [nameT]).length, c4, lessL x.l [nameT], y⟩)[j]? = some u → (((w4.setCell ⟨wr.heap.size, 0, none⟩ (.slice A4 (lessL x.l [nameT]).length c4)).setCell ⟨wr.heap.size, 1, none⟩ (.int .u64 y.toNat)).alloc (.cells #[.slice A4 (lessL x.l [nameT]).length c4, .int .u64 y.toNat] 90)).cell? ((⟨w4.heap.size, 0, none⟩ : Addr).add j) = some u := (by have h := cells_newL ((w4.setCell ⟨wr.heap.size, 0, none⟩ (.slice A4 (lessL x.l [nameT]).length c4)).setCell ⟨wr.heap.size, 1, none⟩ (.int .u64 y.toNat)) [.slice A4 (lessL x.l [nameT]).length c4, .int .u64 y.toNat] 90; rw [World.size_setCell, World.size_setCell] at h; exact h); clear ho4 hb4 hbox4 x0 x1 f0 f1)
              | (at_builtin; refine wpList_append_own _ rfl _ _ 33 rfl w.heap.size 90 i0 _ 2 32 Tryz.underlying33 hi hz0 hz1 hz2 rfl (by omega) _ os.length (os.flatMap encEv) rfl (hra3.alloc _) ⟨w3.heap.size, 0, none⟩ 1 1 (encEv x) rfl rfl (cells_newL w3 (encEv x) _) (by simp [Value.oneCell', encEv]) (by unfold maxLen; omega) (by omega) (by simp; omega) ?_)
              | (at_builtin; refine wpList_append_own _ rfl _ _ 33 rfl w.heap.size 90 i0 _ 2 32 Tryz.underlying33 hi hz0 hz1 hz2 rfl (by omega) _ os.length (os.flatMap encEv) rfl hra4 ⟨w4.heap.size, 0, none⟩ 1 1 (encEv ⟨A4, (lessL x.l [nameT]).length, c4, lessL x.l [nameT], y⟩) rfl rfl hcl4 (by simp [Value.oneCell', encEv]) (by unfold maxLen; omega) (by omega) (by simp; omega) ?_)
              | fail)
            intro v5 w5 hown5 hg5 _
            have H5 := Lib.hid (show _ ∧ _ from ⟨hown5, hg5⟩)
            clear hown5 hg5 hi hz0 hz1 hz2
            go_wp2
            go_roundw
            case measure => simp [intOf]; omega
            case rel =>
              first
                | exact ⟨k + 1, _, hlt, by simp, Lib.hid (HR.out.add HX.out.1 (H3.out.1.alloc (by omega) _) (.inl HX.out.2.1) H5.out.1 H5.out.2 HX.out.2.2.1 rfl)⟩
                | exact ⟨k + 1, _, hlt, by simp, Lib.hid (HR.out.add HX.out.1 H4.out.2.1 H4.out.1 H5.out.1 H5.out.2 HX.out.2.2.1 (by rw [← HX.out.2.2.2]; simp [Ev.el]))⟩
      · obtain rfl : k = n := by omega
        have hel := HR.out.el
        rw [List.take_of_length_le (by omega)] at hel
        have hfew := HR.out.few
        obtain ⟨A3, c3, rfl, _, _⟩ := owns_slice HR.out.row
        have hels := row_els HR.out.row HR.out.src HR.out.old (by omega)
        have hd := done_any A3 os.length c3 os _ hels
        rw [hel] at hd
        have HD := Lib.hid (show _ ∧ _ from ⟨hd, HR.out.old⟩)
        clear hels hd hel HR
        go_wp2_with fail
        refine HD.out.1.mono ?_
        rintro e w4 ⟨v4, os4, rfl, hO, hm, hb4⟩
        have HF := Lib.hid (show _ ∧ _ ∧ _ from ⟨hO.base HD.out.2.size, hm, HD.out.2.trans (hb4.mono HD.out.2.size)⟩)
        clear hO hm hb4
        go_wp2
        exact bodyPost_ret (by simp [results, Tryz.results15, go_sem]) rfl ⟨v4, os4, rfl, HF.out.1, HF.out.2.1, HF.out.2.2⟩
end Go.Proofs.YtajaijidecomdaaGreatDoor
