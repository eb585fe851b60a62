/- num.Mul; vec.Numbers at a product. The law of VecFilters and of VecParts, with no program in sight. known() of chapter 25. -/
import Derived.Test.YtajaijidecomdaaGreatDoorG20
import Derived.Test.YtajaijidecomdaaGreatDoorVJoinW
import Derived.Laws.FloatArith
import Derived.Test.YtajaijidecomdaaGreatDoorG14
import Derived.Test.YtajaijidecomdaaGreatDoorG44
import Derived.Test.YtajaijidecomdaaGreatDoorVInt
import Derived.Test.YtajaijidecomdaaGreatDoorG39
namespace Go.Proofs.YtajaijidecomdaaGreatDoor
open Go.RowKit Go.Lib

/-- A product, a NaN made the one. -/
def mulN (a b : Nat) : Nat := match FloatKind.f64.format.mul a b with
  | some r => if FL.isNaN r then FL.theNaN else r
  | none => FL.theNaN
theorem nan_word (u v : Nat) (h1 : u < 2) (h2 : v < 2 ^ 52 - 1) : FL.isNaN (u * 2 ^ 63 + 0x7ff0000000000000 + 1 + v) = true ∧ u * 2 ^ 63 + 0x7ff0000000000000 + 1 + v < 2 ^ 64 := by
  unfold FL.isNaN FL.infR
  refine ⟨decide_eq_true ?_, ?_⟩
  · omega
  · omega
theorem run_mul_nan {P : Program} (w : World) (t : TypeId) (a b : Nat) (h : FloatKind.f64.format.mul a b = none) : ∃ r, FL.isNaN r = true ∧ r < 2 ^ 64 ∧ (binOp .mul t (.float .f64 a) (.float .f64 b)).run P w = .ok (.float .f64 r) w.drew := by
  refine ⟨(Question.nanBits .f64 a b).cut (w.tape w.drawn (.nanBits .f64 a b)), ?_, ?_, ?_⟩
  · exact (nan_word _ _ (Nat.mod_lt _ (by decide)) (Nat.mod_lt _ (by decide))).1
  · exact (nan_word _ _ (Nat.mod_lt _ (by decide)) (Nat.mod_lt _ (by decide))).2
  · simp [binOp, Op.floatArith, h, choose]
    rfl
set_option maxHeartbeats 1000000 in
theorem mul_any (a b : Nat) (w : World) : Calls Tryz.prog 113 #[.int .u64 a, .int .u64 b] w fun e w' => e = .returned (.int .u64 (mulN a b)) ∧ Below w.heap.size w w' := by
  have hof := fun a w => of_any a w
  unfold mulN
  cases h : FloatKind.f64.format.mul a b with
  | some r =>
    have hr : r < 2 ^ 64 := Ieee.double.mul_lt h
    have hm := fun w => run_float_arith (P := Tryz.prog) w .mul 152 .f64 a b r h
    have hb := fun w => bits_any r hr w
    simp only
    generalize (if FL.isNaN r then FL.theNaN else r : Nat) = y at hb ⊢
    clear h
    go_enter Tryz.func113, Tryz.ntmps113
    go_wp2_with (first | (go_at_call 166; refine (hof _ _).mono ?_; rintro e w' ⟨rfl, rfl⟩) | (go_at_call 119; refine (hb _).mono ?_; rintro e w' ⟨rfl, rfl⟩))
    go_ret
    exact ⟨rfl, Below.refl _ _⟩
  | none =>
    obtain ⟨r, hn, hr, hm⟩ := run_mul_nan (P := Tryz.prog) w 152 a b h
    have hb := fun w => bits_any r hr w
    rw [hn, if_pos rfl] at hb
    simp only
    generalize FL.theNaN = y at hb ⊢
    clear h hn
    go_enter Tryz.func113, Tryz.ntmps113
    go_wp2_with fail
    refine (hof _ _).mono ?_
    rintro e w' ⟨rfl, hw⟩
    rw [hw]
    clear hw w'
    go_wp2_with fail
    refine (hof _ _).mono ?_
    rintro e w' ⟨rfl, hw⟩
    rw [hw]
    clear hw w'
    go_wp2_with fail
    refine (hb _).mono ?_
    rintro e w' ⟨rfl, hw⟩
    rw [hw]
    clear hw w'
    go_wp2
    go_ret
    exact ⟨rfl, (Below.refl _ _).drew⟩
def mulU (a b : UInt64) : UInt64 := UInt64.ofNat (mulN a.toNat b.toNat)
theorem mulN_lt (a b : Nat) : mulN a b < 2 ^ 64 := by
  unfold mulN
  split
  · rename_i r h
    split
    · decide
    · exact Ieee.double.mul_lt h
  · decide
theorem Tryz.neqMulNil : ∀ w, (binOp .neq 97 (.func (.func 113) #[] #[]) .nilFunc).run Tryz.prog w = .ok (.bool true) w := fun w => by kernel_rfl
set_option maxHeartbeats 4000000 in
set_option maxRecDepth 100000 in
theorem numbers_mul : NumCon 3 false fun a b => (mulU a b, true) := by
  intro a b w
  have hr := fun w => reckons_any 3 (by omega) (by omega) w
  have hv : reckV 3 = .func (.func 113) #[] #[] := rfl
  rw [hv] at hr
  have hm := fun w => mul_any a.toNat b.toNat w
  have he : mulN a.toNat b.toNat = (mulU a b).toNat := by
    unfold mulU
    rw [UInt64.toNat_ofNat']
    exact (Nat.mod_eq_of_lt (mulN_lt _ _)).symm
  rw [he] at hm
  simp only
  generalize mulU a b = y at hm ⊢
  have hq := Tryz.neqMulNil
  clear hv he
  go_enter Tryz.func10, Tryz.ntmps10
  go_wp2_with (first
    | (go_at_call 36; refine (hr _).mono ?_; rintro e w1 ⟨rfl, hb1⟩; have HB := Lib.hid hb1; clear hb1)
    | (go_at_call 113; refine (hm _).mono ?_; rintro e w2 ⟨rfl, hb2⟩; have HB2 := Lib.hid (HB.out.trans (hb2.mono HB.out.size)); clear hb2))
  exact bodyPost_ret (by simp [results, Tryz.results10, go_sem]) rfl ⟨rfl, HB2.out⟩
theorem compares_mul : CmpCon 3 false := fun W => compares_any 3 W
end Go.Proofs.YtajaijidecomdaaGreatDoor
namespace Go.Proofs.YtajaijidecomdaaGreatDoor
open Go.RowKit Go.Lib Go.Sort

section
variable {op : Int} {s : UInt64} {left : Bool} {v : List El}
/-- Does an element stay? -/
def stays (op : Int) (s : UInt64) (left : Bool) (x : El) : Bool := holdsB op (if left then s else x.2).toNat (if left then x.2 else s).toNat
theorem filt_out (op : Int) (s : UInt64) (left : Bool) (v : List El) : numOut (numC op false) false s left v = v.filter (stays op s left) := by
  unfold numOut
  induction v with
  | nil => rfl
  | cons x v ih =>
    have e : (let r := if left then numC op false s x.2 else numC op false x.2 s; if !r.2 then none else if false then some (lessL x.1 [nameT], r.1) else some x) = if stays op s left x then some x else none := by
      unfold stays numC
      cases left
      · cases h : holdsB op x.2.toNat s.toNat <;> simp [h]
      · cases h : holdsB op s.toNat x.2.toNat <;> simp [h]
    rw [List.filterMap_cons, List.filter_cons, ih, e]
    cases stays op s left x <;> rfl
theorem bool_out (op : Int) (s : UInt64) (left : Bool) (v : List El) : ∃ f : El → UInt64, numOut (numC op true) true s left v = v.map fun x => (lessL x.1 [nameT], f x) := by
  refine ⟨fun x => (if left then numC op true s x.2 else numC op true x.2 s).1, ?_⟩
  unfold numOut
  induction v with
  | nil => rfl
  | cons x v ih =>
    rw [List.filterMap_cons, List.map_cons, ih]
    cases left <;> simp [numC]
theorem form_iff (v : List El) : formL v = true ↔ setsL v = true ∧ (v.map (·.1)).Nodup := by
  unfold formL
  rw [Bool.and_eq_true, Bool.not_eq_true', twiceL_iff]
theorem form_filter (h : formL v = true) (p : El → Bool) : formL (v.filter p) = true := by
  obtain ⟨h1, h2⟩ := (form_iff v).1 h
  refine (form_iff _).2 ⟨?_, h2.sublist (List.filter_sublist.map _)⟩
  unfold setsL at *
  rw [List.all_eq_true] at *
  exact fun x hx => h1 x (List.mem_filter.1 hx).1
theorem done_form (h : formL v = true) : doneL v = (0, srtL v) := by
  obtain ⟨h1, h2⟩ := (form_iff v).1 h
  unfold doneL
  rw [if_neg (by rw [(twiceL_iff v).2 h2]; decide), if_neg (by rw [h1]; decide)]
theorem filters_plain (h : formL v = true) : numberL (numC op false) false s left v = (0, (srtL v).filter (stays op s left)) := by
  unfold numberL
  rw [if_pos h, filt_out, done_form (form_filter h _)]
  exact congrArg _ (FL.sortE_filter elL_tot _ v)
theorem filters_bool (h : formL v = true) : ((numberL (numC op true) true s left v).1 = 252 ∧ (numberL (numC op true) true s left v).2 = []) ∨ ((numberL (numC op true) true s left v).1 = 0 ∧ (numberL (numC op true) true s left v).2.length = v.length) := by
  obtain ⟨f, hf⟩ := bool_out op s left v
  obtain ⟨h1, _⟩ := (form_iff v).1 h
  unfold numberL
  rw [if_pos h, hf]
  unfold doneL
  split
  · exact .inl ⟨rfl, rfl⟩
  · rw [if_neg]
    · exact .inr ⟨rfl, by rw [FL.sortE_len elL_tot, List.length_map]⟩
    · rw [Bool.not_eq_true', Bool.not_eq_false]
      unfold setsL at *
      rw [List.all_eq_true] at *
      intro x hx
      obtain ⟨y, hy, rfl⟩ := List.mem_map.1 hx
      exact decide_eq_true (checkE_filter (of_decide_eq_true (h1 y hy)) _)
theorem form_strict (h : formL v = true) : (srtL v).Pairwise fun x y => labelsC x.1 y.1 < 0 := FL.strict_sort labelsC_tot ((form_iff v).1 h).2
end
end Go.Proofs.YtajaijidecomdaaGreatDoor
namespace Go.Proofs.YtajaijidecomdaaGreatDoor
open Go.RowKit Go.Lib

def u2 : UInt64 := 0x4000000000000000
def u3 : UInt64 := 0x4008000000000000
def u6 : UInt64 := 0x4018000000000000
def lA1 : List Lb := [⟨⟨#[97]⟩, ⟨#[49]⟩⟩]
def lA2 : List Lb := [⟨⟨#[97]⟩, ⟨#[50]⟩⟩]
theorem law_gt : numberL (numC 10 false) (false || !true) u2 false [(lA1, u3)] = (0, [(lA1, u3)]) := by kernel_rfl
theorem law_mul : vecJoin (keyT false []) 0 (fun a b => (mulU a b, true)) (fun l _ => resL false [] (false && !false) l) [(lA1, u2)] [(lA1, u3)] = (0, [(lA1, u6)]) := by kernel_rfl
theorem law_unless : vecSift (keyT false []) false [(lA1, u2)] [(lA2, u3)] = (0, [(lA1, u2)]) := by kernel_rfl
/-- No matching: Matching{}. -/
def m0 : Mv := ⟨0, false, none, 0, 0, [], none, 0, 0, []⟩
theorem mat0 (w : World) : Mat w w.heap.size m0 := ⟨Lst.nil, fun _ => ⟨rfl, rfl⟩, Nat.zero_le _, by simp [m0], Lst.nil, fun _ => ⟨rfl, rfl⟩, Nat.zero_le _, by simp [m0]⟩
theorem e2 : ((u2.toNat : Nat) : Int) = 4611686018427387904 := by decide
theorem e3 : ((u3.toNat : Nat) : Int) = 4613937818241073152 := by decide
theorem e6 : ((u6.toNat : Nat) : Int) = 4618441417868443648 := by decide
def OneP (l : List Lb) (v : UInt64) (w : World) (e : Ending) (w' : World) : Prop := ∃ A c es, e = .returned (.slice A 1 c) ∧ Els w' w'.heap.size A 1 c es ∧ es.map Ev.el = [(l, v)] ∧ Below w.heap.size w w'
theorem one_12 (w : World) : Calls Tryz.prog 50 #[.string ⟨#[97]⟩, .string ⟨#[49]⟩, .int .u64 4611686018427387904] w (OneP lA1 u2 w) := by have h := one_any ⟨#[97]⟩ ⟨#[49]⟩ (by decide) (by decide) u2 w; rw [e2] at h; exact h
theorem one_13 (w : World) : Calls Tryz.prog 50 #[.string ⟨#[97]⟩, .string ⟨#[49]⟩, .int .u64 4613937818241073152] w (OneP lA1 u3 w) := by have h := one_any ⟨#[97]⟩ ⟨#[49]⟩ (by decide) (by decide) u3 w; rw [e3] at h; exact h
theorem one_16 (w : World) : Calls Tryz.prog 50 #[.string ⟨#[97]⟩, .string ⟨#[49]⟩, .int .u64 4618441417868443648] w (OneP lA1 u6 w) := by have h := one_any ⟨#[97]⟩ ⟨#[49]⟩ (by decide) (by decide) u6 w; rw [e6] at h; exact h
theorem one_23 (w : World) : Calls Tryz.prog 50 #[.string ⟨#[97]⟩, .string ⟨#[50]⟩, .int .u64 4613937818241073152] w (OneP lA2 u3 w) := by have h := one_any ⟨#[97]⟩ ⟨#[50]⟩ (by decide) (by decide) u3 w; rw [e3] at h; exact h
theorem fine_a1 : Fine lA1 := ⟨by decide, by decide⟩
/-- What came out can be read, where it is one element. -/
theorem out_one {w : World} {B : Nat} {v : Value} {os : List Ev} {u : UInt64} (h : OutEv w B v os) (he : os.map Ev.el = [(lA1, u)]) : ∃ A c, v = .slice A 1 c ∧ Els w w.heap.size A 1 c os := by
  have hl : os.length = 1 := by have := congrArg List.length he; simpa using this
  obtain ⟨A, c, rfl, _, _⟩ := owns_slice h.row
  rw [hl] at *
  refine ⟨A, c, rfl, (h.els (by omega) fun z hz => ?_).1⟩
  have h1 : z.el ∈ [(lA1, u)] := by rw [← he]; exact List.mem_map.2 ⟨z, hz, rfl⟩
  have h2 : z.l = lA1 := congrArg Prod.fst (List.mem_singleton.1 h1)
  rw [h2]
  exact fine_a1
theorem gt_con (A : Option Addr) (c : Nat) (es : List Ev) (w : World) (hE : Els w w.heap.size A 1 c es) (he : es.map Ev.el = [(lA1, u3)]) :
    Calls Tryz.prog 15 #[.int .u8 10, .bool false, .slice A 1 c, .int .u64 4611686018427387904, .bool false] w (DonePost (0, [(lA1, u3)]) w) := by
  have h := number_any 10 false true (numC 10 false) (fun a b W => numbers_cmp 10 (by omega) false a b W) (fun W => compares_any 10 W) A 1 c es u2 false w hE
  rw [he, law_gt, e2] at h
  exact h
theorem mul_con (A B : Option Addr) (c c' : Nat) (es fs : List Ev) (w : World) (hE : Els w w.heap.size A 1 c es) (hF : Els w w.heap.size B 1 c' fs) (he : es.map Ev.el = [(lA1, u2)]) (hf : fs.map Ev.el = [(lA1, u3)]) :
    Calls Tryz.prog 24 #[.int .u8 3, .bool false, .agg #[.int .u8 0, .bool false, .slice none 0 0, .slice none 0 0], .slice A 1 c, .slice B 1 c'] w (DonePost (0, [(lA1, u6)]) w) := by
  have h := vectors_join 3 (by omega) false false (fun a b => (mulU a b, true)) numbers_mul compares_mul m0 rfl A B 1 c 1 c' es fs w hE hF (mat0 w)
  rw [he, hf] at h
  have h2 := law_mul
  exact (show Calls _ _ _ _ (DonePost (vecJoin (keyT false []) 0 (fun a b => (mulU a b, true)) (fun l _ => resL false [] (false && !false) l) [(lA1, u2)] [(lA1, u3)]) w) from h).mono fun e w' h => by rw [h2] at h; exact h
theorem unless_con (A B : Option Addr) (c c' : Nat) (es fs : List Ev) (w : World) (hE : Els w w.heap.size A 1 c es) (hF : Els w w.heap.size B 1 c' fs) (he : es.map Ev.el = [(lA1, u2)]) (hf : fs.map Ev.el = [(lA2, u3)]) :
    Calls Tryz.prog 24 #[.int .u8 16, .bool false, .agg #[.int .u8 0, .bool false, .slice none 0 0, .slice none 0 0], .slice A 1 c, .slice B 1 c'] w (DonePost (0, [(lA1, u2)]) w) := by
  have h := vectors_sift false false m0 rfl A B 1 c 1 c' es fs w hE hF (mat0 w)
  rw [he, hf] at h
  have h2 := law_unless
  exact (show Calls _ _ _ _ (DonePost (vecSift (keyT false []) false [(lA1, u2)] [(lA2, u3)]) w) from h).mono fun e w' h => by rw [h2] at h; exact h
set_option maxHeartbeats 16000000 in
set_option maxRecDepth 100000 in
theorem known_any (w : World) : Calls Tryz.prog 12 #[] w fun e w' => e = .returned (.bool true) ∧ Below w.heap.size w w' := by
  go_enter Tryz.func12, Tryz.ntmps12
  go_wp2_with fail
  refine (ref_two _).mono ?_
  rintro e w1 ⟨rfl, b1⟩
  have B1 := Lib.hid b1
  clear b1
  go_wp2_with fail
  refine (ref_three _).mono ?_
  rintro e w2 ⟨rfl, b2⟩
  have B2 := Lib.hid (B1.out.trans (b2.mono B1.out.size))
  clear b2
  go_wp2_with fail
  refine (one_13 _).mono ?_
  rintro e w3 ⟨A3, c3, es3, rfl, h3, l3, b3⟩
  have B3 := Lib.hid (show _ ∧ _ ∧ _ from ⟨B2.out.trans (b3.mono B2.out.size), h3, l3⟩)
  clear h3 l3 b3
  go_wp2_with fail
  refine (gt_con A3 c3 es3 _ B3.out.2.1 B3.out.2.2).mono ?_
  rintro e w4 ⟨v4, os4, rfl, h4, l4, b4⟩
  obtain ⟨A4, c4, rfl, g4⟩ := out_one h4 l4
  have B4 := Lib.hid (show _ ∧ _ ∧ _ from ⟨B3.out.1.trans (b4.mono B3.out.1.size), g4, l4⟩)
  clear h4 l4 b4 g4
  go_wp2_with fail
  refine (one_12 _).mono ?_
  rintro e w5 ⟨A5, c5, es5, rfl, h5, l5, b5⟩
  have B5 := Lib.hid (show _ ∧ _ ∧ _ ∧ _ from ⟨B4.out.1.trans (b5.mono B4.out.1.size), h5, l5, B4.out.2.1.on b5⟩)
  clear h5 l5 b5
  go_wp2_with fail
  refine (one_13 _).mono ?_
  rintro e w6 ⟨A6, c6, es6, rfl, h6, l6, b6⟩
  have B6 := Lib.hid (show _ ∧ _ ∧ _ ∧ _ ∧ _ from ⟨B5.out.1.trans (b6.mono B5.out.1.size), h6, l6, B5.out.2.1.on b6, B5.out.2.2.2.on b6⟩)
  clear h6 l6 b6
  go_wp2_with fail
  refine (mul_con A5 A6 c5 c6 es5 es6 _ B6.out.2.2.2.1 B6.out.2.1 B5.out.2.2.1 B6.out.2.2.1).mono ?_
  rintro e w7 ⟨v7, os7, rfl, h7, l7, b7⟩
  obtain ⟨A7, c7, rfl, g7⟩ := out_one h7 l7
  have B7 := Lib.hid (show _ ∧ _ ∧ _ ∧ _ from ⟨B6.out.1.trans (b7.mono B6.out.1.size), g7, l7, B6.out.2.2.2.2.on b7⟩)
  clear h7 l7 b7 g7
  go_wp2_with fail
  refine (one_12 _).mono ?_
  rintro e w8 ⟨A8, c8, es8, rfl, h8, l8, b8⟩
  have B8 := Lib.hid (show _ ∧ _ ∧ _ ∧ _ ∧ _ from ⟨B7.out.1.trans (b8.mono B7.out.1.size), h8, l8, B7.out.2.1.on b8, B7.out.2.2.2.on b8⟩)
  clear h8 l8 b8
  go_wp2_with fail
  refine (one_23 _).mono ?_
  rintro e w9 ⟨A9, c9, es9, rfl, h9, l9, b9⟩
  have B9 := Lib.hid (show _ ∧ _ ∧ _ ∧ _ ∧ _ ∧ _ from ⟨B8.out.1.trans (b9.mono B8.out.1.size), h9, l9, B8.out.2.1.on b9, B8.out.2.2.2.1.on b9, B8.out.2.2.2.2.on b9⟩)
  clear h9 l9 b9
  go_wp2_with fail
  refine (unless_con A8 A9 c8 c9 es8 es9 _ B9.out.2.2.2.1 B9.out.2.1 B8.out.2.2.1 B9.out.2.2.1).mono ?_
  rintro e wa ⟨va, osa, rfl, ha, la, ba⟩
  obtain ⟨Aa, ca, rfl, ga⟩ := out_one ha la
  have Ba := Lib.hid (show _ ∧ _ ∧ _ ∧ _ ∧ _ from ⟨B9.out.1.trans (ba.mono B9.out.1.size), ga, la, B9.out.2.2.2.2.1.on ba, B9.out.2.2.2.2.2.on ba⟩)
  clear ha la ba ga
  go_wp2_with fail
  refine (one_13 _).mono ?_
  rintro e wb ⟨Ab, cb, esb, rfl, hb, lb, bb⟩
  have Bb := Lib.hid (show _ ∧ _ ∧ _ ∧ _ ∧ _ ∧ _ from ⟨Ba.out.1.trans (bb.mono Ba.out.1.size), hb, lb, Ba.out.2.1.on bb, Ba.out.2.2.2.1.on bb, Ba.out.2.2.2.2.on bb⟩)
  clear hb lb bb
  go_wp2_with fail
  refine (sameElems_true A4 Ab 1 c4 cb os4 esb _ Bb.out.2.2.2.2.2 Bb.out.2.1 (B4.out.2.2.trans Bb.out.2.2.1.symm)).mono ?_
  rintro e wc ⟨rfl, hq⟩
  have bc := below_drewLabel hq
  have Bc := Lib.hid (show _ ∧ _ ∧ _ from ⟨Bb.out.1.trans (bc.mono Bb.out.1.size), Bb.out.2.2.2.1.on bc, Bb.out.2.2.2.2.1.on bc⟩)
  clear hq bc
  go_wp2_with fail
  refine (ref_six _).mono ?_
  rintro e wd ⟨rfl, bd⟩
  have Bd := Lib.hid (show _ ∧ _ ∧ _ from ⟨Bc.out.1.trans (bd.mono Bc.out.1.size), Bc.out.2.1.on bd, Bc.out.2.2.on bd⟩)
  clear bd
  go_wp2_with fail
  refine (one_16 _).mono ?_
  rintro e we ⟨Ae, ce, ese, rfl, he, le, be⟩
  have Be := Lib.hid (show _ ∧ _ ∧ _ ∧ _ ∧ _ from ⟨Bd.out.1.trans (be.mono Bd.out.1.size), he, le, Bd.out.2.1.on be, Bd.out.2.2.on be⟩)
  clear he le be
  go_wp2_with fail
  refine (sameElems_true A7 Ae 1 c7 ce os7 ese _ Be.out.2.2.2.2 Be.out.2.1 (B7.out.2.2.1.trans Be.out.2.2.1.symm)).mono ?_
  rintro e wf ⟨rfl, hq⟩
  have bf := below_drewLabel hq
  have Bf := Lib.hid (show _ ∧ _ from ⟨Be.out.1.trans (bf.mono Be.out.1.size), Be.out.2.2.2.1.on bf⟩)
  clear hq bf
  go_wp2_with fail
  refine (one_12 _).mono ?_
  rintro e wg ⟨Ag, cg, esg, rfl, hg, lg, bg⟩
  have Bg := Lib.hid (show _ ∧ _ ∧ _ ∧ _ from ⟨Bf.out.1.trans (bg.mono Bf.out.1.size), hg, lg, Bf.out.2.on bg⟩)
  clear hg lg bg
  go_wp2_with fail
  refine (sameElems_true Aa Ag 1 ca cg osa esg _ Bg.out.2.2.2 Bg.out.2.1 (Ba.out.2.2.1.trans Bg.out.2.2.1.symm)).mono ?_
  rintro e wh ⟨rfl, hq⟩
  have bh := below_drewLabel hq
  have Bh := Lib.hid (Bg.out.1.trans (bh.mono Bg.out.1.size))
  clear hq bh
  go_wp2
  go_ret
  exact ⟨rfl, Bh.out⟩
end Go.Proofs.YtajaijidecomdaaGreatDoor
