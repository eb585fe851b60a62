/- num.Mul; vec.Numbers at a product. The checker's SameElems; one; long. The law of VecFilters and of VecParts, with no program in sight. -/
import Derived.Test.YtajaijidecomdaaGreatDoorG29
import Derived.Test.YtajaijidecomdaaGreatDoorVJoinW
import Derived.Laws.FloatArith
import Derived.Test.YtajaijidecomdaaGreatDoorVEl
import Derived.Deep.QuietTactic
import Derived.BigQuiet
import Derived.Test.YtajaijidecomdaaGreatDoorG26
namespace Go.Proofs.YtajaijidecomdaaGreatDoor
open Go.RowKit Go.Lib

/-- A product, a NaN made the one. -/
def mulN (a b : Nat) : Nat := match FloatKind.f64.format.mul a b with
  | some r => if FL.isNaN r then FL.theNaN else r
  | none => FL.theNaN
theorem nan_word (u v : Nat) (h1 : u < 2) (h2 : v < 2 ^ 52 - 1) : FL.isNaN (u * 2 ^ 63 + 0x7ff0000000000000 + 1 + v) = true ∧ u * 2 ^ 63 + 0x7ff0000000000000 + 1 + v < 2 ^ 64 := by
  unfold FL.isNaN FL.infR
  refine ⟨decide_eq_true ?_, ?_⟩
  · omega
  · omega
theorem run_mul_nan {P : Program} (w : World) (t : TypeId) (a b : Nat) (h : FloatKind.f64.format.mul a b = none) : ∃ r, FL.isNaN r = true ∧ r < 2 ^ 64 ∧ (binOp .mul t (.float .f64 a) (.float .f64 b)).run P w = .ok (.float .f64 r) w.drew := by
  refine ⟨(Question.nanBits .f64 a b).cut (w.tape w.drawn (.nanBits .f64 a b)), ?_, ?_, ?_⟩
  · exact (nan_word _ _ (Nat.mod_lt _ (by decide)) (Nat.mod_lt _ (by decide))).1
  · exact (nan_word _ _ (Nat.mod_lt _ (by decide)) (Nat.mod_lt _ (by decide))).2
  · simp [binOp, Op.floatArith, h, choose]
    rfl
set_option maxHeartbeats 1000000 in
theorem mul_any (a b : Nat) (w : World) : Calls Tryz.prog 113 #[.int .u64 a, .int .u64 b] w fun e w' => e = .returned (.int .u64 (mulN a b)) ∧ Below w.heap.size w w' := by
  have hof := fun a w => of_any a w
  unfold mulN
  cases h : FloatKind.f64.format.mul a b with
  | some r =>
    have hr : r < 2 ^ 64 := Ieee.double.mul_lt h
    have hm := fun w => run_float_arith (P := Tryz.prog) w .mul 152 .f64 a b r h
    have hb := fun w => bits_any r hr w
    simp only
    generalize (if FL.isNaN r then FL.theNaN else r : Nat) = y at hb ⊢
    clear h
    go_enter Tryz.func113, Tryz.ntmps113
    go_wp2_with (first | (go_at_call 166; refine (hof _ _).mono ?_; rintro e w' ⟨rfl, rfl⟩) | (go_at_call 119; refine (hb _).mono ?_; rintro e w' ⟨rfl, rfl⟩))
    go_ret
    exact ⟨rfl, Below.refl _ _⟩
  | none =>
    obtain ⟨r, hn, hr, hm⟩ := run_mul_nan (P := Tryz.prog) w 152 a b h
    have hb := fun w => bits_any r hr w
    rw [hn, if_pos rfl] at hb
    simp only
    generalize FL.theNaN = y at hb ⊢
    clear h hn
    go_enter Tryz.func113, Tryz.ntmps113
    go_wp2_with fail
    refine (hof _ _).mono ?_
    rintro e w' ⟨rfl, hw⟩
    rw [hw]
    clear hw w'
    go_wp2_with fail
    refine (hof _ _).mono ?_
    rintro e w' ⟨rfl, hw⟩
    rw [hw]
    clear hw w'
    go_wp2_with fail
    refine (hb _).mono ?_
    rintro e w' ⟨rfl, hw⟩
    rw [hw]
    clear hw w'
    go_wp2
    go_ret
    exact ⟨rfl, (Below.refl _ _).drew⟩
def mulU (a b : UInt64) : UInt64 := UInt64.ofNat (mulN a.toNat b.toNat)
theorem mulN_lt (a b : Nat) : mulN a b < 2 ^ 64 := by
  unfold mulN
  split
  · rename_i r h
    split
    · decide
    · exact Ieee.double.mul_lt h
  · decide
theorem Tryz.neqMulNil : ∀ w, (binOp .neq 97 (.func (.func 113) #[] #[]) .nilFunc).run Tryz.prog w = .ok (.bool true) w := fun w => by kernel_rfl
set_option maxHeartbeats 4000000 in
set_option maxRecDepth 100000 in
theorem numbers_mul : NumCon 3 false fun a b => (mulU a b, true) := by
  intro a b w
  have hr := fun w => reckons_any 3 (by omega) (by omega) w
  have hv : reckV 3 = .func (.func 113) #[] #[] := rfl
  rw [hv] at hr
  have hm := fun w => mul_any a.toNat b.toNat w
  have he : mulN a.toNat b.toNat = (mulU a b).toNat := by
    unfold mulU
    rw [UInt64.toNat_ofNat']
    exact (Nat.mod_eq_of_lt (mulN_lt _ _)).symm
  rw [he] at hm
  simp only
  generalize mulU a b = y at hm ⊢
  have hq := Tryz.neqMulNil
  clear hv he
  go_enter Tryz.func10, Tryz.ntmps10
  go_wp2_with (first
    | (go_at_call 36; refine (hr _).mono ?_; rintro e w1 ⟨rfl, hb1⟩; have HB := Lib.hid hb1; clear hb1)
    | (go_at_call 113; refine (hm _).mono ?_; rintro e w2 ⟨rfl, hb2⟩; have HB2 := Lib.hid (HB.out.trans (hb2.mono HB.out.size)); clear hb2))
  exact bodyPost_ret (by simp [results, Tryz.results10, go_sem]) rfl ⟨rfl, HB2.out⟩
theorem compares_mul : CmpCon 3 false := fun W => compares_any 3 W
end Go.Proofs.YtajaijidecomdaaGreatDoor
namespace Go.Proofs.YtajaijidecomdaaGreatDoor
open Go.RowKit Go.Lib

theorem el_ext {a b : El} : a = b ↔ a.2 = b.2 ∧ labelsC a.1 b.1 = 0 := by
  rw [labelsC_cmp3.zero]
  exact ⟨fun h => by rw [h]; exact ⟨rfl, rfl⟩, fun h => Prod.ext h.2 h.1⟩
set_option maxHeartbeats 4000000 in
set_option maxRecDepth 100000 in
/-- The same elements: told so. -/
theorem sameElems_true (A A' : Option Addr) (n c c' : Nat) (es fs : List Ev) (w : World) (hA : Els w w.heap.size A n c es) (hB : Els w w.heap.size A' n c' fs) (hs : es.map Ev.el = fs.map Ev.el) :
    Calls Tryz.prog 20 #[.slice A n c, .slice A' n c'] w fun e w' => e = .returned (.bool true) ∧ ∃ q, w' = w.drewN q := by
  have HE := Lib.hid (show _ ∧ _ ∧ _ from ⟨hA, hB, hs⟩)
  have hn := hA.few
  have hla := hA.lst.1
  have hlb := hB.lst.1
  clear hA hB hs
  go_enter Tryz.func20, Tryz.ntmps20
  go_wp2
  go_loopw [5] (fun iv wr => ∃ k q : Nat, k ≤ n ∧ iv = .int .i64 k ∧ wr = w.drewN q) (fun iv _ => n - (intOf iv).toNat)
  case atStart => exact ⟨0, 0, Nat.zero_le _, rfl, rfl⟩
  case round =>
    obtain ⟨k, q, hk, rfl, hwr⟩ := hrel
    have hcl : ∀ p, wr.cell? p = w.cell? p := fun p => by rw [hwr]; rfl
    by_cases hlt : k < n
    · obtain ⟨b, off, x, rfl, hb, hx, hc⟩ := HE.out.1.lst.at hlt
      obtain ⟨b', off', y, rfl, hb', hy, hc'⟩ := HE.out.2.1.lst.at hlt
      have c0 := (hcl _).trans (hc 0 _ rfl)
      have c1 := (hcl _).trans (hc 1 _ rfl)
      have d0 := (hcl _).trans (hc' 0 _ rfl)
      have d1 := (hcl _).trans (hc' 1 _ rfl)
      simp only [Nat.add_zero] at c0 d0
      have hxy : x.el = y.el := by
        have h1 : (es.map Ev.el)[k]? = some x.el := by rw [List.getElem?_map, hx]; rfl
        have h2 : (fs.map Ev.el)[k]? = some y.el := by rw [List.getElem?_map, hy]; rfl
        rw [HE.out.2.2, h2] at h1
        injection h1 with h1
        exact h1.symm
      have hv : y.v = x.v := (congrArg Prod.snd hxy).symm
      have hl : y.l = x.l := (congrArg Prod.fst hxy).symm
      have hxE := HE.out.1.each x (List.mem_of_getElem? hx)
      have hyE := HE.out.2.1.each y (List.mem_of_getElem? hy)
      have hsm : ∀ W, (∃ r, W = wr.drewN r) → Calls Tryz.prog 29 #[.slice x.A x.n x.c, .slice y.A y.n y.c] W fun e w' => e = .returned (.bool true) ∧ ∃ r, w' = W.drewN r := fun W hW => by
        obtain ⟨r, rfl⟩ := hW
        rw [hwr, World.drewN_drewN]
        generalize q + r = q
        have h := sameLabels_any x.A y.A x.n x.c y.n y.c x.l y.l (w.drewN q) ((hxE.lst.below (below_drewN (Below.refl _ w) q)).more (Nat.le_refl _)) ((hyE.lst.below (below_drewN (Below.refl _ w) q)).more (Nat.le_refl _)) (by have := hxE.few; omega) (by have := hyE.few; omega)
        rw [hl, decide_eq_true (labelsC_cmp3.self x.l)] at h
        exact h
      rw [hv] at d1
      have i1 : (0 : Int) ≤ (k : Int) := by omega
      have i2 : (k : Int) < (n : Int) := by omega
      have HS := Lib.hid (show _ ∧ _ from ⟨hsm, hwr⟩)
      clear hc hc' hx hy hxy hv hl hxE hyE hsm hcl hwr
      go_wp2_with (go_quiet (first | (go_at_call 29; refine Calls.quiet_of (HS.out.1 _ ⟨_, rfl⟩)) | fail))
      go_roundw
      case measure => simp [intOf]; omega
      case rel => exact ⟨k + 1, _, hlt, by simp, by rw [HS.out.2, World.drewN_drewN]⟩
    · obtain rfl : k = n := by omega
      have HW := Lib.hid hwr
      clear hcl hwr
      go_wp2
      go_ret
      exact ⟨rfl, q, HW.out⟩
/-- A vector of one element. -/
theorem one_any (nm vl : ByteArray) (hn : nm.size ≤ 100000) (hv : vl.size ≤ 100000) (v : UInt64) (w : World) : Calls Tryz.prog 50 #[.string nm, .string vl, .int .u64 v.toNat] w fun e w' => ∃ A c es, e = .returned (.slice A 1 c) ∧ Els w' w'.heap.size A 1 c es ∧ es.map Ev.el = [([⟨nm, vl⟩], v)] ∧ Below w.heap.size w w' := by
  go_enter Tryz.func50, Tryz.ntmps50
  go_wp2
  go_ret
  refine ⟨some ⟨w.heap.size + 1, 0, none⟩, 1, [⟨some ⟨w.heap.size, 0, none⟩, 1, 1, [⟨nm, vl⟩], v⟩], rfl, ⟨⟨rfl, fun _ => ⟨w.heap.size + 1, 0, rfl, by simp, fun k x hx i u hu => ?_⟩⟩, (by simp), (by omega), fun e he => ?_⟩, rfl, ((Below.refl _ w).alloc (Nat.le_refl _) _).alloc (by simp) _⟩
  · have hk := (List.getElem?_eq_some_iff.1 hx).1
    obtain rfl : k = 0 := by simpa using hk
    have hx' := Option.some.inj hx
    subst hx'
    match i, hu with
    | 0, hu => have hu' := Option.some.inj hu; subst hu'; simp
    | 1, hu => have hu' := Option.some.inj hu; subst hu'; simp
    | i + 2, hu => simp [encEv] at hu
  · rw [List.mem_singleton.1 he]
    refine ⟨⟨rfl, fun _ => ⟨w.heap.size, 0, rfl, by simp; omega, fun k x hx i u hu => ?_⟩⟩, (by simp), (by simp), fun x hx => by rw [List.mem_singleton.1 hx]; exact ⟨hn, hv⟩⟩
    have hk := (List.getElem?_eq_some_iff.1 hx).1
    obtain rfl : k = 0 := by simpa using hk
    have hx' := Option.some.inj hx
    subst hx'
    match i, hu with
    | 0, hu => have hu' := Option.some.inj hu; subst hu'; simp
    | 1, hu => have hu' := Option.some.inj hu; subst hu'; simp
    | i + 2, hu => simp [Lb.cells] at hu
end Go.Proofs.YtajaijidecomdaaGreatDoor
namespace Go.Proofs.YtajaijidecomdaaGreatDoor
open Go.RowKit Go.Lib Go.Sort

section
variable {op : Int} {s : UInt64} {left : Bool} {v : List El}
/-- Does an element stay? -/
def stays (op : Int) (s : UInt64) (left : Bool) (x : El) : Bool := holdsB op (if left then s else x.2).toNat (if left then x.2 else s).toNat
theorem filt_out (op : Int) (s : UInt64) (left : Bool) (v : List El) : numOut (numC op false) false s left v = v.filter (stays op s left) := by
  unfold numOut
  induction v with
  | nil => rfl
  | cons x v ih =>
    have e : (let r := if left then numC op false s x.2 else numC op false x.2 s; if !r.2 then none else if false then some (lessL x.1 [nameT], r.1) else some x) = if stays op s left x then some x else none := by
      unfold stays numC
      cases left
      · cases h : holdsB op x.2.toNat s.toNat <;> simp [h]
      · cases h : holdsB op s.toNat x.2.toNat <;> simp [h]
    rw [List.filterMap_cons, List.filter_cons, ih, e]
    cases stays op s left x <;> rfl
theorem bool_out (op : Int) (s : UInt64) (left : Bool) (v : List El) : ∃ f : El → UInt64, numOut (numC op true) true s left v = v.map fun x => (lessL x.1 [nameT], f x) := by
  refine ⟨fun x => (if left then numC op true s x.2 else numC op true x.2 s).1, ?_⟩
  unfold numOut
  induction v with
  | nil => rfl
  | cons x v ih =>
    rw [List.filterMap_cons, List.map_cons, ih]
    cases left <;> simp [numC]
theorem form_iff (v : List El) : formL v = true ↔ setsL v = true ∧ (v.map (·.1)).Nodup := by
  unfold formL
  rw [Bool.and_eq_true, Bool.not_eq_true', twiceL_iff]
theorem form_filter (h : formL v = true) (p : El → Bool) : formL (v.filter p) = true := by
  obtain ⟨h1, h2⟩ := (form_iff v).1 h
  refine (form_iff _).2 ⟨?_, h2.sublist (List.filter_sublist.map _)⟩
  unfold setsL at *
  rw [List.all_eq_true] at *
  exact fun x hx => h1 x (List.mem_filter.1 hx).1
theorem done_form (h : formL v = true) : doneL v = (0, srtL v) := by
  obtain ⟨h1, h2⟩ := (form_iff v).1 h
  unfold doneL
  rw [if_neg (by rw [(twiceL_iff v).2 h2]; decide), if_neg (by rw [h1]; decide)]
theorem filters_plain (h : formL v = true) : numberL (numC op false) false s left v = (0, (srtL v).filter (stays op s left)) := by
  unfold numberL
  rw [if_pos h, filt_out, done_form (form_filter h _)]
  exact congrArg _ (FL.sortE_filter elL_tot _ v)
theorem filters_bool (h : formL v = true) : ((numberL (numC op true) true s left v).1 = 252 ∧ (numberL (numC op true) true s left v).2 = []) ∨ ((numberL (numC op true) true s left v).1 = 0 ∧ (numberL (numC op true) true s left v).2.length = v.length) := by
  obtain ⟨f, hf⟩ := bool_out op s left v
  obtain ⟨h1, _⟩ := (form_iff v).1 h
  unfold numberL
  rw [if_pos h, hf]
  unfold doneL
  split
  · exact .inl ⟨rfl, rfl⟩
  · rw [if_neg]
    · exact .inr ⟨rfl, by rw [FL.sortE_len elL_tot, List.length_map]⟩
    · rw [Bool.not_eq_true', Bool.not_eq_false]
      unfold setsL at *
      rw [List.all_eq_true] at *
      intro x hx
      obtain ⟨y, hy, rfl⟩ := List.mem_map.1 hx
      exact decide_eq_true (checkE_filter (of_decide_eq_true (h1 y hy)) _)
theorem form_strict (h : formL v = true) : (srtL v).Pairwise fun x y => labelsC x.1 y.1 < 0 := FL.strict_sort labelsC_tot ((form_iff v).1 h).2
end
end Go.Proofs.YtajaijidecomdaaGreatDoor
