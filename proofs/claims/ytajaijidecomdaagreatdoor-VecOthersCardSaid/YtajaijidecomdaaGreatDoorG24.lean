/- num.Add, Sub, Mul, Div: what the document says. Written by gennma.py. Whole numbers as words of 32 bits, the lowest first. No program in sight. Whole numbers as words of 32 bits: how many bits, times a power of two. No program in sight. -/
import Derived.Test.YtajaijidecomdaaGreatDoorG20
import Derived.Test.YtajaijidecomdaaGreatDoorG23
import Derived.Laws.FloatArith
import Derived.Test.YtajaijidecomdaaGreatDoorG05
namespace Go.Proofs.YtajaijidecomdaaGreatDoor
open Go.RowKit Go.Lib

theorem nan_wordA (u v : Nat) (h1 : u < 2) (h2 : v < 2 ^ 52 - 1) : FL.isNaN (u * 2 ^ 63 + 0x7ff0000000000000 + 1 + v) = true ∧ u * 2 ^ 63 + 0x7ff0000000000000 + 1 + v < 2 ^ 64 := by
  unfold FL.isNaN FL.infR
  refine ⟨decide_eq_true ?_, ?_⟩
  · omega
  · omega
theorem write_num (d : Ieee.Datum) (h : ∀ s t, d ≠ .nan s t) : FL.isNaN (Ieee.double.write d) = false := by
  have hb : ∀ s r, r ≤ FL.infR → FL.isNaN (Ieee.double.word s r) = false := fun s r hr => by
    have hi : FL.infR < 2 ^ 63 := by decide
    unfold FL.isNaN
    rw [FL.word_eq]
    refine decide_eq_false ?_
    cases s
    · rw [if_neg (by decide), Nat.mod_eq_of_lt (by omega)]; omega
    · rw [if_pos rfl, Nat.add_mod_left, Nat.mod_eq_of_lt (by omega)]; omega
  cases d with
  | number s m e =>
    show FL.isNaN (Ieee.double.nearest s m e) = false
    unfold Ieee.Format.nearest
    rw [FL.dbl_inf]
    split
    · exact hb s 0 (by omega)
    · exact hb s _ (Nat.le_trans (Nat.min_le_right _ _) (by rw [FL.infR_eq]; exact Nat.le_refl _))
  | infinity s => exact hb s _ (by rw [FL.dbl_inf, FL.infR_eq]; exact Nat.le_refl _)
  | nan s t => exact absurd rfl (h s t)
theorem sum_num {d e f : Ieee.Datum} (h : d.sum e = some f) : ∀ s t, f ≠ .nan s t := by
  rintro s t rfl
  unfold Ieee.Datum.sum at h
  split at h <;> (try split at h) <;> simp at h
theorem product_num {d e f : Ieee.Datum} (h : d.product e = some f) : ∀ s t, f ≠ .nan s t := by
  rintro s t rfl
  unfold Ieee.Datum.product at h
  split at h <;> (try split at h) <;> simp at h
theorem quotient_num {n : Nat} {d e f : Ieee.Datum} (h : d.quotient n e = some f) : ∀ s t, f ≠ .nan s t := by
  rintro s t rfl
  unfold Ieee.Datum.quotient at h
  split at h <;> (try split at h) <;> (try split at h) <;> simp at h
theorem map_num {o : Option Ieee.Datum} {r : Nat} (h : o.map Ieee.double.write = some r) (hn : ∀ f, o = some f → ∀ s t, f ≠ .nan s t) : FL.isNaN r = false ∧ r < 2 ^ 64 := by
  cases o with
  | none => cases h
  | some f =>
    injection h with h
    subst h
    exact ⟨write_num f (hn f rfl), FL.write_lt f (hn f rfl)⟩
/-- The model's difference is the document's. -/
theorem subR_eq {a b : Nat} (ha : a < 2 ^ 64) (hb : b < 2 ^ 64) : FL.subR a b = FL.canon (Ieee.double.sub a b) := by
  unfold FL.subR
  rw [FL.addR_eq ha (FL.negR_lt hb)]
  congr 1
  unfold Ieee.Format.add Ieee.Format.sub
  by_cases nb : FL.isNaN b = true
  · obtain ⟨t, e⟩ := FL.read_nan hb nb
    have e2 : FL.negR b = FL.theNaN := by unfold FL.negR; rw [if_pos nb]
    obtain ⟨t2, e3⟩ := FL.read_nan FL.theNaN_lt (by decide : FL.isNaN FL.theNaN = true)
    rw [e2, e, e3]
    cases Ieee.double.read a <;> rfl
  · have nb' : FL.isNaN b = false := by simpa using nb
    have e2 : FL.negR b = if 2 ^ 63 ≤ b then b - 2 ^ 63 else b + 2 ^ 63 := by unfold FL.negR; rw [if_neg nb]
    have hm : FL.negR b % 2 ^ 63 = b % 2 ^ 63 := by rw [e2]; split <;> omega
    have hn : FL.neg0 (FL.negR b) = !FL.neg0 b := by
      unfold FL.neg0
      rw [e2]
      by_cases h : 2 ^ 63 ≤ b
      · rw [if_pos h, decide_eq_true h, decide_eq_false (by omega)]; rfl
      · rw [if_neg h, decide_eq_false h, decide_eq_true (by omega)]; rfl
    have n1 : FL.isNaN (FL.negR b) = false := by unfold FL.isNaN at *; rw [hm]; exact nb'
    by_cases ib : FL.isInf b = true
    · have i1 : FL.isInf (FL.negR b) = true := by unfold FL.isInf at *; rw [hm]; exact ib
      rw [FL.read_inf (FL.negR_lt hb) i1, FL.read_inf hb ib, hn]; rfl
    · have ib' : FL.isInf b = false := by simpa using ib
      have i1 : FL.isInf (FL.negR b) = false := by unfold FL.isInf at *; rw [hm]; exact ib'
      have hd : FL.negR b / 2 ^ 52 % 2048 = b / 2 ^ 52 % 2048 := by omega
      have hl : FL.negR b % 2 ^ 52 = b % 2 ^ 52 := by omega
      have eM : FL.openM (FL.negR b) = FL.openM b := by unfold FL.openM; rw [hd, hl]
      have eE : FL.openE (FL.negR b) = FL.openE b := by unfold FL.openE; rw [hd]
      rw [FL.read_fin (FL.negR_lt hb) n1 i1, FL.read_fin hb nb' ib', hn, eM, eE]; rfl

theorem run_add_nanA {P : Program} (w : World) (t : TypeId) (a b : Nat) (h : FloatKind.f64.format.add a b = none) : ∃ r, FL.isNaN r = true ∧ r < 2 ^ 64 ∧ (binOp .add t (.float .f64 a) (.float .f64 b)).run P w = .ok (.float .f64 r) w.drew := by
  refine ⟨(Question.nanBits .f64 a b).cut (w.tape w.drawn (.nanBits .f64 a b)), ?_, ?_, ?_⟩
  · exact (nan_wordA _ _ (Nat.mod_lt _ (by decide)) (Nat.mod_lt _ (by decide))).1
  · exact (nan_wordA _ _ (Nat.mod_lt _ (by decide)) (Nat.mod_lt _ (by decide))).2
  · simp [binOp, Op.floatArith, h, choose]
    rfl
set_option maxHeartbeats 1000000 in
theorem numAdd_any (a b : UInt64) (w : World) : Calls Tryz.prog 111 #[.int .u64 a.toNat, .int .u64 b.toNat] w fun e w' => e = .returned (.int .u64 (FL.addU a b).toNat) ∧ Below w.heap.size w w' := by
  have hof := fun a w => of_any a w
  have hlaw := (FL.addU_nat a b).trans (FL.addR_eq a.toNat_lt b.toNat_lt)
  obtain ⟨y, hy⟩ : ∃ y, (FL.addU a b).toNat = y := ⟨_, rfl⟩
  rw [hy] at hlaw ⊢
  clear hy
  generalize a.toNat = x at hlaw ⊢
  generalize b.toNat = z at hlaw ⊢
  cases h : FloatKind.f64.format.add x z with
  | some r =>
    have h2 : Ieee.double.add x z = some r := h
    rw [h2] at hlaw
    obtain ⟨hn, hr⟩ := map_num (r := r) h2 fun f hf => sum_num hf
    have hm := fun w => run_float_arith (P := Tryz.prog) w .add 152 .f64 x z r h
    have hb := fun w => bits_any r hr w
    rw [hn, if_neg (by decide)] at hb
    obtain rfl : y = r := hlaw
    clear h h2 hn
    go_enter Tryz.func111, Tryz.ntmps111
    go_wp2_with (first | (go_at_call 166; refine (hof _ _).mono ?_; rintro e w' ⟨rfl, rfl⟩) | (go_at_call 119; refine (hb _).mono ?_; rintro e w' ⟨rfl, rfl⟩))
    go_ret
    exact ⟨rfl, Below.refl _ _⟩
  | none =>
    have h2 : Ieee.double.add x z = none := h
    rw [h2] at hlaw
    obtain ⟨r, hn, hr, hm⟩ := run_add_nanA (P := Tryz.prog) w 152 x z h
    have hb := fun w => bits_any r hr w
    rw [hn, if_pos rfl] at hb
    obtain rfl : y = FL.theNaN := hlaw
    generalize FL.theNaN = y at hb ⊢
    clear h h2 hn
    go_enter Tryz.func111, Tryz.ntmps111
    go_wp2_with fail
    refine (hof _ _).mono ?_
    rintro e w' ⟨rfl, hw⟩
    rw [hw]
    clear hw w'
    go_wp2_with fail
    refine (hof _ _).mono ?_
    rintro e w' ⟨rfl, hw⟩
    rw [hw]
    clear hw w'
    go_wp2_with fail
    refine (hb _).mono ?_
    rintro e w' ⟨rfl, hw⟩
    rw [hw]
    clear hw w'
    go_wp2
    go_ret
    exact ⟨rfl, (Below.refl _ _).drew⟩
theorem run_sub_nanA {P : Program} (w : World) (t : TypeId) (a b : Nat) (h : FloatKind.f64.format.sub a b = none) : ∃ r, FL.isNaN r = true ∧ r < 2 ^ 64 ∧ (binOp .sub t (.float .f64 a) (.float .f64 b)).run P w = .ok (.float .f64 r) w.drew := by
  refine ⟨(Question.nanBits .f64 a b).cut (w.tape w.drawn (.nanBits .f64 a b)), ?_, ?_, ?_⟩
  · exact (nan_wordA _ _ (Nat.mod_lt _ (by decide)) (Nat.mod_lt _ (by decide))).1
  · exact (nan_wordA _ _ (Nat.mod_lt _ (by decide)) (Nat.mod_lt _ (by decide))).2
  · simp [binOp, Op.floatArith, h, choose]
    rfl
set_option maxHeartbeats 1000000 in
theorem numSub_any (a b : UInt64) (w : World) : Calls Tryz.prog 112 #[.int .u64 a.toNat, .int .u64 b.toNat] w fun e w' => e = .returned (.int .u64 (FL.subU a b).toNat) ∧ Below w.heap.size w w' := by
  have hof := fun a w => of_any a w
  have hlaw := (FL.subU_nat a b).trans (subR_eq a.toNat_lt b.toNat_lt)
  obtain ⟨y, hy⟩ : ∃ y, (FL.subU a b).toNat = y := ⟨_, rfl⟩
  rw [hy] at hlaw ⊢
  clear hy
  generalize a.toNat = x at hlaw ⊢
  generalize b.toNat = z at hlaw ⊢
  cases h : FloatKind.f64.format.sub x z with
  | some r =>
    have h2 : Ieee.double.sub x z = some r := h
    rw [h2] at hlaw
    obtain ⟨hn, hr⟩ := map_num (r := r) h2 fun f hf => sum_num hf
    have hm := fun w => run_float_arith (P := Tryz.prog) w .sub 152 .f64 x z r h
    have hb := fun w => bits_any r hr w
    rw [hn, if_neg (by decide)] at hb
    obtain rfl : y = r := hlaw
    clear h h2 hn
    go_enter Tryz.func112, Tryz.ntmps112
    go_wp2_with (first | (go_at_call 166; refine (hof _ _).mono ?_; rintro e w' ⟨rfl, rfl⟩) | (go_at_call 119; refine (hb _).mono ?_; rintro e w' ⟨rfl, rfl⟩))
    go_ret
    exact ⟨rfl, Below.refl _ _⟩
  | none =>
    have h2 : Ieee.double.sub x z = none := h
    rw [h2] at hlaw
    obtain ⟨r, hn, hr, hm⟩ := run_sub_nanA (P := Tryz.prog) w 152 x z h
    have hb := fun w => bits_any r hr w
    rw [hn, if_pos rfl] at hb
    obtain rfl : y = FL.theNaN := hlaw
    generalize FL.theNaN = y at hb ⊢
    clear h h2 hn
    go_enter Tryz.func112, Tryz.ntmps112
    go_wp2_with fail
    refine (hof _ _).mono ?_
    rintro e w' ⟨rfl, hw⟩
    rw [hw]
    clear hw w'
    go_wp2_with fail
    refine (hof _ _).mono ?_
    rintro e w' ⟨rfl, hw⟩
    rw [hw]
    clear hw w'
    go_wp2_with fail
    refine (hb _).mono ?_
    rintro e w' ⟨rfl, hw⟩
    rw [hw]
    clear hw w'
    go_wp2
    go_ret
    exact ⟨rfl, (Below.refl _ _).drew⟩
theorem run_mul_nanA {P : Program} (w : World) (t : TypeId) (a b : Nat) (h : FloatKind.f64.format.mul a b = none) : ∃ r, FL.isNaN r = true ∧ r < 2 ^ 64 ∧ (binOp .mul t (.float .f64 a) (.float .f64 b)).run P w = .ok (.float .f64 r) w.drew := by
  refine ⟨(Question.nanBits .f64 a b).cut (w.tape w.drawn (.nanBits .f64 a b)), ?_, ?_, ?_⟩
  · exact (nan_wordA _ _ (Nat.mod_lt _ (by decide)) (Nat.mod_lt _ (by decide))).1
  · exact (nan_wordA _ _ (Nat.mod_lt _ (by decide)) (Nat.mod_lt _ (by decide))).2
  · simp [binOp, Op.floatArith, h, choose]
    rfl
set_option maxHeartbeats 1000000 in
theorem numMul_any (a b : UInt64) (w : World) : Calls Tryz.prog 113 #[.int .u64 a.toNat, .int .u64 b.toNat] w fun e w' => e = .returned (.int .u64 (FL.mulW a b).toNat) ∧ Below w.heap.size w w' := by
  have hof := fun a w => of_any a w
  have hlaw := (FL.mulW_nat a b).trans (FL.mulR_eq a.toNat_lt b.toNat_lt)
  obtain ⟨y, hy⟩ : ∃ y, (FL.mulW a b).toNat = y := ⟨_, rfl⟩
  rw [hy] at hlaw ⊢
  clear hy
  generalize a.toNat = x at hlaw ⊢
  generalize b.toNat = z at hlaw ⊢
  cases h : FloatKind.f64.format.mul x z with
  | some r =>
    have h2 : Ieee.double.mul x z = some r := h
    rw [h2] at hlaw
    obtain ⟨hn, hr⟩ := map_num (r := r) h2 fun f hf => product_num hf
    have hm := fun w => run_float_arith (P := Tryz.prog) w .mul 152 .f64 x z r h
    have hb := fun w => bits_any r hr w
    rw [hn, if_neg (by decide)] at hb
    obtain rfl : y = r := hlaw
    clear h h2 hn
    go_enter Tryz.func113, Tryz.ntmps113
    go_wp2_with (first | (go_at_call 166; refine (hof _ _).mono ?_; rintro e w' ⟨rfl, rfl⟩) | (go_at_call 119; refine (hb _).mono ?_; rintro e w' ⟨rfl, rfl⟩))
    go_ret
    exact ⟨rfl, Below.refl _ _⟩
  | none =>
    have h2 : Ieee.double.mul x z = none := h
    rw [h2] at hlaw
    obtain ⟨r, hn, hr, hm⟩ := run_mul_nanA (P := Tryz.prog) w 152 x z h
    have hb := fun w => bits_any r hr w
    rw [hn, if_pos rfl] at hb
    obtain rfl : y = FL.theNaN := hlaw
    generalize FL.theNaN = y at hb ⊢
    clear h h2 hn
    go_enter Tryz.func113, Tryz.ntmps113
    go_wp2_with fail
    refine (hof _ _).mono ?_
    rintro e w' ⟨rfl, hw⟩
    rw [hw]
    clear hw w'
    go_wp2_with fail
    refine (hof _ _).mono ?_
    rintro e w' ⟨rfl, hw⟩
    rw [hw]
    clear hw w'
    go_wp2_with fail
    refine (hb _).mono ?_
    rintro e w' ⟨rfl, hw⟩
    rw [hw]
    clear hw w'
    go_wp2
    go_ret
    exact ⟨rfl, (Below.refl _ _).drew⟩
theorem run_quo_nanA {P : Program} (w : World) (t : TypeId) (a b : Nat) (h : FloatKind.f64.format.div a b = none) : ∃ r, FL.isNaN r = true ∧ r < 2 ^ 64 ∧ (binOp .quo t (.float .f64 a) (.float .f64 b)).run P w = .ok (.float .f64 r) w.drew := by
  refine ⟨(Question.nanBits .f64 a b).cut (w.tape w.drawn (.nanBits .f64 a b)), ?_, ?_, ?_⟩
  · exact (nan_wordA _ _ (Nat.mod_lt _ (by decide)) (Nat.mod_lt _ (by decide))).1
  · exact (nan_wordA _ _ (Nat.mod_lt _ (by decide)) (Nat.mod_lt _ (by decide))).2
  · simp [binOp, Op.floatArith, h, choose]
    rfl
set_option maxHeartbeats 1000000 in
theorem numDiv_any (a b : UInt64) (w : World) : Calls Tryz.prog 114 #[.int .u64 a.toNat, .int .u64 b.toNat] w fun e w' => e = .returned (.int .u64 (FL.divU a b).toNat) ∧ Below w.heap.size w w' := by
  have hof := fun a w => of_any a w
  have hlaw := (FL.divU_nat a b).trans (FL.divR_eq a.toNat_lt b.toNat_lt)
  obtain ⟨y, hy⟩ : ∃ y, (FL.divU a b).toNat = y := ⟨_, rfl⟩
  rw [hy] at hlaw ⊢
  clear hy
  generalize a.toNat = x at hlaw ⊢
  generalize b.toNat = z at hlaw ⊢
  cases h : FloatKind.f64.format.div x z with
  | some r =>
    have h2 : Ieee.double.div x z = some r := h
    rw [h2] at hlaw
    obtain ⟨hn, hr⟩ := map_num (r := r) h2 fun f hf => quotient_num hf
    have hm := fun w => run_float_arith (P := Tryz.prog) w .quo 152 .f64 x z r h
    have hb := fun w => bits_any r hr w
    rw [hn, if_neg (by decide)] at hb
    obtain rfl : y = r := hlaw
    clear h h2 hn
    go_enter Tryz.func114, Tryz.ntmps114
    go_wp2_with (first | (go_at_call 166; refine (hof _ _).mono ?_; rintro e w' ⟨rfl, rfl⟩) | (go_at_call 119; refine (hb _).mono ?_; rintro e w' ⟨rfl, rfl⟩))
    go_ret
    exact ⟨rfl, Below.refl _ _⟩
  | none =>
    have h2 : Ieee.double.div x z = none := h
    rw [h2] at hlaw
    obtain ⟨r, hn, hr, hm⟩ := run_quo_nanA (P := Tryz.prog) w 152 x z h
    have hb := fun w => bits_any r hr w
    rw [hn, if_pos rfl] at hb
    obtain rfl : y = FL.theNaN := hlaw
    generalize FL.theNaN = y at hb ⊢
    clear h h2 hn
    go_enter Tryz.func114, Tryz.ntmps114
    go_wp2_with fail
    refine (hof _ _).mono ?_
    rintro e w' ⟨rfl, hw⟩
    rw [hw]
    clear hw w'
    go_wp2_with fail
    refine (hof _ _).mono ?_
    rintro e w' ⟨rfl, hw⟩
    rw [hw]
    clear hw w'
    go_wp2_with fail
    refine (hb _).mono ?_
    rintro e w' ⟨rfl, hw⟩
    rw [hw]
    clear hw w'
    go_wp2
    go_ret
    exact ⟨rfl, (Below.refl _ _).drew⟩
end Go.Proofs.YtajaijidecomdaaGreatDoor
namespace Go.Proofs.YtajaijidecomdaaGreatDoor.FL

def natOf : List Nat → Nat
  | [] => 0
  | d :: l => d + 2 ^ 32 * natOf l
/-- No noughts at the end. -/
def trimD : List Nat → List Nat
  | [] => []
  | d :: l => if d = 0 ∧ trimD l = [] then [] else d :: trimD l
def Words (l : List Nat) : Prop := ∀ d ∈ l, d < 2 ^ 32
def digs (n : Nat) : List Nat := if h : n = 0 then [] else n % 2 ^ 32 :: digs (n / 2 ^ 32)
termination_by n
decreasing_by exact Nat.div_lt_self (by omega) (by omega)
theorem digs_zero : digs 0 = [] := by rw [digs]; rfl
theorem digs_pos {n : Nat} (h : n ≠ 0) : digs n = n % 2 ^ 32 :: digs (n / 2 ^ 32) := by rw [digs, dif_neg h]
theorem natOf_trim : ∀ l, natOf (trimD l) = natOf l
  | [] => rfl
  | d :: l => by
    unfold trimD
    split
    · rename_i h
      have := natOf_trim l
      rw [h.2] at this
      show 0 = d + 2 ^ 32 * natOf l
      rw [h.1, ← this]; rfl
    · rw [natOf, natOf, natOf_trim l]
theorem trim_nil {l : List Nat} : trimD l = [] ↔ natOf l = 0 := by
  induction l with
  | nil => simp [trimD, natOf]
  | cons d l ih =>
    unfold trimD
    rw [natOf]
    split
    · rename_i h
      have := ih.1 h.2
      simp [h.1, this]
    · rename_i h
      constructor
      · intro e; cases e
      · intro e
        exfalso
        exact h ⟨by omega, ih.2 (by omega)⟩
theorem trim_digs : ∀ l, Words l → trimD l = digs (natOf l)
  | [], _ => by rw [natOf, digs_zero]; rfl
  | d :: l, h => by
    have hd := h d (by simp)
    have ih := trim_digs l fun x hx => h x (by simp [hx])
    by_cases h0 : natOf (d :: l) = 0
    · rw [h0, digs_zero]; exact trim_nil.2 h0
    · have h1 : natOf (d :: l) % 2 ^ 32 = d := by rw [natOf]; omega
      have h2 : natOf (d :: l) / 2 ^ 32 = natOf l := by rw [natOf]; omega
      rw [digs_pos h0, h1, h2, ← ih]
      show (if d = 0 ∧ trimD l = [] then [] else d :: trimD l) = _
      rw [if_neg]
      rintro ⟨e1, e2⟩
      exact h0 (by rw [natOf, e1, trim_nil.1 e2])
theorem natOf_digs (n : Nat) : natOf (digs n) = n := by
  induction n using Nat.strongRecOn with
  | ind n ih =>
    by_cases h : n = 0
    · subst h; rw [digs_zero]; rfl
    · rw [digs_pos h, natOf, ih _ (Nat.div_lt_self (by omega) (by omega))]
      omega
theorem words_digs (n : Nat) : Words (digs n) := by
  induction n using Nat.strongRecOn with
  | ind n ih =>
    by_cases h : n = 0
    · subst h; rw [digs_zero]; intro d hd; cases hd
    · rw [digs_pos h]
      intro d hd
      rcases List.mem_cons.1 hd with rfl | hd
      · omega
      · exact ih _ (Nat.div_lt_self (by omega) (by omega)) d hd
theorem natOf_append (a b : List Nat) : natOf (a ++ b) = natOf a + 2 ^ (32 * a.length) * natOf b := by
  induction a with
  | nil => simp [natOf]
  | cons d a ih =>
    have e : 2 ^ (32 * (a.length + 1)) = 2 ^ 32 * 2 ^ (32 * a.length) := by rw [Nat.mul_add, Nat.pow_add, Nat.mul_comm]
    rw [List.cons_append, natOf, natOf, ih, List.length_cons, e, Nat.mul_add, Nat.mul_assoc, Nat.add_assoc]
theorem natOf_zeros (k : Nat) : natOf (List.replicate k 0) = 0 := by
  induction k with
  | zero => rfl
  | succ k ih => rw [List.replicate_succ, natOf, ih]
theorem natOf_lt : ∀ l, Words l → natOf l < 2 ^ (32 * l.length)
  | [], _ => by simp [natOf]
  | d :: l, h => by
    have hd := h d (by simp)
    have ih := natOf_lt l fun x hx => h x (by simp [hx])
    rw [natOf, List.length_cons, Nat.mul_add, Nat.pow_add, Nat.mul_one]
    have : 2 ^ 32 * natOf l + 2 ^ 32 ≤ 2 ^ 32 * 2 ^ (32 * l.length) := by rw [← Nat.mul_succ]; exact Nat.mul_le_mul_left _ ih
    rw [Nat.mul_comm (2 ^ (32 * l.length))]
    omega
/-- The number's digits end not in a nought. -/
theorem digs_last (n : Nat) (h : n ≠ 0) : ∃ d, (digs n).getLast? = some d ∧ d ≠ 0 := by
  induction n using Nat.strongRecOn with
  | ind n ih =>
    rw [digs_pos h]
    by_cases h1 : n / 2 ^ 32 = 0
    · rw [h1, digs_zero]; exact ⟨n % 2 ^ 32, rfl, by omega⟩
    · obtain ⟨d, hd, h0⟩ := ih _ (Nat.div_lt_self (by omega) (by omega)) h1
      refine ⟨d, ?_, h0⟩
      rw [List.getLast?_cons, hd]; rfl
/-- How many digits: the last one begins at bit 32 * (length - 1). -/
theorem digs_len (n : Nat) (h : n ≠ 0) : 2 ^ (32 * ((digs n).length - 1)) ≤ n ∧ n < 2 ^ (32 * (digs n).length) := by
  have h2 := natOf_lt (digs n) (words_digs n)
  rw [natOf_digs] at h2
  refine ⟨?_, h2⟩
  obtain ⟨d, hd, h0⟩ := digs_last n h
  obtain ⟨l, hl⟩ := List.getLast?_eq_some_iff.1 hd
  have h3 := natOf_digs n
  rw [hl, natOf_append] at h3
  rw [hl, List.length_append, List.length_singleton, Nat.add_sub_cancel]
  rw [← h3, natOf, natOf]
  have : 2 ^ (32 * l.length) * 1 ≤ 2 ^ (32 * l.length) * (d + 2 ^ 32 * 0) := Nat.mul_le_mul_left _ (by omega)
  omega
theorem digs_len_le {n k : Nat} (h : n < 2 ^ (32 * k)) : (digs n).length ≤ k := by
  by_cases h0 : n = 0
  · subst h0; rw [digs_zero]; exact Nat.zero_le _
  · have h1 := (digs_len n h0).1
    have h2 : 2 ^ (32 * ((digs n).length - 1)) < 2 ^ (32 * k) := by omega
    have := (Nat.pow_lt_pow_iff_right (by omega : 1 < 2)).1 h2
    omega
/-- A digit. -/
theorem digs_at (n : Nat) : ∀ i, (digs n)[i]?.getD 0 = n / 2 ^ (32 * i) % 2 ^ 32 := by
  induction n using Nat.strongRecOn with
  | ind n ih =>
    intro i
    by_cases h : n = 0
    · subst h; rw [digs_zero]; simp
    · rw [digs_pos h]
      cases i with
      | zero => simp
      | succ i =>
        rw [List.getElem?_cons_succ, ih _ (Nat.div_lt_self (by omega) (by omega)), Nat.div_div_eq_div_mul, ← Nat.pow_add]
        congr 3
        omega
end Go.Proofs.YtajaijidecomdaaGreatDoor.FL
namespace Go.Proofs.YtajaijidecomdaaGreatDoor.FL

theorem bitsN_zero : bitsN 0 = 0 := rfl
theorem bitsN_high (k a d : Nat) (ha : a < 2 ^ k) (hd : d ≠ 0) : bitsN (a + 2 ^ k * d) = k + bitsN d := by
  have h1 : bitsN (a + 2 ^ k * d) ≤ k + bitsN d := by
    rw [bitsN_le_iff, Nat.pow_add]
    have h2 := bitsN_lt d
    have h3 : 2 ^ k * (d + 1) ≤ 2 ^ k * 2 ^ bitsN d := Nat.mul_le_mul_left _ h2
    rw [Nat.mul_succ] at h3
    omega
  have h4 : ¬ bitsN (a + 2 ^ k * d) ≤ k + bitsN d - 1 := by
    rw [bitsN_le_iff]
    have h5 := bitsN_le hd
    have h6 : bitsN d ≠ 0 := by unfold bitsN; rw [if_neg hd]; omega
    have h7 : 2 ^ k * 2 ^ (bitsN d - 1) ≤ 2 ^ k * d := Nat.mul_le_mul_left _ h5
    rw [← Nat.pow_add] at h7
    have h8 : k + (bitsN d - 1) = k + bitsN d - 1 := by omega
    rw [h8] at h7
    omega
  omega
/-- How many bits a number has, by its last word. -/
theorem bits_digs {n : Nat} (h : n ≠ 0) : ∃ d, (digs n)[(digs n).length - 1]? = some d ∧ d ≠ 0 ∧ d < 2 ^ 32 ∧ 0 < (digs n).length ∧ bitsN n = 32 * ((digs n).length - 1) + bitsN d := by
  obtain ⟨d, hd, h0⟩ := digs_last n h
  obtain ⟨l, hl⟩ := List.getLast?_eq_some_iff.1 hd
  have hw := words_digs n
  have h3 := natOf_digs n
  rw [hl] at hw h3
  have hwl : Words l := fun x hx => hw x (by simp [hx])
  rw [natOf_append] at h3
  have h4 : natOf [d] = d := by simp [natOf]
  rw [h4] at h3
  refine ⟨d, ?_, h0, hw d (by simp), by rw [hl]; simp, ?_⟩
  · rw [hl]; simp
  · rw [hl, List.length_append, List.length_singleton, Nat.add_sub_cancel]
    conv => lhs; rw [← h3]
    exact bitsN_high _ _ _ (natOf_lt l hwl) h0
theorem bitsN_half {x : Nat} (h : x ≠ 0) : bitsN x = bitsN (x / 2) + 1 := by
  have h1 : x = x % 2 + 2 * (x / 2) := by omega
  by_cases h2 : x / 2 = 0
  · have : x = 1 := by omega
    subst this; rfl
  · conv => lhs; rw [h1]
    have := bitsN_high 1 (x % 2) (x / 2) (by omega) h2
    rw [Nat.pow_one] at this
    omega
/-- One word shifted up, with what is carried. -/
theorem up_step (d r c : Nat) (hd : d < 2 ^ 32) (hr : r < 32) (hc : c < 2 ^ r) : (d * 2 ^ r) ||| c = d * 2 ^ r + c ∧ d * 2 ^ r + c < 2 ^ 64 ∧ (d * 2 ^ r + c) / 2 ^ 32 < 2 ^ r := by
  have h1 : (2 ^ r * d) ||| c = 2 ^ r * d + c := (Nat.two_pow_add_eq_or_of_lt hc d).symm
  have h2 : d * 2 ^ r + c < 2 ^ 32 * 2 ^ r := by
    have : (d + 1) * 2 ^ r ≤ 2 ^ 32 * 2 ^ r := Nat.mul_le_mul_right _ hd
    rw [Nat.succ_mul] at this
    omega
  have h3 : 2 ^ 32 * 2 ^ r ≤ 2 ^ 32 * 2 ^ 32 := Nat.mul_le_mul_left _ (Nat.pow_le_pow_right (by omega) (by omega))
  refine ⟨by rw [Nat.mul_comm, h1], by omega, ?_⟩
  rw [Nat.div_lt_iff_lt_mul (by omega)]
  rw [Nat.mul_comm (2 ^ r)]
  exact h2
theorem up_arith (o P T0 c B : Nat) : o + P * ((T0 + c) % B) + P * B * ((T0 + c) / B) = o + P * c + P * T0 := by
  have h := Nat.div_add_mod (T0 + c) B
  have h2 : P * (B * ((T0 + c) / B) + (T0 + c) % B) = P * (T0 + c) := congrArg _ h
  rw [Nat.mul_add, Nat.mul_add, ← Nat.mul_assoc] at h2
  omega
/-- All of it: what stands there, with the carry on top, is the first words times 2 to the k. -/
def UpInv (a : List Nat) (q r i : Nat) (out : List Nat) (c : Nat) : Prop := out.length = q + i ∧ Words out ∧ c < 2 ^ r ∧ natOf out + 2 ^ (32 * (q + i)) * c = natOf (a.take i) * 2 ^ (32 * q + r)
theorem UpInv.start (a : List Nat) (q r : Nat) : UpInv a q r 0 (List.replicate q 0) 0 := by
  refine ⟨by simp, fun d hd => ?_, Nat.pow_pos (by omega), ?_⟩
  · rw [(List.mem_replicate.1 hd).2]; omega
  · rw [natOf_zeros, List.take_zero, natOf, Nat.mul_zero, Nat.zero_mul]
theorem UpInv.step {a out : List Nat} {q r i c d : Nat} (h : UpInv a q r i out c) (hr : r < 32) (hd : a[i]? = some d) (hw : Words a) :
    UpInv a q r (i + 1) (out ++ [(d * 2 ^ r + c) % 2 ^ 32]) ((d * 2 ^ r + c) / 2 ^ 32) := by
  obtain ⟨h1, h2, h3, h4⟩ := h
  obtain ⟨hi, he⟩ := List.getElem?_eq_some_iff.1 hd
  have hd32 : d < 2 ^ 32 := hw d (by rw [← he]; exact List.getElem_mem _)
  refine ⟨by simp [h1]; omega, fun x hx => ?_, (up_step d r c hd32 hr h3).2.2, ?_⟩
  · rcases List.mem_append.1 hx with hx | hx
    · exact h2 x hx
    · rw [List.mem_singleton.1 hx]; exact Nat.mod_lt _ (by omega)
  · rw [List.take_succ_eq_append_getElem hi, he, natOf_append, natOf_append, h1, List.length_take, Nat.min_eq_left (by omega)]
    have e1 : natOf [(d * 2 ^ r + c) % 2 ^ 32] = (d * 2 ^ r + c) % 2 ^ 32 := by simp [natOf]
    have e2 : natOf [d] = d := by simp [natOf]
    rw [e1, e2, Nat.add_mul, ← h4]
    have e3 : 2 ^ (32 * (q + (i + 1))) = 2 ^ (32 * (q + i)) * 2 ^ 32 := by rw [← Nat.pow_add]; congr 1
    have e4 : 2 ^ (32 * i) * d * 2 ^ (32 * q + r) = 2 ^ (32 * (q + i)) * (d * 2 ^ r) := by
      rw [show 32 * (q + i) = 32 * i + 32 * q by omega, Nat.pow_add, Nat.pow_add]
      ac_rfl
    rw [e3, e4]
    exact up_arith _ _ _ _ _
theorem UpInv.end_ {a out : List Nat} {q r c : Nat} (h : UpInv a q r a.length out c) (hr : r < 32) : Words (out ++ [c]) ∧ natOf (out ++ [c]) = natOf a * 2 ^ (32 * q + r) := by
  obtain ⟨h1, h2, h3, h4⟩ := h
  have : 2 ^ r ≤ 2 ^ 32 := Nat.pow_le_pow_right (by omega) (by omega)
  refine ⟨fun x hx => ?_, ?_⟩
  · rcases List.mem_append.1 hx with hx | hx
    · exact h2 x hx
    · rw [List.mem_singleton.1 hx]; omega
  · rw [List.take_length] at h4
    rw [natOf_append, h1, ← h4]
    simp [natOf]
end Go.Proofs.YtajaijidecomdaaGreatDoor.FL
