/- slices.Clone at rows of Labels. Written off a master by mk2.py. labels.Cmp with the count of draws kept: new blocks, more draws, nothing else. Turned from LabCmp by genlabgrw.py. Rounding by bits, as the document's answer does it, is the nearest word of the format. No program in sight. -/
import Derived.Test.YtajaijidecomdaaGreatDoorG03
import Derived.Deep.DeepCutAuto
import Derived.OwnWalk
import Derived.WalkLawsBesides
import Derived.Sort.Grow
import Derived.Deep.Draws
import Ieee.Arith
namespace Go.Proofs.YtajaijidecomdaaGreatDoor
open Go.RowKit Go.Lib

def OwnPostLabel (B n : Nat) (l : List Lb) (w : World) (e : Ending) (w' : World) : Prop := ∃ v', e = .returned v' ∧ w'.ownsRow B 104 2 v' n (l.flatMap Lb.cells) ∧ Below w.heap.size w w'
set_option maxHeartbeats 2000000 in
set_option maxRecDepth 100000 in
theorem cloneLabel (A : Option Addr) (n c : Nat) (l : List Lb) (w : World) (hL : Lst Lb.cells 2 w w.heap.size A n l) (hnil : A = none → n = 0 ∧ c = 0) (hn : n ≤ 1099511627776) :
    Calls Tryz.prog 101 #[.slice A n c] w (OwnPostLabel w.heap.size n l w) := by
  obtain ⟨i0, hi, hz0, hz1, hz2⟩ := info_parts Tryz.infoLabel
  cases A with
  | none =>
    obtain ⟨rfl, rfl⟩ := hnil rfl
    have hl0 : l = [] := List.length_eq_zero_iff.1 hL.1
    clear hi hz0 hz1 hz2 hL hnil
    have hq := fun w : World => Lib.run_eql_slice_nil w 88 104 none 0 0 0 0 Tryz.underlying88
    go_enter Tryz.func101, Tryz.ntmps101
    go_wp2
    go_ret
    exact ⟨_, rfl, by rw [hl0]; exact World.ownsRow_nil _ _ _ _, Below.refl _ _⟩
  | some ad =>
    have hcells := fun w1 (hb : Below w.heap.size w w1) => (hL.below hb).flat Lb.len
    have HC := Lib.hid hcells
    have HLL := Lib.hid hL.1
    have hq := fun w : World => Lib.run_eql_slice_nil w 88 104 (some ad) n c 0 0 Tryz.underlying88
    clear hcells hL hnil
    go_enter Tryz.func101, Tryz.ntmps101
    go_wp2_with (at_builtin; refine wpList_append_own _ rfl _ _ 88 rfl w.heap.size 104 i0 _ 2 32 Tryz.underlying88 hi hz0 hz1 hz2 rfl (by omega) _ _ _ rfl (World.ownsRow_made w #[] 0 (Nat.le_refl _) (Nat.zero_le _) (by simp)) ad n c (l.flatMap Lb.cells) rfl (by rw [flatMap_length (enc := Lb.cells) (size := 2) (fun _ => rfl), HLL.out]) (HC.out _ ((Below.refl _ w).alloc (Nat.le_refl _) _)) (oneLabel _) (by unfold maxLen; omega) (by omega) (by simp) ?_)
    intro v' w1 hown hgrow _
    have HF := Lib.hid (show _ ∧ _ from ⟨hown, ((Below.refl w.heap.size w).alloc (Nat.le_refl _) _).grown hgrow (by simp) (by intro k hk; simp [Value.ownBlock] at hk; omega)⟩)
    clear hi hz0 hz1 hz2 hown hgrow hq
    go_wp2
    go_ret
    exact ⟨v', rfl, by simpa using HF.out.1, HF.out.2⟩
end Go.Proofs.YtajaijidecomdaaGreatDoor
namespace Go.Proofs.YtajaijidecomdaaGreatDoor
open Go.RowKit Go.Lib Go.Sort

/-- As Below, and no fewer draws. -/
structure Grw (B : Nat) (a w : World) : Prop where
  below : Below B a w
  drawn : a.drawn ≤ w.drawn
theorem Grw.refl (B : Nat) (w : World) : Grw B w w := ⟨Below.refl B w, Nat.le_refl _⟩
theorem Grw.trans {B : Nat} {a b c : World} (h : Grw B a b) (k : Grw B b c) : Grw B a c := ⟨h.below.trans k.below, Nat.le_trans h.drawn k.drawn⟩
theorem Grw.mono {B B' : Nat} {w w' : World} (h : Grw B w w') (hB : B' ≤ B) : Grw B' w w' := ⟨h.below.mono hB, h.drawn⟩
theorem Grw.drew {B : Nat} {a w : World} (h : Grw B a w) : Grw B a w.drew := ⟨h.below.drew, Nat.le_trans h.drawn (Nat.le_succ _)⟩
theorem Grw.alloc {B : Nat} {a w : World} (h : Grw B a w) (hB : B ≤ w.heap.size) (o : Obj) : Grw B a (w.alloc o) := ⟨h.below.alloc hB o, h.drawn⟩
theorem Grw.size {B : Nat} {a w : World} (h : Grw B a w) : a.heap.size ≤ w.heap.size := h.below.size
theorem Grw.cell {B : Nat} {w w' : World} (h : Grw B w w') {p : Addr} (hp : p.block < B) : w'.cell? p = w.cell? p := h.below.cell hp
theorem Grw.grow {w w' : World} (h : Grw w.heap.size w w') : ∃ q os', w' = Go.Sort.grow (w.drewN q) os' := by
  refine ⟨w'.drawn - w.drawn, w'.heap.extract w.heap.size w'.heap.size, ?_⟩
  obtain ⟨⟨h1, h2, h3, h4, h5⟩, h6⟩ := h
  obtain ⟨hp, tp, dr, os, op⟩ := w
  obtain ⟨hp', tp', dr', os', op'⟩ := w'
  simp only at h1 h2 h3 h4 h5 h6
  subst h1 h2 h3
  unfold Go.Sort.grow World.drewN
  simp only
  congr 1
  · apply Array.ext_getElem?
    intro k
    rw [Array.getElem?_append]
    by_cases hk : k < hp.size
    · rw [if_pos hk]; exact h5 k hk
    · rw [if_neg hk, Array.getElem?_extract]
      by_cases hk2 : k < hp'.size
      · rw [if_pos (by omega), show hp.size + (k - hp.size) = k by omega]
      · rw [if_neg (by omega), Array.getElem?_eq_none (by omega)]
  · omega
set_option maxHeartbeats 2000000 in
set_option maxRecDepth 100000 in
theorem labelCmp_g (x y : Lb) (W : World) : Calls Tryz.prog 215 #[.agg #[.string x.nm, .string x.vl], .agg #[.string y.nm, .string y.vl]] W fun e w' => e = .returned (.int .i64 (labelC x y)) ∧ Grw W.heap.size W w' := by
  have hlc : labelC x y = orC (textC x.nm y.nm) (textC x.vl y.vl) := rfl
  rw [hlc]
  clear hlc
  go_enter Tryz.func215, Tryz.ntmps215
  go_wp2_with fail
  have hbx : Grw W.heap.size W ((W.alloc (.cells #[.string x.nm, .string x.vl] 104)).alloc (.cells #[.string y.nm, .string y.vl] 104)) := ((Grw.refl _ _).alloc (Nat.le_refl _) _).alloc (by simp) _
  have hx0 : ((W.alloc (.cells #[.string x.nm, .string x.vl] 104)).alloc (.cells #[.string y.nm, .string y.vl] 104)).cell? ⟨W.heap.size, 0, none⟩ = some (.string x.nm) := by simp
  have hx1 : ((W.alloc (.cells #[.string x.nm, .string x.vl] 104)).alloc (.cells #[.string y.nm, .string y.vl] 104)).cell? ⟨W.heap.size, 1, none⟩ = some (.string x.vl) := by simp
  have hy0 : ((W.alloc (.cells #[.string x.nm, .string x.vl] 104)).alloc (.cells #[.string y.nm, .string y.vl] 104)).cell? ⟨W.heap.size + 1, 0, none⟩ = some (.string y.nm) := by simp
  have hy1 : ((W.alloc (.cells #[.string x.nm, .string x.vl] 104)).alloc (.cells #[.string y.nm, .string y.vl] 104)).cell? ⟨W.heap.size + 1, 1, none⟩ = some (.string y.vl) := by simp
  have hs : ((W.alloc (.cells #[.string x.nm, .string x.vl] 104)).alloc (.cells #[.string y.nm, .string y.vl] 104)).heap.size = W.heap.size + 2 := by simp
  generalize (W.alloc (.cells #[.string x.nm, .string x.vl] 104)).alloc (.cells #[.string y.nm, .string y.vl] 104) = w1 at hbx hx0 hx1 hy0 hy1 hs ⊢
  have H := Lib.hid (show _ ∧ _ from ⟨hbx, hs⟩)
  have n0 : W.heap.size ≠ w1.heap.size := by omega
  have n1 : W.heap.size + 1 ≠ w1.heap.size := by omega
  have n0' : w1.heap.size ≠ W.heap.size := by omega
  have n1' : w1.heap.size ≠ W.heap.size + 1 := by omega
  clear hbx hs
  go_region_held3 (fun w' => w'.cell? ⟨W.heap.size, 0, none⟩ = some (.string x.nm) ∧ w'.cell? ⟨W.heap.size, 1, none⟩ = some (.string x.vl) ∧ w'.cell? ⟨W.heap.size + 1, 0, none⟩ = some (.string y.nm) ∧ w'.cell? ⟨W.heap.size + 1, 1, none⟩ = some (.string y.vl)) (go_keep)
    (first | (go_at_call 216; refine (or_two (textC x.nm y.nm) (textC x.vl y.vl) _ _ (by simp) (by simp)).mono ?_; rintro e w' ⟨rfl, rfl⟩) | (go_at_call 217; refine (compare_str _ _ _).mono ?_; rintro e w' ⟨rfl, rfl⟩))
  all_goals
    go_wp2
    go_ret
    exact ⟨rfl, (H.out.1.alloc (by have := H.out.2; omega) _).drew⟩
set_option maxHeartbeats 2000000 in
set_option maxRecDepth 100000 in
theorem compareFunc_g (A A' : Option Addr) (n c n' c' : Nat) (la lb : List Lb) (w : World) (hA : Lst Lb.cells 2 w w.heap.size A n la) (hB : Lst Lb.cells 2 w w.heap.size A' n' lb) (hn : n ≤ 1099511627776) (hn' : n' ≤ 1099511627776) :
    Calls Tryz.prog 214 #[.slice A n c, .slice A' n' c', .func (.func 215) #[] #[]] w fun e w' => e = .returned (.int .i64 (labelsC la lb)) ∧ Grw w.heap.size w w' := by
  have HA := Lib.hid (show _ ∧ _ from ⟨hA, hB⟩)
  clear hA hB
  go_enter Tryz.func214, Tryz.ntmps214
  go_wp2
  go_loopw [7, 8, 9, 10, 13] (fun _ _ _ _ iv wr => ∃ k : Nat, k ≤ n ∧ iv = .int .i64 k ∧ Hid (labelsC la lb = lexC labelC (la.drop k) (lb.drop k)) ∧ Grw w.heap.size w wr ∧ k ≤ n') (fun _ _ _ _ iv _ => n - (intOf iv).toNat)
  case atStart => exact ⟨0, Nat.zero_le _, rfl, Lib.hid rfl, Grw.refl _ _, Nat.zero_le _⟩
  case round =>
    obtain ⟨k, hk, rfl, HE, hbl, hk'⟩ := hrel
    have hsz := hbl.size
    by_cases hlt : k < n
    · obtain ⟨b, off, x, rfl, hb, hx, hc⟩ := HA.out.1.at hlt
      have c0 := (hbl.cell (p := ⟨b, off + k * 2 + 0, none⟩) hb).trans (hc 0 _ rfl)
      have c1 := (hbl.cell (p := ⟨b, off + k * 2 + 1, none⟩) hb).trans (hc 1 _ rfl)
      simp only [Nat.add_zero] at c0
      have i1 : (0 : Int) ≤ (k : Int) := by omega
      have i2 : (k : Int) < (n : Int) := by omega
      by_cases hlt2 : k < n'
      · obtain ⟨b', off', y, rfl, hb', hy, hc'⟩ := HA.out.2.at hlt2
        have d0 := (hbl.cell (p := ⟨b', off' + k * 2 + 0, none⟩) hb').trans (hc' 0 _ rfl)
        have d1 := (hbl.cell (p := ⟨b', off' + k * 2 + 1, none⟩) hb').trans (hc' 1 _ rfl)
        simp only [Nat.add_zero] at d0
        have i3 : (k : Int) < (n' : Int) := by omega
        have n0 : b' ≠ wr.heap.size := by omega
        have n0' : wr.heap.size ≠ b' := by omega
        have n1 : b' < wr.heap.size := by omega
        have hdr := lexC_drop (c := labelC) hx hy
        have HD := Lib.hid (show _ ∧ _ from ⟨hdr, HE.out⟩)
        have hcall := fun W' => labelCmp_g x y W'
        obtain ⟨cv, hcv⟩ : ∃ cv, labelC x y = cv := ⟨_, rfl⟩
        rw [hcv] at HD
        have hcall2 : ∀ W', Calls Tryz.prog 215 #[.agg #[.string x.nm, .string x.vl], .agg #[.string y.nm, .string y.vl]] W' fun e w' => e = .returned (.int .i64 cv) ∧ Grw W'.heap.size W' w' := by rw [← hcv]; exact hcall
        have HC := Lib.hid hcall2
        clear hcall hcall2 hcv hc hc' hx hy hdr HE
        by_cases hz : cv = 0
        · subst hz
          go_wp2_with fail
          refine (HC.out _).mono ?_
          rintro e w2 ⟨rfl, hb2⟩
          have hb3 : Grw w.heap.size w w2 := ((hbl.alloc hsz _).alloc (by simp; omega) _).trans (hb2.mono (by simp; omega))
          have HB := Lib.hid hb3
          clear hb2 hb3 c0 c1 d0 d1
          go_wp2
          go_roundw
          case measure => simp [intOf]; omega
          case rel => exact ⟨k + 1, hlt, by simp, Lib.hid (by rw [HD.out.2, HD.out.1]; simp), HB.out, hlt2⟩
        · have z1 : (cv != 0) = true := by rw [bne_iff_ne]; exact hz
          go_wp2_with fail
          refine (HC.out _).mono ?_
          rintro e w2 ⟨rfl, hb2⟩
          have hb3 : Grw w.heap.size w w2 := ((hbl.alloc hsz _).alloc (by simp; omega) _).trans (hb2.mono (by simp; omega))
          have HB := Lib.hid hb3
          clear hb2 hb3 c0 c1 d0 d1
          go_wp2
          go_ret
          exact ⟨by rw [HD.out.2, HD.out.1, if_neg hz]; rfl, HB.out⟩
      · have i3 : ¬ (k : Int) < (n' : Int) := by omega
        have i4 : (n' : Int) ≤ (k : Int) := by omega
        have he : labelsC la lb = 1 := by
          rw [HE.out, List.drop_eq_nil_of_le (by have := HA.out.2.1; omega : lb.length ≤ k)]
          obtain ⟨h1, e1⟩ := List.getElem?_eq_some_iff.1 hx
          rw [List.drop_eq_getElem_cons h1]
          rfl
        have HX := Lib.hid he
        clear he hc hx HE
        go_wp2
        go_ret
        exact ⟨by rw [HX.out]; rfl, hbl.alloc hsz _⟩
    · obtain rfl : k = n := by omega
      have hda : la.drop k = [] := List.drop_eq_nil_of_le (by have := HA.out.1.1; omega)
      by_cases hlt2 : k < n'
      · have i3 : (k : Int) < (n' : Int) := by omega
        have he : labelsC la lb = -1 := by
          rw [HE.out, hda, List.drop_eq_getElem_cons (by have := HA.out.2.1; omega)]
          rfl
        have HX := Lib.hid he
        clear he hda HE
        go_wp2
        go_ret
        exact ⟨by rw [HX.out]; rfl, hbl⟩
      · have i3 : ¬ (k : Int) < (n' : Int) := by omega
        have he : labelsC la lb = 0 := by
          rw [HE.out, hda, List.drop_eq_nil_of_le (by have := HA.out.2.1; omega)]
          rfl
        have HX := Lib.hid he
        clear he hda HE
        go_wp2
        go_ret
        exact ⟨by rw [HX.out]; rfl, hbl⟩
theorem labelsCmp_g (A A' : Option Addr) (n c n' c' : Nat) (la lb : List Lb) (w : World) (hA : Lst Lb.cells 2 w w.heap.size A n la) (hB : Lst Lb.cells 2 w w.heap.size A' n' lb) (hn : n ≤ 1099511627776) (hn' : n' ≤ 1099511627776) :
    Calls Tryz.prog 164 #[.slice A n c, .slice A' n' c'] w fun e w' => e = .returned (.int .i64 (labelsC la lb)) ∧ Grw w.heap.size w w' := by
  have HC := Lib.hid (compareFunc_g A A' n c n' c' la lb w hA hB hn hn')
  clear hA hB
  go_enter Tryz.func164, Tryz.ntmps164
  go_wp2_with fail
  refine HC.out.mono ?_
  rintro e w' ⟨rfl, hb⟩
  go_wp2
  go_ret
  exact ⟨rfl, hb⟩
end Go.Proofs.YtajaijidecomdaaGreatDoor
namespace Go.Proofs.YtajaijidecomdaaGreatDoor.FL
open Ieee

/-- How many bits a number has. -/
def bitsN (n : Nat) : Nat := if n = 0 then 0 else n.log2 + 1
/-- Rounded: n times 2 to the e (and something less than 2 to the e besides, if more). -/
def roundR (neg : Bool) (n : Nat) (e : Int) (more : Bool) : Nat :=
  if n = 0 then (if neg then 2 ^ 63 else 0) else
  let s : Int := max ((bitsN n : Int) - 53) (-1074 - e)
  let q0 := if 0 < s then n / 2 ^ s.toNat else n * 2 ^ (-s).toNat
  let up := decide (0 < s) && (n / 2 ^ (s.toNat - 1) % 2 == 1) && ((decide (1 < s) && (n % 2 ^ (s.toNat - 1) != 0)) || more || (q0 % 2 == 1))
  let q := q0 + up.toNat
  let e1 := e + s
  let q2 := if 53 < bitsN q then q / 2 else q
  let e2 := if 53 < bitsN q then e1 + 1 else e1
  let out := if neg then 2 ^ 63 else 0
  if q2 < 2 ^ 52 then out + q2
  else if 2047 ≤ e2 + 1075 then out + 2047 * 2 ^ 52
  else out + (e2 + 1075).toNat * 2 ^ 52 + (q2 - 2 ^ 52)

theorem dbl_binade : double.binade = 2 ^ 52 := rfl
theorem dbl_inf : double.infRung = 2047 * 2 ^ 52 := by decide
theorem dbl_least : double.leastPlace = -1074 := by decide
theorem dbl_sign : double.signWeight = 2 ^ 63 := by decide
theorem dbl_frac : double.fractionBits = 52 := rfl

/-- A quotient, rounded to the nearest, between two the even one. -/
def rq (M N : Nat) : Nat := M / N + (decide (N < 2 * (M % N)) || (decide (N = 2 * (M % N)) && (M / N % 2 == 1))).toNat
theorem cut_even (neg : Bool) (n d : Nat) : Toward.even.cut neg n d = rq n (2 ^ d) := by
  unfold Toward.cut rq
  simp only [Nat.one_shiftLeft]
  by_cases h : d ≤ n.log2 + 2
  · rw [Nat.min_eq_left h]
    congr 2
  · have hm : min d (n.log2 + 2) = n.log2 + 2 := by omega
    rw [hm]
    have hlt : n < 2 ^ (n.log2 + 1) := Nat.lt_log2_self
    have h1 : (2 : Nat) ^ (n.log2 + 2) = 2 * 2 ^ (n.log2 + 1) := by rw [Nat.pow_succ]; omega
    have h2 : (2 : Nat) ^ (n.log2 + 2) ≤ 2 ^ d := Nat.pow_le_pow_right (by omega) (by omega)
    have e1 : n / 2 ^ (n.log2 + 2) = 0 := Nat.div_eq_of_lt (by omega)
    have e2 : n % 2 ^ (n.log2 + 2) = n := Nat.mod_eq_of_lt (by omega)
    have e3 : n / 2 ^ d = 0 := Nat.div_eq_of_lt (by omega)
    have e4 : n % 2 ^ d = n := Nat.mod_eq_of_lt (by omega)
    simp only [e1, e2, e3, e4]
    have f1 : ¬ 2 ^ (n.log2 + 2) < 2 * n := by omega
    have f2 : ¬ 2 ^ d < 2 * n := by omega
    simp [f1, f2]
theorem rq_mul (M N k : Nat) (hk : 0 < k) : rq (M * k) (N * k) = rq M N := by
  unfold rq
  rw [Nat.mul_div_mul_right _ _ hk, Nat.mul_mod_mul_right]
  congr 3
  · rw [decide_eq_decide, ← Nat.mul_assoc]; exact Nat.mul_lt_mul_right hk
  · congr 1
    rw [decide_eq_decide, ← Nat.mul_assoc]
    exact ⟨fun h => Nat.eq_of_mul_eq_mul_right hk h, fun h => congrArg (· * k) h⟩
theorem rq_le {M N b : Nat} (hN : 0 < N) (h : M ≤ b * N) : rq M N ≤ b := by
  unfold rq
  have hd := Nat.div_add_mod M N
  have hm := Nat.mod_lt M hN
  rcases Nat.lt_or_ge (M / N) b with hlt | hge
  · have := Bool.toNat_le (decide (N < 2 * (M % N)) || (decide (N = 2 * (M % N)) && (M / N % 2 == 1))); omega
  · have h3 : b * N ≤ N * (M / N) := by rw [Nat.mul_comm b]; exact Nat.mul_le_mul_left _ hge
    have h0 : M % N = 0 := by omega
    have h4 : M / N ≤ b := by
      rw [h0, Nat.add_zero] at hd
      have : N * (M / N) ≤ N * b := by rw [hd, Nat.mul_comm N]; exact h
      exact Nat.le_of_mul_le_mul_left this hN
    rw [h0]
    have f1 : ¬ N < 2 * 0 := by omega
    have f2 : ¬ N = 2 * 0 := by omega
    simp [f1, f2]; exact h4
theorem rq_ge {M N b : Nat} (hN : 0 < N) (h : b * N ≤ M) : b ≤ rq M N := by
  unfold rq
  exact Nat.le_trans ((Nat.le_div_iff_mul_le hN).2 h) (Nat.le_add_right _ _)
/-- Rounding by bits is that of the quotient. -/
theorem up_eq (n s : Nat) (more : Bool) (hs : 0 < s) :
    n / 2 ^ s + ((n / 2 ^ (s - 1) % 2 == 1) && ((decide (1 < s) && (n % 2 ^ (s - 1) != 0)) || more || (n / 2 ^ s % 2 == 1))).toNat
      = if more then rq (2 * n + 1) (2 ^ (s + 1)) else rq n (2 ^ s) := by
  obtain ⟨t, rfl⟩ : ∃ t, s = t + 1 := ⟨s - 1, by omega⟩
  simp only [Nat.add_sub_cancel]
  have hp : 0 < 2 ^ t := Nat.two_pow_pos t
  have e1 : (2 : Nat) ^ (t + 1) = 2 * 2 ^ t := by rw [Nat.pow_succ]; omega
  have e2 : (2 : Nat) ^ (t + 1 + 1) = 4 * 2 ^ t := by rw [Nat.pow_succ, e1]; omega
  rw [e1, e2]
  have hone : t = 0 → 2 ^ t = 1 := by rintro rfl; rfl
  generalize 2 ^ t = p at hp hone ⊢
  have hm := Nat.mod_lt n (show 0 < 2 * p by omega)
  have hd := Nat.div_add_mod n (2 * p)
  generalize hq : n / (2 * p) = q at *
  generalize hr : n % (2 * p) = r at *
  have h1 : n / p % 2 = r / p := by
    have e : n = r + p * (2 * q) := by rw [← hd, ← Nat.mul_assoc, Nat.mul_comm p 2]; omega
    rw [e, Nat.add_mul_div_left _ _ hp, Nat.add_mul_mod_self_left, Nat.mod_eq_of_lt]
    rw [Nat.div_lt_iff_lt_mul hp]; omega
  have h2 : n % p = r % p := by
    have e : n = r + p * (2 * q) := by rw [← hd, ← Nat.mul_assoc, Nat.mul_comm p 2]; omega
    rw [e, Nat.add_mul_mod_self_left]
  rw [h1, h2]
  have hlow : (decide (1 < t + 1) && (r % p != 0)) = (r % p != 0) := by
    by_cases ht : t = 0
    · rw [hone ht]; simp [Nat.mod_one]
    · have : 1 < t + 1 := by omega
      simp [this]
  cases more with
  | true =>
    have e3 : (2 * n + 1) / (4 * p) = q := by
      rw [← hd]
      have : 2 * (2 * p * q + r) + 1 = (2 * r + 1) + 4 * p * q := by rw [Nat.mul_add, ← Nat.mul_assoc, ← Nat.mul_assoc, show 2 * 2 * p = 4 * p by omega]; omega
      rw [this, Nat.add_mul_div_left _ _ (by omega), Nat.div_eq_of_lt (by omega)]; omega
    have e4 : (2 * n + 1) % (4 * p) = 2 * r + 1 := by
      rw [← hd]
      have : 2 * (2 * p * q + r) + 1 = (2 * r + 1) + 4 * p * q := by rw [Nat.mul_add, ← Nat.mul_assoc, ← Nat.mul_assoc, show 2 * 2 * p = 4 * p by omega]; omega
      rw [this, Nat.add_mul_mod_self_left, Nat.mod_eq_of_lt (by omega)]
    simp only [if_true]
    unfold rq
    rw [e3, e4]
    congr 2
    have f1 : ¬ 4 * p = 2 * (2 * r + 1) := by omega
    by_cases hh : p ≤ r
    · have g1 : r / p = 1 := by apply Nat.le_antisymm; · have := (Nat.div_lt_iff_lt_mul hp (x := r) (y := 2)).2 (by omega); omega
                                · exact (Nat.le_div_iff_mul_le hp).2 (by omega)
      have g2 : 4 * p < 2 * (2 * r + 1) := by omega
      simp [g1, g2]
    · have g1 : r / p = 0 := Nat.div_eq_of_lt (by omega)
      have g2 : ¬ 4 * p < 2 * (2 * r + 1) := by omega
      simp [g1, g2, f1]
  | false =>
    simp only [Bool.false_eq_true, if_false, Bool.or_false]
    unfold rq
    rw [hq, hr, hlow]
    congr 2
    by_cases hh : p ≤ r
    · have g1 : r / p = 1 := by apply Nat.le_antisymm; · have := (Nat.div_lt_iff_lt_mul hp (x := r) (y := 2)).2 (by omega); omega
                                · exact (Nat.le_div_iff_mul_le hp).2 (by omega)
      have g3 : r % p = r - p := by have := Nat.div_add_mod r p; rw [g1] at this; omega
      rw [g3]
      by_cases h5 : r = p
      · subst h5; simp [g1]
      · have g2 : 2 * p < 2 * r := by omega
        have g4 : ¬ r - p = 0 := by omega
        simp [g1, g2, g4]
    · have g1 : r / p = 0 := Nat.div_eq_of_lt (by omega)
      have g2 : ¬ 2 * p < 2 * r := by omega
      have f1 : ¬ 2 * p = 2 * r := by omega
      simp [g1, g2, f1]
theorem bitsN_lt (n : Nat) : n < 2 ^ bitsN n := by
  unfold bitsN; split
  · simp_all
  · exact Nat.lt_log2_self
theorem bitsN_le {n : Nat} (h : n ≠ 0) : 2 ^ (bitsN n - 1) ≤ n := by
  unfold bitsN; rw [if_neg h, Nat.add_sub_cancel]; exact Nat.log2_self_le h
theorem bitsN_le_iff {n k : Nat} : bitsN n ≤ k ↔ n < 2 ^ k := by
  constructor
  · intro h; exact Nat.lt_of_lt_of_le (bitsN_lt n) (Nat.pow_le_pow_right (by omega) h)
  · intro h
    rcases Nat.lt_or_ge k (bitsN n) with h1 | h1
    · have hn : n ≠ 0 := by rintro rfl; simp [bitsN] at h1
      have := bitsN_le hn
      have h2 : (2 : Nat) ^ k ≤ 2 ^ (bitsN n - 1) := Nat.pow_le_pow_right (by omega) (by omega)
      omega
    · exact h1
/-- The rung at which a rounded number stands. -/
theorem round_rung (neg : Bool) (q : Nat) (e1 : Int) (he : -1074 ≤ e1) (hq : q ≤ 2 ^ 53) (hsub : -1074 < e1 → 2 ^ 52 ≤ q) :
    (let q2 := if 53 < bitsN q then q / 2 else q
     let e2 := if 53 < bitsN q then e1 + 1 else e1
     let out := if neg then 2 ^ 63 else 0
     if q2 < 2 ^ 52 then out + q2
     else if 2047 ≤ e2 + 1075 then out + 2047 * 2 ^ 52
     else out + (e2 + 1075).toNat * 2 ^ 52 + (q2 - 2 ^ 52)) = double.word neg (min ((e1 - (-1074)).toNat * 2 ^ 52 + q) (2047 * 2 ^ 52)) := by
  have hw : ∀ r, double.word neg r = (if neg then 2 ^ 63 else 0) + r := by
    intro r; unfold Format.word; rw [dbl_sign]; cases neg <;> simp
  rw [hw]
  have p53 : (2 : Nat) ^ 53 = 2 * 2 ^ 52 := by decide
  obtain ⟨k, hk⟩ : ∃ k : Nat, e1 = (k : Int) - 1074 := ⟨(e1 + 1074).toNat, by omega⟩
  subst hk
  have hk : ((k : Int) - 1074 - (-1074)).toNat = k := by omega
  rw [hk]
  by_cases hb : 53 < bitsN q
  · have h53 : ¬ q < 2 ^ 53 := fun h => by have := bitsN_le_iff.2 h; omega
    have hq' : q = 2 ^ 53 := by omega
    simp only [if_pos hb]
    subst hq'
    have h0 : (2 : Nat) ^ 53 / 2 = 2 ^ 52 := by decide
    rw [h0, if_neg (by omega)]
    have hn : ((k : Int) - 1074 + 1 + 1075).toNat = k + 2 := by omega
    rw [hn]
    split <;> omega
  · have h53 : q < 2 ^ 53 := bitsN_le_iff.1 (by omega)
    simp only [if_neg hb]
    have hn : ((k : Int) - 1074 + 1075).toNat = k + 1 := by omega
    rw [hn]
    split
    · have : k = 0 := by
        rcases Nat.eq_zero_or_pos k with h | h
        · exact h
        · have := hsub (by omega); omega
      subst this
      omega
    · split <;> omega
theorem rq_one (M : Nat) : rq M 1 = M := by
  unfold rq; rw [Nat.mod_one, Nat.div_one]; simp
/-- The document's rounding is the format's. -/
theorem roundR_nearest (neg : Bool) (n : Nat) (e : Int) : roundR neg n e false = double.nearest neg n e := by
  unfold roundR Format.nearest
  by_cases h0 : n = 0
  · rw [if_pos h0, if_pos h0]; unfold Format.word; rw [dbl_sign]
  rw [if_neg h0, if_neg h0]
  have hb : bitsN n = n.log2 + 1 := by unfold bitsN; rw [if_neg h0]
  have hlog : 2 ^ n.log2 ≤ n := Nat.log2_self_le h0
  have hlog2 : n < 2 ^ (n.log2 + 1) := Nat.lt_log2_self
  simp only [dbl_frac, dbl_least, dbl_binade, dbl_inf, cut_even]
  have hs : max (e + (n.log2 : Int) - ((52 : Nat) : Int)) (-1074) = e + max ((bitsN n : Int) - 53) (-1074 - e) := by rw [hb]; omega
  rw [hs]
  generalize hsd : max ((bitsN n : Int) - 53) (-1074 - e) = s
  have hs1 : (bitsN n : Int) - 53 ≤ s := by omega
  have hs2 : -1074 - e ≤ s := by omega
  have hs3 : s = (bitsN n : Int) - 53 ∨ s = -1074 - e := by omega
  have hkey : (if 0 < s then n / 2 ^ s.toNat else n * 2 ^ (-s).toNat) + (decide (0 < s) && (n / 2 ^ (s.toNat - 1) % 2 == 1) && ((decide (1 < s) && (n % 2 ^ (s.toNat - 1) != 0)) || false || ((if 0 < s then n / 2 ^ s.toNat else n * 2 ^ (-s).toNat) % 2 == 1))).toNat
      = rq (n <<< (e - (e + s)).toNat) (2 ^ (e + s - e).toNat) := by
    have f1 : (e - (e + s)).toNat = (-s).toNat := by omega
    have f2 : (e + s - e).toNat = s.toNat := by omega
    rw [f1, f2]
    by_cases hp : 0 < s
    · have g : (-s).toNat = 0 := by omega
      rw [g, Nat.shiftLeft_zero]
      have hu := up_eq n s.toNat false (by omega)
      rw [if_neg (by simp)] at hu
      rw [← hu]
      have g2 : (decide (1 < s.toNat)) = decide (1 < s) := by rw [decide_eq_decide]; omega
      simp only [hp, if_true, decide_true, Bool.true_and, g2]
    · have g : s.toNat = 0 := by omega
      simp only [hp, if_false, decide_false, Bool.false_and, Bool.toNat_false, Nat.add_zero]
      rw [g, Nat.pow_zero, rq_one, Nat.shiftLeft_eq]
  simp only [hkey]
  refine round_rung neg _ (e + s) (by omega) ?_ ?_
  · refine rq_le (Nat.two_pow_pos _) ?_
    rw [Nat.shiftLeft_eq, ← Nat.pow_add]
    have : n * 2 ^ (e - (e + s)).toNat ≤ 2 ^ (n.log2 + 1) * 2 ^ (e - (e + s)).toNat := Nat.mul_le_mul_right _ (by omega)
    rw [← Nat.pow_add] at this
    refine Nat.le_trans this (Nat.pow_le_pow_right (by omega) (by omega))
  · intro h
    refine rq_ge (Nat.two_pow_pos _) ?_
    rw [Nat.shiftLeft_eq, ← Nat.pow_add]
    have : 2 ^ n.log2 * 2 ^ (e - (e + s)).toNat ≤ n * 2 ^ (e - (e + s)).toNat := Nat.mul_le_mul_right _ hlog
    rw [← Nat.pow_add] at this
    refine Nat.le_trans (Nat.pow_le_pow_right (by omega) (by omega)) this
/-- With something besides: the number with one more digit, a 1. -/
theorem roundR_more (neg : Bool) (n : Nat) (e : Int) (hn : 54 ≤ bitsN n) : roundR neg n e true = double.nearest neg (2 * n + 1) (e - 1) := by
  unfold roundR Format.nearest
  have h0 : n ≠ 0 := by rintro rfl; simp [bitsN] at hn
  rw [if_neg h0, if_neg (show ¬ 2 * n + 1 = 0 by omega)]
  have hb : bitsN n = n.log2 + 1 := by unfold bitsN; rw [if_neg h0]
  have hlog : 2 ^ n.log2 ≤ n := Nat.log2_self_le h0
  have hlog2 : n < 2 ^ (n.log2 + 1) := Nat.lt_log2_self
  have hl : (2 * n + 1).log2 = n.log2 + 1 := by
    rw [Nat.log2_eq_iff (by omega)]
    rw [Nat.pow_succ]; rw [Nat.pow_succ] at hlog2
    constructor
    · omega
    · rw [Nat.pow_succ, Nat.pow_succ]; omega
  simp only [dbl_frac, dbl_least, dbl_binade, dbl_inf, cut_even, hl]
  have hs : max (e - 1 + ((n.log2 + 1 : Nat) : Int) - ((52 : Nat) : Int)) (-1074) = e + max ((bitsN n : Int) - 53) (-1074 - e) := by rw [hb]; omega
  rw [hs]
  generalize hsd : max ((bitsN n : Int) - 53) (-1074 - e) = s
  have hp : 0 < s := by omega
  have hkey : (if 0 < s then n / 2 ^ s.toNat else n * 2 ^ (-s).toNat) + (decide (0 < s) && (n / 2 ^ (s.toNat - 1) % 2 == 1) && ((decide (1 < s) && (n % 2 ^ (s.toNat - 1) != 0)) || true || ((if 0 < s then n / 2 ^ s.toNat else n * 2 ^ (-s).toNat) % 2 == 1))).toNat
      = rq ((2 * n + 1) <<< (e - 1 - (e + s)).toNat) (2 ^ (e + s - (e - 1)).toNat) := by
    have f1 : (e - 1 - (e + s)).toNat = 0 := by omega
    have f2 : (e + s - (e - 1)).toNat = s.toNat + 1 := by omega
    rw [f1, f2, Nat.shiftLeft_zero]
    have hu := up_eq n s.toNat true (by omega)
    rw [if_pos rfl] at hu
    rw [← hu]
    have g2 : (decide (1 < s.toNat)) = decide (1 < s) := by rw [decide_eq_decide]; omega
    simp only [hp, if_true, decide_true, Bool.true_and, g2]
  simp only [hkey]
  refine round_rung neg _ (e + s) (by omega) ?_ ?_
  · refine rq_le (Nat.two_pow_pos _) ?_
    have f1 : (e - 1 - (e + s)).toNat = 0 := by omega
    rw [f1, Nat.shiftLeft_zero, ← Nat.pow_add]
    refine Nat.le_trans (m := 2 ^ (n.log2 + 2)) ?_ (Nat.pow_le_pow_right (by omega) (by omega))
    rw [Nat.pow_succ]; omega
  · intro h
    refine rq_ge (Nat.two_pow_pos _) ?_
    have f1 : (e - 1 - (e + s)).toNat = 0 := by omega
    rw [f1, Nat.shiftLeft_zero, ← Nat.pow_add]
    refine Nat.le_trans (m := 2 ^ (n.log2 + 1)) (Nat.pow_le_pow_right (by omega) (by omega)) ?_
    rw [Nat.pow_succ]; omega
end Go.Proofs.YtajaijidecomdaaGreatDoor.FL
