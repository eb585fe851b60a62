/- slices.Clone at rows of Labels. Written off a master by mk2.py. labels.Cmp with the count of draws kept: new blocks, more draws, nothing else. Turned from LabCmp by genlabgrw.py. -/
import Derived.Test.YtajaijidecomdaaGreatDoorG05
import Derived.Deep.DeepCutAuto
import Derived.OwnWalk
import Derived.WalkLawsBesides
import Derived.Test.YtajaijidecomdaaGreatDoorLabCmp
import Derived.Sort.Grow
import Derived.Deep.Draws
namespace Go.Proofs.YtajaijidecomdaaGreatDoor
open Go.RowKit Go.Lib

def OwnPostLabel (B n : Nat) (l : List Lb) (w : World) (e : Ending) (w' : World) : Prop := ∃ v', e = .returned v' ∧ w'.ownsRow B 104 2 v' n (l.flatMap Lb.cells) ∧ Below w.heap.size w w'
set_option maxHeartbeats 2000000 in
set_option maxRecDepth 100000 in
theorem cloneLabel (A : Option Addr) (n c : Nat) (l : List Lb) (w : World) (hL : Lst Lb.cells 2 w w.heap.size A n l) (hnil : A = none → n = 0 ∧ c = 0) (hn : n ≤ 1099511627776) :
    Calls Tryz.prog 101 #[.slice A n c] w (OwnPostLabel w.heap.size n l w) := by
  obtain ⟨i0, hi, hz0, hz1, hz2⟩ := info_parts Tryz.infoLabel
  cases A with
  | none =>
    obtain ⟨rfl, rfl⟩ := hnil rfl
    have hl0 : l = [] := List.length_eq_zero_iff.1 hL.1
    clear hi hz0 hz1 hz2 hL hnil
    have hq := fun w : World => Lib.run_eql_slice_nil w 88 104 none 0 0 0 0 Tryz.underlying88
    go_enter Tryz.func101, Tryz.ntmps101
    go_wp2
    go_ret
    exact ⟨_, rfl, by rw [hl0]; exact World.ownsRow_nil _ _ _ _, Below.refl _ _⟩
  | some ad =>
    have hcells := fun w1 (hb : Below w.heap.size w w1) => (hL.below hb).flat Lb.len
    have HC := Lib.hid hcells
    have HLL := Lib.hid hL.1
    have hq := fun w : World => Lib.run_eql_slice_nil w 88 104 (some ad) n c 0 0 Tryz.underlying88
    clear hcells hL hnil
    go_enter Tryz.func101, Tryz.ntmps101
    go_wp2_with (at_builtin; refine wpList_append_own _ rfl _ _ 88 rfl w.heap.size 104 i0 _ 2 32 Tryz.underlying88 hi hz0 hz1 hz2 rfl (by omega) _ _ _ rfl (World.ownsRow_made w #[] 0 (Nat.le_refl _) (Nat.zero_le _) (by simp)) ad n c (l.flatMap Lb.cells) rfl (by rw [flatMap_length (enc := Lb.cells) (size := 2) (fun _ => rfl), HLL.out]) (HC.out _ ((Below.refl _ w).alloc (Nat.le_refl _) _)) (oneLabel _) (by unfold maxLen; omega) (by omega) (by simp) ?_)
    intro v' w1 hown hgrow _
    have HF := Lib.hid (show _ ∧ _ from ⟨hown, ((Below.refl w.heap.size w).alloc (Nat.le_refl _) _).grown hgrow (by simp) (by intro k hk; simp [Value.ownBlock] at hk; omega)⟩)
    clear hi hz0 hz1 hz2 hown hgrow hq
    go_wp2
    go_ret
    exact ⟨v', rfl, by simpa using HF.out.1, HF.out.2⟩
end Go.Proofs.YtajaijidecomdaaGreatDoor
namespace Go.Proofs.YtajaijidecomdaaGreatDoor
open Go.RowKit Go.Lib Go.Sort

/-- As Below, and no fewer draws. -/
structure Grw (B : Nat) (a w : World) : Prop where
  below : Below B a w
  drawn : a.drawn ≤ w.drawn
theorem Grw.refl (B : Nat) (w : World) : Grw B w w := ⟨Below.refl B w, Nat.le_refl _⟩
theorem Grw.trans {B : Nat} {a b c : World} (h : Grw B a b) (k : Grw B b c) : Grw B a c := ⟨h.below.trans k.below, Nat.le_trans h.drawn k.drawn⟩
theorem Grw.mono {B B' : Nat} {w w' : World} (h : Grw B w w') (hB : B' ≤ B) : Grw B' w w' := ⟨h.below.mono hB, h.drawn⟩
theorem Grw.drew {B : Nat} {a w : World} (h : Grw B a w) : Grw B a w.drew := ⟨h.below.drew, Nat.le_trans h.drawn (Nat.le_succ _)⟩
theorem Grw.alloc {B : Nat} {a w : World} (h : Grw B a w) (hB : B ≤ w.heap.size) (o : Obj) : Grw B a (w.alloc o) := ⟨h.below.alloc hB o, h.drawn⟩
theorem Grw.size {B : Nat} {a w : World} (h : Grw B a w) : a.heap.size ≤ w.heap.size := h.below.size
theorem Grw.cell {B : Nat} {w w' : World} (h : Grw B w w') {p : Addr} (hp : p.block < B) : w'.cell? p = w.cell? p := h.below.cell hp
theorem Grw.grow {w w' : World} (h : Grw w.heap.size w w') : ∃ q os', w' = Go.Sort.grow (w.drewN q) os' := by
  refine ⟨w'.drawn - w.drawn, w'.heap.extract w.heap.size w'.heap.size, ?_⟩
  obtain ⟨⟨h1, h2, h3, h4, h5⟩, h6⟩ := h
  obtain ⟨hp, tp, dr, os, op⟩ := w
  obtain ⟨hp', tp', dr', os', op'⟩ := w'
  simp only at h1 h2 h3 h4 h5 h6
  subst h1 h2 h3
  unfold Go.Sort.grow World.drewN
  simp only
  congr 1
  · apply Array.ext_getElem?
    intro k
    rw [Array.getElem?_append]
    by_cases hk : k < hp.size
    · rw [if_pos hk]; exact h5 k hk
    · rw [if_neg hk, Array.getElem?_extract]
      by_cases hk2 : k < hp'.size
      · rw [if_pos (by omega), show hp.size + (k - hp.size) = k by omega]
      · rw [if_neg (by omega), Array.getElem?_eq_none (by omega)]
  · omega
set_option maxHeartbeats 2000000 in
set_option maxRecDepth 100000 in
theorem labelCmp_g (x y : Lb) (W : World) : Calls Tryz.prog 215 #[.agg #[.string x.nm, .string x.vl], .agg #[.string y.nm, .string y.vl]] W fun e w' => e = .returned (.int .i64 (labelC x y)) ∧ Grw W.heap.size W w' := by
  have hlc : labelC x y = orC (textC x.nm y.nm) (textC x.vl y.vl) := rfl
  rw [hlc]
  clear hlc
  go_enter Tryz.func215, Tryz.ntmps215
  go_wp2_with fail
  have hbx : Grw W.heap.size W ((W.alloc (.cells #[.string x.nm, .string x.vl] 104)).alloc (.cells #[.string y.nm, .string y.vl] 104)) := ((Grw.refl _ _).alloc (Nat.le_refl _) _).alloc (by simp) _
  have hx0 : ((W.alloc (.cells #[.string x.nm, .string x.vl] 104)).alloc (.cells #[.string y.nm, .string y.vl] 104)).cell? ⟨W.heap.size, 0, none⟩ = some (.string x.nm) := by simp
  have hx1 : ((W.alloc (.cells #[.string x.nm, .string x.vl] 104)).alloc (.cells #[.string y.nm, .string y.vl] 104)).cell? ⟨W.heap.size, 1, none⟩ = some (.string x.vl) := by simp
  have hy0 : ((W.alloc (.cells #[.string x.nm, .string x.vl] 104)).alloc (.cells #[.string y.nm, .string y.vl] 104)).cell? ⟨W.heap.size + 1, 0, none⟩ = some (.string y.nm) := by simp
  have hy1 : ((W.alloc (.cells #[.string x.nm, .string x.vl] 104)).alloc (.cells #[.string y.nm, .string y.vl] 104)).cell? ⟨W.heap.size + 1, 1, none⟩ = some (.string y.vl) := by simp
  have hs : ((W.alloc (.cells #[.string x.nm, .string x.vl] 104)).alloc (.cells #[.string y.nm, .string y.vl] 104)).heap.size = W.heap.size + 2 := by simp
  generalize (W.alloc (.cells #[.string x.nm, .string x.vl] 104)).alloc (.cells #[.string y.nm, .string y.vl] 104) = w1 at hbx hx0 hx1 hy0 hy1 hs ⊢
  have H := Lib.hid (show _ ∧ _ from ⟨hbx, hs⟩)
  have n0 : W.heap.size ≠ w1.heap.size := by omega
  have n1 : W.heap.size + 1 ≠ w1.heap.size := by omega
  have n0' : w1.heap.size ≠ W.heap.size := by omega
  have n1' : w1.heap.size ≠ W.heap.size + 1 := by omega
  clear hbx hs
  go_region_held3 (fun w' => w'.cell? ⟨W.heap.size, 0, none⟩ = some (.string x.nm) ∧ w'.cell? ⟨W.heap.size, 1, none⟩ = some (.string x.vl) ∧ w'.cell? ⟨W.heap.size + 1, 0, none⟩ = some (.string y.nm) ∧ w'.cell? ⟨W.heap.size + 1, 1, none⟩ = some (.string y.vl)) (go_keep)
    (first | (go_at_call 216; refine (or_two (textC x.nm y.nm) (textC x.vl y.vl) _ _ (by simp) (by simp)).mono ?_; rintro e w' ⟨rfl, rfl⟩) | (go_at_call 217; refine (compare_str _ _ _).mono ?_; rintro e w' ⟨rfl, rfl⟩))
  all_goals
    go_wp2
    go_ret
    exact ⟨rfl, (H.out.1.alloc (by have := H.out.2; omega) _).drew⟩
set_option maxHeartbeats 2000000 in
set_option maxRecDepth 100000 in
theorem compareFunc_g (A A' : Option Addr) (n c n' c' : Nat) (la lb : List Lb) (w : World) (hA : Lst Lb.cells 2 w w.heap.size A n la) (hB : Lst Lb.cells 2 w w.heap.size A' n' lb) (hn : n ≤ 1099511627776) (hn' : n' ≤ 1099511627776) :
    Calls Tryz.prog 214 #[.slice A n c, .slice A' n' c', .func (.func 215) #[] #[]] w fun e w' => e = .returned (.int .i64 (labelsC la lb)) ∧ Grw w.heap.size w w' := by
  have HA := Lib.hid (show _ ∧ _ from ⟨hA, hB⟩)
  clear hA hB
  go_enter Tryz.func214, Tryz.ntmps214
  go_wp2
  go_loopw [7, 8, 9, 10, 13] (fun _ _ _ _ iv wr => ∃ k : Nat, k ≤ n ∧ iv = .int .i64 k ∧ Hid (labelsC la lb = lexC labelC (la.drop k) (lb.drop k)) ∧ Grw w.heap.size w wr ∧ k ≤ n') (fun _ _ _ _ iv _ => n - (intOf iv).toNat)
  case atStart => exact ⟨0, Nat.zero_le _, rfl, Lib.hid rfl, Grw.refl _ _, Nat.zero_le _⟩
  case round =>
    obtain ⟨k, hk, rfl, HE, hbl, hk'⟩ := hrel
    have hsz := hbl.size
    by_cases hlt : k < n
    · obtain ⟨b, off, x, rfl, hb, hx, hc⟩ := HA.out.1.at hlt
      have c0 := (hbl.cell (p := ⟨b, off + k * 2 + 0, none⟩) hb).trans (hc 0 _ rfl)
      have c1 := (hbl.cell (p := ⟨b, off + k * 2 + 1, none⟩) hb).trans (hc 1 _ rfl)
      simp only [Nat.add_zero] at c0
      have i1 : (0 : Int) ≤ (k : Int) := by omega
      have i2 : (k : Int) < (n : Int) := by omega
      by_cases hlt2 : k < n'
      · obtain ⟨b', off', y, rfl, hb', hy, hc'⟩ := HA.out.2.at hlt2
        have d0 := (hbl.cell (p := ⟨b', off' + k * 2 + 0, none⟩) hb').trans (hc' 0 _ rfl)
        have d1 := (hbl.cell (p := ⟨b', off' + k * 2 + 1, none⟩) hb').trans (hc' 1 _ rfl)
        simp only [Nat.add_zero] at d0
        have i3 : (k : Int) < (n' : Int) := by omega
        have n0 : b' ≠ wr.heap.size := by omega
        have n0' : wr.heap.size ≠ b' := by omega
        have n1 : b' < wr.heap.size := by omega
        have hdr := lexC_drop (c := labelC) hx hy
        have HD := Lib.hid (show _ ∧ _ from ⟨hdr, HE.out⟩)
        have hcall := fun W' => labelCmp_g x y W'
        obtain ⟨cv, hcv⟩ : ∃ cv, labelC x y = cv := ⟨_, rfl⟩
        rw [hcv] at HD
        have hcall2 : ∀ W', Calls Tryz.prog 215 #[.agg #[.string x.nm, .string x.vl], .agg #[.string y.nm, .string y.vl]] W' fun e w' => e = .returned (.int .i64 cv) ∧ Grw W'.heap.size W' w' := by rw [← hcv]; exact hcall
        have HC := Lib.hid hcall2
        clear hcall hcall2 hcv hc hc' hx hy hdr HE
        by_cases hz : cv = 0
        · subst hz
          go_wp2_with fail
          refine (HC.out _).mono ?_
          rintro e w2 ⟨rfl, hb2⟩
          have hb3 : Grw w.heap.size w w2 := ((hbl.alloc hsz _).alloc (by simp; omega) _).trans (hb2.mono (by simp; omega))
          have HB := Lib.hid hb3
          clear hb2 hb3 c0 c1 d0 d1
          go_wp2
          go_roundw
          case measure => simp [intOf]; omega
          case rel => exact ⟨k + 1, hlt, by simp, Lib.hid (by rw [HD.out.2, HD.out.1]; simp), HB.out, hlt2⟩
        · have z1 : (cv != 0) = true := by rw [bne_iff_ne]; exact hz
          go_wp2_with fail
          refine (HC.out _).mono ?_
          rintro e w2 ⟨rfl, hb2⟩
          have hb3 : Grw w.heap.size w w2 := ((hbl.alloc hsz _).alloc (by simp; omega) _).trans (hb2.mono (by simp; omega))
          have HB := Lib.hid hb3
          clear hb2 hb3 c0 c1 d0 d1
          go_wp2
          go_ret
          exact ⟨by rw [HD.out.2, HD.out.1, if_neg hz]; rfl, HB.out⟩
      · have i3 : ¬ (k : Int) < (n' : Int) := by omega
        have i4 : (n' : Int) ≤ (k : Int) := by omega
        have he : labelsC la lb = 1 := by
          rw [HE.out, List.drop_eq_nil_of_le (by have := HA.out.2.1; omega : lb.length ≤ k)]
          obtain ⟨h1, e1⟩ := List.getElem?_eq_some_iff.1 hx
          rw [List.drop_eq_getElem_cons h1]
          rfl
        have HX := Lib.hid he
        clear he hc hx HE
        go_wp2
        go_ret
        exact ⟨by rw [HX.out]; rfl, hbl.alloc hsz _⟩
    · obtain rfl : k = n := by omega
      have hda : la.drop k = [] := List.drop_eq_nil_of_le (by have := HA.out.1.1; omega)
      by_cases hlt2 : k < n'
      · have i3 : (k : Int) < (n' : Int) := by omega
        have he : labelsC la lb = -1 := by
          rw [HE.out, hda, List.drop_eq_getElem_cons (by have := HA.out.2.1; omega)]
          rfl
        have HX := Lib.hid he
        clear he hda HE
        go_wp2
        go_ret
        exact ⟨by rw [HX.out]; rfl, hbl⟩
      · have i3 : ¬ (k : Int) < (n' : Int) := by omega
        have he : labelsC la lb = 0 := by
          rw [HE.out, hda, List.drop_eq_nil_of_le (by have := HA.out.2.1; omega)]
          rfl
        have HX := Lib.hid he
        clear he hda HE
        go_wp2
        go_ret
        exact ⟨by rw [HX.out]; rfl, hbl⟩
theorem labelsCmp_g (A A' : Option Addr) (n c n' c' : Nat) (la lb : List Lb) (w : World) (hA : Lst Lb.cells 2 w w.heap.size A n la) (hB : Lst Lb.cells 2 w w.heap.size A' n' lb) (hn : n ≤ 1099511627776) (hn' : n' ≤ 1099511627776) :
    Calls Tryz.prog 164 #[.slice A n c, .slice A' n' c'] w fun e w' => e = .returned (.int .i64 (labelsC la lb)) ∧ Grw w.heap.size w w' := by
  have HC := Lib.hid (compareFunc_g A A' n c n' c' la lb w hA hB hn hn')
  clear hA hB
  go_enter Tryz.func164, Tryz.ntmps164
  go_wp2_with fail
  refine HC.out.mono ?_
  rintro e w' ⟨rfl, hb⟩
  go_wp2
  go_ret
  exact ⟨rfl, hb⟩
end Go.Proofs.YtajaijidecomdaaGreatDoor
