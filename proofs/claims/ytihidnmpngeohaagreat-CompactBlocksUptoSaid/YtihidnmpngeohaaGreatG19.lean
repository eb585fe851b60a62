/- LentLabels. Written off a master by mk2.py. WholeLabels, SpoilLabels. Written off a master by mk2.py. LentTombs, SameTombs. -/
import Derived.Test.YtihidnmpngeohaaGreatG12
import Derived.OwnWalk
import Derived.Laws.AppendOwnNone
import Derived.RangeFuncBox
import Derived.Laws.Rows
import Derived.BigQuiet
import Derived.Test.YtihidnmpngeohaaGreatG18
import Derived.Deep.QuietTactic
namespace Go.Proofs.YtihidnmpngeohaaGreat
open Go.RowKit Go.Lib

def mALabel : Lb := ⟨⟨#[111]⟩, ByteArray.empty⟩
def mBLabel : Lb := ⟨⟨#[112]⟩, ByteArray.empty⟩
/-- What LentLabels leaves. -/
def LentLabelPost (w : World) (l : List (Lb)) (n : Nat) (e : Ending) (w' : World) : Prop :=
  ∃ g c, e = .returned (.slice (some ⟨g, 0, none⟩) n c) ∧ w'.ownsRow w.heap.size 29 2 (.slice (some ⟨g, 0, none⟩) (n + 2) c) (n + 2) ((l ++ [mALabel, mBLabel]).flatMap Lb.cells) ∧ Below w.heap.size w w'
set_option maxHeartbeats 2000000 in
set_option maxRecDepth 100000 in
theorem lentLabel_any (A : Option Addr) (n c : Nat) (l : List (Lb)) (w : World) (hr : Lst Lb.cells 2 w w.heap.size A n l) (hnil : A = none → n = 0 ∧ c = 0) (hbig : n ≤ 1000000000) :
    Calls Tryz.prog 27 #[.slice A n c] w (LentLabelPost w l n) := by
  obtain ⟨i0, hi, hz0, hz1, hz2⟩ := info_parts Tryz.infoLabel
  have hbts : i0.bytes * (n + 2) ≤ 281474976710656 := by rw [hz2]; omega
  have HB := Lib.hid hbts
  clear hbts
  go_enter Tryz.func27, Tryz.ntmps27
  go_wp2_with (refine wpList_make_own _ rfl _ _ 23 rfl w.heap.size 29 i0 _ 2 Tryz.underlying23 hi hz0 hz1 .i64 .i64 _ (n + 2) rfl rfl (by simp) HB.out (by unfold maxLen; omega) (Nat.le_refl _) ?_)
  intro w1 hown hg
  have hb1 : Below w.heap.size w w1 := (Below.refl _ _).grown hg (Nat.le_refl _) (fun _ h => by cases h)
  have H1 := Lib.hid (show _ ∧ _ from ⟨hown, hb1⟩)
  have HLEN := Lib.hid hr.1
  have hsrc : ∀ ad, A = some ad → ∀ j u, (l.flatMap Lb.cells)[j]? = some u → w1.cell? (ad.add j) = some u := by
    rintro ad rfl
    have := (hr.below hb1).flat Lb.len
    exact this
  have HS := Lib.hid hsrc
  clear hown hg hb1 hr hsrc
  cases A with
  | none =>
    obtain ⟨rfl, rfl⟩ := hnil rfl
    have hl0 : l = [] := List.length_eq_zero_iff.1 HLEN.out
    have hown2 : w1.ownsRow w.heap.size 29 2 (.slice (some ⟨w.heap.size, 0, none⟩) 0 (0 + 2)) 0 (l.flatMap Lb.cells) := by rw [hl0]; exact H1.out.1
    have HO2 := Lib.hid (show _ ∧ _ from ⟨hown2, H1.out.2⟩)
    clear hown2 HS
    go_wp2_with (at_builtin; first | refine wpList_append_own_none rfl _ _ 23 rfl w.heap.size 29 i0 2 Tryz.underlying23 hi _ 0 [] rfl H1.out.1 rfl ?_ | refine wpList_append_own _ rfl _ _ 23 rfl w.heap.size 29 i0 _ 2 32 Tryz.underlying23 hi hz0 hz1 hz2 rfl (by omega) _ 0 (l.flatMap Lb.cells) rfl (HO2.out.1.alloc _) ⟨w1.heap.size, 0, none⟩ 2 2 ([mALabel, mBLabel].flatMap Lb.cells) rfl rfl (cells_newL w1 ([mALabel, mBLabel].flatMap Lb.cells) _) (oneLabel _) (by unfold maxLen; omega) (by omega) (by have := HO2.out.2.size; simp; omega) ?_)
    intro v3 w3 hown3 hg3 _
    have hown3' : w3.ownsRow w.heap.size 29 2 v3 (0 + 2) ((l ++ [mALabel, mBLabel]).flatMap Lb.cells) := by rw [hl0]; simpa using hown3
    clear hown3
    obtain ⟨g, cap, rfl⟩ := ownsRow_succ hown3'
    have hown3 := hown3'
    clear hown3'
    have hb3 := (HO2.out.2.alloc HO2.out.2.size _).grown hg3 (by have := HO2.out.2.size; simp; omega) (fun x hx => (HO2.out.1.lt x hx).1)
    have hcap : 2 ≤ cap := by
      rcases hown3.2 with ⟨h, _⟩ | ⟨_, _, _, h, _, _, h1, _⟩
      · cases h
      · cases h; exact h1
    have HF := Lib.hid (show _ ∧ _ from ⟨hown3, hb3⟩)
    clear hown3 hg3 hb3 hi hz0 hz1 hz2
    go_wp2
    go_ret
    exact ⟨g, cap, rfl, HF.out.1, HF.out.2⟩
  | some ad =>
    go_wp2_with (at_builtin; go_loud (refine wpList_append_own _ rfl _ _ 23 rfl w.heap.size 29 i0 _ 2 32 Tryz.underlying23 hi hz0 hz1 hz2 rfl (by omega) _ 0 [] rfl H1.out.1 ad n c (l.flatMap Lb.cells) rfl (by rw [flatMap_length (enc := Lb.cells) (size := 2) Lb.len, HLEN.out]) (HS.out ad rfl) (oneLabel _) (by unfold maxLen; omega) (by omega) H1.out.2.size ?_))
    intro v2 w2 hown2 hg2 _
    have hb2 := H1.out.2.grown hg2 H1.out.2.size (fun x hx => (H1.out.1.lt x hx).1)
    clear hg2 H1 HS
    have HO2 := Lib.hid (show _ ∧ _ from ⟨hown2, hb2⟩)
    clear hown2 hb2
    go_wp2_with (at_builtin; go_loud (refine wpList_append_own _ rfl _ _ 23 rfl w.heap.size 29 i0 _ 2 32 Tryz.underlying23 hi hz0 hz1 hz2 rfl (by omega) _ n (l.flatMap Lb.cells) rfl (HO2.out.1.alloc _) ⟨w2.heap.size, 0, none⟩ 2 2 ([mALabel, mBLabel].flatMap Lb.cells) rfl rfl (cells_newL w2 ([mALabel, mBLabel].flatMap Lb.cells) _) (oneLabel _) (by unfold maxLen; omega) (by omega) (by have := HO2.out.2.size; simp; omega) ?_))
    intro v3 w3 hown3 hg3 _
    have hown3' : w3.ownsRow w.heap.size 29 2 v3 (n + 2) ((l ++ [mALabel, mBLabel]).flatMap Lb.cells) := by simpa [List.flatMap_append] using hown3
    clear hown3
    obtain ⟨g, cap, rfl⟩ := ownsRow_succ hown3'
    have hown3 := hown3'
    clear hown3'
    have hb3 := (HO2.out.2.alloc HO2.out.2.size _).grown hg3 (by have := HO2.out.2.size; simp; omega) (fun x hx => (HO2.out.1.lt x hx).1)
    have hcap : n + 2 ≤ cap := by
      rcases hown3.2 with ⟨h, _⟩ | ⟨_, _, _, h, _, _, h1, _⟩
      · cases h
      · cases h; exact h1
    have HF := Lib.hid (show _ ∧ _ from ⟨hown3, hb3⟩)
    clear hown3 hg3 hb3 hi hz0 hz1 hz2
    go_wp2
    go_ret
    exact ⟨g, cap, rfl, HF.out.1, HF.out.2⟩
end Go.Proofs.YtihidnmpngeohaaGreat
namespace Go.Proofs.YtihidnmpngeohaaGreat
open Go.RowKit Go.Lib

set_option maxHeartbeats 2000000 in
theorem wholeLabel_q (g c : Nat) (B : Option Addr) (n cb : Nat) (l : List (Lb)) (w : World) (ha : Lst Lb.cells 2 w w.heap.size (some ⟨g, 0, none⟩) (n + 2) (l ++ [mALabel, mBLabel])) (hc : n + 2 ≤ c) (hb : Lst Lb.cells 2 w w.heap.size B n l) (hbig : n ≤ 1000000000) :
    Calls Tryz.prog 36 #[.slice (some ⟨g, 0, none⟩) n c, .slice B n cb] w fun e w' => e = .returned (.bool true) ∧ ∃ q, w' = w.drewN q := by
  have hl := hb.1
  obtain ⟨b, off, e, hbb, hcc⟩ := ha.2 (by omega)
  cases e
  have hA : (l ++ [mALabel, mBLabel])[n]? = some mALabel := by rw [List.getElem?_append_right (by omega), hl]; simp
  have hB : (l ++ [mALabel, mBLabel])[n + 1]? = some mBLabel := by rw [List.getElem?_append_right (by omega), hl]; simp
  have c0 := hcc n _ hA 0 _ rfl
  have c1 := hcc n _ hA 1 _ rfl
  have d0 := hcc (n + 1) _ hB 0 _ rfl
  have d1 := hcc (n + 1) _ hB 1 _ rfl
  simp only [Nat.zero_add, Nat.add_zero, mALabel, mBLabel] at c0 c1 d0 d1
  have hown : Lst Lb.cells 2 w w.heap.size (some ⟨g, 0, none⟩) n l := by
    have := ha.take (k := n) (by omega)
    rwa [List.take_append_of_le_length (by omega), List.take_of_length_le (by omega)] at this
  have HS := Lib.hid (sameLabel_q (some ⟨g, 0, none⟩) B n c cb l w hown hb hbig)
  clear hown ha hb hcc hA hB hl
  have hci : (n : Int) + 2 ≤ (c : Int) := by omega
  go_enter Tryz.func36, Tryz.ntmps36
  go_wp2_with fail
  refine HS.out.mono ?_
  rintro e w' ⟨rfl, q, rfl⟩
  go_wp2
  go_ret
  exact ⟨rfl, _, by first | rfl | exact World.drewN_drewN _ _ _⟩
theorem wholeLabel_eq (g c : Nat) (B : Option Addr) (n cb : Nat) (l : List (Lb)) (w : World) (ha : Lst Lb.cells 2 w w.heap.size (some ⟨g, 0, none⟩) (n + 2) (l ++ [mALabel, mBLabel])) (hc : n + 2 ≤ c) (hb : Lst Lb.cells 2 w w.heap.size B n l) (hbig : n ≤ 1000000000) :
    Calls Tryz.prog 36 #[.slice (some ⟨g, 0, none⟩) n c, .slice B n cb] w fun e w' => e = .returned (.bool true) ∧ Below w.heap.size w w' :=
  (wholeLabel_q g c B n cb l w ha hc hb hbig).mono fun _ _ ⟨h1, h2⟩ => ⟨h1, below_drewLabel h2⟩
theorem grownBy_setLabel {w wr : World} {g : Nat} (h : w.grownBy wr (some g)) (i : Nat) (v : Value) : w.grownBy (wr.setCell ⟨g, i, none⟩ v) (some g) :=
  ⟨h.os, h.tape, h.output, by simpa using h.size, fun k hk hne => (heap_setCell_other _ _ _ _ (fun e => hne (by rw [e]))).trans (h.block k hk hne)⟩
set_option maxHeartbeats 4000000 in
set_option maxRecDepth 100000 in
theorem spoilLabel_any (g n c : Nat) (cur : Array Value) (w : World) (hg : w.heap[g]? = some (.cells cur 29 (0, 0))) (hsz : cur.size = c * 2) (_hn : n ≤ c) (hc : c ≤ maxLen) :
    Calls Tryz.prog 37 #[.slice (some ⟨g, 0, none⟩) n c] w fun e w' => e = .returned (.tuple #[]) ∧ w.grownBy w' (some g) := by
  have HG := Lib.hid (show _ ∧ _ from ⟨hg, hsz⟩)
  have hc' : c ≤ 9223372036854775807 := hc
  clear hg hsz hc
  go_enter Tryz.func37, Tryz.ntmps37
  go_wp2
  go_loopw [3] (fun i wr => ∃ (k : Nat) (cu : Array Value), k ≤ c ∧ i = .int .i64 k ∧ w.grownBy wr (some g) ∧ Hid (wr.heap[g]? = some (.cells cu 29 (0, 0)) ∧ cu.size = c * 2)) (fun i _ => c - (intOf i).toNat)
  case atStart => exact ⟨0, cur, Nat.zero_le _, rfl, ⟨rfl, rfl, rfl, Nat.le_refl _, fun _ _ _ => rfl⟩, HG⟩
  case round =>
    obtain ⟨k, cu, hk, rfl, hgr, HB⟩ := hrel
    by_cases hlt : k < c
    · have hcell : ∀ j, j < 2 → ∃ x, wr.cell? ⟨g, k * 2 + j, none⟩ = some x := fun j hj => ⟨_, by
        rw [cell_of_row _ _ _ _ _ _ HB.out.1]
        exact Array.getElem?_eq_getElem (by have := HB.out.2; omega)⟩
      have hfr : ∀ j, wr.frozen? ⟨g, j, none⟩ = false := fun j => by simp [World.frozen?, HB.out.1]
      obtain ⟨x0, c0⟩ := hcell 0 (by omega)
      obtain ⟨x1, c1⟩ := hcell 1 (by omega)
      have f0 := hfr (k * 2)
      have f1 := hfr (k * 2 + 1)
      simp only [Nat.add_zero] at c0
      clear hcell hfr
      go_wp2
      go_roundw
      case measure => simp [intOf]; omega
      case rel =>
        refine ⟨k + 1, _, hlt, by simp, grownBy_setLabel (grownBy_setLabel hgr _ _) _ _, Lib.hid ⟨heap_setCell_same _ _ _ _ _ _ (heap_setCell_same _ _ _ _ _ _ HB.out.1), ?_⟩⟩
        simpa using HB.out.2
    · go_wp2
      go_end0
      exact ⟨rfl, hgr⟩
end Go.Proofs.YtihidnmpngeohaaGreat
namespace Go.Proofs.YtihidnmpngeohaaGreat
open Go.RowKit Go.Lib

set_option maxHeartbeats 2000000 in
set_option maxRecDepth 100000 in
theorem sameTomb_q (A B : Option Addr) (n ca cb : Nat) (ys zs : List Tv) (w : World) (ha : Lst encTb 3 w w.heap.size A n ys) (hb : Lst encTb 3 w w.heap.size B n zs) (hy : ∀ y ∈ ys, Tat w w.heap.size y) (hz : ∀ z ∈ zs, Tat w w.heap.size z) (he : ys.map Tv.tb = zs.map Tv.tb) (hbig : n ≤ 1000000) :
    Calls Tryz.prog 12 #[.slice A n ca, .slice B n cb] w fun e w' => e = .returned (.bool true) ∧ ∃ q, w' = w.drewN q := by
  have HA := Lib.hid (show _ ∧ _ ∧ _ ∧ _ ∧ _ from ⟨ha, hb, hy, hz, he⟩)
  clear ha hb hy hz he
  go_enter Tryz.func12, Tryz.ntmps12
  go_wp2
  go_loopw [5] (fun i wr => ∃ k : Nat, k ≤ n ∧ i = .int .i64 k ∧ Hid (∃ q, wr = w.drewN q)) (fun i _ => n - (intOf i).toNat)
  case atStart => exact ⟨0, Nat.zero_le _, rfl, Lib.hid ⟨0, rfl⟩⟩
  case round =>
    obtain ⟨k, hk, rfl, HQ⟩ := hrel
    by_cases hlt : k < n
    · obtain ⟨b, off, y, rfl, hbb, hy, hc⟩ := HA.out.1.at hlt
      obtain ⟨b2, off2, z, rfl, hbb2, hz, hc2⟩ := HA.out.2.1.at hlt
      have hyz : y.tb = z.tb := by
        have h1 : (ys.map Tv.tb)[k]? = some y.tb := by rw [List.getElem?_map, hy]; rfl
        rw [HA.out.2.2.2.2, List.getElem?_map, hz] at h1
        exact (Option.some.inj h1).symm
      have hl : z.l = y.l := (congrArg Prod.fst hyz).symm
      have hg : z.g = y.g := (congrArg Prod.snd hyz).symm
      have hty := HA.out.2.2.1 y (List.mem_of_getElem? hy)
      have htz := HA.out.2.2.2.1 z (List.mem_of_getElem? hz)
      have hzn : z.n = y.n := by rw [← htz.lst.1, ← hty.lst.1, hl]
      obtain ⟨q, hq⟩ := HQ.out
      have hcell : ∀ p, wr.cell? p = w.cell? p := fun p => by rw [hq]; rfl
      have hsz : wr.heap.size = w.heap.size := by rw [hq]; rfl
      have c0 := (hcell _).trans (hc 0 _ rfl)
      have c1 := (hcell _).trans (hc 1 _ rfl)
      have c2 := (hcell _).trans (hc 2 _ rfl)
      have d0 := (hcell _).trans (hc2 0 _ rfl)
      have d1 := (hcell _).trans (hc2 1 _ rfl)
      have d2 := (hcell _).trans (hc2 2 _ rfl)
      rw [hg] at d1 d2
      rw [hzn] at d0
      simp only [Nat.add_zero] at c0 d0
      have hsame : ∀ W : World, (∃ m, W = wr.drewN m) → Calls Tryz.prog 42 #[.slice y.A y.n y.c, .slice z.A y.n z.c] W fun e w' => e = .returned (.bool true) ∧ ∃ m, w' = W.drewN m := fun W ⟨m, hm⟩ => by
        have e1 : ∀ p, W.cell? p = w.cell? p := fun p => by rw [hm]; exact hcell p
        have e2 : W.heap.size = w.heap.size := by rw [hm]; exact hsz
        refine sameLabel_q y.A z.A y.n y.c z.c y.l W ?_ ?_ (by have := hty.few; omega)
        · rw [e2]; exact hty.lst.keep fun p _ => e1 p
        · have := htz.lst
          rw [hl, hzn] at this
          rw [e2]; exact this.keep fun p _ => e1 p
      have HS := Lib.hid hsame
      clear hy hz hc hc2 hyz hl hg hty htz hzn hcell hsame hq hsz
      go_wp2_with (go_quiet (first | (go_at_call 42; refine Calls.quiet_of (HS.out _ ⟨_, rfl⟩))))
      go_roundw
      case measure => simp [intOf]; omega
      case rel => exact ⟨k + 1, hlt, by simp, Lib.hid ⟨_, by rw [HQ.out.choose_spec]; first | rfl | exact World.drewN_drewN _ _ _⟩⟩
    · go_wp2
      go_ret
      exact ⟨rfl, HQ.out⟩
/-- The tomb behind the end of what is lent out. -/
def mT : Tv := ⟨none, 0, 0, [], (-77, 0)⟩
/-- A tomb that is lent out: its labels lie in a row of their own, with two behind. -/
structure LentTb (w : World) (B : Nat) (y z : Tv) : Prop where
  lab : z.l = y.l
  gone : z.g = y.g
  len : z.n = y.n
  row : ∃ b, z.A = some ⟨b, 0, none⟩ ∧ w.ownsRow B 29 2 (.slice (some ⟨b, 0, none⟩) (y.n + 2) z.c) (y.n + 2) ((y.l ++ [mALabel, mBLabel]).flatMap Lb.cells)
structure LentTs (w : World) (B : Nat) (ys : List Tv) (v : Value) (k : Nat) (zs : List Tv) : Prop where
  row : w.ownsRow B 27 3 v k (zs.flatMap encTb)
  len : zs.length = k
  each : ∀ (j : Nat) y z, ys[j]? = some y → zs[j]? = some z → LentTb w B y z
  apart : zs.Pairwise fun a b => ∀ g, (Value.slice a.A a.n a.c).ownBlock = some g → (Value.slice b.A b.n b.c).ownBlock ≠ some g
theorem LentTb.blk {w : World} {B : Nat} {y z : Tv} (h : LentTb w B y z) : ∃ b, (Value.slice z.A z.n z.c).ownBlock = some b ∧ B ≤ b ∧ b < w.heap.size := by
  obtain ⟨b, h1, h2⟩ := h.row
  have := h2.lt b rfl
  exact ⟨b, by rw [h1]; rfl, this.1, this.2⟩
theorem LentTb.kept {w w' : World} {B : Nat} {y z : Tv} (h : LentTb w B y z) {S : Nat → Prop} (hg : GrownIn S w w') (hS : ∀ b, (Value.slice z.A z.n z.c).ownBlock = some b → ¬ S b) : LentTb w' B y z := by
  obtain ⟨b, h1, h2⟩ := h.row
  refine ⟨h.lab, h.gone, h.len, b, h1, hg.owns h2 (fun k hk => hS k ?_)⟩
  rw [h1]
  exact hk
theorem LentTb.below {w w' : World} {B : Nat} {y z : Tv} (h : LentTb w B y z) (hb : Below w.heap.size w w') : LentTb w' B y z :=
  h.kept (GrownIn.of_below hb) (fun b hb' => by obtain ⟨b2, h1, _, h3⟩ := h.blk; rw [h1] at hb'; injection hb' with hb'; omega)
theorem LentTb.base {w : World} {B B' : Nat} {y z : Tv} (h : LentTb w B y z) (hB : B' ≤ B) : LentTb w B' y z := by
  obtain ⟨b, h1, h2⟩ := h.row
  exact ⟨h.lab, h.gone, h.len, b, h1, owns_base h2 hB⟩
theorem LentTs.below {w w' : World} {B k : Nat} {v : Value} {ys zs : List Tv} (h : LentTs w B ys v k zs) (hb : Below w.heap.size w w') : LentTs w' B ys v k zs :=
  ⟨owns_below h.row hb, h.len, fun j y z h1 h2 => (h.each j y z h1 h2).below hb, h.apart⟩
/-- The next one is lent out. -/
theorem LentTs.step {w w5 wa w6 : World} {B k : Nat} {v v' : Value} {ys zs : List Tv} {y : Tv} {g5 c5 : Nat} (h : LentTs w B (ys.take k) v k zs) (hB : B ≤ w.heap.size) (hy : ys[k]? = some y)
    (ho5 : w5.ownsRow w.heap.size 29 2 (.slice (some ⟨g5, 0, none⟩) (y.n + 2) c5) (y.n + 2) ((y.l ++ [mALabel, mBLabel]).flatMap Lb.cells)) (h5 : Below w.heap.size w w5) (ha : Below w5.heap.size w5 wa)
    (hown : w6.ownsRow B 27 3 v' (k + 1) (zs.flatMap encTb ++ [.slice (some ⟨g5, 0, none⟩) y.n c5, .int .i64 y.g.1, .int .i64 y.g.2])) (hg : wa.grownBy w6 v.ownBlock) :
    LentTs w6 B (ys.take (k + 1)) v' (k + 1) (zs ++ [⟨some ⟨g5, 0, none⟩, y.n, c5, y.l, y.g⟩]) := by
  have hw := (h.below h5).below ha
  have hl := owns_below ho5 ha
  have hgr := GrownIn.of_grownBy hg
  have htk : (ys.take (k + 1))[k]? = some y := by rw [List.getElem?_take_of_lt (by omega)]; exact hy
  refine ⟨by rw [List.flatMap_append]; exact hown, by rw [List.length_append, h.len]; rfl, fun j y' z' h1 h2 => ?_, ?_⟩
  · by_cases hj : j < k
    · rw [List.getElem?_append_left (by rw [h.len]; exact hj)] at h2
      have h1' : (ys.take k)[j]? = some y' := by
        rw [List.getElem?_take_of_lt hj]
        rwa [List.getElem?_take_of_lt (by omega)] at h1
      have hz := hw.each j y' z' h1' h2
      refine hz.kept hgr (fun b hb e => ?_)
      obtain ⟨b2, q1, q2⟩ := hz.row
      have hb2 : b2 = b := by rw [q1] at hb; simpa [Value.ownBlock] using hb
      subst hb2
      exact owns_other q2 hw.row (by decide) rfl e
    · have hj2 := (List.getElem?_eq_some_iff.1 h2).1
      rw [List.length_append, h.len, List.length_singleton] at hj2
      obtain rfl : j = k := by omega
      rw [List.getElem?_append_right (by rw [h.len]; exact Nat.le_refl _), h.len, Nat.sub_self] at h2
      obtain rfl := (Option.some.inj h2)
      obtain rfl := Option.some.inj (htk.symm.trans h1)
      refine ⟨rfl, rfl, rfl, g5, rfl, hgr.owns (owns_base hl hB) (fun b hb e => ?_)⟩
      exact owns_other hl hw.row (by decide) hb e
  · refine List.pairwise_append.2 ⟨h.apart, List.pairwise_singleton _ _, fun a ha' b hb' g h1 h2 => ?_⟩
    rw [List.mem_singleton.1 hb'] at h2
    obtain ⟨j, hj, e⟩ := List.getElem_of_mem ha'
    have hjk : j < k := by rw [← h.len]; exact hj
    have hyl : k < ys.length := (List.getElem?_eq_some_iff.1 hy).1
    have hz := h.each j ys[j] a (by rw [List.getElem?_take_of_lt hjk]; exact List.getElem?_eq_getElem (by omega)) (by rw [← e]; exact List.getElem?_eq_getElem hj)
    obtain ⟨b2, q1, _, q3⟩ := hz.blk
    rw [q1] at h1
    have := (ho5.lt g5 rfl).1
    have e5 : g5 = g := by simpa [Value.ownBlock] using h2
    injection h1 with h1
    omega
theorem LentTs.close {wr wa w6 : World} {B n g6 c6 : Nat} {v : Value} {ys zs : List Tv} {us : List Value} (h : LentTs wr B ys v n zs) (ha : Below wr.heap.size wr wa) (ho : w6.ownsRow B 27 3 (.slice (some ⟨g6, 0, none⟩) (n + 1) c6) (n + 1) (zs.flatMap encTb ++ us)) (hg : wa.grownBy w6 v.ownBlock) :
    LentTs w6 B ys (.slice (some ⟨g6, 0, none⟩) n c6) n zs := by
  have hw := h.below ha
  have ht := owns_take ho (i := n) (by omega)
  rw [List.take_append_of_le_length (by rw [flatMap_length encTb_len, h.len]; exact Nat.le_refl _), List.take_of_length_le (by rw [flatMap_length encTb_len, h.len]; exact Nat.le_refl _)] at ht
  refine ⟨ht, h.len, fun j y z h1 h2 => ?_, h.apart⟩
  have hz := hw.each j y z h1 h2
  refine hz.kept (GrownIn.of_grownBy hg) (fun b hb e => ?_)
  obtain ⟨b2, q1, q2⟩ := hz.row
  have hb2 : b2 = b := by rw [q1] at hb; simpa [Value.ownBlock] using hb
  subst hb2
  exact owns_other q2 hw.row (by decide) rfl e
/-- What LentTombs leaves. -/
def LentTombPost (w : World) (ys : List Tv) (n : Nat) (e : Ending) (w' : World) : Prop :=
  ∃ g c zs, e = .returned (.slice (some ⟨g, 0, none⟩) n c) ∧ LentTs w' w.heap.size ys (.slice (some ⟨g, 0, none⟩) n c) n zs ∧ w'.ownsRow w.heap.size 27 3 (.slice (some ⟨g, 0, none⟩) (n + 1) c) (n + 1) ((zs ++ [mT]).flatMap encTb) ∧ Below w.heap.size w w'
set_option maxHeartbeats 4000000 in
set_option maxRecDepth 100000 in
theorem lentTombs_any (A : Option Addr) (n c : Nat) (ys : List Tv) (w : World) (hL : Lst encTb 3 w w.heap.size A n ys) (hn : n ≤ 1000000) (hT : ∀ y ∈ ys, Tat w w.heap.size y) :
    Calls Tryz.prog 6 #[.slice A n c] w (LentTombPost w ys n) := by
  obtain ⟨i0, hi, hz0, hz1, hz2⟩ := info_parts Tryz.infoTomb
  have hbts : i0.bytes * (n + 1) ≤ 281474976710656 := by rw [hz2]; omega
  have HB := Lib.hid hbts
  have HL := Lib.hid (show _ ∧ _ from ⟨hL, hT⟩)
  have HI := Lib.hid (show _ ∧ _ ∧ _ ∧ _ from ⟨hi, hz0, hz1, hz2⟩)
  clear hbts hL hT
  go_enter Tryz.func6, Tryz.ntmps6
  go_wp2_with (refine wpList_make_own _ rfl _ _ 22 rfl w.heap.size 27 i0 _ 3 Tryz.underlying22 hi hz0 hz1 .i64 .i64 _ (n + 1) rfl rfl (by simp) HB.out (by unfold maxLen; omega) (Nat.le_refl _) ?_)
  intro w1 hown hg
  have hb1 : Below w.heap.size w w1 := (Below.refl _ _).grown hg (Nat.le_refl _) (fun _ h => by cases h)
  have H1 := Lib.hid (show LentTs w1 w.heap.size (ys.take 0) (.slice (some ⟨w.heap.size, 0, none⟩) 0 (n + 1)) 0 [] ∧ _ from ⟨⟨hown, rfl, fun j y z h => by simp at h, List.Pairwise.nil⟩, hb1⟩)
  clear hown hg hb1 hi hz0 hz1 hz2
  go_wp2
  go_loopw [3, 4] (fun v iv wr => ∃ (k : Nat) (zs : List Tv), k ≤ n ∧ iv = .int .i64 k ∧ Hid (LentTs wr w.heap.size (ys.take k) v k zs ∧ Below w.heap.size w wr)) (fun _ iv _ => n - (intOf iv).toNat)
  case atStart => exact ⟨0, [], Nat.zero_le _, rfl, H1⟩
  case round =>
    obtain ⟨k, zs, hk, rfl, HR⟩ := hrel
    have hsw := HR.out.2.size
    by_cases hlt : k < n
    · obtain ⟨b, off, y, rfl, hb, hy, hcl⟩ := HL.out.1.at hlt
      have hty := HL.out.2 y (List.mem_of_getElem? hy)
      have c0 := (HR.out.2.cell (p := ⟨b, off + k * 3 + 0, none⟩) hb).trans (hcl 0 _ rfl)
      have c1 := (HR.out.2.cell (p := ⟨b, off + k * 3 + 1, none⟩) hb).trans (hcl 1 _ rfl)
      have c2 := (HR.out.2.cell (p := ⟨b, off + k * 3 + 2, none⟩) hb).trans (hcl 2 _ rfl)
      simp only [Nat.add_zero] at c0
      have hcon := fun W (hbw : Below w.heap.size w W) => lentLabel_any y.A y.n y.c y.l W ((hty.on hbw).lst) hty.nil (by have := hty.few; omega)
      have HW := Lib.hid (show _ ∧ _ ∧ _ from ⟨hcon, hy, (⟨c0, c1, c2⟩ : _ ∧ _ ∧ _)⟩)
      have j1 : (k : Int) < (n : Int) := by omega
      have hvn : ∀ g, u3.ownBlock = some g → w.heap.size ≤ g := fun g hg => (HR.out.1.row.lt g hg).1
      have hn1 : u3.ownBlock ≠ some b := fun e => by have := hvn b e; omega
      have HN := Lib.hid hn1
      obtain ⟨hi, hz0, hz1, hz2⟩ := HI.out
      clear hcl hy hty hcon hvn hn1
      go_wp2_with fail
      go_region_held3 (fun w' => w'.cell? ⟨b, off + k * 3, none⟩ = some (.slice y.A y.n y.c) ∧ w'.cell? ⟨b, off + k * 3 + 1, none⟩ = some (.int .i64 y.g.1) ∧ w'.cell? ⟨b, off + k * 3 + 2, none⟩ = some (.int .i64 y.g.2)) (first | exact k7 | exact k6 | exact HW.out.2.2 | go_keep)
        (first
          | (go_at_call 27; refine (HW.out.1 _ HR.out.2.drew).mono ?_; rintro e w5 ⟨g5, c5, rfl, ho5, hb5'⟩; have hb5 : Below wr.heap.size wr w5 := (Below.refl _ wr).drew.trans hb5'; have k6 := seen3 hb5 HW.out.2.2; have hs5 : wr.heap.size ≤ w5.heap.size := hb5.size; have hO5 := owns_below HR.out.1.row hb5; have H5 := Lib.hid (show _ ∧ _ ∧ _ from ⟨(show World.ownsRow w5 wr.heap.size _ _ _ _ _ from ho5), hb5, hO5⟩); clear ho5 hb5 hb5' hO5)
          | (refine step_append_lies _ (by rfl) _ _ _ (by rfl) w.heap.size 27 i0 _ 3 40 Tryz.underlying22 hi hz0 hz1 hz2 rfl (by omega) _ k (zs.flatMap encTb) (by rfl) (by exact H5.out.2.2.alloc _) ⟨w5.heap.size, 0, none⟩ 1 1 [.slice (some ⟨g5, 0, none⟩) y.n c5, .int .i64 y.g.1, .int .i64 y.g.2] (by rfl) (by rfl) (by exact cells_newL w5 [.slice (some ⟨g5, 0, none⟩) y.n c5, .int .i64 y.g.1, .int .i64 y.g.2] _) (by simp [Value.oneCell']) (by omega) (by unfold maxLen; omega) (by omega) (by simp; omega) (w5.heap.size + 1) (by simp) ?_; intro g6 c6' w6 hown6 hg6 hl6 hlt6; have hba : Below w5.heap.size w5 (w5.alloc (.cells #[.slice (some ⟨g5, 0, none⟩) y.n c5, .int .i64 y.g.1, .int .i64 y.g.2] 27)) := (Below.refl _ _).alloc (Nat.le_refl _) _; have k7 := (show World.cell? w6 ⟨b, off + k * 3, none⟩ = some (.slice y.A y.n y.c) ∧ World.cell? w6 ⟨b, off + k * 3 + 1, none⟩ = some (.int .i64 y.g.1) ∧ World.cell? w6 ⟨b, off + k * 3 + 2, none⟩ = some (.int .i64 y.g.2) from ⟨(GrownIn.of_grownBy hg6).cell (seen3 hba k6).1 HN.out, (GrownIn.of_grownBy hg6).cell (seen3 hba k6).2.1 HN.out, (GrownIn.of_grownBy hg6).cell (seen3 hba k6).2.2 HN.out⟩); have H6 := Lib.hid (show _ ∧ Below w.heap.size w w6 from ⟨HR.out.1.step hsw HW.out.2.1 H5.out.1 H5.out.2.1 hba hown6 hg6, ((HR.out.2.trans (H5.out.2.1.mono hsw)).trans (hba.mono (by omega))).grown hg6 (by simp; omega) (fun j hj => (HR.out.1.row.lt j hj).1)⟩); clear hown6 hg6 hl6 hlt6 hba) | fail)
      all_goals
        go_wp2
        go_roundw
        case measure => simp [intOf]; omega
        case rel => exact ⟨k + 1, _, hlt, by simp, H6⟩
    · obtain rfl : n = k := by omega
      have hLs := HR.out.1
      rw [List.take_of_length_le (by have := HL.out.1.1; omega)] at hLs
      have HLs := Lib.hid hLs
      clear hLs
      obtain ⟨hi, hz0, hz1, hz2⟩ := HI.out
      go_wp2_with (at_builtin; refine wpList_append_own _ rfl _ _ 22 rfl w.heap.size 27 i0 _ 3 40 Tryz.underlying22 hi hz0 hz1 hz2 rfl (by omega) _ n (zs.flatMap encTb) rfl (HLs.out.row.alloc _) ⟨wr.heap.size, 0, none⟩ 1 1 [.slice none 0 0, .int .i64 (-77), .int .i64 0] rfl rfl (cells_newL wr [.slice none 0 0, .int .i64 (-77), .int .i64 0] _) (by simp [Value.oneCell']) (by unfold maxLen; omega) (by omega) (by simp; omega) ?_)
      intro v6 w6 ho6 hg6 _
      obtain ⟨g6, c6, rfl⟩ := ownsRow_succ ho6
      have hc6 := owns_cap ho6
      have hba : Below wr.heap.size wr (wr.alloc (.cells #[.slice none 0 0, .int .i64 (-77), .int .i64 0] 27)) := (Below.refl _ _).alloc (Nat.le_refl _) _
      have ho6' : w6.ownsRow w.heap.size 27 3 (.slice (some ⟨g6, 0, none⟩) (n + 1) c6) (n + 1) ((zs ++ [mT]).flatMap encTb) := by rw [List.flatMap_append]; exact ho6
      have HF := Lib.hid (show _ ∧ _ ∧ _ from ⟨HLs.out.close hba ho6 hg6, ho6', (HR.out.2.trans (hba.mono hsw)).grown hg6 (by simp; omega) (fun j hj => (HLs.out.row.lt j hj).1)⟩)
      have hci : (n : Int) ≤ (c6 : Int) := by omega
      clear ho6 hg6 hba ho6' hi hz0 hz1 hz2
      go_wp2
      go_ret
      exact ⟨g6, c6, zs, rfl, HF.out.1, HF.out.2.1, HF.out.2.2⟩
end Go.Proofs.YtihidnmpngeohaaGreat
