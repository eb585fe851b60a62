/- WholeSamples, SpoilSamples. Written off a master by mk2.py. LentSeries, SameSeries. -/
import Derived.Test.YtihidnmpngeohaaGreatG18
import Derived.Laws.Rows
import Derived.BigQuiet
import Derived.Test.YtihidnmpngeohaaGreatG20
import Derived.Test.YtihidnmpngeohaaGreatG19
import Derived.Deep.QuietTactic
namespace Go.Proofs.YtihidnmpngeohaaGreat
open Go.RowKit Go.Lib

set_option maxHeartbeats 2000000 in
theorem wholeSample_q (g c : Nat) (B : Option Addr) (n cb : Nat) (l : List (Int × Int)) (w : World) (ha : Lst encS 2 w w.heap.size (some ⟨g, 0, none⟩) (n + 2) (l ++ [mASample, mBSample])) (hc : n + 2 ≤ c) (hb : Lst encS 2 w w.heap.size B n l) (hbig : n ≤ 1000000000) :
    Calls Tryz.prog 82 #[.slice (some ⟨g, 0, none⟩) n c, .slice B n cb] w fun e w' => e = .returned (.bool true) ∧ ∃ q, w' = w.drewN q := by
  have hl := hb.1
  obtain ⟨b, off, e, hbb, hcc⟩ := ha.2 (by omega)
  cases e
  have hA : (l ++ [mASample, mBSample])[n]? = some mASample := by rw [List.getElem?_append_right (by omega), hl]; simp
  have hB : (l ++ [mASample, mBSample])[n + 1]? = some mBSample := by rw [List.getElem?_append_right (by omega), hl]; simp
  have c0 := hcc n _ hA 0 _ rfl
  have c1 := hcc n _ hA 1 _ rfl
  have d0 := hcc (n + 1) _ hB 0 _ rfl
  have d1 := hcc (n + 1) _ hB 1 _ rfl
  simp only [Nat.zero_add, Nat.add_zero, mASample, mBSample] at c0 c1 d0 d1
  have hown : Lst encS 2 w w.heap.size (some ⟨g, 0, none⟩) n l := by
    have := ha.take (k := n) (by omega)
    rwa [List.take_append_of_le_length (by omega), List.take_of_length_le (by omega)] at this
  have HS := Lib.hid (sameSample_q (some ⟨g, 0, none⟩) B n c cb l w hown hb hbig)
  clear hown ha hb hcc hA hB hl
  have hci : (n : Int) + 2 ≤ (c : Int) := by omega
  go_enter Tryz.func82, Tryz.ntmps82
  go_wp2_with fail
  refine HS.out.mono ?_
  rintro e w' ⟨rfl, q, rfl⟩
  go_wp2
  go_ret
  exact ⟨rfl, _, by first | rfl | exact World.drewN_drewN _ _ _⟩
theorem wholeSample_eq (g c : Nat) (B : Option Addr) (n cb : Nat) (l : List (Int × Int)) (w : World) (ha : Lst encS 2 w w.heap.size (some ⟨g, 0, none⟩) (n + 2) (l ++ [mASample, mBSample])) (hc : n + 2 ≤ c) (hb : Lst encS 2 w w.heap.size B n l) (hbig : n ≤ 1000000000) :
    Calls Tryz.prog 82 #[.slice (some ⟨g, 0, none⟩) n c, .slice B n cb] w fun e w' => e = .returned (.bool true) ∧ Below w.heap.size w w' :=
  (wholeSample_q g c B n cb l w ha hc hb hbig).mono fun _ _ ⟨h1, h2⟩ => ⟨h1, below_drewSample h2⟩
theorem grownBy_setSample {w wr : World} {g : Nat} (h : w.grownBy wr (some g)) (i : Nat) (v : Value) : w.grownBy (wr.setCell ⟨g, i, none⟩ v) (some g) :=
  ⟨h.os, h.tape, h.output, by simpa using h.size, fun k hk hne => (heap_setCell_other _ _ _ _ (fun e => hne (by rw [e]))).trans (h.block k hk hne)⟩
set_option maxHeartbeats 4000000 in
set_option maxRecDepth 100000 in
theorem spoilSample_any (g n c : Nat) (cur : Array Value) (w : World) (hg : w.heap[g]? = some (.cells cur 95 (0, 0))) (hsz : cur.size = c * 2) (_hn : n ≤ c) (hc : c ≤ maxLen) :
    Calls Tryz.prog 83 #[.slice (some ⟨g, 0, none⟩) n c] w fun e w' => e = .returned (.tuple #[]) ∧ w.grownBy w' (some g) := by
  have HG := Lib.hid (show _ ∧ _ from ⟨hg, hsz⟩)
  have hc' : c ≤ 9223372036854775807 := hc
  clear hg hsz hc
  go_enter Tryz.func83, Tryz.ntmps83
  go_wp2
  go_loopw [3] (fun i wr => ∃ (k : Nat) (cu : Array Value), k ≤ c ∧ i = .int .i64 k ∧ w.grownBy wr (some g) ∧ Hid (wr.heap[g]? = some (.cells cu 95 (0, 0)) ∧ cu.size = c * 2)) (fun i _ => c - (intOf i).toNat)
  case atStart => exact ⟨0, cur, Nat.zero_le _, rfl, ⟨rfl, rfl, rfl, Nat.le_refl _, fun _ _ _ => rfl⟩, HG⟩
  case round =>
    obtain ⟨k, cu, hk, rfl, hgr, HB⟩ := hrel
    by_cases hlt : k < c
    · have hcell : ∀ j, j < 2 → ∃ x, wr.cell? ⟨g, k * 2 + j, none⟩ = some x := fun j hj => ⟨_, by
        rw [cell_of_row _ _ _ _ _ _ HB.out.1]
        exact Array.getElem?_eq_getElem (by have := HB.out.2; omega)⟩
      have hfr : ∀ j, wr.frozen? ⟨g, j, none⟩ = false := fun j => by simp [World.frozen?, HB.out.1]
      obtain ⟨x0, c0⟩ := hcell 0 (by omega)
      obtain ⟨x1, c1⟩ := hcell 1 (by omega)
      have f0 := hfr (k * 2)
      have f1 := hfr (k * 2 + 1)
      simp only [Nat.add_zero] at c0
      clear hcell hfr
      go_wp2
      go_roundw
      case measure => simp [intOf]; omega
      case rel =>
        refine ⟨k + 1, _, hlt, by simp, grownBy_setSample (grownBy_setSample hgr _ _) _ _, Lib.hid ⟨heap_setCell_same _ _ _ _ _ _ (heap_setCell_same _ _ _ _ _ _ HB.out.1), ?_⟩⟩
        simpa using HB.out.2
    · go_wp2
      go_end0
      exact ⟨rfl, hgr⟩
end Go.Proofs.YtihidnmpngeohaaGreat
namespace Go.Proofs.YtihidnmpngeohaaGreat
open Go.RowKit Go.Lib

set_option maxHeartbeats 2000000 in
set_option maxRecDepth 100000 in
theorem sameSer_q (A B : Option Addr) (n ca cb : Nat) (ys zs : List Sv) (w : World) (ha : Lst encSv 2 w w.heap.size A n ys) (hb : Lst encSv 2 w w.heap.size B n zs) (hy : ∀ y ∈ ys, Sat w w.heap.size y) (hz : ∀ z ∈ zs, Sat w w.heap.size z) (he : ys.map Sv.sr = zs.map Sv.sr) (hbig : n ≤ 1000000) :
    Calls Tryz.prog 21 #[.slice A n ca, .slice B n cb] w fun e w' => e = .returned (.bool true) ∧ ∃ q, w' = w.drewN q := by
  have HA := Lib.hid (show _ ∧ _ ∧ _ ∧ _ ∧ _ from ⟨ha, hb, hy, hz, he⟩)
  clear ha hb hy hz he
  go_enter Tryz.func21, Tryz.ntmps21
  go_wp2
  go_loopw [5] (fun i wr => ∃ k : Nat, k ≤ n ∧ i = .int .i64 k ∧ Hid (∃ q, wr = w.drewN q)) (fun i _ => n - (intOf i).toNat)
  case atStart => exact ⟨0, Nat.zero_le _, rfl, Lib.hid ⟨0, rfl⟩⟩
  case round =>
    obtain ⟨k, hk, rfl, HQ⟩ := hrel
    by_cases hlt : k < n
    · obtain ⟨b, off, y, rfl, hbb, hy, hc⟩ := HA.out.1.at hlt
      obtain ⟨b2, off2, z, rfl, hbb2, hz, hc2⟩ := HA.out.2.1.at hlt
      have hyz : y.sr = z.sr := by
        have h1 : (ys.map Sv.sr)[k]? = some y.sr := by rw [List.getElem?_map, hy]; rfl
        rw [HA.out.2.2.2.2, List.getElem?_map, hz] at h1
        exact (Option.some.inj h1).symm
      have hl : z.l = y.l := (congrArg Prod.fst hyz).symm
      have hg : z.s = y.s := (congrArg Prod.snd hyz).symm
      have hty := HA.out.2.2.1 y (List.mem_of_getElem? hy)
      have htz := HA.out.2.2.2.1 z (List.mem_of_getElem? hz)
      have hzn : z.n = y.n := by rw [← htz.lst.1, ← hty.lst.1, hl]
      have hzm : z.m = y.m := by rw [← htz.sst.1, ← hty.sst.1, hg]
      obtain ⟨q, hq⟩ := HQ.out
      have hcell : ∀ p, wr.cell? p = w.cell? p := fun p => by rw [hq]; rfl
      have hsz : wr.heap.size = w.heap.size := by rw [hq]; rfl
      have c0 := (hcell _).trans (hc 0 _ rfl)
      have c1 := (hcell _).trans (hc 1 _ rfl)
      have d0 := (hcell _).trans (hc2 0 _ rfl)
      have d1 := (hcell _).trans (hc2 1 _ rfl)
      rw [hzm] at d1
      rw [hzn] at d0
      simp only [Nat.add_zero] at c0 d0
      have hsame : ∀ W : World, (∃ m, W = wr.drewN m) → Calls Tryz.prog 42 #[.slice y.A y.n y.c, .slice z.A y.n z.c] W fun e w' => e = .returned (.bool true) ∧ ∃ m, w' = W.drewN m := fun W ⟨m, hm⟩ => by
        have e1 : ∀ p, W.cell? p = w.cell? p := fun p => by rw [hm]; exact hcell p
        have e2 : W.heap.size = w.heap.size := by rw [hm]; exact hsz
        refine sameLabel_q y.A z.A y.n y.c z.c y.l W ?_ ?_ (by have := hty.few; omega)
        · rw [e2]; exact hty.lst.keep fun p _ => e1 p
        · have := htz.lst
          rw [hl, hzn] at this
          rw [e2]; exact this.keep fun p _ => e1 p
      have hsame2 : ∀ W : World, (∃ m, W = wr.drewN m) → Calls Tryz.prog 40 #[.slice y.D y.m y.d, .slice z.D y.m z.d] W fun e w' => e = .returned (.bool true) ∧ ∃ m, w' = W.drewN m := fun W ⟨m, hm⟩ => by
        have e1 : ∀ p, W.cell? p = w.cell? p := fun p => by rw [hm]; exact hcell p
        have e2 : W.heap.size = w.heap.size := by rw [hm]; exact hsz
        refine sameSample_q y.D z.D y.m y.d z.d y.s W ?_ ?_ (by have := hty.sfew; omega)
        · rw [e2]; exact hty.sst.keep fun p _ => e1 p
        · have := htz.sst
          rw [hg, hzm] at this
          rw [e2]; exact this.keep fun p _ => e1 p
      have HS := Lib.hid (show _ ∧ _ from ⟨hsame, hsame2⟩)
      clear hy hz hc hc2 hyz hl hg hty htz hzn hzm hcell hsame hsame2 hq hsz
      go_wp2_with (go_quiet (first | (go_at_call 42; refine Calls.quiet_of (HS.out.1 _ ⟨_, rfl⟩)) | (go_at_call 40; refine Calls.quiet_of (HS.out.2 _ ⟨_, rfl⟩))))
      go_roundw
      case measure => simp [intOf]; omega
      case rel => exact ⟨k + 1, hlt, by simp, Lib.hid ⟨_, by rw [HQ.out.choose_spec]; first | rfl | exact World.drewN_drewN _ _ _⟩⟩
    · go_wp2
      go_ret
      exact ⟨rfl, HQ.out⟩
/-- The series behind the end of what is lent out. -/
def mS (bo co : Nat) : Sv := ⟨some ⟨bo, 0, none⟩, 1, co, [mALabel], none, 0, 0, []⟩
/-- A series that is lent out: its labels and samples lie in rows of their own, with two behind. -/
structure LentSv (w : World) (B : Nat) (y z : Sv) : Prop where
  lab : z.l = y.l
  sam : z.s = y.s
  len : z.n = y.n
  sen : z.m = y.m
  row : ∃ b, z.A = some ⟨b, 0, none⟩ ∧ w.ownsRow B 29 2 (.slice (some ⟨b, 0, none⟩) (y.n + 2) z.c) (y.n + 2) ((y.l ++ [mALabel, mBLabel]).flatMap Lb.cells)
  sow : ∃ b, z.D = some ⟨b, 0, none⟩ ∧ w.ownsRow B 95 2 (.slice (some ⟨b, 0, none⟩) (y.m + 2) z.d) (y.m + 2) ((y.s ++ [mASample, mBSample]).flatMap encS)
structure LentSs (w : World) (B : Nat) (ys : List Sv) (v : Value) (k : Nat) (zs : List Sv) : Prop where
  row : w.ownsRow B 132 2 v k (zs.flatMap encSv)
  len : zs.length = k
  each : ∀ (j : Nat) y z, ys[j]? = some y → zs[j]? = some z → LentSv w B y z
  apart : zs.Pairwise fun a b => ∀ g, (valL a).ownBlock = some g → (valL b).ownBlock ≠ some g
  sapart : zs.Pairwise fun a b => ∀ g, (valD a).ownBlock = some g → (valD b).ownBlock ≠ some g
theorem LentSv.blk {w : World} {B : Nat} {y z : Sv} (h : LentSv w B y z) : ∃ b, (valL z).ownBlock = some b ∧ B ≤ b ∧ b < w.heap.size := by
  obtain ⟨b, h1, h2⟩ := h.row
  have := h2.lt b rfl
  exact ⟨b, by unfold valL; rw [h1]; rfl, this.1, this.2⟩
theorem LentSv.sblk {w : World} {B : Nat} {y z : Sv} (h : LentSv w B y z) : ∃ b, (valD z).ownBlock = some b ∧ B ≤ b ∧ b < w.heap.size := by
  obtain ⟨b, h1, h2⟩ := h.sow
  have := h2.lt b rfl
  exact ⟨b, by unfold valD; rw [h1]; rfl, this.1, this.2⟩
theorem LentSv.kept {w w' : World} {B : Nat} {y z : Sv} (h : LentSv w B y z) {S : Nat → Prop} (hg : GrownIn S w w') (hS : ∀ b, (valL z).ownBlock = some b → ¬ S b) (hD : ∀ b, (valD z).ownBlock = some b → ¬ S b) : LentSv w' B y z := by
  obtain ⟨b, h1, h2⟩ := h.row
  obtain ⟨d, h3, h4⟩ := h.sow
  refine ⟨h.lab, h.sam, h.len, h.sen, ⟨b, h1, hg.owns h2 (fun k hk => hS k ?_)⟩, ⟨d, h3, hg.owns h4 (fun k hk => hD k ?_)⟩⟩
  · unfold valL; rw [h1]; exact hk
  · unfold valD; rw [h3]; exact hk
theorem LentSv.below {w w' : World} {B : Nat} {y z : Sv} (h : LentSv w B y z) (hb : Below w.heap.size w w') : LentSv w' B y z :=
  h.kept (GrownIn.of_below hb) (fun b hb' => by obtain ⟨b2, h1, _, h3⟩ := h.blk; rw [h1] at hb'; injection hb' with hb'; omega) (fun b hb' => by obtain ⟨b2, h1, _, h3⟩ := h.sblk; rw [h1] at hb'; injection hb' with hb'; omega)
theorem LentSs.below {w w' : World} {B k : Nat} {v : Value} {ys zs : List Sv} (h : LentSs w B ys v k zs) (hb : Below w.heap.size w w') : LentSs w' B ys v k zs :=
  ⟨owns_below h.row hb, h.len, fun j y z h1 h2 => (h.each j y z h1 h2).below hb, h.apart, h.sapart⟩
/-- What is written in the row of series leaves what lies in it. -/
theorem LentSv.over {w w' : World} {B B' n : Nat} {v : Value} {xs : List Value} {y z : Sv} (h : LentSv w B y z) (hr : w.ownsRow B' 132 2 v n xs) (hg : w.grownBy w' v.ownBlock) : LentSv w' B y z := by
  obtain ⟨b, q1, q2⟩ := h.row
  obtain ⟨d, q3, q4⟩ := h.sow
  refine h.kept (GrownIn.of_grownBy hg) (fun k hk e => ?_) (fun k hk e => ?_)
  · unfold valL at hk; rw [q1] at hk
    exact owns_other q2 hr (by decide) hk e
  · unfold valD at hk; rw [q3] at hk
    exact owns_other q4 hr (by decide) hk e
/-- The next one is lent out. -/
theorem LentSs.step {w w5 wa w6 : World} {B k : Nat} {v v' : Value} {ys zs : List Sv} {y : Sv} {g5 c5 g7 c7 : Nat} (h : LentSs w B (ys.take k) v k zs) (hB : B ≤ w.heap.size) (hy : ys[k]? = some y)
    (ho5 : w5.ownsRow w.heap.size 29 2 (.slice (some ⟨g5, 0, none⟩) (y.n + 2) c5) (y.n + 2) ((y.l ++ [mALabel, mBLabel]).flatMap Lb.cells))
    (ho7 : w5.ownsRow w.heap.size 95 2 (.slice (some ⟨g7, 0, none⟩) (y.m + 2) c7) (y.m + 2) ((y.s ++ [mASample, mBSample]).flatMap encS)) (h5 : Below w.heap.size w w5) (ha : Below w5.heap.size w5 wa)
    (hown : w6.ownsRow B 132 2 v' (k + 1) (zs.flatMap encSv ++ [.slice (some ⟨g5, 0, none⟩) y.n c5, .slice (some ⟨g7, 0, none⟩) y.m c7])) (hg : wa.grownBy w6 v.ownBlock) :
    LentSs w6 B (ys.take (k + 1)) v' (k + 1) (zs ++ [⟨some ⟨g5, 0, none⟩, y.n, c5, y.l, some ⟨g7, 0, none⟩, y.m, c7, y.s⟩]) := by
  have hw := (h.below h5).below ha
  have hl := owns_below ho5 ha
  have hl7 := owns_below ho7 ha
  have hgr := GrownIn.of_grownBy hg
  have htk : (ys.take (k + 1))[k]? = some y := by rw [List.getElem?_take_of_lt (by omega)]; exact hy
  have hold : ∀ a ∈ zs, ∃ y', LentSv w B y' a := fun a ha' => by
    obtain ⟨j, hj, e⟩ := List.getElem_of_mem ha'
    have hjk : j < k := by rw [← h.len]; exact hj
    have hyl : k < ys.length := (List.getElem?_eq_some_iff.1 hy).1
    exact ⟨_, h.each j ys[j] a (by rw [List.getElem?_take_of_lt hjk]; exact List.getElem?_eq_getElem (by omega)) (by rw [← e]; exact List.getElem?_eq_getElem hj)⟩
  refine ⟨by rw [List.flatMap_append]; exact hown, by rw [List.length_append, h.len]; rfl, fun j y' z' h1 h2 => ?_, ?_, ?_⟩
  · by_cases hj : j < k
    · rw [List.getElem?_append_left (by rw [h.len]; exact hj)] at h2
      have h1' : (ys.take k)[j]? = some y' := by
        rw [List.getElem?_take_of_lt hj]
        rwa [List.getElem?_take_of_lt (by omega)] at h1
      exact (hw.each j y' z' h1' h2).over hw.row hg
    · have hj2 := (List.getElem?_eq_some_iff.1 h2).1
      rw [List.length_append, h.len, List.length_singleton] at hj2
      obtain rfl : j = k := by omega
      rw [List.getElem?_append_right (by rw [h.len]; exact Nat.le_refl _), h.len, Nat.sub_self] at h2
      obtain rfl := (Option.some.inj h2)
      obtain rfl := Option.some.inj (htk.symm.trans h1)
      refine ⟨rfl, rfl, rfl, rfl, ⟨g5, rfl, hgr.owns (owns_base hl hB) (fun b hb e => ?_)⟩, ⟨g7, rfl, hgr.owns (owns_base hl7 hB) (fun b hb e => ?_)⟩⟩
      · exact owns_other hl hw.row (by decide) hb e
      · exact owns_other hl7 hw.row (by decide) hb e
  · refine List.pairwise_append.2 ⟨h.apart, List.pairwise_singleton _ _, fun a ha' b hb' g h1 h2 => ?_⟩
    rw [List.mem_singleton.1 hb'] at h2
    obtain ⟨y', hz⟩ := hold a ha'
    obtain ⟨b2, q1, _, q3⟩ := hz.blk
    rw [q1] at h1
    have := (ho5.lt g5 rfl).1
    have e5 : g5 = g := by simpa [valL, Value.ownBlock] using h2
    injection h1 with h1
    omega
  · refine List.pairwise_append.2 ⟨h.sapart, List.pairwise_singleton _ _, fun a ha' b hb' g h1 h2 => ?_⟩
    rw [List.mem_singleton.1 hb'] at h2
    obtain ⟨y', hz⟩ := hold a ha'
    obtain ⟨b2, q1, _, q3⟩ := hz.sblk
    rw [q1] at h1
    have := (ho7.lt g7 rfl).1
    have e5 : g7 = g := by simpa [valD, Value.ownBlock] using h2
    injection h1 with h1
    omega
theorem LentSs.close {wr wa w6 : World} {B n g6 c6 : Nat} {v : Value} {ys zs : List Sv} {us : List Value} (h : LentSs wr B ys v n zs) (ha : Below wr.heap.size wr wa) (ho : w6.ownsRow B 132 2 (.slice (some ⟨g6, 0, none⟩) (n + 1) c6) (n + 1) (zs.flatMap encSv ++ us)) (hg : wa.grownBy w6 v.ownBlock) :
    LentSs w6 B ys (.slice (some ⟨g6, 0, none⟩) n c6) n zs := by
  have hw := h.below ha
  have ht := owns_take ho (i := n) (by omega)
  rw [List.take_append_of_le_length (by rw [flatMap_length encSv_len, h.len]; exact Nat.le_refl _), List.take_of_length_le (by rw [flatMap_length encSv_len, h.len]; exact Nat.le_refl _)] at ht
  exact ⟨ht, h.len, fun j y z h1 h2 => (hw.each j y z h1 h2).over hw.row hg, h.apart, h.sapart⟩
/-- What LentSeries leaves. -/
def LentSerPost (w : World) (ys : List Sv) (n : Nat) (e : Ending) (w' : World) : Prop :=
  ∃ g c zs bo co, e = .returned (.slice (some ⟨g, 0, none⟩) n c) ∧ LentSs w' w.heap.size ys (.slice (some ⟨g, 0, none⟩) n c) n zs ∧ w'.ownsRow w.heap.size 132 2 (.slice (some ⟨g, 0, none⟩) (n + 1) c) (n + 1) ((zs ++ [mS bo co]).flatMap encSv) ∧
    w'.ownsRow w.heap.size 29 2 (.slice (some ⟨bo, 0, none⟩) 1 co) 1 mALabel.cells ∧ Below w.heap.size w w'
end Go.Proofs.YtihidnmpngeohaaGreat
