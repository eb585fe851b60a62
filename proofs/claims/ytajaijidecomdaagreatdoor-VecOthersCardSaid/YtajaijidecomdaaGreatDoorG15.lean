/- LentElems. ownElems of the checker's book at lists in memory of their own: true, and nothing but those lists turns. Written off a master by mk2.py. -/
import Derived.Test.YtajaijidecomdaaGreatDoorG14
import Derived.Deep.RegionHeld3
import Derived.Deep.QuietTactic
import Derived.BigQuiet
import Derived.Test.YtajaijidecomdaaGreatDoorG02
import Derived.Test.YtajaijidecomdaaGreatDoorOwnLabel
import Derived.LoopN
import Derived.OwnWalk
import Derived.Deep.DeepCutAuto
namespace Go.Proofs.YtajaijidecomdaaGreatDoor
open Go.RowKit Go.Lib

/-- The element behind the end of what is lent out. -/
def mE : Ev := ⟨none, 0, 0, [], 777⟩
/-- An element that is lent out: its labels lie in a row of their own, with two behind. -/
structure LentEv (w : World) (B : Nat) (y z : Ev) : Prop where
  lab : z.l = y.l
  num : z.v = y.v
  len : z.n = y.n
  row : ∃ b, z.A = some ⟨b, 0, none⟩ ∧ w.ownsRow B 104 2 (.slice (some ⟨b, 0, none⟩) (y.n + 2) z.c) (y.n + 2) ((y.l ++ [mALabel, mBLabel]).flatMap Lb.cells)
structure LentEs (w : World) (B : Nat) (ys : List Ev) (v : Value) (k : Nat) (zs : List Ev) : Prop where
  row : w.ownsRow B 90 2 v k (zs.flatMap encEv)
  len : zs.length = k
  each : ∀ (j : Nat) y z, ys[j]? = some y → zs[j]? = some z → LentEv w B y z
  apart : zs.Pairwise fun a b => ∀ g, (Value.slice a.A a.n a.c).ownBlock = some g → (Value.slice b.A b.n b.c).ownBlock ≠ some g
theorem LentEv.blk {w : World} {B : Nat} {y z : Ev} (h : LentEv w B y z) : ∃ b, (Value.slice z.A z.n z.c).ownBlock = some b ∧ B ≤ b ∧ b < w.heap.size := by
  obtain ⟨b, h1, h2⟩ := h.row
  have := h2.lt b rfl
  exact ⟨b, by rw [h1]; rfl, this.1, this.2⟩
theorem LentEv.kept {w w' : World} {B : Nat} {y z : Ev} (h : LentEv w B y z) {S : Nat → Prop} (hg : GrownIn S w w') (hS : ∀ b, (Value.slice z.A z.n z.c).ownBlock = some b → ¬ S b) : LentEv w' B y z := by
  obtain ⟨b, h1, h2⟩ := h.row
  refine ⟨h.lab, h.num, h.len, b, h1, hg.owns h2 (fun k hk => hS k ?_)⟩
  rw [h1]
  exact hk
theorem LentEv.below {w w' : World} {B : Nat} {y z : Ev} (h : LentEv w B y z) (hb : Below w.heap.size w w') : LentEv w' B y z :=
  h.kept (GrownIn.of_below hb) (fun b hb' => by obtain ⟨b2, h1, _, h3⟩ := h.blk; rw [h1] at hb'; injection hb' with hb'; omega)
theorem LentEv.base {w : World} {B B' : Nat} {y z : Ev} (h : LentEv w B y z) (hB : B' ≤ B) : LentEv w B' y z := by
  obtain ⟨b, h1, h2⟩ := h.row
  exact ⟨h.lab, h.num, h.len, b, h1, owns_base h2 hB⟩
theorem LentEs.below {w w' : World} {B k : Nat} {v : Value} {ys zs : List Ev} (h : LentEs w B ys v k zs) (hb : Below w.heap.size w w') : LentEs w' B ys v k zs :=
  ⟨owns_below h.row hb, h.len, fun j y z h1 h2 => (h.each j y z h1 h2).below hb, h.apart⟩
/-- The next one is lent out. -/
theorem LentEs.step {w w5 wa w6 : World} {B k : Nat} {v v' : Value} {ys zs : List Ev} {y : Ev} {g5 c5 : Nat} (h : LentEs w B (ys.take k) v k zs) (hB : B ≤ w.heap.size) (hy : ys[k]? = some y)
    (ho5 : w5.ownsRow w.heap.size 104 2 (.slice (some ⟨g5, 0, none⟩) (y.n + 2) c5) (y.n + 2) ((y.l ++ [mALabel, mBLabel]).flatMap Lb.cells)) (h5 : Below w.heap.size w w5) (ha : Below w5.heap.size w5 wa)
    (hown : w6.ownsRow B 90 2 v' (k + 1) (zs.flatMap encEv ++ [.slice (some ⟨g5, 0, none⟩) y.n c5, .int .u64 y.v.toNat])) (hg : wa.grownBy w6 v.ownBlock) :
    LentEs w6 B (ys.take (k + 1)) v' (k + 1) (zs ++ [⟨some ⟨g5, 0, none⟩, y.n, c5, y.l, y.v⟩]) := by
  have hw := (h.below h5).below ha
  have hl := owns_below ho5 ha
  have hgr := GrownIn.of_grownBy hg
  have htk : (ys.take (k + 1))[k]? = some y := by rw [List.getElem?_take_of_lt (by omega)]; exact hy
  refine ⟨by rw [List.flatMap_append]; exact hown, by rw [List.length_append, h.len]; rfl, fun j y' z' h1 h2 => ?_, ?_⟩
  · by_cases hj : j < k
    · rw [List.getElem?_append_left (by rw [h.len]; exact hj)] at h2
      have h1' : (ys.take k)[j]? = some y' := by
        rw [List.getElem?_take_of_lt hj]
        rwa [List.getElem?_take_of_lt (by omega)] at h1
      have hz := hw.each j y' z' h1' h2
      refine hz.kept hgr (fun b hb e => ?_)
      obtain ⟨b2, q1, q2⟩ := hz.row
      have hb2 : b2 = b := by rw [q1] at hb; simpa [Value.ownBlock] using hb
      subst hb2
      exact owns_other q2 hw.row (by decide) rfl e
    · have hj2 := (List.getElem?_eq_some_iff.1 h2).1
      rw [List.length_append, h.len, List.length_singleton] at hj2
      obtain rfl : j = k := by omega
      rw [List.getElem?_append_right (by rw [h.len]; exact Nat.le_refl _), h.len, Nat.sub_self] at h2
      obtain rfl := (Option.some.inj h2)
      obtain rfl := Option.some.inj (htk.symm.trans h1)
      refine ⟨rfl, rfl, rfl, g5, rfl, hgr.owns (owns_base hl hB) (fun b hb e => ?_)⟩
      exact owns_other hl hw.row (by decide) hb e
  · refine List.pairwise_append.2 ⟨h.apart, List.pairwise_singleton _ _, fun a ha' b hb' g h1 h2 => ?_⟩
    rw [List.mem_singleton.1 hb'] at h2
    obtain ⟨j, hj, e⟩ := List.getElem_of_mem ha'
    have hjk : j < k := by rw [← h.len]; exact hj
    have hyl : k < ys.length := (List.getElem?_eq_some_iff.1 hy).1
    have hz := h.each j ys[j] a (by rw [List.getElem?_take_of_lt hjk]; exact List.getElem?_eq_getElem (by omega)) (by rw [← e]; exact List.getElem?_eq_getElem hj)
    obtain ⟨b2, q1, _, q3⟩ := hz.blk
    rw [q1] at h1
    have := (ho5.lt g5 rfl).1
    have e5 : g5 = g := by simpa [Value.ownBlock] using h2
    injection h1 with h1
    omega
theorem LentEs.close {wr wa w6 : World} {B n g6 c6 : Nat} {v : Value} {ys zs : List Ev} {us : List Value} (h : LentEs wr B ys v n zs) (ha : Below wr.heap.size wr wa) (ho : w6.ownsRow B 90 2 (.slice (some ⟨g6, 0, none⟩) (n + 1) c6) (n + 1) (zs.flatMap encEv ++ us)) (hg : wa.grownBy w6 v.ownBlock) :
    LentEs w6 B ys (.slice (some ⟨g6, 0, none⟩) n c6) n zs := by
  have hw := h.below ha
  have ht := owns_take ho (i := n) (by omega)
  rw [List.take_append_of_le_length (by rw [flatMap_length encEv_len, h.len]; exact Nat.le_refl _), List.take_of_length_le (by rw [flatMap_length encEv_len, h.len]; exact Nat.le_refl _)] at ht
  refine ⟨ht, h.len, fun j y z h1 h2 => ?_, h.apart⟩
  have hz := hw.each j y z h1 h2
  refine hz.kept (GrownIn.of_grownBy hg) (fun b hb e => ?_)
  obtain ⟨b2, q1, q2⟩ := hz.row
  have hb2 : b2 = b := by rw [q1] at hb; simpa [Value.ownBlock] using hb
  subst hb2
  exact owns_other q2 hw.row (by decide) rfl e
/-- What LentElems leaves. -/
def LentElemPost (w : World) (ys : List Ev) (n : Nat) (e : Ending) (w' : World) : Prop :=
  ∃ g c zs, e = .returned (.slice (some ⟨g, 0, none⟩) n c) ∧ LentEs w' w.heap.size ys (.slice (some ⟨g, 0, none⟩) n c) n zs ∧ w'.ownsRow w.heap.size 90 2 (.slice (some ⟨g, 0, none⟩) (n + 1) c) (n + 1) ((zs ++ [mE]).flatMap encEv) ∧ Below w.heap.size w w'
set_option maxHeartbeats 4000000 in
set_option maxRecDepth 100000 in
theorem lentElems_any (A : Option Addr) (n c : Nat) (ys : List Ev) (w : World) (hL : Lst encEv 2 w w.heap.size A n ys) (hn : n ≤ 1000000) (hT : ∀ y ∈ ys, Eat w w.heap.size y) :
    Calls Tryz.prog 14 #[.slice A n c] w (LentElemPost w ys n) := by
  obtain ⟨i0, hi, hz0, hz1, hz2⟩ := info_parts Tryz.infoElem
  have hbts : i0.bytes * (n + 1) ≤ 281474976710656 := by rw [hz2]; omega
  have HB := Lib.hid hbts
  have HL := Lib.hid (show _ ∧ _ from ⟨hL, hT⟩)
  have HI := Lib.hid (show _ ∧ _ ∧ _ ∧ _ from ⟨hi, hz0, hz1, hz2⟩)
  clear hbts hL hT
  go_enter Tryz.func14, Tryz.ntmps14
  go_wp2_with (refine wpList_make_own _ rfl _ _ 33 rfl w.heap.size 90 i0 _ 2 Tryz.underlying33 hi hz0 hz1 .i64 .i64 _ (n + 1) rfl rfl (by simp) HB.out (by unfold maxLen; omega) (Nat.le_refl _) ?_)
  intro w1 hown hg
  have hb1 : Below w.heap.size w w1 := (Below.refl _ _).grown hg (Nat.le_refl _) (fun _ h => by cases h)
  have H1 := Lib.hid (show LentEs w1 w.heap.size (ys.take 0) (.slice (some ⟨w.heap.size, 0, none⟩) 0 (n + 1)) 0 [] ∧ _ from ⟨⟨hown, rfl, fun j y z h => by simp at h, List.Pairwise.nil⟩, hb1⟩)
  clear hown hg hb1 hi hz0 hz1 hz2
  go_wp2
  go_loopw [3, 4] (fun v iv wr => ∃ (k : Nat) (zs : List Ev), k ≤ n ∧ iv = .int .i64 k ∧ Hid (LentEs wr w.heap.size (ys.take k) v k zs ∧ Below w.heap.size w wr)) (fun _ iv _ => n - (intOf iv).toNat)
  case atStart => exact ⟨0, [], Nat.zero_le _, rfl, H1⟩
  case round =>
    obtain ⟨k, zs, hk, rfl, HR⟩ := hrel
    have hsw := HR.out.2.size
    by_cases hlt : k < n
    · obtain ⟨b, off, y, rfl, hb, hy, hcl⟩ := HL.out.1.at hlt
      have hty := HL.out.2 y (List.mem_of_getElem? hy)
      have c0 := (HR.out.2.cell (p := ⟨b, off + k * 2 + 0, none⟩) hb).trans (hcl 0 _ rfl)
      have c1 := (HR.out.2.cell (p := ⟨b, off + k * 2 + 1, none⟩) hb).trans (hcl 1 _ rfl)
      simp only [Nat.add_zero] at c0
      have hcon := fun W (hbw : Below w.heap.size w W) => lentLabel_any y.A y.n y.c y.l W ((hty.on hbw).lst) hty.nil (by have := hty.few; omega)
      have HW := Lib.hid (show _ ∧ _ ∧ _ from ⟨hcon, hy, (⟨c0, c1⟩ : _ ∧ _)⟩)
      have j1 : (k : Int) < (n : Int) := by omega
      have hvn : ∀ g, u3.ownBlock = some g → w.heap.size ≤ g := fun g hg => (HR.out.1.row.lt g hg).1
      have hn1 : u3.ownBlock ≠ some b := fun e => by have := hvn b e; omega
      have HN := Lib.hid hn1
      obtain ⟨hi, hz0, hz1, hz2⟩ := HI.out
      clear hcl hy hty hcon hvn hn1
      go_wp2_with fail
      go_region_held3 (fun w' => w'.cell? ⟨b, off + k * 2, none⟩ = some (.slice y.A y.n y.c) ∧ w'.cell? ⟨b, off + k * 2 + 1, none⟩ = some (.int .u64 y.v.toNat)) (first | exact k7 | exact k6 | exact HW.out.2.2 | go_keep)
        (first
          | (go_at_call 51; refine (HW.out.1 _ HR.out.2.drew).mono ?_; rintro e w5 ⟨g5, c5, rfl, ho5, hb5'⟩; have hb5 : Below wr.heap.size wr w5 := (Below.refl _ wr).drew.trans hb5'; have k6 := cell_two hb5 HW.out.2.2; have hs5 : wr.heap.size ≤ w5.heap.size := hb5.size; have hO5 := owns_below HR.out.1.row hb5; have H5 := Lib.hid (show _ ∧ _ ∧ _ from ⟨(show World.ownsRow w5 wr.heap.size _ _ _ _ _ from ho5), hb5, hO5⟩); clear ho5 hb5 hb5' hO5)
          | (refine step_append_lies _ (by rfl) _ _ _ (by rfl) w.heap.size 90 i0 _ 2 32 Tryz.underlying33 hi hz0 hz1 hz2 rfl (by omega) _ k (zs.flatMap encEv) (by rfl) (by exact H5.out.2.2.alloc _) ⟨w5.heap.size, 0, none⟩ 1 1 [.slice (some ⟨g5, 0, none⟩) y.n c5, .int .u64 y.v.toNat] (by rfl) (by rfl) (by exact cells_newL w5 [.slice (some ⟨g5, 0, none⟩) y.n c5, .int .u64 y.v.toNat] _) (by simp [Value.oneCell']) (by omega) (by unfold maxLen; omega) (by omega) (by simp; omega) (w5.heap.size + 1) (by simp) ?_; intro g6 c6' w6 hown6 hg6 hl6 hlt6; have hba : Below w5.heap.size w5 (w5.alloc (.cells #[.slice (some ⟨g5, 0, none⟩) y.n c5, .int .u64 y.v.toNat] 90)) := (Below.refl _ _).alloc (Nat.le_refl _) _; have k7 := (show World.cell? w6 ⟨b, off + k * 2, none⟩ = some (.slice y.A y.n y.c) ∧ World.cell? w6 ⟨b, off + k * 2 + 1, none⟩ = some (.int .u64 y.v.toNat) from ⟨(GrownIn.of_grownBy hg6).cell (cell_two hba k6).1 HN.out, (GrownIn.of_grownBy hg6).cell (cell_two hba k6).2 HN.out⟩); have H6 := Lib.hid (show _ ∧ Below w.heap.size w w6 from ⟨HR.out.1.step hsw HW.out.2.1 H5.out.1 H5.out.2.1 hba hown6 hg6, ((HR.out.2.trans (H5.out.2.1.mono hsw)).trans (hba.mono (by omega))).grown hg6 (by simp; omega) (fun j hj => (HR.out.1.row.lt j hj).1)⟩); clear hown6 hg6 hl6 hlt6 hba) | fail)
      all_goals
        go_wp2
        go_roundw
        case measure => simp [intOf]; omega
        case rel => exact ⟨k + 1, _, hlt, by simp, H6⟩
    · obtain rfl : n = k := by omega
      have hLs := HR.out.1
      rw [List.take_of_length_le (by have := HL.out.1.1; omega)] at hLs
      have HLs := Lib.hid hLs
      clear hLs
      obtain ⟨hi, hz0, hz1, hz2⟩ := HI.out
      go_wp2_with (at_builtin; refine wpList_append_own _ rfl _ _ 33 rfl w.heap.size 90 i0 _ 2 32 Tryz.underlying33 hi hz0 hz1 hz2 rfl (by omega) _ n (zs.flatMap encEv) rfl (HLs.out.row.alloc _) ⟨wr.heap.size, 0, none⟩ 1 1 [.slice none 0 0, .int .u64 777] rfl rfl (cells_newL wr [.slice none 0 0, .int .u64 777] _) (by simp [Value.oneCell']) (by unfold maxLen; omega) (by omega) (by simp; omega) ?_)
      intro v6 w6 ho6 hg6 _
      obtain ⟨g6, c6, rfl⟩ := ownsRow_succ ho6
      have hc6 := owns_cap ho6
      have hba : Below wr.heap.size wr (wr.alloc (.cells #[.slice none 0 0, .int .u64 777] 90)) := (Below.refl _ _).alloc (Nat.le_refl _) _
      have ho6' : w6.ownsRow w.heap.size 90 2 (.slice (some ⟨g6, 0, none⟩) (n + 1) c6) (n + 1) ((zs ++ [mE]).flatMap encEv) := by rw [List.flatMap_append]; exact ho6
      have HF := Lib.hid (show _ ∧ _ ∧ _ from ⟨HLs.out.close hba ho6 hg6, ho6', (HR.out.2.trans (hba.mono hsw)).grown hg6 (by simp; omega) (fun j hj => (HLs.out.row.lt j hj).1)⟩)
      have hci : (n : Int) ≤ (c6 : Int) := by omega
      clear ho6 hg6 hba ho6' hi hz0 hz1 hz2
      go_wp2
      go_ret
      exact ⟨g6, c6, zs, rfl, HF.out.1, HF.out.2.1, HF.out.2.2⟩
end Go.Proofs.YtajaijidecomdaaGreatDoor
namespace Go.Proofs.YtajaijidecomdaaGreatDoor
open Go.RowKit Go.Lib

def fElem (i : Int) (k : Nat) : List Value := [Value.slice none 0 0, Value.int .u64 (i * 1000 + k + 7000000)]
theorem Tryz.infoElems : (Tryz.prog.info? 33).map (fun i => (i.zero, i.size, i.bytes)) = some (some (.slice none 0 0), 1, 24) := by kernel_rfl
theorem fElem_len (i : Int) (k : Nat) : (fElem i k).length = 2 := rfl
set_option maxHeartbeats 4000000 in
set_option maxRecDepth 100000 in
theorem ownElems_any (B BL m c : Nat) (V : Nat → Value) (N : Nat → Nat) (w : World) (hL : Lists w B 90 2 BL m V N) (hB : B ≤ w.heap.size) (hoff : BL < w.heap.size) (hm : m ≤ 1000) (hN : ∀ j, j < m → N j ≤ 1000000) :
    Calls Tryz.prog 81 #[.slice (some ⟨BL, 0, none⟩) m c] w fun e w' => e = .returned (.bool true) ∧ GrownIn (Among m V) w w' := by
  have HL := Lib.hid hL
  have HN := Lib.hid hN
  clear hL hN
  obtain ⟨i0, hi, hz0, hz1, hz2⟩ := info_parts Tryz.infoElem
  have HI := Lib.hid (show _ ∧ _ ∧ _ ∧ _ from ⟨hi, hz0, hz1, hz2⟩)
  clear hi hz0 hz1 hz2
  obtain ⟨i1, hi, hz0, hz1, hz2⟩ := info_parts Tryz.infoElems
  have HJ := Lib.hid (show _ ∧ _ ∧ _ ∧ _ from ⟨hi, hz0, hz1, hz2⟩)
  clear hi hz0 hz1 hz2
  go_enter Tryz.func81, Tryz.ntmps81
  go_wp2
  go_loopw [3] (fun i wr => ∃ k : Nat, k ≤ m ∧ i = .int .i64 k ∧ Hid (Marked fElem w wr B 90 2 BL m V N k)) (fun i _ => m - (intOf i).toNat)
  case atStart => exact ⟨0, Nat.zero_le _, rfl, Lib.hid (Marked.start HL.out)⟩
  case round =>
    obtain ⟨k, hk, rfl, HM⟩ := hrel
    by_cases hlt : k < m
    · obtain ⟨A, ck, hv, hnc, hcm⟩ := HM.out.lists.slice hlt
      obtain ⟨n, hn⟩ : ∃ n, N k = n := ⟨_, rfl⟩
      rw [hn] at hv hnc
      have hn0 : n ≤ 1000000 := by have := HN.out k hlt; omega
      have hrow := HM.out.lists.row k hlt
      rw [hv] at hrow
      obtain ⟨xs, hxs⟩ := HM.out.lists.own k hlt
      rw [hv, hn] at hxs
      have HV := Lib.hid (show _ ∧ _ from ⟨hv, hn⟩)
      have HX := Lib.hid hxs
      have HR := Lib.hid hrow
      clear hv hn hxs
      obtain ⟨wo, rfl⟩ : ∃ wo : World, wo = wr := ⟨_, rfl⟩
      go_wp2
      clear hrow
      go_loopw [4] (fun q wz => ∃ p : Nat, p ≤ n ∧ q = .int .i64 p ∧ Hid (Marking fElem wo wz B 90 2 (.slice A n ck) n k p)) (fun q _ => n - (intOf q).toNat)
      case atStart => exact ⟨0, Nat.zero_le _, rfl, Lib.hid (Marking.start HX.out)⟩
      case round =>
        obtain ⟨p, hp, rfl, HP⟩ := hrel
        have hrz : wr.cell? ⟨BL, k, none⟩ = some (.slice A n ck) := by
          have h1 := HP.out.1.block BL (World.block_lt_of_cell? wo _ HR.out) (fun e => HM.out.lists.off k hlt (by rw [HV.out.1]; exact e.symm))
          exact (World.cell?_of_block (w := wo) h1).trans HR.out
        by_cases hpn : p < n
        · obtain ⟨g, rfl, hg⟩ := owns_some HX.out (by omega)
          obtain ⟨ys, hys, _⟩ := HP.out.2
          have hc0 : ∃ u0, wr.cell? ⟨g, p * 2, none⟩ = some u0 := ⟨_, by
            rw [hys.cellAt (p * 2) (by omega)]
            exact List.getElem?_eq_getElem (by have := hys.1; omega)⟩
          have hc1 : ∃ u1, wr.cell? ⟨g, p * 2 + 1, none⟩ = some u1 := ⟨_, by
            rw [hys.cellAt (p * 2 + 1) (by omega)]
            exact List.getElem?_eq_getElem (by have := hys.1; omega)⟩
          have hf0 := hys.frozenAt (p * 2)
          have hf1 := hys.frozenAt (p * 2 + 1)
          obtain ⟨u0, hc0⟩ := hc0
          obtain ⟨u1, hc1⟩ := hc1
          clear hys
          go_wp2
          go_roundw
          case measure => simp [intOf]; omega
          case rel => exact ⟨p + 1, hpn, by simp, Lib.hid (HP.out.next2 hpn rfl)⟩
        · obtain rfl : p = n := by omega
          have HE := Lib.hid HP.out.end_
          clear HX
          go_wp2
          go_roundw
          case measure => simp [intOf]; omega
          case rel =>
            refine ⟨k + 1, hlt, by simp, Lib.hid (HM.out.step hlt ?_ ?_)⟩
            · rw [HV.out.1]; exact HE.out.1
            · rw [HV.out.1, HV.out.2]; exact HE.out.2
    · obtain rfl : k = m := by omega
      obtain ⟨w2, rfl⟩ : ∃ w2 : World, w2 = wr := ⟨_, rfl⟩
      have hsz2 := HM.out.kept.size
      go_wp2
      go_loopw [5, 6] (fun v i wz => ∃ (q : Nat) (Ls : List Value), q ≤ k ∧ i = .int .i64 q ∧ Hid (Longer fElem 8 w w2 wz B 90 2 BL k V N 33 q v Ls)) (fun _ i _ => k - (intOf i).toNat)
      case atStart => exact ⟨0, [], Nat.zero_le _, rfl, Lib.hid (Longer.start 8 _ HM.out)⟩
      case round =>
        obtain ⟨q, Ls, hq, rfl, HG⟩ := hrel
        by_cases hqk : q < k
        · obtain ⟨A, cq, hv, hnc, hcm⟩ := HM.out.lists.slice hqk
          obtain ⟨n, hn⟩ : ∃ n, N q = n := ⟨_, rfl⟩
          rw [hn] at hv hnc
          have hn0 : n ≤ 1000000 := by have := HN.out q hqk; omega
          have hrow := HG.out.row q hqk
          rw [hv] at hrow
          have hxs := HG.out.rest q (Nat.le_refl _) hqk
          rw [hv, hn] at hxs
          have HV := Lib.hid (show _ ∧ _ from ⟨hv, hn⟩)
          have HX := Lib.hid hxs
          clear hv hn hxs
          obtain ⟨wo, rfl⟩ : ∃ wo : World, wo = wr := ⟨_, rfl⟩
          go_wp2
          clear hrow
          go_loopw [7, 8] (fun x t wz => ∃ p : Nat, p ≤ 8 ∧ t = .int .i64 p ∧ Hid (Growing fElem wo wz B 90 2 (.slice A n cq) n q p x)) (fun _ t _ => 8 - (intOf t).toNat)
          case atStart => exact ⟨0, Nat.zero_le _, rfl, Lib.hid (Growing.start HX.out)⟩
          case round =>
            obtain ⟨p, hp, rfl, HP⟩ := hrel
            have hszr := HP.out.kept.size
            have hszo := HG.out.size
            by_cases hp8 : p < 8
            · obtain ⟨hi, hz0, hz1, hz2⟩ := HI.out
              go_wp2_with (at_builtin; refine wpList_append_full _ rfl _ _ 33 rfl B 90 i0 _ 2 32 Tryz.underlying33 hi hz0 hz1 hz2 rfl (by omega) _ (n + p) (marks fElem q n ++ marks fElem (-1 - (q : Int)) p) rfl (HP.out.own.alloc _) ⟨wr.heap.size, 0, none⟩ 1 1 [.slice none 0 0, .int .u64 ((-1 - (q : Int)) * 1000 + p + 7000000)] rfl rfl (cells_newL wr _ _) (by simp [Value.oneCell']) (by omega) (by unfold maxLen; omega) (by omega) (by simp; omega) ?_)
              intro g cap w5 hown5 hg5 hl5 ho5
              have hb5 : Below wr.heap.size wr (wr.alloc (.cells #[.slice none 0 0, .int .u64 ((-1 - (q : Int)) * 1000 + p + 7000000)] 90)) := (Below.refl _ _).alloc (Nat.le_refl _) _
              have HP2 := Lib.hid ((HP.out.below hb5).next (by rw [List.append_assoc]; exact hown5) hg5 (by simpa using hl5) ho5)
              clear hi hz0 hz1 hz2 hown5 hg5 hl5 ho5 hb5
              go_wp2
              go_roundw
              case measure => simp [intOf]; omega
              case rel => exact ⟨p + 1, hp8, by simp, HP2⟩
            · obtain rfl : p = 8 := by omega
              obtain ⟨xg, xc, rfl, _, _⟩ := HP.out.own.form (by omega)
              obtain ⟨hi, hz0, hz1, hz2⟩ := HJ.out
              have hlo := HG.out.len
              have hog := HG.out.own
              have hne : ∀ b, u5.ownBlock = some b → (Value.slice A n cq).ownBlock ≠ some b := by
                intro b hu e
                have h1 := HG.out.new b hu
                have h2 := HM.out.lists.lt hqk (g := b) (by rw [HV.out.1]; exact e)
                omega
              have holo : wr.ownsRow B 33 1 u5 q Ls := hog.kept HP.out.kept (apart_of hne)
              clear hne
              have HO := Lib.hid (show _ ∧ _ from ⟨hlo, holo⟩)
              clear hlo hog holo
              go_wp2_with (at_builtin; refine wpList_append_full _ rfl _ _ 64 rfl B 33 i1 _ 1 24 Tryz.underlying64 hi hz0 hz1 hz2 rfl (by omega) _ q Ls rfl (HO.out.2.alloc _) ⟨wr.heap.size, 0, none⟩ 1 1 [.slice (some ⟨xg, 0, none⟩) (n + 8) xc] rfl rfl (cells_one wr _ _) (by simp [Value.oneCell']) (by omega) (by unfold maxLen; omega) (by omega) (by simp; omega) ?_)
              intro g cap w5 hown5 hg5 hl5 ho5
              have hb5 : Below wr.heap.size wr (wr.alloc (.cells #[.slice (some ⟨xg, 0, none⟩) (n + 8) xc] 33)) := (Below.refl _ _).alloc (Nat.le_refl _) _
              have HQ := Lib.hid (HG.out.step HM.out.lists (by omega) hsz2 hqk (by rw [HV.out.1, HV.out.2]; exact HP.out) (by omega) hb5 hown5 hg5 (by simpa using hl5))
              clear hi hz0 hz1 hz2 hown5 hg5 hl5 ho5 hb5
              go_wp2
              go_roundw
              case measure => simp [intOf]; omega
              case rel => exact ⟨q + 1, _, hqk, by simp, HQ⟩
        · obtain rfl : q = k := by omega
          obtain ⟨w3, rfl⟩ : ∃ w3 : World, w3 = wr := ⟨_, rfl⟩
          have hsz3 := HG.out.size
          obtain ⟨Av, cv, rfl, hcv, _⟩ := owns_slice HG.out.own
          go_wp2
          go_loopw [9] (fun i wz => ∃ t : Nat, t ≤ q ∧ i = .int .i64 t ∧ Below w3.heap.size w3 wz) (fun i _ => q - (intOf i).toNat)
          case atStart => exact ⟨0, Nat.zero_le _, rfl, Below.refl _ _⟩
          case round =>
            obtain ⟨t, ht, rfl, hbl⟩ := hrel
            by_cases htq : t < q
            · obtain ⟨A, cq, hv, hnc, hcm⟩ := HM.out.lists.slice htq
              obtain ⟨n, hn⟩ : ∃ n, N t = n := ⟨_, rfl⟩
              rw [hn] at hv hnc
              have hn0 : n ≤ 1000000 := by have := HN.out t htq; omega
              have hL0 : Ls[t]? = some (Ls[t]'(by have := HG.out.len; omega)) := List.getElem?_eq_getElem _
              obtain ⟨x, hx⟩ : ∃ x, Ls[t]'(by have := HG.out.len; omega) = x := ⟨_, rfl⟩
              rw [hx] at hL0
              have hxo := (HG.out.each t x hL0).1
              rw [hn] at hxo
              obtain ⟨xg, xc, rfl, _, hxlt⟩ := hxo.form (by omega)
              obtain ⟨gv, rfl, hgv⟩ := owns_some HG.out.own (by omega)
              have hBL := World.block_lt_of_cell? w3 _ (HG.out.row t htq)
              have hrow3 := HG.out.row t htq
              rw [hv] at hrow3
              have hlong3 := owns_cell HG.out.own (g := gv) rfl hL0
              have hcA : ∀ g, A = some ⟨g, 0, none⟩ → ∀ p, p < n → w3.cell? ⟨g, p * 2 + 1, none⟩ = some (.int .u64 ((t : Int) * 1000 + p + 7000000)) := fun g hg p hp =>
                HG.out.cells t htq g (by rw [hv, hg]; rfl) (p * 2 + 1) (.int .u64 ((t : Int) * 1000 + p + 7000000)) (marks_at fElem_len t (N t) p 1 _ (by omega) rfl)
              have hcX : ∀ p, p < n → w3.cell? ⟨xg, p * 2 + 1, none⟩ = some (.int .u64 ((t : Int) * 1000 + p + 7000000)) := by
                intro p hp
                have h0 := marks_at fElem_len t n p 1 _ hp rfl
                exact owns_cell hxo rfl (by rw [List.getElem?_append_left (List.getElem?_eq_some_iff.1 h0).1]; exact h0)
              have hcY : ∀ p, p < 8 → w3.cell? ⟨xg, (n + p) * 2 + 1, none⟩ = some (.int .u64 ((-1 - (t : Int)) * 1000 + p + 7000000)) := by
                intro p hp
                have h0 := marks_at fElem_len (-1 - (t : Int)) 8 p 1 _ hp rfl
                have h2 := marks_length fElem_len t n
                exact owns_cell hxo rfl (by rw [List.getElem?_append_right (by omega), h2, show (n + p) * 2 + 1 - n * 2 = p * 2 + 1 by omega]; exact h0)
              have hAlt : ∀ g, A = some ⟨g, 0, none⟩ → g < w3.heap.size := by
                intro g hg
                have := (HM.out.lists.lt htq (g := g) (by rw [hv, hg]; rfl)).2
                omega
              obtain ⟨xsA, hxsA⟩ := HM.out.lists.own t htq
              rw [hv, hn] at hxsA
              have HA := Lib.hid (show _ ∧ _ ∧ _ ∧ _ ∧ _ from ⟨hcA, hcX, hcY, hAlt, fun h => owns_some hxsA h⟩)
              have HR := Lib.hid (show _ ∧ _ from ⟨hrow3, hlong3⟩)
              have hrow := (hbl.cell (p := ⟨BL, t, none⟩) hBL).trans hrow3
              clear hx hv hn hL0 hxo hcA hcX hcY hAlt hxsA hrow3 hlong3
              go_wp2
              clear hrow
              go_loopw [11] (fun j wz => ∃ p : Nat, p ≤ n ∧ j = .int .i64 p ∧ Below w3.heap.size w3 wz) (fun j _ => n - (intOf j).toNat)
              case atStart => exact ⟨0, Nat.zero_le _, rfl, hbl⟩
              case round =>
                clear hbl
                obtain ⟨p, hp, rfl, hbl⟩ := hrel
                have hrow := (hbl.cell (p := ⟨BL, t, none⟩) hBL).trans HR.out.1
                have hlong := (hbl.cell (p := ⟨gv, t, none⟩) hgv).trans HR.out.2
                by_cases hpn : p < n
                · obtain ⟨gA, rfl, _⟩ := HA.out.2.2.2.2 (by omega)
                  have c1 := (hbl.cell (p := ⟨gA, p * 2 + 1, none⟩) (HA.out.2.2.2.1 gA rfl)).trans (HA.out.1 gA rfl p hpn)
                  have c2 := (hbl.cell (p := ⟨xg, p * 2 + 1, none⟩) hxlt).trans (HA.out.2.1 p hpn)
                  have i1 : (0 : Int) ≤ (t : Int) := by omega
                  have i2 : (t : Int) < (q : Int) := by omega
                  have i3 : (0 : Int) ≤ (p : Int) := by omega
                  have i4 : (p : Int) < (n : Int) := by omega
                  have i5 : (p : Int) < (n : Int) + 8 := by omega
                  go_wp2
                  go_roundw
                  case measure => simp [intOf]; omega
                  case rel => exact ⟨p + 1, hpn, by simp, hbl⟩
                · obtain rfl : p = n := by omega
                  go_wp2
                  clear hrow hlong
                  go_loopw [12] (fun j wz => ∃ y : Nat, y ≤ 8 ∧ j = .int .i64 y ∧ Below w3.heap.size w3 wz) (fun j _ => 8 - (intOf j).toNat)
                  case atStart => exact ⟨0, Nat.zero_le _, rfl, hbl⟩
                  case round =>
                    clear hbl
                    obtain ⟨y, hy, rfl, hbl⟩ := hrel
                    have hlong := (hbl.cell (p := ⟨gv, t, none⟩) hgv).trans HR.out.2
                    by_cases hy8 : y < 8
                    · have c2 := (hbl.cell (p := ⟨xg, (p + y) * 2 + 1, none⟩) hxlt).trans (HA.out.2.2.1 y hy8)
                      go_wp2
                      go_roundw
                      case measure => simp [intOf]; omega
                      case rel => exact ⟨y + 1, hy8, by simp, hbl⟩
                    · obtain rfl : y = 8 := by omega
                      go_wp2
                      go_roundw
                      case measure => simp [intOf]; omega
                      case rel => exact ⟨t + 1, htq, by simp, hbl⟩
            · obtain rfl : t = q := by omega
              go_wp2
              go_ret
              exact ⟨rfl, HG.out.kept.trans (GrownIn.of_below hbl) (fun b hb h => by have := HM.out.kept.size; omega)⟩
end Go.Proofs.YtajaijidecomdaaGreatDoor
