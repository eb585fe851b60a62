/- The document's Without and In. The document's Blocks of chapter 19. What stands when all is asked of one list of series: the book owns what was handed back. Chapter 19's much. -/
import Derived.Test.YtihidnmpngeohaaGreatG41
import Derived.Deep.RegionWith
import Derived.Test.YtihidnmpngeohaaGreatG40
import Derived.Test.YtihidnmpngeohaaGreatG02
import Derived.BigQuiet
import Derived.Deep.RegionHeld3
import Derived.Test.YtihidnmpngeohaaGreatCmpBlk
import Derived.Test.YtihidnmpngeohaaGreatG38
namespace Go.Proofs.YtihidnmpngeohaaGreat
open Go.RowKit Go.Lib

set_option maxHeartbeats 1000000 in
theorem refIn_any (A : Option Addr) (n c B : Nat) (l : List (Int × Int)) (t : Int) (w : World) (hL : Lst encI 2 w B A n l) (hbig : n ≤ 1000000000) :
    Calls Tryz.prog 126 #[.int .i64 t, .slice A n c] w fun e w' => e = .returned (.bool (covB l t)) ∧ w' = w := by
  have HL := Lib.hid hL
  clear hL
  go_enter Tryz.func126, Tryz.ntmps126
  go_wp2
  go_loop [5] (fun i => ∃ k : Nat, k ≤ n ∧ i = .int .i64 k ∧ Hid (covB (l.take k) t = false)) (fun i => n - (intOf i).toNat)
  case atStart => exact ⟨0, Nat.zero_le _, rfl, Lib.hid rfl⟩
  case round =>
    obtain ⟨k, hk, rfl, HF⟩ := hrel
    by_cases hlt : k < n
    · obtain ⟨b, off, x, rfl, hbb, hx, hc⟩ := HL.out.at hlt
      have c0 := hc 0 _ rfl
      have c1 := hc 1 _ rfl
      simp only [Nat.add_zero] at c0
      have HX := Lib.hid hx
      clear hx hc
      by_cases h1 : x.1 ≤ t
      · by_cases h2 : t ≤ x.2
        · go_wp2
          go_ret
          exact ⟨by rw [covB_mem HX.out ⟨h1, h2⟩]; rfl, rfl⟩
        · go_wp2
          go_round
          case measure => simp [intOf]; omega
          case rel => exact ⟨k + 1, hlt, by simp, Lib.hid (by rw [covB_succ HX.out, HF.out]; simp; omega)⟩
      · go_wp2
        go_round
        case measure => simp [intOf]; omega
        case rel => exact ⟨k + 1, hlt, by simp, Lib.hid (by rw [covB_succ HX.out, HF.out]; simp; omega)⟩
    · have hf := HF.out
      rw [List.take_of_length_le (by have := HL.out.1; omega)] at hf
      have HF2 := Lib.hid hf
      clear hf
      go_wp2
      go_ret
      exact ⟨by rw [HF2.out]; rfl, rfl⟩

theorem filter_len (s : List (Int × Int)) (p : Int × Int → Bool) (k : Nat) : ((s.take k).filter p).length ≤ s.length := by
  have h1 := List.length_filter_le p (s.take k)
  have h2 : (s.take k).length ≤ s.length := by rw [List.length_take]; omega
  omega
set_option maxHeartbeats 2000000 in
set_option maxRecDepth 100000 in
theorem refWithout_any (A A' : Option Addr) (n c n' c' : Nat) (s l : List (Int × Int)) (w : World) (hS : Lst encS 2 w w.heap.size A n s) (hn : n ≤ 1000000) (hL : Lst encI 2 w w.heap.size A' n' l) (hn' : n' ≤ 1000000) :
    Calls Tryz.prog 90 #[.slice A n c, .slice A' n' c'] w (PutS (withoutS s l) w) := by
  obtain ⟨i0, hi, hz0, hz1, hz2⟩ := info_parts Tryz.infoSample
  have HI := Lib.hid (show _ ∧ _ ∧ _ ∧ _ from ⟨hi, hz0, hz1, hz2⟩)
  have HS := Lib.hid (show _ ∧ _ from ⟨hS, hL⟩)
  clear hS hL hi hz0 hz1 hz2
  go_enter Tryz.func90, Tryz.ntmps90
  go_wp2
  go_loopw [5, 6, 7] (fun v iv _ wr => ∃ k : Nat, k ≤ n ∧ iv = .int .i64 k ∧ Hid (wr.ownsRow w.heap.size 95 2 v (withoutS (s.take k) l).length ((withoutS (s.take k) l).flatMap encS) ∧ Below w.heap.size w wr)) (fun _ iv _ _ => n - (intOf iv).toNat)
  case atStart => exact ⟨0, Nat.zero_le _, rfl, Lib.hid ⟨World.ownsRow_nil _ _ _ _, Below.refl _ _⟩⟩
  case round =>
    obtain ⟨k, hk, rfl, HR⟩ := hrel
    by_cases hlt : k < n
    · obtain ⟨b, off, x, rfl, hb, hx, hc⟩ := HS.out.1.at hlt
      have c0 := (HR.out.2.cell (p := ⟨b, off + k * 2 + 0, none⟩) hb).trans (hc 0 _ rfl)
      have c1 := (HR.out.2.cell (p := ⟨b, off + k * 2 + 1, none⟩) hb).trans (hc 1 _ rfl)
      simp only [Nat.add_zero] at c0
      have hin := refIn_any A' n' c' w.heap.size l x.1 wr (HS.out.2.below HR.out.2) (by omega)
      have hsu : withoutS (s.take (k + 1)) l = withoutS (s.take k) l ++ (if (!covB l x.1) then [x] else []) := filter_succ (fun x => !covB l x.1) hx
      have hfl : (withoutS (s.take k) l).length ≤ n := by have := filter_len s (fun x => !covB l x.1) k; have := HS.out.1.1; unfold withoutS; omega
      have HX := Lib.hid (show _ ∧ _ ∧ _ from ⟨hin, hsu, hfl⟩)
      clear hc hx hin hsu hfl
      cases hcv : covB l x.1 with
      | true =>
        rw [hcv] at HX
        go_wp2_with fail
        refine HX.out.1.mono ?_
        rintro e w' ⟨rfl, rfl⟩
        have hrow := HR.out
        have he : withoutS (s.take (k + 1)) l = withoutS (s.take k) l := by rw [HX.out.2.1]; simp
        rw [← he] at hrow
        have HN := Lib.hid hrow
        clear hrow he
        go_wp2
        go_roundw
        case measure => simp [intOf]; omega
        case rel => exact ⟨k + 1, hlt, by simp, HN⟩
      | false =>
        rw [hcv] at HX
        go_wp2_with fail
        refine HX.out.1.mono ?_
        rintro e w' ⟨rfl, rfl⟩
        obtain ⟨hi, hz0, hz1, hz2⟩ := HI.out
        have hfl := HX.out.2.2
        have hsz := HR.out.2.size
        obtain ⟨r, hr⟩ : ∃ r, withoutS (s.take k) l = r := ⟨_, rfl⟩
        have hrow := HR.out
        rw [hr] at hrow hfl
        have HR2 := Lib.hid hrow
        have HRR := Lib.hid hr
        clear hrow hr
        go_wp2_with (at_builtin; refine wpList_append_own _ rfl _ _ 90 rfl w.heap.size 95 i0 _ 2 16 Tryz.underlying90 hi hz0 hz1 hz2 rfl (by omega) _ r.length (r.flatMap encS) rfl (HR2.out.1.alloc _) ⟨w'.heap.size, 0, none⟩ 1 1 (encS x) rfl rfl (fun j u h => cells_newL _ (encS x) _ j u h) (fun u hu => oneSample [x] u (by simpa using hu)) (by unfold maxLen; omega) (by omega) (by simp; omega) ?_)
        intro v2 w2 ho2 hg2 _
        have hb2 : Below w.heap.size w w2 := (HR2.out.2.alloc HR2.out.2.size _).grown hg2 (by simp; omega) (fun b hb => (HR2.out.1.lt b hb).1)
        have hr2 : w2.ownsRow w.heap.size 95 2 v2 (withoutS (s.take (k + 1)) l).length ((withoutS (s.take (k + 1)) l).flatMap encS) := by
          rw [HX.out.2.1, HRR.out]
          simpa using ho2
        have HN := Lib.hid (show _ ∧ _ from ⟨hr2, hb2⟩)
        clear hi hz0 hz1 hz2 ho2 hg2 hb2 hr2
        go_wp2
        go_roundw
        case measure => simp [intOf]; omega
        case rel => exact ⟨k + 1, hlt, by simp, HN⟩
    · have hrow := HR.out
      rw [List.take_of_length_le (by have := HS.out.1.1; omega)] at hrow
      have HN := Lib.hid hrow
      clear hrow HR
      go_wp2
      go_ret
      exact ⟨_, rfl, HN.out.1, HN.out.2⟩
end Go.Proofs.YtihidnmpngeohaaGreat
namespace Go.Proofs.YtihidnmpngeohaaGreat
open Go.RowKit Go.Lib

def RefBPost (w : World) (ls : List (List Sv)) (ts : List (List Tv)) (e : Ending) (w' : World) : Prop :=
  ∃ v os, e = .returned v ∧ RSer w' w.heap.size v os ∧ os.map Sv.sr = serU labelsC (cutL (tbsOf ts) (lsOf ls)).flatten ∧ Below w.heap.size w w'
theorem refWithout_own {W : World} {y : Sv} (hy : Sat W W.heap.size y) {B : Nat} {vg : Value} {gs : List (Int × Int)} (hg : W.ownsRow B 25 2 vg gs.length (gs.flatMap encI)) (hl : gs.length ≤ 4000) :
    Calls Tryz.prog 90 #[.slice y.D y.m y.d, vg] W (PutS (withoutS y.s gs) W) := by
  obtain ⟨A', c', rfl, _, hL⟩ := ownsRow_lst hg rfl encI_len
  exact refWithout_any y.D A' y.m y.d gs.length c' y.s gs W hy.sst (by have := hy.sfew; omega) hL (by omega)
theorem seenC {w w' : World} (hb : Below w.heap.size w w') {p1 p2 p3 : Addr} {v1 v2 v3 : Value} (h : w.cell? p1 = some v1 ∧ w.cell? p2 = some v2 ∧ w.cell? p3 = some v3) : w'.cell? p1 = some v1 ∧ w'.cell? p2 = some v2 ∧ w'.cell? p3 = some v3 :=
  ⟨Below.seen hb h.1, Below.seen hb h.2.1, Below.seen hb h.2.2⟩
set_option maxHeartbeats 8000000 in
set_option maxRecDepth 100000 in
theorem refBlocks_any (A A' : Option Addr) (n c n' c' : Nat) (ls : List (List Sv)) (ts : List (List Tv)) (w : World) (h : BlkIn w A A' n n' ls ts) :
    Calls Tryz.prog 26 #[.slice A n c, .slice A' n' c'] w (RefBPost w ls ts) := by
  obtain ⟨i0, hi0, hz00, hz01, hz02⟩ := info_parts Tryz.infoSeries
  obtain ⟨i2, hi2, hz20, hz21, hz22⟩ := info_parts Tryz.infoSeriess
  have HI := Lib.hid (show _ ∧ _ ∧ _ ∧ _ from ⟨hi0, hz00, hz01, hz02⟩)
  have HP := Lib.hid (show _ ∧ _ ∧ _ ∧ _ from ⟨hi2, hz20, hz21, hz22⟩)
  clear hi0 hz00 hz01 hz02 hi2 hz20 hz21 hz22
  have HL := Lib.hid h
  have hn := h.fewS.1
  have hn' := h.fewT.1
  clear h
  go_enter Tryz.func26, Tryz.ntmps26
  go_wp2
  go_loopw [5, 6, 7, 8, 9] (fun v iv _ _ _ wr => ∃ (i : Nat) (hs : List Value) (zs : List (List Sv)), i ≤ n ∧ hs.length = i ∧ iv = .int .i64 i ∧ Hid (CutLs wr w.heap.size w.heap.size v hs zs ∧ zs.map (·.map Sv.sr) = cutL (tbsOf ts) ((lsOf ls).take i) ∧ Below w.heap.size w wr)) (fun _ iv _ _ _ _ => n - (intOf iv).toNat)
  case atStart => exact ⟨0, [], [], Nat.zero_le _, rfl, rfl, Lib.hid ⟨CutLs.nil _ _ _, by simp [cutL], Below.refl _ _⟩⟩
  case round =>
    obtain ⟨i, hs, zs, hi, hhs, rfl, HR⟩ := hrel
    have hsz := HR.out.2.2.size
    by_cases hlt : i < n
    · obtain ⟨b, off, xs, B', c2, rfl, hb, hx, c0, hx2⟩ := HL.out.sls.at hlt
      have C0 := Lib.hid c0
      have hml : xs.length ≤ 4000 := Nat.le_trans (len_flat hx) HL.out.fewS.2.1
      have HX := Lib.hid (show _ ∧ _ ∧ _ from ⟨hx, hx2, hb⟩)
      have ii : (i : Int) < (n : Int) := by omega
      have ii0 : (0 : Int) ≤ (i : Int) := by omega
      clear hx hx2 hb c0
      obtain ⟨wo, rfl⟩ : ∃ wo : World, wo = wr := ⟨_, rfl⟩
      go_wp2_with fail
      go_loopw [7, 8, 9] (fun v kv _ wz => ∃ (k : Nat) (os : List Sv), k ≤ xs.length ∧ kv = .int .i64 k ∧ Hid (CutSv wz w.heap.size wo.heap.size v os ∧ os.map Sv.sr = ((xs.take k).map Sv.sr).map (cutP (tbsOf ts) i) ∧ Below wo.heap.size wo wz)) (fun _ kv _ _ => xs.length - (intOf kv).toNat)
      case atStart => exact ⟨0, [], Nat.zero_le _, rfl, Lib.hid ⟨CutSv.nil _ _ _, rfl, Below.refl _ _⟩⟩
      case round =>
        obtain ⟨k, os, hk, rfl, HK⟩ := hrel
        have hszz := HK.out.2.2.size
        have hbz : Below w.heap.size w wr := HR.out.2.2.trans (HK.out.2.2.mono hsz)
        have c0 := (hbz.cell (p := ⟨b, off + i, none⟩) HX.out.2.2).trans C0.out
        have HBZ := Lib.hid hbz
        clear hbz
        by_cases hkl : k < xs.length
        · obtain ⟨b2, off2, y, rfl, hb2, hy, hc2⟩ := HX.out.2.1.at hkl
          have e0 := (HBZ.out.cell (p := ⟨b2, off2 + k * 2 + 0, none⟩) hb2).trans (hc2 0 _ rfl)
          have e1 := (HBZ.out.cell (p := ⟨b2, off2 + k * 2 + 1, none⟩) hb2).trans (hc2 1 _ rfl)
          simp only [Nat.add_zero] at e0
          have hyT := HL.out.ser y (mem_flat HX.out.1 (List.mem_of_getElem? hy))
          have HY := Lib.hid (show _ ∧ _ from ⟨hyT, hy⟩)
          have kk : (k : Int) < (xs.length : Int) := by omega
          have kk0 : (0 : Int) ≤ (k : Int) := by omega
          have hwz := HBZ.out.size
          have hosl : os.length ≤ 4000 := by
            have h5 := congrArg List.length HK.out.2.1
            rw [List.length_map, List.length_map, List.length_map, List.length_take] at h5
            omega
          have hvn : ∀ g, u7.ownBlock = some g → wo.heap.size ≤ g := fun g hg => (HK.out.1.row.lt g hg).1
          have HN := Lib.hid hvn
          clear hc2 hyT hy hvn
          by_cases hit : i < n'
          · have jt : (i : Int) < (n' : Int) := by omega
            obtain ⟨b3, off3, gx, B3, c3', rfl, hb3, hgx, d0, hgx2⟩ := HL.out.tls.at hit
            have d0 := (HBZ.out.cell (p := ⟨b3, off3 + i, none⟩) hb3).trans d0
            have hgl : gx.length ≤ 4000 := Nat.le_trans (len_flat hgx) HL.out.fewT.2
            obtain ⟨gs, hgs⟩ : ∃ gs, goneK labelsC (gx.map Tv.tb) y.l = gs := ⟨_, rfl⟩
            have hgl2 : gs.length ≤ 4000 := by
              have h5 := goneK_few gx gx.length y.l
              rw [List.take_of_length_le (Nat.le_refl _), hgs] at h5
              omega
            have hgo := refGone_any B3 y.A gx.length c3' y.n y.c gx y.l wr.drew ((hgx2.below HBZ.out).more hwz) (HY.out.1.sat.on HBZ.out.drew).lst (by omega) (HY.out.1.sat.few) (fun t ht => (HL.out.tmb t (mem_flat hgx ht)).on HBZ.out.drew)
            rw [hgs] at hgo
            have hwo := fun W (hbw : Below w.heap.size w W) (B : Nat) (vg : Value) (hgr : W.ownsRow B 25 2 vg gs.length (gs.flatMap encI)) => refWithout_own (y := y) (HY.out.1.sat.on hbw) hgr hgl2
            have HT : Hid (goneK labelsC (((tbsOf ts)[i]?).getD []) y.l = gs) := Lib.hid (by rw [tbs_at hgx, hgs])
            have HW := Lib.hid (show _ ∧ _ from ⟨hgo, hwo⟩)
            have HS := Lib.hid (show _ ∧ _ ∧ _ from ⟨c0, d0, e0⟩)
            have hrl : (withoutS y.s gs).length ≤ 100000 := by
              have h5 : (withoutS y.s gs).length ≤ y.s.length := List.length_filter_le _ _
              have h6 := HY.out.1.sat.sst.1
              have h7 := HY.out.1.sat.sfew
              omega
            clear hgx hgx2 hgo hwo hgl hgl2 hgs
            go_wp2_with fail
            go_region_held3 (fun w' => w'.cell? ⟨b, off + i, none⟩ = some (.slice (some ⟨b2, off2, none⟩) xs.length c2) ∧ w'.cell? ⟨b3, off3 + i, none⟩ = some (.slice B3 gx.length c3') ∧ w'.cell? ⟨b2, off2 + k * 2, none⟩ = some (.slice y.A y.n y.c)) (first | exact k8 | exact k6 | exact HS.out | go_keep)
              (first
                | (go_at_call 45; refine HW.out.1.mono ?_; rintro e w5 ⟨vg, rfl, hog, hb5'⟩; have hb5 : Below wr.heap.size wr w5 := (Below.refl _ wr).drew.trans hb5'; have k6 := seenC hb5 HS.out; have hs5 : wr.heap.size ≤ w5.heap.size := hb5.size; have H5 := Lib.hid (show _ ∧ _ ∧ _ from ⟨(show World.ownsRow w5 wr.heap.size _ _ _ _ _ from hog), hb5, HBZ.out.trans (hb5.mono hwz)⟩); clear hog hb5 hb5')
                | (go_at_call 90; refine (HW.out.2 _ H5.out.2.2 _ _ H5.out.1).mono ?_; rintro e w7 ⟨v7, rfl, ho7, hb7⟩; have k8 := seenC hb7 k6; obtain ⟨A7, c7, rfl, _, _⟩ := owns_slice ho7; have hs7 : w5.heap.size ≤ w7.heap.size := hb7.size; have H7 := Lib.hid (show _ ∧ _ from ⟨ho7, H5.out.2.1.trans (hb7.mono hs5)⟩); clear ho7 hb7)
                | fail)
            all_goals
              have hO7 := owns_below HK.out.1.row H7.out.2
              have HO := Lib.hid hO7
              obtain ⟨hi, hz0, hz1, hz2⟩ := HI.out
              have g1 := k8.1
              have g2 := k8.2.2
              clear hO7 c0 d0 e0 e1
              go_wp2_with (at_builtin; refine wpList_append_own _ rfl _ _ 70 rfl wo.heap.size 132 i0 _ 2 48 Tryz.underlying70 hi hz0 hz1 hz2 rfl (by omega) _ os.length (os.flatMap encSv) rfl (HO.out.alloc _) ⟨w7.heap.size, 0, none⟩ 1 1 [.slice y.A y.n y.c, .slice A7 (withoutS y.s gs).length c7] rfl rfl (cells_newL w7 [.slice y.A y.n y.c, .slice A7 (withoutS y.s gs).length c7] _) (by simp [Value.oneCell']) (by unfold maxLen; omega) (by omega) (by simp; omega) ?_)
              intro v6 w6 ho6 hg6 _
              have hba : Below w7.heap.size w7 (w7.alloc (.cells #[.slice y.A y.n y.c, .slice A7 (withoutS y.s gs).length c7] 132)) := (Below.refl _ _).alloc (Nat.le_refl _) _
              have hb65 : Below wr.heap.size wr (w7.alloc (.cells #[.slice y.A y.n y.c, .slice A7 (withoutS y.s gs).length c7] 132)) := H7.out.2.trans (hba.mono H7.out.2.size)
              have H6 := Lib.hid (show _ ∧ _ ∧ _ from ⟨HK.out.1.push (y := y) (r := withoutS y.s gs) hsz hwz hb65 (HY.out.1.sat.lst.below HBZ.out) HY.out.1.sat.nil HY.out.1.sat.few HY.out.1.key (owns_base (owns_below H7.out.1 hba) (Nat.le_trans hwz hs5)) hrl ho6 hg6, cut_step (z := ⟨y.A, y.n, y.c, y.l, A7, (withoutS y.s gs).length, c7, withoutS y.s gs⟩) HK.out.2.1 HY.out.2 (show (y.l, withoutS y.s gs) = (y.l, withoutS y.s (goneK labelsC (((tbsOf ts)[i]?).getD []) y.l)) from by rw [HT.out]), (HK.out.2.2.trans (hb65.mono hszz)).grown hg6 (Nat.le_trans hszz hb65.size) HN.out⟩)
              clear ho6 hg6 hba
              go_wp2
              go_roundw
              case measure => simp [intOf]; omega
              case rel => exact ⟨k + 1, _, hkl, by simp, H6⟩
          · have jt : ¬ (i : Int) < (n' : Int) := by omega
            have htl := HL.out.tls.1
            have HT : Hid (goneK labelsC (((tbsOf ts)[i]?).getD []) y.l = []) := Lib.hid (by rw [tbs_none (by omega)]; rfl)
            obtain ⟨hi, hz0, hz1, hz2⟩ := HI.out
            go_wp2_with (at_builtin; refine wpList_append_own _ rfl _ _ 70 rfl wo.heap.size 132 i0 _ 2 48 Tryz.underlying70 hi hz0 hz1 hz2 rfl (by omega) _ os.length (os.flatMap encSv) rfl (HK.out.1.row.alloc _) ⟨wr.heap.size, 0, none⟩ 1 1 [.slice y.A y.n y.c, .slice y.D y.m y.d] rfl rfl (cells_newL wr [.slice y.A y.n y.c, .slice y.D y.m y.d] _) (by simp [Value.oneCell']) (by unfold maxLen; omega) (by omega) (by simp; omega) ?_)
            intro v6 w6 ho6 hg6 _
            have hba : Below wr.heap.size wr (wr.alloc (.cells #[.slice y.A y.n y.c, .slice y.D y.m y.d] 132)) := (Below.refl _ _).alloc (Nat.le_refl _) _
            have hwa : Below w.heap.size w (wr.alloc (.cells #[.slice y.A y.n y.c, .slice y.D y.m y.d] 132)) := HBZ.out.trans (hba.mono hwz)
            have H6 := Lib.hid (show _ ∧ _ ∧ _ from ⟨(HK.out.1.below hwz hba).snoc (z := y) hsz (Nat.le_trans hwz hba.size) ⟨HY.out.1.sat.lst.below hwa, HY.out.1.sat.nil, HY.out.1.sat.few, HY.out.1.key⟩ ⟨.inr ⟨HY.out.1.sat.sst.below hwa, HY.out.1.sat.snil⟩, HY.out.1.sat.sfew⟩ ho6 hg6, cut_step (z := y) HK.out.2.1 HY.out.2 (show (y.l, y.s) = (y.l, withoutS y.s (goneK labelsC (((tbsOf ts)[i]?).getD []) y.l)) from by rw [HT.out, withoutS_nil]), (HK.out.2.2.trans (hba.mono hszz)).grown hg6 (Nat.le_trans hszz hba.size) HN.out⟩)
            clear ho6 hg6 hba
            go_wp2
            go_roundw
            case measure => simp [intOf]; omega
            case rel => exact ⟨k + 1, _, hkl, by simp, H6⟩
        · have kk : ¬ (k : Int) < (xs.length : Int) := by omega
          obtain rfl : k = xs.length := by omega
          have hlaw := HK.out.2.1
          rw [List.take_of_length_le (Nat.le_refl _)] at hlaw
          have hxl : (lsOf ls)[i]? = some (xs.map Sv.sr) := by unfold lsOf; rw [List.getElem?_map, HX.out.1]; rfl
          have hcl : (zs ++ [os]).map (·.map Sv.sr) = cutL (tbsOf ts) ((lsOf ls).take (i + 1)) := by
            rw [cutL_take hxl, List.map_append, HR.out.2.1]
            simp [hlaw]
          obtain ⟨A8, c8, rfl, _, _⟩ := owns_slice HK.out.1.row
          obtain ⟨hi, hz0, hz1, hz2⟩ := HP.out
          have hwz : w.heap.size ≤ wr.heap.size := Nat.le_trans hsz hszz
          have hba : Below wr.heap.size wr (wr.alloc (.cells #[.slice A8 os.length c8] 70)) := (Below.refl _ _).alloc (Nat.le_refl _) _
          have hlr := (HR.out.1.below hsz HK.out.2.2).below hwz hba
          have hsr := (HK.out.1.below hwz hba).base hsz
          have hbw : Below w.heap.size w (wr.alloc (.cells #[.slice A8 os.length c8] 70)) := (HR.out.2.2.trans (HK.out.2.2.mono hsz)).trans (hba.mono hwz)
          have HQ := Lib.hid (show _ ∧ _ ∧ _ ∧ _ from ⟨hlr, hsr, hbw, hcl⟩)
          clear hlaw hxl hcl hba hlr hsr hbw
          go_wp2_with (at_builtin; refine wpList_append_own _ rfl _ _ 56 rfl w.heap.size 70 i2 _ 1 24 Tryz.underlying56 hi hz0 hz1 hz2 rfl (by omega) _ hs.length hs rfl HQ.out.1.row ⟨wr.heap.size, 0, none⟩ 1 1 [.slice A8 os.length c8] rfl rfl (cells_newL wr [.slice A8 os.length c8] _) (by simp [Value.oneCell']) (by unfold maxLen; omega) (by omega) (by simp; omega) ?_)
          intro v6 w6 ho6 hg6 _
          have hwz2 : w.heap.size ≤ (wr.alloc (.cells #[.slice A8 os.length c8] 70)).heap.size := by simp; omega
          have H6 := Lib.hid (show _ ∧ _ ∧ _ from ⟨HQ.out.1.snoc (Nat.le_refl _) hwz2 HQ.out.2.1 (by rw [hhs]; exact ho6) hg6, HQ.out.2.2.2, HQ.out.2.2.1.grown hg6 hwz2 (fun j hj => (HQ.out.1.row.lt j hj).1)⟩)
          clear ho6 hg6 hwz2
          go_wp2
          go_roundw
          case measure => simp [intOf]; omega
          case rel => exact ⟨i + 1, _, _, hlt, by simp [hhs], by simp, H6⟩
    · obtain rfl : i = n := by omega
      have hlaw := HR.out.2.1
      have hll := HL.out.sls.1
      rw [List.take_of_length_le (by unfold lsOf; rw [List.length_map]; omega)] at hlaw
      obtain ⟨A5, c5, rfl, _, _⟩ := owns_slice HR.out.1.row
      have hsl := HR.out.1.sls rfl hsz
      have hfew : zs.flatten.length = ls.flatten.length ∧ (zs.flatten.flatMap (·.s)).length ≤ (ls.flatten.flatMap (·.s)).length ∧ zs.flatten.map Sv.sr = (cutL (tbsOf ts) (lsOf ls)).flatten := cut_few hlaw
      have hcon := refSeries_any A5 hs.length c5 zs wr hsl.1 (by omega) (by have := HL.out.fewS; omega) (by have := HL.out.fewS; omega) (fun y hy => (hsl.2 y hy).sat)
      have HC := Lib.hid (show _ ∧ _ from ⟨hcon, hfew.2.2⟩)
      clear hlaw hsl hfew hcon hhs
      go_wp2_with fail
      refine HC.out.1.mono ?_
      rintro e w9 ⟨v, os, rfl, ho, hl, hb⟩
      have H9 := Lib.hid (show _ ∧ _ ∧ _ from ⟨ho.base hsz, hl, HR.out.2.2.trans (hb.mono hsz)⟩)
      clear ho hl hb
      go_wp2
      go_ret
      exact ⟨_, os, rfl, H9.out.1, by rw [H9.out.2.1, HC.out.2], H9.out.2.2⟩
end Go.Proofs.YtihidnmpngeohaaGreat
namespace Go.Proofs.YtihidnmpngeohaaGreat
open Go.RowKit Go.Lib

structure LastO (w wi : World) (bk : Nat) (cs : Array Value) (va : Value) (os : List Sv) (g22 c22 : Nat) (u9 u10 : Value) : Prop where
  book : Bk wi bk cs
  cells : ∀ k, k < 32 → cs[k]? = some (if k = 22 then .slice (some ⟨g22, 0, none⟩) 1 c22 else if k = 9 then u9 else if k = 10 then u10 else .slice none 0 0)
  old : Below w.heap.size w wi
  one : OutSv wi w.heap.size va os
  l22 : wi.ownsRow w.heap.size 70 1 (.slice (some ⟨g22, 0, none⟩) 1 c22) 1 [va]
  l9 : wi.ownsRow w.heap.size 23 1 u9 os.length (os.map valL)
  l10 : wi.ownsRow w.heap.size 90 1 u10 os.length (os.map valD)
theorem LastO.step {w wi wj : World} {bk : Nat} {cs : Array Value} {va u9 u10 : Value} {os : List Sv} {g22 c22 : Nat} (h : LastO w wi bk cs va os g22 c22 u9 u10) (hb : Below wi.heap.size wi wj) : LastO w wj bk cs va os g22 c22 u9 u10 where
  book := h.book.kept (GrownIn.of_below hb) (by have := h.book.lt; omega)
  cells := h.cells
  old := h.old.trans (hb.mono h.old.size)
  one := h.one.below hb
  l22 := owns_below h.l22 hb
  l9 := owns_below h.l9 hb
  l10 := owns_below h.l10 hb
theorem lists_single {w : World} {B : Nat} {e : TypeId} {sz BL n : Nat} {a : Value} {xs : List Value} (ha : w.ownsRow B e sz a n xs) (h0 : w.cell? ⟨BL, 0, none⟩ = some a) (oa : a.ownBlock ≠ some BL) : Lists w B e sz BL 1 (fun _ => a) (fun _ => n) :=
  ⟨fun j hj => by obtain rfl : j = 0 := by omega
                  exact h0, fun _ _ => ⟨_, ha⟩, fun i j hi hj hij => absurd hij (by omega), fun _ _ => oa⟩
/-- What each of the book's fields may turn. -/
def turnO (va : Value) (os : List Sv) (m k b : Nat) : Prop :=
  if k = 9 then Among m (fun j => ((os.map valL)[j]?).getD (.slice none 0 0)) b else if k = 10 then Among m (fun j => ((os.map valD)[j]?).getD (.slice none 0 0)) b else if k = 22 then va.ownBlock = some b else False
theorem LastO.own {w wi : World} {bk : Nat} {cs : Array Value} {va u9 u10 : Value} {os : List Sv} {g22 c22 : Nat} (h : LastO w wi bk cs va os g22 c22 u9 u10) (hn1 : os.length ≤ 4000) (hz : ∀ z ∈ os, z.n ≤ 1000000 ∧ z.m ≤ 1000000) :
    Calls Tryz.prog 14 #[.pointer (some ⟨bk, 0, none⟩)] wi fun e w' => e = .returned (.bool true) ∧ Below w.heap.size w w' := by
  obtain ⟨m, hm⟩ : ∃ m, os.length = m := ⟨_, rfl⟩
  have hl9 := h.l9
  have hl10 := h.l10
  rw [hm] at hl9 hl10
  have hap := h.one.apart
  have hsap := h.one.sapart
  have hea := h.one.each
  have hlen : os.length = m := hm
  have hturn : ∀ k b, turnO va os m k b → (k = 9 ∧ ∃ z ∈ os, (valL z).ownBlock = some b) ∨ (k = 10 ∧ ∃ z ∈ os, (valD z).ownBlock = some b) ∨ (k = 22 ∧ va.ownBlock = some b) := fun k b hs => by
    unfold turnO at hs
    by_cases h9 : k = 9
    · rw [if_pos h9] at hs
      exact .inl ⟨h9, among_of hlen hs⟩
    · rw [if_neg h9] at hs
      by_cases h10 : k = 10
      · rw [if_pos h10] at hs
        exact .inr (.inl ⟨h10, among_of hlen hs⟩)
      · rw [if_neg h10] at hs
        by_cases h22 : k = 22
        · rw [if_pos h22] at hs
          exact .inr (.inr ⟨h22, hs⟩)
        · rw [if_neg h22] at hs
          exact hs.elim
  have keep : ∀ k w1, GrownIn (SoFar (turnO va os m) k) wi w1 → ∀ {e : TypeId} {sz n : Nat} {v : Value} {xs : List Value}, wi.ownsRow w.heap.size e sz v n xs → (9 < k → e ≠ 29) → (10 < k → e ≠ 95) → (22 < k → e ≠ 132) → w1.ownsRow w.heap.size e sz v n xs := fun k w1 hg _ _ _ _ _ ho e1 e2 e3 =>
    hg.owns ho fun b hb ⟨j, hj, hs⟩ => by
      rcases hturn j b hs with ⟨rfl, z, hz', e⟩ | ⟨rfl, z, hz', e⟩ | ⟨rfl, e⟩
      · exact owns_other ho (hea z hz').1 (e1 hj) hb e
      · exact owns_other ho (hea z hz').2 (e2 hj) hb e
      · exact owns_other ho h.one.row (e3 hj) hb e
  have h22 := h.l22.lt g22 rfl
  refine (bookOwn_any bk (turnO va os m) (fun k => if k = 22 then .slice (some ⟨g22, 0, none⟩) 1 c22 else if k = 9 then u9 else if k = 10 then u10 else .slice none 0 0) wi cs h.book h.cells (fun k hk hs => ?_) (fun k hk w1 hg => ?_)).mono ?_
  · rcases hturn k bk hs with ⟨_, z, hz', e⟩ | ⟨_, z, hz', e⟩ | ⟨_, e⟩
    · exact owns_not_bk h.book (hea z hz').1 (by decide) e
    · exact owns_not_bk h.book (hea z hz').2 (by decide) e
    · exact owns_not_bk h.book h.one.row (by decide) e
  · have hsz := hg.size
    have hold := h.old.size
    by_cases h9 : k = 9
    · subst h9
      simp only [show ¬ (9 : Nat) = 22 by omega, if_false, if_true]
      obtain ⟨A9, c9, rfl, _, _⟩ := owns_slice hl9
      rcases hl9.2 with ⟨e, h0⟩ | ⟨g9, cap, cur, e, _⟩
      · rw [e]
        exact ownAt_nil 9 (by omega) _ _
      · injection e with e1 _ e3
        subst e1
        have hk9 := keep 9 w1 hg hl9 (fun _ => by decide) (fun h => absurd h (by omega)) (fun h => absurd h (by omega))
        have hL := lists_of (e := 29) (sz := 2) (num := (·.n)) hk9 hlen (fun z hz' => ⟨_, keep 9 w1 hg (hea z hz').1 (fun h => absurd h (by omega)) (fun h => absurd h (by omega)) (fun h => absurd h (by omega))⟩) hap (by decide)
        intro f hf
        obtain rfl := Option.some.inj hf
        refine (ownLabels_any w.heap.size g9 m c9 _ _ w1 hL (by omega) (hk9.lt g9 rfl).2 (by omega) (fun j hj => ?_)).mono fun e w' ⟨h1, h2⟩ => ⟨h1, h2.mono fun b _ hb => by unfold turnO; rw [if_pos rfl]; exact hb⟩
        have ez : os[j]? = some (os[j]'(by omega)) := List.getElem?_eq_getElem _
        simp only [List.getElem?_map, ez, Option.map_some, Option.getD_some]
        exact (hz _ (List.getElem_mem _)).1
    · by_cases h10 : k = 10
      · subst h10
        simp only [show ¬ (10 : Nat) = 22 by omega, show ¬ (10 : Nat) = 9 by omega, if_false, if_true]
        obtain ⟨A10, c10, rfl, _, _⟩ := owns_slice hl10
        rcases hl10.2 with ⟨e, h0⟩ | ⟨g10, cap, cur, e, _⟩
        · rw [e]
          exact ownAt_nil 10 (by omega) _ _
        · injection e with e1 _ e3
          subst e1
          have hk10 := keep 10 w1 hg hl10 (fun _ => by decide) (fun h => absurd h (by omega)) (fun h => absurd h (by omega))
          have hL := lists_of (e := 95) (sz := 2) (num := (·.m)) hk10 hlen (fun z hz' => ⟨_, keep 10 w1 hg (hea z hz').2 (fun _ => by decide) (fun h => absurd h (by omega)) (fun h => absurd h (by omega))⟩) hsap (by decide)
          intro f hf
          obtain rfl := Option.some.inj hf
          refine (ownSamples_any w.heap.size g10 m c10 _ _ w1 hL (by omega) (hk10.lt g10 rfl).2 (by omega) (fun j hj => ?_)).mono fun e w' ⟨h1, h2⟩ => ⟨h1, h2.mono fun b _ hb => by unfold turnO; rw [if_neg (by omega), if_pos rfl]; exact hb⟩
          have ez : os[j]? = some (os[j]'(by omega)) := List.getElem?_eq_getElem _
          simp only [List.getElem?_map, ez, Option.map_some, Option.getD_some]
          exact (hz _ (List.getElem_mem _)).2
      · by_cases h22' : k = 22
        · subst h22'
          simp only [if_true]
          have k1 := keep 22 w1 hg h.one.row (fun _ => by decide) (fun _ => by decide) (fun h => absurd h (by omega))
          have k3 := keep 22 w1 hg h.l22 (fun _ => by decide) (fun _ => by decide) (fun h => absurd h (by omega))
          intro f hf
          obtain rfl := Option.some.inj hf
          exact (ownSeries_any w.heap.size g22 1 c22 (fun _ => va) (fun _ => os.length) w1 (lists_single k1 (owns_cell k3 rfl rfl) (fun e => owns_other k1 k3 (by decide) e rfl)) (by omega) (by omega) (by omega) (fun j _ => by omega)).mono fun e w' ⟨h1, h2⟩ => ⟨h1, h2.mono fun b _ hb => by
            obtain ⟨j, _, hk⟩ := hb
            unfold turnO; rw [if_neg (by omega), if_neg (by omega), if_pos rfl]; exact hk⟩
        · simp only [h22', h9, h10, if_false]
          exact ownAt_nil k hk _ _
  · rintro e w' ⟨rfl, hg⟩
    refine ⟨rfl, h.old.trans (hg.below (fun b ⟨j, hj, hs⟩ => ?_) h.old.size)⟩
    rcases hturn j b hs with ⟨_, z, hz', e⟩ | ⟨_, z, hz', e⟩ | ⟨_, e⟩
    · exact ((hea z hz').1.lt b e).1
    · exact ((hea z hz').2.lt b e).1
    · exact (h.one.row.lt b e).1
end Go.Proofs.YtihidnmpngeohaaGreat
namespace Go.Proofs.YtihidnmpngeohaaGreat
open Go.RowKit Go.Lib

set_option maxHeartbeats 4000000 in
set_option maxRecDepth 100000 in
theorem much19_any (A A' : Option Addr) (n c n' c' : Nat) (ls : List (List Sv)) (ts : List (List Tv)) (w : World) (hL : Sls w w.heap.size A n ls) (hT : Tls w w.heap.size A' n' ts) (hn : n ≤ 2000000) (hn' : n' ≤ 2000000)
    (hS : ∀ y ∈ ls.flatten, y.m ≤ 2000000 ∧ y.n ≤ 2000000) (hG : ∀ y ∈ ts.flatten, y.n ≤ 2000000) (hSl : ls.flatten.length ≤ 2000000) (hGl : ts.flatten.length ≤ 2000000) :
    Calls Tryz.prog 23 #[.slice A n c, .slice A' n' c'] w (Much19 w n n' ls ts) := by
  have HL := Lib.hid (show _ ∧ _ from ⟨hL, hS⟩)
  have HT := Lib.hid (show _ ∧ _ from ⟨hT, hG⟩)
  have hln := hL.1
  have htn := hT.1
  clear hL hT hS hG
  go_enter Tryz.func23, Tryz.ntmps23
  go_wp2
  go_loopw [5, 6, 7] (fun nv iv _ wr => ∃ (i s q : Nat), i ≤ n ∧ iv = .int .i64 i ∧ nv = .int .i64 s ∧ wr = w.drewN q ∧ Hid (s ≤ 3000 → s = n + n' + serC (ls.take i).flatten) ∧ s ≤ 100000000) (fun _ iv _ _ => n - (intOf iv).toNat)
  case atStart => exact ⟨0, n + n', 0, Nat.zero_le _, rfl, by simp, rfl, Lib.hid (fun _ => by simp [serC]), by omega⟩
  case round =>
    obtain ⟨i, s, q, hi, rfl, rfl, rfl, HS, hs63⟩ := hrel
    by_cases hlt : i < n
    · by_cases hs3 : s ≤ 3000
      · obtain ⟨b, off, xs, B', c2, rfl, hb, hx, c0, hx2⟩ := HL.out.1.at hlt
        have HX := Lib.hid (show _ ∧ _ ∧ _ from ⟨hx, hx2, hb⟩)
        have hxl := Nat.le_trans (len_flat hx) hSl
        have ii : (i : Int) < (n : Int) := by omega
        have ii0 : (0 : Int) ≤ (i : Int) := by omega
        have ss : (s : Int) ≤ 3000 := by omega
        have C0 := Lib.hid c0
        clear hx hx2 hb
        go_wp2_with (go_quiet (fail))
        go_loopw [5, 7] (fun nv jv wr => ∃ (j s2 q2 : Nat), j ≤ xs.length ∧ jv = .int .i64 j ∧ nv = .int .i64 s2 ∧ wr = w.drewN q2 ∧ Hid (s2 ≤ 3000 → s2 = n + n' + serC ((ls.take i).flatten ++ xs.take j)) ∧ s2 ≤ 100000000) (fun _ jv _ => xs.length - (intOf jv).toNat)
        case atStart => exact ⟨0, s, _, Nat.zero_le _, rfl, rfl, (by first | rfl | exact World.drewN_drewN _ _ _), Lib.hid (fun h => by simpa using HS.out h), by omega⟩
        case round =>
          obtain ⟨j, s2, q2, hj, rfl, rfl, rfl, h1, h3⟩ := hrel
          have c0 := C0.out
          by_cases hjl : j < xs.length
          · by_cases hs4 : s2 ≤ 3000
            · obtain ⟨b2, off2, y, hA2, hb2, hy, hc2⟩ := HX.out.2.1.at hjl
              rw [hA2] at c0
              have e0 := hc2 0 _ rfl
              have e1 := hc2 1 _ rfl
              simp only [Nat.add_zero] at e0
              obtain ⟨t0, t1⟩ := HL.out.2 y (mem_flat HX.out.1 (List.mem_of_getElem? hy))
              have hnx : serC ((ls.take i).flatten ++ xs.take (j + 1)) = serC ((ls.take i).flatten ++ xs.take j) + (y.m + y.n + 1) := by
                obtain ⟨g1, g2⟩ := List.getElem?_eq_some_iff.1 hy
                rw [List.take_succ_eq_append_getElem g1, g2, ← List.append_assoc, serC_append]
                simp [serC]
              have hnn : s2 + (y.m + y.n + 1) ≤ 3000 → s2 + (y.m + y.n + 1) = n + n' + serC ((ls.take i).flatten ++ xs.take (j + 1)) := fun _ => by
                have := h1.out hs4
                omega
              have HN := Lib.hid hnn
              have jj : (j : Int) < (xs.length : Int) := by omega
              have jj0 : (0 : Int) ≤ (j : Int) := by omega
              have ss2 : (s2 : Int) ≤ 3000 := by omega
              clear hy hc2 hnx hnn
              go_wp2_with (go_quiet (fail))
              go_roundw
              case measure => simp [intOf]; omega
              case rel => exact ⟨j + 1, s2 + (y.m + y.n + 1), _, hjl, by simp, by simp, by first | rfl | exact World.drewN_drewN _ _ _, HN, by omega⟩
            · have jj : (j : Int) < (xs.length : Int) := by omega
              have ss2 : ¬ (s2 : Int) ≤ 3000 := by omega
              have hbn : Hid (s2 ≤ 3000 → s2 = n + n' + serC (ls.take (i + 1)).flatten) := Lib.hid (fun h => absurd h hs4)
              go_wp2_with (go_quiet (fail))
              go_roundw
              case measure => simp [intOf]; omega
              case rel => exact ⟨i + 1, s2, _, hlt, by simp, rfl, by first | rfl | exact World.drewN_drewN _ _ _, hbn, h3⟩
          · have jj : ¬ (j : Int) < (xs.length : Int) := by omega
            have hbn : Hid (s2 ≤ 3000 → s2 = n + n' + serC (ls.take (i + 1)).flatten) := Lib.hid (fun h => by
              have h5 := h1.out h
              rw [List.take_of_length_le (l := xs) (by omega)] at h5
              rw [flat_take HX.out.1]
              exact h5)
            go_wp2_with (go_quiet (fail))
            go_roundw
            case measure => simp [intOf]; omega
            case rel => exact ⟨i + 1, s2, _, hlt, by simp, rfl, by first | rfl | exact World.drewN_drewN _ _ _, hbn, h3⟩
      · have ii : (i : Int) < (n : Int) := by omega
        have ss : ¬ (s : Int) ≤ 3000 := by omega
        have HS2 : Hid (s ≤ 3000 → s = n + n' + serC ls.flatten) := Lib.hid (fun h => absurd h hs3)
        go_wp2_with (go_quiet (fail))
        go_loopw [5, 8, 9] (fun nv iv _ wr => nv = .int .i64 s ∧ iv = .int .i64 0 ∧ ∃ q, wr = w.drewN q) (fun _ _ _ _ => 0)
        case atStart => exact ⟨rfl, rfl, _, by first | rfl | exact World.drewN_drewN _ _ _⟩
        case round =>
          obtain ⟨rfl, rfl, q3, rfl⟩ := hrel
          have ss3 : (3000 : Int) < (s : Int) := by omega
          by_cases h0 : 0 < n'
          · have i0 : (0 : Int) < (n' : Int) := by omega
            go_wp2_with (go_quiet (fail))
            go_ret
            exact ⟨true, rfl, (fun h => by cases h), _, by first | rfl | exact World.drewN_drewN _ _ _⟩
          · have i0 : ¬ (0 : Int) < (n' : Int) := by omega
            go_wp2_with (go_quiet (fail))
            go_ret
            exact ⟨true, rfl, (fun h => by cases h), _, by first | rfl | exact World.drewN_drewN _ _ _⟩
    · obtain rfl : i = n := by omega
      have HS2 : Hid (s ≤ 3000 → s = i + n' + serC ls.flatten) := Lib.hid (fun h => by
        have h5 := HS.out h
        rwa [List.take_of_length_le (by omega)] at h5)
      go_wp2_with (go_quiet (fail))
      go_loopw [5, 8, 9] (fun nv iv _ wr => ∃ (j s q : Nat), j ≤ n' ∧ iv = .int .i64 j ∧ nv = .int .i64 s ∧ wr = w.drewN q ∧ Hid (s ≤ 3000 → s = i + n' + serC ls.flatten + tmbC (ts.take j).flatten) ∧ s ≤ 100000000) (fun _ iv _ _ => n' - (intOf iv).toNat)
      case atStart => exact ⟨0, s, _, Nat.zero_le _, rfl, rfl, (by first | rfl | exact World.drewN_drewN _ _ _), Lib.hid (fun h => by simpa [tmbC] using HS2.out h), hs63⟩
      case round =>
        clear HS HS2 hs63
        obtain ⟨j, s, q, hj, rfl, rfl, rfl, HS, hs63⟩ := hrel
        by_cases hlt : j < n'
        · by_cases hs3 : s ≤ 3000
          · obtain ⟨b, off, xs, B', c2, rfl, hb, hx, c0, hx2⟩ := HT.out.1.at hlt
            have HX := Lib.hid (show _ ∧ _ ∧ _ from ⟨hx, hx2, hb⟩)
            have hxl := Nat.le_trans (len_flat hx) hGl
            have ii : (j : Int) < (n' : Int) := by omega
            have ii0 : (0 : Int) ≤ (j : Int) := by omega
            have ss : (s : Int) ≤ 3000 := by omega
            have C0 := Lib.hid c0
            clear hx hx2 hb
            go_wp2_with (go_quiet (fail))
            go_loopw [5, 9] (fun nv kv wr => ∃ (k s2 q2 : Nat), k ≤ xs.length ∧ kv = .int .i64 k ∧ nv = .int .i64 s2 ∧ wr = w.drewN q2 ∧ Hid (s2 ≤ 3000 → s2 = i + n' + serC ls.flatten + tmbC ((ts.take j).flatten ++ xs.take k)) ∧ s2 ≤ 100000000) (fun _ kv _ => xs.length - (intOf kv).toNat)
            case atStart => exact ⟨0, s, _, Nat.zero_le _, rfl, rfl, (by first | rfl | exact World.drewN_drewN _ _ _), Lib.hid (fun h => by simpa using HS.out h), by omega⟩
            case round =>
              obtain ⟨k, s2, q2, hk, rfl, rfl, rfl, h1, h3⟩ := hrel
              have c0 := C0.out
              by_cases hkl : k < xs.length
              · by_cases hs4 : s2 ≤ 3000
                · obtain ⟨b2, off2, y, hA2, hb2, hy, hc2⟩ := HX.out.2.1.at hkl
                  rw [hA2] at c0
                  have e0 := hc2 0 _ rfl
                  simp only [Nat.add_zero] at e0
                  have t0 := HT.out.2 y (mem_flat HX.out.1 (List.mem_of_getElem? hy))
                  have hnx : tmbC ((ts.take j).flatten ++ xs.take (k + 1)) = tmbC ((ts.take j).flatten ++ xs.take k) + (y.n + 1) := by
                    obtain ⟨g1, g2⟩ := List.getElem?_eq_some_iff.1 hy
                    rw [List.take_succ_eq_append_getElem g1, g2, ← List.append_assoc, tmbC_append]
                    simp [tmbC]
                  have hnn : s2 + (y.n + 1) ≤ 3000 → s2 + (y.n + 1) = i + n' + serC ls.flatten + tmbC ((ts.take j).flatten ++ xs.take (k + 1)) := fun _ => by
                    have := h1.out hs4
                    omega
                  have HN := Lib.hid hnn
                  have jj : (k : Int) < (xs.length : Int) := by omega
                  have jj0 : (0 : Int) ≤ (k : Int) := by omega
                  have ss2 : (s2 : Int) ≤ 3000 := by omega
                  clear hy hc2 hnx hnn
                  go_wp2_with (go_quiet (fail))
                  go_roundw
                  case measure => simp [intOf]; omega
                  case rel => exact ⟨k + 1, s2 + (y.n + 1), _, hkl, by simp, by simp, by first | rfl | exact World.drewN_drewN _ _ _, HN, by omega⟩
                · have jj : (k : Int) < (xs.length : Int) := by omega
                  have ss2 : ¬ (s2 : Int) ≤ 3000 := by omega
                  have hbn : Hid (s2 ≤ 3000 → s2 = i + n' + serC ls.flatten + tmbC (ts.take (j + 1)).flatten) := Lib.hid (fun h => absurd h hs4)
                  go_wp2_with (go_quiet (fail))
                  go_roundw
                  case measure => simp [intOf]; omega
                  case rel => exact ⟨j + 1, s2, _, hlt, by simp, rfl, by first | rfl | exact World.drewN_drewN _ _ _, hbn, h3⟩
              · have jj : ¬ (k : Int) < (xs.length : Int) := by omega
                have hbn : Hid (s2 ≤ 3000 → s2 = i + n' + serC ls.flatten + tmbC (ts.take (j + 1)).flatten) := Lib.hid (fun h => by
                  have h5 := h1.out h
                  rw [List.take_of_length_le (l := xs) (by omega)] at h5
                  rw [flat_take HX.out.1]
                  exact h5)
                go_wp2_with (go_quiet (fail))
                go_roundw
                case measure => simp [intOf]; omega
                case rel => exact ⟨j + 1, s2, _, hlt, by simp, rfl, by first | rfl | exact World.drewN_drewN _ _ _, hbn, h3⟩
          · have ii : (j : Int) < (n' : Int) := by omega
            have ss : ¬ (s : Int) ≤ 3000 := by omega
            have ss3 : (3000 : Int) < (s : Int) := by omega
            go_wp2_with (go_quiet (fail))
            go_ret
            exact ⟨true, rfl, (fun h => by cases h), _, by first | rfl | exact World.drewN_drewN _ _ _⟩
        · obtain rfl : j = n' := by omega
          by_cases hs3 : s ≤ 3000
          · have hall := HS.out hs3
            rw [List.take_of_length_le (by omega)] at hall
            have HA := Lib.hid hall
            have ss : ¬ (3000 : Int) < (s : Int) := by omega
            have ss1 : (s : Int) ≤ 3000 := by omega
            clear hall
            go_wp2_with (go_quiet (fail))
            go_ret
            exact ⟨false, rfl, (fun _ => by have := HA.out; omega), _, by first | rfl | exact World.drewN_drewN _ _ _⟩
          · have ss3 : (3000 : Int) < (s : Int) := by omega
            go_wp2_with (go_quiet (fail))
            go_ret
            exact ⟨true, rfl, (fun h => by cases h), _, by first | rfl | exact World.drewN_drewN _ _ _⟩
end Go.Proofs.YtihidnmpngeohaaGreat
