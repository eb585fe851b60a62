/- compact.Blocks. -/
import Derived.Test.YtihidnmpngeohaaGreatG41
import Derived.Test.YtihidnmpngeohaaGreatG35
namespace Go.Proofs.YtihidnmpngeohaaGreat
open Go.RowKit Go.Lib

/-- What is known of what is put together. -/
structure BlkIn (w : World) (A A' : Option Addr) (n n' : Nat) (ls : List (List Sv)) (ts : List (List Tv)) : Prop where
  sls : Sls w w.heap.size A n ls
  tls : Tls w w.heap.size A' n' ts
  ser : ∀ y ∈ ls.flatten, SerIn w y
  tmb : ∀ y ∈ ts.flatten, Tat w w.heap.size y
  fewS : n ≤ 4000 ∧ ls.flatten.length ≤ 4000 ∧ (ls.flatten.flatMap (·.s)).length ≤ 20000
  fewT : n' ≤ 4000 ∧ ts.flatten.length ≤ 4000
def tbsOf (ts : List (List Tv)) : List (List (List Lb × (Int × Int))) := ts.map (·.map Tv.tb)
def lsOf (ls : List (List Sv)) : List (List (List Lb × List (Int × Int))) := ls.map (·.map Sv.sr)
def BlkPost (w : World) (ls : List (List Sv)) (ts : List (List Tv)) (e : Ending) (w' : World) : Prop :=
  ∃ v os, e = .returned v ∧ OutSv w' w.heap.size v os ∧ os.map Sv.sr = serU labelsC (cutL (tbsOf ts) (lsOf ls)).flatten ∧ Below w.heap.size w w'
theorem goneK_take {ys : List Tv} {k : Nat} {y : Tv} (hy : ys[k]? = some y) (s : List Lb) : goneK labelsC ((ys.take (k + 1)).map Tv.tb) s = goneK labelsC ((ys.take k).map Tv.tb) s ++ if labelsC y.l s = 0 then [y.g] else [] := by
  obtain ⟨q1, q2⟩ := List.getElem?_eq_some_iff.1 hy
  rw [List.take_succ_eq_append_getElem q1, q2, List.map_append, goneK_append]
  congr 1
  unfold goneK
  by_cases h : labelsC y.l s = 0
  · simp [Tv.tb, h]
  · simp [Tv.tb, h]
theorem goneK_fits {ys : List Tv} (h : ∀ y ∈ ys, Fits y.g) (s : List Lb) : ∀ x ∈ goneK labelsC (ys.map Tv.tb) s, Fits x := fun x hx => by
  unfold goneK at hx
  obtain ⟨p, hp, rfl⟩ := List.mem_map.1 hx
  obtain ⟨y, hy, rfl⟩ := List.mem_map.1 (List.mem_filter.1 hp).1
  exact h y hy
theorem tbs_at {ts : List (List Tv)} {i : Nat} {gx : List Tv} (h : ts[i]? = some gx) : ((tbsOf ts)[i]?).getD [] = gx.map Tv.tb := by
  unfold tbsOf; rw [List.getElem?_map, h]; rfl
theorem tbs_none {ts : List (List Tv)} {i : Nat} (h : ts.length ≤ i) : ((tbsOf ts)[i]?).getD [] = [] := by
  unfold tbsOf; rw [List.getElem?_map, List.getElem?_eq_none h]; rfl
theorem cut_step {tbs : List (List (List Lb × (Int × Int)))} {i k : Nat} {os xs : List Sv} {y z : Sv} (h : os.map Sv.sr = ((xs.take k).map Sv.sr).map (cutP tbs i)) (hy : xs[k]? = some y) (hz : z.sr = cutP tbs i y.sr) : (os ++ [z]).map Sv.sr = ((xs.take (k + 1)).map Sv.sr).map (cutP tbs i) := by
  obtain ⟨q1, q2⟩ := List.getElem?_eq_some_iff.1 hy
  rw [List.take_succ_eq_append_getElem q1, q2, List.map_append, List.map_append, List.map_append, h]
  simp [hz]
theorem goneK_few (ys : List Tv) (k : Nat) (s : List Lb) : (goneK labelsC ((ys.take k).map Tv.tb) s).length ≤ k := by
  unfold goneK
  rw [List.length_map]
  refine Nat.le_trans (List.length_filter_le _ _) ?_
  rw [List.length_map, List.length_take]; omega
set_option maxHeartbeats 8000000 in
set_option maxRecDepth 100000 in
theorem blocks_any (A A' : Option Addr) (n c n' c' : Nat) (ls : List (List Sv)) (ts : List (List Tv)) (w : World) (h : BlkIn w A A' n n' ls ts) :
    Calls Tryz.prog 24 #[.slice A n c, .slice A' n' c'] w (BlkPost w ls ts) := by
  obtain ⟨i0, hi0, hz00, hz01, hz02⟩ := info_parts Tryz.infoSeries
  obtain ⟨i1, hi1, hz10, hz11, hz12⟩ := info_parts Tryz.infoInterval
  obtain ⟨i2, hi2, hz20, hz21, hz22⟩ := info_parts Tryz.infoSeriess
  have HI := Lib.hid (show _ ∧ _ ∧ _ ∧ _ from ⟨hi0, hz00, hz01, hz02⟩)
  have HJ := Lib.hid (show _ ∧ _ ∧ _ ∧ _ from ⟨hi1, hz10, hz11, hz12⟩)
  have HP := Lib.hid (show _ ∧ _ ∧ _ ∧ _ from ⟨hi2, hz20, hz21, hz22⟩)
  clear hi0 hz00 hz01 hz02 hi1 hz10 hz11 hz12 hi2 hz20 hz21 hz22
  have HL := Lib.hid h
  have hn := h.fewS.1
  have hn' := h.fewT.1
  clear h
  go_enter Tryz.func24, Tryz.ntmps24
  go_wp2
  go_loopw [5, 6, 7, 8, 16] (fun v _ _ _ iv wr => ∃ (i : Nat) (hs : List Value) (zs : List (List Sv)), i ≤ n ∧ hs.length = i ∧ iv = .int .i64 i ∧ Hid (CutLs wr w.heap.size w.heap.size v hs zs ∧ zs.map (·.map Sv.sr) = cutL (tbsOf ts) ((lsOf ls).take i) ∧ Below w.heap.size w wr)) (fun _ _ _ _ iv _ => n - (intOf iv).toNat)
  case atStart => exact ⟨0, [], [], Nat.zero_le _, rfl, rfl, Lib.hid ⟨CutLs.nil _ _ _, by simp [cutL], Below.refl _ _⟩⟩
  case round =>
    obtain ⟨i, hs, zs, hi, hhs, rfl, HR⟩ := hrel
    have hsz := HR.out.2.2.size
    by_cases hlt : i < n
    · obtain ⟨b, off, xs, B', c2, rfl, hb, hx, c0, hx2⟩ := HL.out.sls.at hlt
      have c0 := (HR.out.2.2.cell (p := ⟨b, off + i, none⟩) hb).trans c0
      have hml : xs.length ≤ 4000 := Nat.le_trans (len_flat hx) HL.out.fewS.2.1
      have HX := Lib.hid (show _ ∧ _ ∧ _ from ⟨hx, hx2, hb⟩)
      have ii : (i : Int) < (n : Int) := by omega
      clear hx hx2 hb
      obtain ⟨wo, rfl⟩ : ∃ wo : World, wo = wr := ⟨_, rfl⟩
      go_wp2_with fail
      clear c0
      go_loopw [8, 23] (fun v kv wz => ∃ (k : Nat) (os : List Sv), k ≤ xs.length ∧ kv = .int .i64 k ∧ Hid (CutSv wz w.heap.size wo.heap.size v os ∧ os.map Sv.sr = ((xs.take k).map Sv.sr).map (cutP (tbsOf ts) i) ∧ Below wo.heap.size wo wz)) (fun _ kv _ => xs.length - (intOf kv).toNat)
      case atStart => exact ⟨0, [], Nat.zero_le _, rfl, Lib.hid ⟨CutSv.nil _ _ _, rfl, Below.refl _ _⟩⟩
      case round =>
        obtain ⟨k, os, hk, rfl, HK⟩ := hrel
        have hszz := HK.out.2.2.size
        by_cases hkl : k < xs.length
        · obtain ⟨b2, off2, y, rfl, hb2, hy, hc2⟩ := HX.out.2.1.at hkl
          have hbz : Below w.heap.size w wr := HR.out.2.2.trans (HK.out.2.2.mono hsz)
          have c1 := (hbz.cell (p := ⟨b2, off2 + k * 2 + 0, none⟩) hb2).trans (hc2 0 _ rfl)
          have c3 := (hbz.cell (p := ⟨b2, off2 + k * 2 + 1, none⟩) hb2).trans (hc2 1 _ rfl)
          simp only [Nat.add_zero] at c1
          have hyT := HL.out.ser y (mem_flat HX.out.1 (List.mem_of_getElem? hy))
          have HY := Lib.hid (show _ ∧ _ ∧ _ from ⟨hyT, hy, hbz⟩)
          have kk : (k : Int) < (xs.length : Int) := by omega
          clear hc2 hyT hy hbz
          have hyS := HY.out.1.sat
          have hza : ∃ wza, wza = wr.alloc (.cells #[.slice y.A y.n y.c, .slice y.D y.m y.d] 132) := ⟨_, rfl⟩
          obtain ⟨wza, hwza⟩ := hza
          have hbza : Below wr.heap.size wr wza := by rw [hwza]; exact (Below.refl _ _).alloc (Nat.le_refl _) _
          have hg0 : wza.heap[wr.heap.size]? = some (.cells #[.slice y.A y.n y.c, .slice y.D y.m y.d] 132 (0, 0)) := by rw [hwza]; exact heap_alloc_new _ _
          have HZ := Lib.hid (show _ ∧ _ ∧ _ ∧ _ from ⟨hwza, hbza, lst3 hg0 (k := 0) rfl, lst3 hg0 (k := 1) rfl⟩)
          have hzsz : wr.heap.size < wza.heap.size := (Array.getElem?_eq_some_iff.1 hg0).1
          clear hwza hbza hg0 hyS
          obtain ⟨wi, rfl⟩ : ∃ wi : World, wi = wr := ⟨_, rfl⟩
          by_cases hit : i < n'
          · have jt : (i : Int) < (n' : Int) := by omega
            obtain ⟨b3, off3, gx, B3, c3', rfl, hb3, hgx, d0, hgx2⟩ := HL.out.tls.at hit
            have d0 := (HY.out.2.2.cell (p := ⟨b3, off3 + i, none⟩) hb3).trans d0
            have d0' := HZ.out.2.1.cell (p := ⟨b3, off3 + i, none⟩) (by have := HY.out.2.2.size; show b3 < _; omega)
            rw [d0] at d0'
            rw [HZ.out.1] at d0'
            have hgl : gx.length ≤ 4000 := Nat.le_trans (len_flat hgx) HL.out.fewT.2
            have HG := Lib.hid (show _ ∧ _ ∧ _ from ⟨hgx, hgx2, hb3⟩)
            have ii0 : (0 : Int) ≤ (i : Int) := by omega
            clear hgx hgx2 hb3 d0
            go_wp2_with fail
            go_loopw [11, 36] (fun vg mv wq => ∃ m : Nat, m ≤ gx.length ∧ mv = .int .i64 m ∧ Hid (wq.ownsRow wza.heap.size 25 2 vg (goneK labelsC ((gx.take m).map Tv.tb) y.l).length ((goneK labelsC ((gx.take m).map Tv.tb) y.l).flatMap encI) ∧ Below wza.heap.size wza wq)) (fun _ mv _ => gx.length - (intOf mv).toNat)
            case atStart => exact ⟨0, Nat.zero_le _, rfl, Lib.hid ⟨World.ownsRow_nil _ _ _ _, by rw [HZ.out.1]; exact Below.refl _ _⟩⟩
            case round =>
              clear d0'
              obtain ⟨m, hm, rfl, HM⟩ := hrel
              have hmz := HM.out.2.size
              by_cases hml2 : m < gx.length
              · obtain ⟨b4, off4, t, rfl, hb4, ht, hc4⟩ := HG.out.2.1.at hml2
                have hbq : Below w.heap.size w wr := HY.out.2.2.trans ((HZ.out.2.1.trans (HM.out.2.mono (by omega))).mono HY.out.2.2.size)
                have e0 := (hbq.cell (p := ⟨b4, off4 + m * 3 + 0, none⟩) hb4).trans (hc4 0 _ rfl)
                have e1 := (hbq.cell (p := ⟨b4, off4 + m * 3 + 1, none⟩) hb4).trans (hc4 1 _ rfl)
                have e2 := (hbq.cell (p := ⟨b4, off4 + m * 3 + 2, none⟩) hb4).trans (hc4 2 _ rfl)
                simp only [Nat.add_zero] at e0
                have htT := HL.out.tmb t (mem_flat HG.out.1 (List.mem_of_getElem? ht))
                have hnext := goneK_take ht y.l
                have hfew := goneK_few gx m y.l
                have hbox := heap_alloc_new wr (.cells #[.slice t.A t.n t.c, .int .i64 t.g.1, .int .i64 t.g.2] 27)
                have hba : Below wr.heap.size wr (wr.alloc (.cells #[.slice t.A t.n t.c, .int .i64 t.g.1, .int .i64 t.g.2] 27)) := (Below.refl _ _).alloc (Nat.le_refl _) _
                have s0 := Below.seen hba (Below.seen HM.out.2 HZ.out.2.2.1)
                have hba2 : Below w.heap.size w (wr.alloc (.cells #[.slice t.A t.n t.c, .int .i64 t.g.1, .int .i64 t.g.2] 27)) := hbq.trans (hba.mono hbq.size)
                have hcon := labelsCmp_any t.A y.A t.n t.c y.n y.c t.l y.l (wr.alloc (.cells #[.slice t.A t.n t.c, .int .i64 t.g.1, .int .i64 t.g.2] 27)) (htT.on hba2).lst (HY.out.1.sat.on hba2).lst (by have := htT.few; omega) (by have := HY.out.1.sat.few; omega)
                have hrow := owns_below HM.out.1 hba
                obtain ⟨r, hr⟩ : ∃ r, labelsC t.l y.l = r := ⟨_, rfl⟩
                rw [hr] at hcon hnext
                have HQ := Lib.hid (show _ ∧ _ ∧ _ ∧ _ ∧ _ ∧ _ from ⟨hcon, hnext, lst3 hbox (k := 1) rfl, lst3 hbox (k := 2) rfl, hba, hrow⟩)
                have jm : (m : Int) < (gx.length : Int) := by omega
                obtain ⟨gs, hgs⟩ : ∃ gs, goneK labelsC ((gx.take m).map Tv.tb) y.l = gs := ⟨_, rfl⟩
                rw [hgs] at hfew
                have HGS := Lib.hid hgs
                clear hc4 ht htT hnext hbox hba hba2 hcon hrow hr hbq hgs
                go_wp2_with fail
                refine HQ.out.1.mono ?_
                rintro e w5 ⟨rfl, hb5⟩
                have q1 := Below.seen hb5 HQ.out.2.2.1
                have q2 := Below.seen hb5 HQ.out.2.2.2.1
                have hrow5 := owns_below HQ.out.2.2.2.2.2 hb5
                rw [HGS.out] at hrow5
                have hb5w : Below wr.heap.size wr w5 := HQ.out.2.2.2.2.1.trans (hb5.mono HQ.out.2.2.2.2.1.size)
                have hs5 := hb5w.size
                have hz5 : Below wza.heap.size wza w5 := HM.out.2.trans (hb5w.mono hmz)
                have H5 := Lib.hid (show _ ∧ _ from ⟨hrow5, hz5⟩)
                clear hb5 hrow5 hb5w hz5 s0
                by_cases h0 : r = 0
                · subst h0
                  obtain ⟨hi, hz0, hz1, hz2⟩ := HJ.out
                  have z1 : (0 : Int) == 0 := rfl
                  go_wp2_with (at_builtin; refine wpList_append_own _ rfl _ _ 86 rfl wza.heap.size 25 i1 _ 2 16 Tryz.underlying86 hi hz0 hz1 hz2 rfl (by omega) _ gs.length _ rfl (H5.out.1.alloc _) ⟨w5.heap.size, 0, none⟩ 1 1 [.int .i64 t.g.1, .int .i64 t.g.2] rfl rfl (cells_newL w5 [.int .i64 t.g.1, .int .i64 t.g.2] _) (by simp [Value.oneCell']) (by unfold maxLen; omega) (by omega) (by simp; omega) ?_)
                  intro v6 w6 ho6 hg6 _
                  have H6 := Lib.hid (show w6.ownsRow wza.heap.size 25 2 v6 (goneK labelsC ((gx.take (m + 1)).map Tv.tb) y.l).length ((goneK labelsC ((gx.take (m + 1)).map Tv.tb) y.l).flatMap encI) ∧ Below wza.heap.size wza w6 from ⟨by (rw [HQ.out.2.1, HGS.out]; (first | rw [if_pos rfl] | rw [if_pos trivial]); rw [List.length_append, List.flatMap_append]; exact ho6), (H5.out.2.alloc (H5.out.2.size) _).grown hg6 (by simp; omega) (fun j hj => (H5.out.1.lt j hj).1)⟩)
                  clear ho6 hg6
                  go_wp2
                  go_roundw
                  case measure => simp [intOf]; omega
                  case rel => exact ⟨m + 1, hml2, by simp, H6⟩
                · have z1 : (r == 0) = false := beq_eq_false_iff_ne.2 h0
                  have H6 := Lib.hid (show w5.ownsRow wza.heap.size 25 2 u11 (goneK labelsC ((gx.take (m + 1)).map Tv.tb) y.l).length ((goneK labelsC ((gx.take (m + 1)).map Tv.tb) y.l).flatMap encI) ∧ Below wza.heap.size wza w5 from ⟨by rw [HQ.out.2.1, HGS.out, if_neg h0, List.append_nil]; exact H5.out.1, H5.out.2⟩)
                  go_wp2
                  go_roundw
                  case measure => simp [intOf]; omega
                  case rel => exact ⟨m + 1, hml2, by simp, H6⟩
              · obtain rfl : m = gx.length := by omega
                have hrow := HM.out.1
                rw [List.take_of_length_le (Nat.le_refl _)] at hrow
                obtain ⟨gs, hgs⟩ : ∃ gs, goneK labelsC (gx.map Tv.tb) y.l = gs := ⟨_, rfl⟩
                have hgf : ∀ x ∈ gs, Fits x := by rw [← hgs]; exact goneK_fits (fun t ht => (HL.out.tmb t (mem_flat HG.out.1 ht)).fits) _
                have hgl2 : gs.length ≤ 4000 := by
                  have h5 := goneK_few gx gx.length y.l
                  rw [List.take_of_length_le (Nat.le_refl _), hgs] at h5
                  omega
                rw [hgs] at hrow
                have HT : Hid (goneK labelsC (((tbsOf ts)[i]?).getD []) y.l = gs) := Lib.hid (by rw [tbs_at HG.out.1, hgs])
                have HG5 := Lib.hid (show _ ∧ _ from ⟨hgf, hgl2⟩)
                have HW := Lib.hid hrow
                have jm : ¬ (gx.length : Int) < (gx.length : Int) := by omega
                clear hrow hgf hgl2 hgs
                have hs17 : wza.heap.size ≤ wr.heap.size := (HM.out.2).size
                have s0 := Below.seen (HM.out.2) HZ.out.2.2.1
                have s1 := Below.seen (HM.out.2) HZ.out.2.2.2
                have hbg : Below wi.heap.size wi wr := HZ.out.2.1.trans ((HM.out.2).mono (by omega))
                have hbw : Below w.heap.size w wr := HY.out.2.2.trans (hbg.mono HY.out.2.2.size)
                have hO := owns_below HK.out.1.row hbg
                have HS := Lib.hid (show _ ∧ _ ∧ _ ∧ _ ∧ _ from ⟨s0, s1, hbg, hbw, hO⟩)
                have hcon := without_own (W := wr.drew) (y := y) (HY.out.1.sat.on hbw.drew) (by exact HW.out) HG5.out.1 HG5.out.2
                have HC := Lib.hid hcon
                have hoz := HK.out.2.2.size
                have hwz := HY.out.2.2.size
                have hvn : ∀ g, u8.ownBlock = some g → wo.heap.size ≤ g := fun g hg => (HK.out.1.row.lt g hg).1
                have hvn2 : ∀ g, u8.ownBlock = some g → g < wi.heap.size := fun g hg => (HK.out.1.row.lt g hg).2
                have hn1 : u8.ownBlock ≠ some wi.heap.size := fun e => by have := hvn2 _ e; omega
                have HN := Lib.hid (show _ ∧ _ ∧ _ from ⟨hvn, hvn2, hn1⟩)
                have hosl : os.length ≤ 4000 := by
                  have h5 := congrArg List.length HK.out.2.1
                  rw [List.length_map, List.length_map, List.length_map, List.length_take] at h5
                  omega
                have hrl : (withoutS y.s gs).length ≤ 100000 := by
                  have h5 : (withoutS y.s gs).length ≤ y.s.length := List.length_filter_le _ _
                  have h6 := HY.out.1.sat.sst.1
                  have h7 := HY.out.1.sat.sfew
                  omega
                obtain ⟨hi, hz0, hz1, hz2⟩ := HI.out
                clear hbg hbw hcon s0 s1 hvn hvn2 hn1 hO
                go_wp2_with fail
                go_region_held3 (fun w' => w'.cell? ⟨wi.heap.size, 0, none⟩ = some (.slice y.A y.n y.c) ∧ w'.cell? ⟨wi.heap.size, 1, none⟩ = some (.slice y.D y.m y.d)) (first | exact k7 | exact k6 | exact ⟨HS.out.1, HS.out.2.1⟩ | go_keep)
                  (first
                    | (go_at_call 86; refine HC.out.mono ?_; rintro e w5 ⟨v5, rfl, ho5, hb5'⟩; have hb5 : Below wr.heap.size wr w5 := (Below.refl _ wr).drew.trans hb5'; have k6 := seen2 hb5 ⟨HS.out.1, HS.out.2.1⟩; obtain ⟨A5, c5, rfl, _, _⟩ := owns_slice ho5; have hs5 : wr.heap.size ≤ w5.heap.size := hb5.size; have hO5 := owns_below HS.out.2.2.2.2 hb5; have H5 := Lib.hid (show _ ∧ _ ∧ _ from ⟨(show World.ownsRow w5 wr.heap.size _ _ _ _ _ from ho5), hb5, hO5⟩); clear ho5 hb5 hb5' hO5)
                    | (refine step_append_lies _ (by rfl) _ _ _ (by rfl) wo.heap.size 132 i0 _ 2 48 Tryz.underlying70 hi hz0 hz1 hz2 rfl (by omega) _ os.length (os.flatMap encSv) (by rfl) (by exact H5.out.2.2.alloc _) ⟨w5.heap.size, 0, none⟩ 1 1 [.slice y.A y.n y.c, .slice A5 (withoutS y.s gs).length c5] (by rfl) (by rfl) (by exact cells_newL w5 [.slice y.A y.n y.c, .slice A5 (withoutS y.s gs).length c5] _) (by simp [Value.oneCell']) (by omega) (by unfold maxLen; omega) (by omega) (by simp; omega) (w5.heap.size + 1) (by simp) ?_; intro g6 c6' w6 hown6 hg6 hl6 hlt6; have hba : Below w5.heap.size w5 (w5.alloc (.cells #[.slice y.A y.n y.c, .slice A5 (withoutS y.s gs).length c5] 132)) := (Below.refl _ _).alloc (Nat.le_refl _) _; have k7 := (show World.cell? w6 ⟨wi.heap.size, 0, none⟩ = some (.slice y.A y.n y.c) ∧ World.cell? w6 ⟨wi.heap.size, 1, none⟩ = some (.slice y.D y.m y.d) from ⟨(GrownIn.of_grownBy hg6).cell (seen2 hba k6).1 HN.out.2.2, (GrownIn.of_grownBy hg6).cell (seen2 hba k6).2 HN.out.2.2⟩); have hb65 : Below wi.heap.size wi (w5.alloc (.cells #[.slice y.A y.n y.c, .slice A5 (withoutS y.s gs).length c5] 132)) := HS.out.2.2.1.trans ((H5.out.2.1.trans (hba.mono hs5)).mono HS.out.2.2.1.size); have H6 := Lib.hid (show _ ∧ _ ∧ _ from ⟨HK.out.1.push (y := y) (r := withoutS y.s gs) (Nat.le_trans hsz (Nat.le_refl _)) hwz hb65 (HY.out.1.sat.lst.below HY.out.2.2) HY.out.1.sat.nil HY.out.1.sat.few HY.out.1.key (owns_base (owns_below H5.out.1 hba) HS.out.2.2.2.1.size) hrl hown6 hg6, cut_step (z := ⟨y.A, y.n, y.c, y.l, A5, (withoutS y.s gs).length, c5, withoutS y.s gs⟩) HK.out.2.1 HY.out.2.1 (show (y.l, withoutS y.s gs) = (y.l, withoutS y.s (goneK labelsC (((tbsOf ts)[i]?).getD []) y.l)) from by rw [HT.out]), (HK.out.2.2.trans (hb65.mono hoz)).grown hg6 (Nat.le_trans hoz hb65.size) HN.out.1⟩); clear hown6 hg6 hl6 hlt6 hba hb65)
                    | fail)
                all_goals
                  go_wp2
                  go_roundw
                  case measure => simp [intOf]; omega
                  case rel => exact ⟨k + 1, _, hkl, by simp, H6⟩
          · have jt : ¬ (i : Int) < (n' : Int) := by omega
            obtain ⟨gs, hgs⟩ : ∃ gs : List (Int × Int), [] = gs := ⟨_, rfl⟩
            have htl := HL.out.tls.1
            have hgf : ∀ x ∈ gs, Fits x := by rw [← hgs]; simp
            have hgl2 : gs.length ≤ 4000 := by rw [← hgs]; simp
            have HT : Hid (goneK labelsC (((tbsOf ts)[i]?).getD []) y.l = gs) := Lib.hid (by rw [tbs_none (by omega), ← hgs]; rfl)
            have hrow : wza.ownsRow wza.heap.size 25 2 (.slice none 0 0) gs.length (gs.flatMap encI) := by rw [← hgs]; exact World.ownsRow_nil _ _ _ _
            have HG5 := Lib.hid (show _ ∧ _ from ⟨hgf, hgl2⟩)
            have HW := Lib.hid hrow
            have HB := Lib.hid (Below.refl wza.heap.size wza)
            clear hrow hgf hgl2 hgs htl
            have HE := HZ.out.1
            subst HE
            have hs17 : (wi.alloc (.cells #[.slice y.A y.n y.c, .slice y.D y.m y.d] 132)).heap.size ≤ (wi.alloc (.cells #[.slice y.A y.n y.c, .slice y.D y.m y.d] 132)).heap.size := (HB.out).size
            have s0 := Below.seen (HB.out) HZ.out.2.2.1
            have s1 := Below.seen (HB.out) HZ.out.2.2.2
            have hbg : Below wi.heap.size wi (wi.alloc (.cells #[.slice y.A y.n y.c, .slice y.D y.m y.d] 132)) := HZ.out.2.1.trans ((HB.out).mono (by omega))
            have hbw : Below w.heap.size w (wi.alloc (.cells #[.slice y.A y.n y.c, .slice y.D y.m y.d] 132)) := HY.out.2.2.trans (hbg.mono HY.out.2.2.size)
            have hO := owns_below HK.out.1.row hbg
            have HS := Lib.hid (show _ ∧ _ ∧ _ ∧ _ ∧ _ from ⟨s0, s1, hbg, hbw, hO⟩)
            have hcon := without_own (W := (wi.alloc (.cells #[.slice y.A y.n y.c, .slice y.D y.m y.d] 132)).drew) (y := y) (HY.out.1.sat.on hbw.drew) (by exact HW.out) HG5.out.1 HG5.out.2
            have HC := Lib.hid hcon
            have hoz := HK.out.2.2.size
            have hwz := HY.out.2.2.size
            have hvn : ∀ g, u8.ownBlock = some g → wo.heap.size ≤ g := fun g hg => (HK.out.1.row.lt g hg).1
            have hvn2 : ∀ g, u8.ownBlock = some g → g < wi.heap.size := fun g hg => (HK.out.1.row.lt g hg).2
            have hn1 : u8.ownBlock ≠ some wi.heap.size := fun e => by have := hvn2 _ e; omega
            have HN := Lib.hid (show _ ∧ _ ∧ _ from ⟨hvn, hvn2, hn1⟩)
            have hosl : os.length ≤ 4000 := by
              have h5 := congrArg List.length HK.out.2.1
              rw [List.length_map, List.length_map, List.length_map, List.length_take] at h5
              omega
            have hrl : (withoutS y.s gs).length ≤ 100000 := by
              have h5 : (withoutS y.s gs).length ≤ y.s.length := List.length_filter_le _ _
              have h6 := HY.out.1.sat.sst.1
              have h7 := HY.out.1.sat.sfew
              omega
            obtain ⟨hi, hz0, hz1, hz2⟩ := HI.out
            clear hbg hbw hcon s0 s1 hvn hvn2 hn1 hO
            go_wp2_with fail
            go_region_held3 (fun w' => w'.cell? ⟨wi.heap.size, 0, none⟩ = some (.slice y.A y.n y.c) ∧ w'.cell? ⟨wi.heap.size, 1, none⟩ = some (.slice y.D y.m y.d)) (first | exact k7 | exact k6 | exact ⟨HS.out.1, HS.out.2.1⟩ | go_keep)
              (first
                | (go_at_call 86; refine HC.out.mono ?_; rintro e w5 ⟨v5, rfl, ho5, hb5'⟩; have hb5 : Below (wi.alloc (.cells #[.slice y.A y.n y.c, .slice y.D y.m y.d] 132)).heap.size (wi.alloc (.cells #[.slice y.A y.n y.c, .slice y.D y.m y.d] 132)) w5 := (Below.refl _ (wi.alloc (.cells #[.slice y.A y.n y.c, .slice y.D y.m y.d] 132))).drew.trans hb5'; have k6 := seen2 hb5 ⟨HS.out.1, HS.out.2.1⟩; obtain ⟨A5, c5, rfl, _, _⟩ := owns_slice ho5; have hs5 : (wi.alloc (.cells #[.slice y.A y.n y.c, .slice y.D y.m y.d] 132)).heap.size ≤ w5.heap.size := hb5.size; have hO5 := owns_below HS.out.2.2.2.2 hb5; have H5 := Lib.hid (show _ ∧ _ ∧ _ from ⟨(show World.ownsRow w5 (wi.alloc (.cells #[.slice y.A y.n y.c, .slice y.D y.m y.d] 132)).heap.size _ _ _ _ _ from ho5), hb5, hO5⟩); clear ho5 hb5 hb5' hO5)
                | (refine step_append_lies _ (by rfl) _ _ _ (by rfl) wo.heap.size 132 i0 _ 2 48 Tryz.underlying70 hi hz0 hz1 hz2 rfl (by omega) _ os.length (os.flatMap encSv) (by rfl) (by exact H5.out.2.2.alloc _) ⟨w5.heap.size, 0, none⟩ 1 1 [.slice y.A y.n y.c, .slice A5 (withoutS y.s gs).length c5] (by rfl) (by rfl) (by exact cells_newL w5 [.slice y.A y.n y.c, .slice A5 (withoutS y.s gs).length c5] _) (by simp [Value.oneCell']) (by omega) (by unfold maxLen; omega) (by omega) (by simp; omega) (w5.heap.size + 1) (by simp) ?_; intro g6 c6' w6 hown6 hg6 hl6 hlt6; have hba : Below w5.heap.size w5 (w5.alloc (.cells #[.slice y.A y.n y.c, .slice A5 (withoutS y.s gs).length c5] 132)) := (Below.refl _ _).alloc (Nat.le_refl _) _; have k7 := (show World.cell? w6 ⟨wi.heap.size, 0, none⟩ = some (.slice y.A y.n y.c) ∧ World.cell? w6 ⟨wi.heap.size, 1, none⟩ = some (.slice y.D y.m y.d) from ⟨(GrownIn.of_grownBy hg6).cell (seen2 hba k6).1 HN.out.2.2, (GrownIn.of_grownBy hg6).cell (seen2 hba k6).2 HN.out.2.2⟩); have hb65 : Below wi.heap.size wi (w5.alloc (.cells #[.slice y.A y.n y.c, .slice A5 (withoutS y.s gs).length c5] 132)) := HS.out.2.2.1.trans ((H5.out.2.1.trans (hba.mono hs5)).mono HS.out.2.2.1.size); have H6 := Lib.hid (show _ ∧ _ ∧ _ from ⟨HK.out.1.push (y := y) (r := withoutS y.s gs) (Nat.le_trans hsz (Nat.le_refl _)) hwz hb65 (HY.out.1.sat.lst.below HY.out.2.2) HY.out.1.sat.nil HY.out.1.sat.few HY.out.1.key (owns_base (owns_below H5.out.1 hba) HS.out.2.2.2.1.size) hrl hown6 hg6, cut_step (z := ⟨y.A, y.n, y.c, y.l, A5, (withoutS y.s gs).length, c5, withoutS y.s gs⟩) HK.out.2.1 HY.out.2.1 (show (y.l, withoutS y.s gs) = (y.l, withoutS y.s (goneK labelsC (((tbsOf ts)[i]?).getD []) y.l)) from by rw [HT.out]), (HK.out.2.2.trans (hb65.mono hoz)).grown hg6 (Nat.le_trans hoz hb65.size) HN.out.1⟩); clear hown6 hg6 hl6 hlt6 hba hb65)
                | fail)
            all_goals
              go_wp2
              go_roundw
              case measure => simp [intOf]; omega
              case rel => exact ⟨k + 1, _, hkl, by simp, H6⟩
        · have kk : ¬ (k : Int) < (xs.length : Int) := by omega
          obtain rfl : k = xs.length := by omega
          have hlaw := HK.out.2.1
          rw [List.take_of_length_le (Nat.le_refl _)] at hlaw
          have hxl : (lsOf ls)[i]? = some (xs.map Sv.sr) := by unfold lsOf; rw [List.getElem?_map, HX.out.1]; rfl
          have hcl : (zs ++ [os]).map (·.map Sv.sr) = cutL (tbsOf ts) ((lsOf ls).take (i + 1)) := by
            rw [cutL_take hxl, List.map_append, HR.out.2.1]
            simp [hlaw]
          obtain ⟨A8, c8, rfl, _, _⟩ := owns_slice HK.out.1.row
          obtain ⟨hi, hz0, hz1, hz2⟩ := HP.out
          have hwz : w.heap.size ≤ wr.heap.size := Nat.le_trans hsz hszz
          have hba : Below wr.heap.size wr (wr.alloc (.cells #[.slice A8 os.length c8] 70)) := (Below.refl _ _).alloc (Nat.le_refl _) _
          have hlr := (HR.out.1.below hsz HK.out.2.2).below hwz hba
          have hsr := (HK.out.1.below hwz hba).base hsz
          have hbw : Below w.heap.size w (wr.alloc (.cells #[.slice A8 os.length c8] 70)) := (HR.out.2.2.trans (HK.out.2.2.mono hsz)).trans (hba.mono hwz)
          have HQ := Lib.hid (show _ ∧ _ ∧ _ ∧ _ from ⟨hlr, hsr, hbw, hcl⟩)
          clear hlaw hxl hcl hba hlr hsr hbw
          go_wp2_with (at_builtin; refine wpList_append_own _ rfl _ _ 56 rfl w.heap.size 70 i2 _ 1 24 Tryz.underlying56 hi hz0 hz1 hz2 rfl (by omega) _ hs.length hs rfl HQ.out.1.row ⟨wr.heap.size, 0, none⟩ 1 1 [.slice A8 os.length c8] rfl rfl (cells_newL wr [.slice A8 os.length c8] _) (by simp [Value.oneCell']) (by unfold maxLen; omega) (by omega) (by simp; omega) ?_)
          intro v6 w6 ho6 hg6 _
          have hwz2 : w.heap.size ≤ (wr.alloc (.cells #[.slice A8 os.length c8] 70)).heap.size := by simp; omega
          have H6 := Lib.hid (show _ ∧ _ ∧ _ from ⟨HQ.out.1.snoc (Nat.le_refl _) hwz2 HQ.out.2.1 (by rw [hhs]; exact ho6) hg6, HQ.out.2.2.2, HQ.out.2.2.1.grown hg6 hwz2 (fun j hj => (HQ.out.1.row.lt j hj).1)⟩)
          clear ho6 hg6 hwz2
          go_wp2
          go_roundw
          case measure => simp [intOf]; omega
          case rel => exact ⟨i + 1, _, _, hlt, by simp [hhs], by simp, H6⟩
    · obtain rfl : i = n := by omega
      have hlaw := HR.out.2.1
      have hll := HL.out.sls.1
      rw [List.take_of_length_le (by unfold lsOf; rw [List.length_map]; omega)] at hlaw
      obtain ⟨A5, c5, rfl, _, _⟩ := owns_slice HR.out.1.row
      have hsl := HR.out.1.sls rfl hsz
      have hfew : zs.flatten.length = ls.flatten.length ∧ (zs.flatten.flatMap (·.s)).length ≤ (ls.flatten.flatMap (·.s)).length ∧ zs.flatten.map Sv.sr = (cutL (tbsOf ts) (lsOf ls)).flatten := cut_few hlaw
      have hcon := series_any A5 hs.length c5 zs wr hsl.1 (by omega) (by have := HL.out.fewS; omega) (by have := HL.out.fewS; omega) hsl.2
      have HC := Lib.hid (show _ ∧ _ from ⟨hcon, hfew.2.2⟩)
      clear hlaw hsl hfew hcon hhs
      go_wp2_with fail
      refine HC.out.1.mono ?_
      rintro e w9 ⟨v, os, rfl, ho, hl, hb⟩
      have H9 := Lib.hid (show _ ∧ _ ∧ _ from ⟨ho.base hsz, hl, HR.out.2.2.trans (hb.mono hsz)⟩)
      clear ho hl hb
      go_wp2
      go_ret
      exact ⟨_, os, rfl, H9.out.1, by rw [H9.out.2.1, HC.out.2], H9.out.2.2⟩
end Go.Proofs.YtihidnmpngeohaaGreat
