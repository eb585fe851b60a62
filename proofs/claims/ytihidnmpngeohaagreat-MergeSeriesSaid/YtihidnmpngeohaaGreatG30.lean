/- The document's Series: the walk. Plain law of merge.key: a text ahead of which its length stands can be read again; so can labels. No program. Bytes of the call's own; bytes as a text. -/
import Derived.Test.YtihidnmpngeohaaGreatRefPlace
import Derived.Test.YtihidnmpngeohaaGreatG15
import Derived.Lib.AppendStr
import Derived.Laws.BytesArg
import Derived.OwnWalk
import Derived.Deep.RegionHeld3
import Derived.BigQuiet
import Derived.LoopN
namespace Go.Proofs.YtihidnmpngeohaaGreat
open Go.RowKit Go.Lib

structure RAll (w wr : World) (ls : List (List Sv)) (i k : Nat) (v : Value) (os : List Sv) : Prop where
  rs : RSer wr w.heap.size v os
  law : os.map Sv.sr = allU labelsC ((aheadA ls i k).map Sv.sr)
  old : Below w.heap.size w wr
theorem flat_sr (l : List Sv) : (l.map Sv.sr).flatMap (·.2) = l.flatMap (·.s) := by rw [List.flatMap_map]; rfl
theorem flat_le {l r : List Sv} : (l.flatMap (·.s)).length ≤ ((l ++ r).flatMap (·.s)).length := by rw [List.flatMap_append, List.length_append]; omega
theorem flat_mem {l : List Sv} {y : Sv} (h : y ∈ l) : y.s.length ≤ (l.flatMap (·.s)).length := by
  obtain ⟨a, b, rfl⟩ := List.append_of_mem h
  rw [List.flatMap_append, List.flatMap_cons, List.length_append, List.length_append]; omega
/-- How much there is at a loop's head. -/
theorem RAll.few {w wr : World} {ls : List (List Sv)} {i k : Nat} {v : Value} {os : List Sv} (h : RAll w wr ls i k v os) : os.length ≤ ls.flatten.length ∧ ∀ z ∈ os, z.s.length ≤ (ls.flatten.flatMap (·.s)).length := by
  obtain ⟨r, hr⟩ := aheadA_prefix ls i k
  refine ⟨?_, fun z hz => ?_⟩
  · have h1 := congrArg List.length h.law
    have h2 := allU_len (c := labelsC) ((aheadA ls i k).map Sv.sr)
    rw [List.length_map] at h1 h2
    rw [hr, List.length_append]; omega
  · have h1 : z.sr ∈ allU labelsC ((aheadA ls i k).map Sv.sr) := by rw [← h.law]; exact List.mem_map.2 ⟨z, hz, rfl⟩
    have h2 := (allU_mem labelsC_cmp3 h1).2
    rw [flat_sr] at h2
    have h3 := flat_le (l := aheadA ls i k) (r := r)
    rw [hr]
    exact Nat.le_trans h2 h3
theorem RSer.parts {w : World} {B : Nat} {v : Value} {os : List Sv} {n : Nat} (h : RSer w B v os) (hn : os.length = n) : ∃ A c, v = .slice A n c ∧ Lst encSv 2 w w.heap.size A n os ∧ (A = none → n = 0 ∧ c = 0) ∧ n ≤ c ∧ c ≤ maxLen := by
  subst hn
  obtain ⟨A, c, rfl, h1, h2⟩ := owns_slice h.row
  obtain ⟨h3, h4, _⟩ := owns_lst h.row encSv_len (by omega)
  exact ⟨A, c, rfl, h3, h4, h1, h2⟩
theorem RAll.next {w wr w2 : World} {ls : List (List Sv)} {i k : Nat} {v v2 : Value} {os os2 : List Sv} {xs : List Sv} {y : Sv} (h : RAll w wr ls i k v os) (hxs : ls[i]? = some xs) (hy : xs[k]? = some y) (h2 : RSer w2 wr.heap.size v2 os2) (hl : os2.map Sv.sr = placeU labelsC (os.map Sv.sr) y.sr) (hb : Below wr.heap.size wr w2) : RAll w w2 ls i (k + 1) v2 os2 :=
  ⟨h2.base h.old.size, by rw [hl, h.law, aheadA_succ hxs hy, List.map_append, List.map_singleton, allU_snoc], h.old.trans (hb.mono h.old.size)⟩
theorem filter_take {os : List Sv} {j : Nat} {z : Sv} (hz : os[j]? = some z) : ((os.take (j + 1)).map Sv.sr).filter (fun p => !p.2.isEmpty) = ((os.take j).map Sv.sr).filter (fun p => !p.2.isEmpty) ++ if z.s.length = 0 then [] else [z.sr] := by
  obtain ⟨h1, h2⟩ := List.getElem?_eq_some_iff.1 hz
  rw [List.take_succ_eq_append_getElem h1, h2, List.map_append, List.filter_append]
  congr 1
  have e : z.sr.2 = z.s := rfl
  by_cases h : z.s.length = 0
  · rw [if_pos h]
    have h3 := List.length_eq_zero_iff.1 h
    simp [e, h3]
  · rw [if_neg h]
    have h3 : z.s.isEmpty = false := by
      cases hs : z.s with
      | nil => rw [hs] at h; exact absurd rfl h
      | cons a b => rfl
    simp [e, h3]
set_option maxHeartbeats 8000000 in
set_option maxRecDepth 100000 in
theorem refSeries_any (A : Option Addr) (n c : Nat) (ls : List (List Sv)) (w : World) (hls : Sls w w.heap.size A n ls) (hn : n ≤ 1000) (hlen : ls.flatten.length ≤ 1000) (hsm : (ls.flatten.flatMap (·.s)).length ≤ 20000) (hT : ∀ y ∈ ls.flatten, Sat w w.heap.size y) :
    Calls Tryz.prog 22 #[.slice A n c] w (PlacePost w (serU labelsC (ls.flatten.map Sv.sr))) := by
  obtain ⟨i0, hi, hz0, hz1, hz2⟩ := info_parts Tryz.infoSeries
  have HI := Lib.hid (show _ ∧ _ ∧ _ ∧ _ from ⟨hi, hz0, hz1, hz2⟩)
  have HL := Lib.hid (show _ ∧ _ from ⟨hls, hT⟩)
  clear hls hT hi hz0 hz1 hz2
  go_enter Tryz.func22, Tryz.ntmps22
  go_wp2
  go_loopw [3, 4, 5] (fun v iv _ wr => ∃ (i : Nat) (os : List Sv), i ≤ n ∧ iv = .int .i64 i ∧ Hid (RAll w wr ls i 0 v os)) (fun _ iv _ _ => n - (intOf iv).toNat)
  case atStart => exact ⟨0, [], Nat.zero_le _, rfl, Lib.hid ⟨⟨World.ownsRow_nil _ _ _ _, by simp⟩, by rw [aheadA_zero]; rfl, Below.refl _ _⟩⟩
  case round =>
    obtain ⟨i, os, hi, rfl, HR⟩ := hrel
    by_cases hlt : i < n
    · obtain ⟨xs, hxs⟩ : ∃ xs, ls[i]? = some xs := ⟨_, List.getElem?_eq_getElem (by have := HL.out.1.1; omega)⟩
      obtain ⟨b, off, rfl, hb, hc⟩ := HL.out.1.2 (by omega)
      obtain ⟨Ai, ci, h1, h2⟩ := hc i xs hxs
      obtain ⟨m, hm⟩ : ∃ m, xs.length = m := ⟨_, rfl⟩
      rw [hm] at h1 h2
      have hmem : ∀ y ∈ xs, y ∈ ls.flatten := fun y hy => List.mem_flatten.2 ⟨xs, List.mem_of_getElem? hxs, hy⟩
      have hm63 : m ≤ 1000 := by
        obtain ⟨r, hr⟩ := aheadA_prefix ls i xs.length
        have : (aheadA ls i xs.length).length = (ls.take i).flatten.length + xs.length := by unfold aheadA; rw [hxs]; simp
        rw [hr, List.length_append] at hlen
        omega
      have HX := Lib.hid (show _ ∧ _ ∧ _ ∧ _ ∧ _ from ⟨hxs, h1, h2, hm, hmem⟩)
      clear hc hxs h1 h2 hm hmem
      obtain ⟨wo, rfl⟩ : ∃ wo : World, wo = wr := ⟨_, rfl⟩
      go_wp2
      go_loopw [3, 5] (fun v kv wz => ∃ (k : Nat) (os : List Sv), k ≤ m ∧ kv = .int .i64 k ∧ Hid (RAll w wz ls i k v os)) (fun _ kv _ => m - (intOf kv).toNat)
      case atStart => exact ⟨0, os, Nat.zero_le _, rfl, HR⟩
      case round =>
        clear HR
        obtain ⟨k, os, hk, rfl, HR⟩ := hrel
        have c0 := (HR.out.old.cell (p := ⟨b, off + i, none⟩) hb).trans HX.out.2.1
        by_cases hkm : k < m
        · obtain ⟨bx, ox, y, rfl, hbx, hy, hcx⟩ := HX.out.2.2.1.at hkm
          have e0 := (HR.out.old.cell (p := ⟨bx, ox + k * 2 + 0, none⟩) hbx).trans (hcx 0 _ rfl)
          have e1 := (HR.out.old.cell (p := ⟨bx, ox + k * 2 + 1, none⟩) hbx).trans (hcx 1 _ rfl)
          simp only [Nat.add_zero] at e0
          obtain ⟨na, hna⟩ : ∃ na, os.length = na := ⟨_, rfl⟩
          obtain ⟨Aa, ca, rfl, hLa, hnila, hnca, hcma⟩ := HR.out.rs.parts hna
          have hfew := HR.out.few
          have hyf := HX.out.2.2.2.2 y (List.mem_of_getElem? hy)
          have hyS := (HL.out.2 y hyf).on HR.out.old
          have hym : y.m ≤ 30000 := by have := flat_mem hyf; have := hyS.sst.1; omega
          have hcall := place_any Aa na ca os y wr hLa hnila hnca hcma (by omega) (fun z hz => ⟨HR.out.rs.each z hz, by have := hfew.2 z hz; have := (HR.out.rs.each z hz).sst.1; omega⟩) hyS hym
          have HC := Lib.hid (show _ ∧ _ from ⟨hcall, hy⟩)
          clear hcall hfew hcx hy hLa hnila hnca hcma hna hyf hyS hym
          go_wp2_with fail
          refine HC.out.1.mono ?_
          rintro e w2 ⟨v2, os2, rfl, hr2, hl2, hb2⟩
          have H2 := Lib.hid (HR.out.next HX.out.1 HC.out.2 hr2 hl2 hb2)
          clear hr2 hl2 hb2 HC
          go_wp2
          go_roundw
          case measure => simp [intOf]; omega
          case rel => exact ⟨k + 1, os2, hkm, by simp, H2⟩
        · obtain rfl : k = m := by omega
          have hr := HR.out
          rw [← HX.out.2.2.2.1] at hr
          have hnx : RAll w wr ls (i + 1) 0 u3 os := ⟨hr.rs, by rw [hr.law, aheadA_next HX.out.1], hr.old⟩
          have HR2 := Lib.hid hnx
          clear hr hnx HR
          go_wp2
          go_roundw
          case measure => simp [intOf]; omega
          case rel => exact ⟨i + 1, os, hlt, by simp, HR2⟩
    · obtain rfl : i = n := by omega
      obtain ⟨na, hna⟩ : ∃ na, os.length = na := ⟨_, rfl⟩
      obtain ⟨Aa, ca, rfl, hLa, hnila, hnca, hcma⟩ := HR.out.rs.parts hna
      have hfew := HR.out.few
      have hlaw := HR.out.law
      have hin : aheadA ls i 0 = ls.flatten := by rw [← HL.out.1.1]; exact aheadA_all ls
      rw [hin] at hlaw
      obtain ⟨w2, rfl⟩ : ∃ w2 : World, w2 = wr := ⟨_, rfl⟩
      have hn1 : na ≤ 1000 := by omega
      have hsw := HR.out.old.size
      have HA := Lib.hid (show _ ∧ _ ∧ _ ∧ _ from ⟨hLa, hlaw, HR.out.rs.each, hna⟩)
      clear hLa hlaw hfew hna hin
      go_wp2
      go_loopw [6, 7] (fun ov jv wz => ∃ (j : Nat) (os' : List Sv), j ≤ na ∧ jv = .int .i64 j ∧ os'.length ≤ j ∧ Hid (wz.ownsRow w2.heap.size 132 2 ov os'.length (os'.flatMap encSv) ∧ os'.map Sv.sr = ((os.take j).map Sv.sr).filter (fun p => !p.2.isEmpty) ∧ Below w2.heap.size w2 wz ∧ ∀ z ∈ os', z ∈ os)) (fun _ jv _ => na - (intOf jv).toNat)
      case atStart => exact ⟨0, [], Nat.zero_le _, rfl, Nat.le_refl _, Lib.hid ⟨World.ownsRow_nil _ _ _ _, rfl, Below.refl _ _, by simp⟩⟩
      case round =>
        obtain ⟨j, os', hj, rfl, hl', HO⟩ := hrel
        have hsz := HO.out.2.2.1.size
        by_cases hjn : j < na
        · obtain ⟨bx, ox, z, rfl, hbx, hz, hcx⟩ := HA.out.1.at hjn
          have e0 := (HO.out.2.2.1.cell (p := ⟨bx, ox + j * 2 + 0, none⟩) hbx).trans (hcx 0 _ rfl)
          have e1 := (HO.out.2.2.1.cell (p := ⟨bx, ox + j * 2 + 1, none⟩) hbx).trans (hcx 1 _ rfl)
          simp only [Nat.add_zero] at e0
          have hft := filter_take hz
          have hzS := HA.out.2.2.1 z (List.mem_of_getElem? hz)
          have hzl := hzS.sst.1
          have HZ := Lib.hid (show _ ∧ _ ∧ _ ∧ _ from ⟨hft, hzS, hzl, List.mem_of_getElem? hz⟩)
          clear hcx hz hft hzS
          by_cases h0 : z.m = 0
          · have z0 : ¬ (0 : Int) < (z.m : Int) := by omega
            have hrel : os'.map Sv.sr = ((os.take (j + 1)).map Sv.sr).filter (fun p => !p.2.isEmpty) := by
              rw [HZ.out.1, if_pos (by omega), List.append_nil]; exact HO.out.2.1
            have HN := Lib.hid hrel
            clear hrel hzl h0
            go_wp2
            go_roundw
            case measure => simp [intOf]; omega
            case rel => exact ⟨j + 1, os', hjn, by simp, by omega, Lib.hid ⟨HO.out.1, HN.out, HO.out.2.2⟩⟩
          · have z0 : (0 : Int) < (z.m : Int) := by omega
            have hrel : (os' ++ [z]).map Sv.sr = ((os.take (j + 1)).map Sv.sr).filter (fun p => !p.2.isEmpty) := by
              rw [HZ.out.1, if_neg (by omega), List.map_append, HO.out.2.1]; rfl
            have HN := Lib.hid hrel
            clear hrel hzl h0
            obtain ⟨hi, hz0, hz1, hz2⟩ := HI.out
            go_wp2_with (at_builtin; refine wpList_append_own _ rfl _ _ 70 rfl w2.heap.size 132 i0 _ 2 48 Tryz.underlying70 hi hz0 hz1 hz2 rfl (by omega) _ os'.length (os'.flatMap encSv) rfl (HO.out.1.alloc _) ⟨wr.heap.size, 0, none⟩ 1 1 [.slice z.A z.n z.c, .slice z.D z.m z.d] rfl rfl (cells_newL wr [.slice z.A z.n z.c, .slice z.D z.m z.d] _) (by simp [Value.oneCell']) (by unfold maxLen; omega) (by omega) (by simp; omega) ?_)
            intro v5 w5 ho5 hg5 _
            have hba : Below wr.heap.size wr (wr.alloc (.cells #[.slice z.A z.n z.c, .slice z.D z.m z.d] 132)) := (Below.refl _ _).alloc (Nat.le_refl _) _
            have hb5 : Below w2.heap.size w2 w5 := (HO.out.2.2.1.trans (hba.mono hsz)).grown hg5 (by simp; omega) (fun j hj => (HO.out.1.lt j hj).1)
            have H5 := Lib.hid (show _ ∧ _ from ⟨ho5, hb5⟩)
            clear ho5 hg5 hba hb5 hi hz0 hz1 hz2
            go_wp2
            go_roundw
            case measure => simp [intOf]; omega
            case rel =>
              refine ⟨j + 1, os' ++ [z], hjn, by simp, by simp; omega, Lib.hid ⟨?_, HN.out, H5.out.2, fun y hy => ?_⟩⟩
              · rw [List.length_append, List.length_singleton, List.flatMap_append, List.flatMap_singleton]; exact H5.out.1
              · rcases List.mem_append.1 hy with hy | hy
                · exact HO.out.2.2.2 y hy
                · rw [List.mem_singleton.1 hy]; exact HZ.out.2.2.2
        · obtain rfl : j = na := by omega
          have hfin := HO.out.2.1
          rw [List.take_of_length_le (by rw [HA.out.2.2.2]; exact Nat.le_refl _), HA.out.2.1] at hfin
          have HF := Lib.hid (show _ ∧ _ ∧ _ from ⟨(⟨owns_base HO.out.1 hsw, fun z hz => (HA.out.2.2.1 z (HO.out.2.2.2 z hz)).on HO.out.2.2.1⟩ : RSer wr w.heap.size u6 os'), hfin, HR.out.old.trans (HO.out.2.2.1.mono hsw)⟩)
          clear hfin
          go_wp2
          go_ret
          exact ⟨_, os', rfl, HF.out.1, HF.out.2.1, HF.out.2.2⟩
end Go.Proofs.YtihidnmpngeohaaGreat
namespace Go.Proofs.YtihidnmpngeohaaGreat

/-- A number, seven bits a byte, the low ones first. -/
def vint (n : Nat) : List UInt8 := if n < 128 then [UInt8.ofNat n] else UInt8.ofNat (n % 128 + 128) :: vint (n / 128)
termination_by n
decreasing_by omega
theorem vint_lt {n : Nat} (h : n < 128) : vint n = [UInt8.ofNat n] := by rw [vint, if_pos h]
theorem vint_ge {n : Nat} (h : ¬ n < 128) : vint n = UInt8.ofNat (n % 128 + 128) :: vint (n / 128) := by rw [vint, if_neg h]
theorem ofNat_toNat {n : Nat} (h : n < 256) : (UInt8.ofNat n).toNat = n := by simp; omega
theorem vint_back : ∀ (n m : Nat) (a b : List UInt8), vint n ++ a = vint m ++ b → n = m ∧ a = b := by
  intro n
  induction n using Nat.strongRecOn with
  | ind n ih =>
    intro m a b h
    by_cases hn : n < 128
    · rw [vint_lt hn] at h
      by_cases hm : m < 128
      · rw [vint_lt hm] at h
        injection h with h1 h2
        have := congrArg UInt8.toNat h1
        rw [ofNat_toNat (by omega), ofNat_toNat (by omega)] at this
        exact ⟨this, h2⟩
      · rw [vint_ge hm] at h
        injection h with h1 h2
        have := congrArg UInt8.toNat h1
        rw [ofNat_toNat (by omega), ofNat_toNat (by omega)] at this
        omega
    · rw [vint_ge hn] at h
      by_cases hm : m < 128
      · rw [vint_lt hm] at h
        injection h with h1 h2
        have := congrArg UInt8.toNat h1
        rw [ofNat_toNat (by omega), ofNat_toNat (by omega)] at this
        omega
      · rw [vint_ge hm] at h
        injection h with h1 h2
        have := congrArg UInt8.toNat h1
        rw [ofNat_toNat (by omega), ofNat_toNat (by omega)] at this
        obtain ⟨h3, h4⟩ := ih (n / 128) (by omega) (m / 128) a b h2
        exact ⟨by omega, h4⟩
/-- A text, its length ahead. -/
def putK (s : List UInt8) : List UInt8 := vint s.length ++ s
theorem putK_back {s t a b : List UInt8} (h : putK s ++ a = putK t ++ b) : s = t ∧ a = b := by
  unfold putK at h
  rw [List.append_assoc, List.append_assoc] at h
  obtain ⟨h1, h2⟩ := vint_back _ _ _ _ h
  exact List.append_inj h2 h1
def labK (x : Lb) : List UInt8 := putK x.nm.data.toList ++ putK x.vl.data.toList
def keyL (l : List Lb) : List UInt8 := l.flatMap labK
theorem bytes_ext {a b : ByteArray} (h : a.data.toList = b.data.toList) : a = b := by
  obtain ⟨⟨a⟩⟩ := a
  obtain ⟨⟨b⟩⟩ := b
  simp at h
  rw [h]
theorem vint_ne (n : Nat) : vint n ≠ [] := by
  by_cases h : n < 128
  · rw [vint_lt h]; simp
  · rw [vint_ge h]; simp
theorem labK_ne (x : Lb) (a : List UInt8) : labK x ++ a ≠ [] := by
  unfold labK putK
  intro h
  have h1 := List.append_eq_nil_iff.1 h
  have h2 := List.append_eq_nil_iff.1 h1.1
  exact vint_ne _ (List.append_eq_nil_iff.1 h2.1).1
theorem labK_back {x y : Lb} {a b : List UInt8} (h : labK x ++ a = labK y ++ b) : x = y ∧ a = b := by
  unfold labK at h
  rw [List.append_assoc, List.append_assoc] at h
  obtain ⟨h1, h2⟩ := putK_back h
  obtain ⟨h3, h4⟩ := putK_back h2
  refine ⟨?_, h4⟩
  obtain ⟨n1, v1⟩ := x
  obtain ⟨n2, v2⟩ := y
  simp only at h1 h3
  rw [bytes_ext h1, bytes_ext h3]
theorem keyL_inj : ∀ {l m : List Lb}, keyL l = keyL m → l = m
  | [], [], _ => rfl
  | [], y :: m, h => absurd (show labK y ++ keyL m = [] from h.symm) (labK_ne _ _)
  | x :: l, [], h => absurd (show labK x ++ keyL l = [] from h) (labK_ne _ _)
  | x :: l, y :: m, h => by
    obtain ⟨h1, h2⟩ := labK_back (show labK x ++ keyL l = labK y ++ keyL m from h)
    rw [h1, keyL_inj h2]
theorem vint_len (n : Nat) : (vint n).length ≤ n + 1 := by
  induction n using Nat.strongRecOn with
  | ind n ih =>
    by_cases h : n < 128
    · rw [vint_lt h]; simp
    · rw [vint_ge h, List.length_cons]
      have := ih (n / 128) (by omega)
      omega
theorem putK_len (s : List UInt8) : (putK s).length ≤ 2 * s.length + 1 := by
  unfold putK
  rw [List.length_append]
  have := vint_len s.length
  omega
end Go.Proofs.YtihidnmpngeohaaGreat
namespace Go.Proofs.YtihidnmpngeohaaGreat
open Go.RowKit Go.Lib

theorem Tryz.infoByte : (Tryz.prog.info? 5).map (fun i => (i.zero, i.size, i.bytes)) = some (some (.int .u8 0), 1, 1) := by kernel_rfl
def bytesV (l : List UInt8) : List Value := l.map fun b => Value.int .u8 b.toNat
theorem byte_ne {b c : UInt8} (h : b ≠ c) : ((b.toNat : Int) == (c.toNat : Int)) = false := by
  rw [beq_eq_false_iff_ne]
  exact fun e => h (UInt8.toNat_inj.1 (by omega))
theorem strOfNums_bytes (l : List UInt8) : strOfNums (l.map fun b => (b.toNat : Int)) = ⟨l.toArray⟩ := by
  unfold strOfNums
  congr 2
  rw [List.map_map]
  conv => rhs; rw [← List.map_id l]
  apply List.map_congr_left
  intro b _
  simp
/-- Bytes of the call's own as a text. -/
theorem own_text {w : World} {B n : Nat} {v : Value} {l : List UInt8} (h : w.ownsRow B 5 1 v n (bytesV l)) : (convert 175 9 v).run Tryz.prog w = .ok (.string ⟨l.toArray⟩) w := by
  have hlen : l.length = n := by have := h.1; unfold bytesV at this; simpa using this
  rcases h.2 with ⟨rfl, rfl⟩ | ⟨g, cap, cur, rfl, _, _, _, _, _, _⟩
  · obtain rfl := List.length_eq_zero_iff.1 hlen
    exact run_convert_bytes_nil w 175 5 (by kernel_rfl) (by kernel_rfl) 0 0 9 (by kernel_rfl)
  · rw [← strOfNums_bytes]
    refine run_convert_bytes_arg w 175 5 (by kernel_rfl) (by kernel_rfl) g 0 n cap _ (by simpa using hlen) (fun i hi => ?_) 9 (by kernel_rfl)
    have hi' : i < l.length := by omega
    rw [Nat.zero_add]
    refine owns_cell h rfl ?_
    unfold bytesV
    simp [List.getElem?_eq_getElem hi']
theorem bytesV_append (a b : List UInt8) : bytesV (a ++ b) = bytesV a ++ bytesV b := by unfold bytesV; rw [List.map_append]
theorem bytesV_length (a : List UInt8) : (bytesV a).length = a.length := by unfold bytesV; rw [List.length_map]
theorem strCells_bytes (s : ByteArray) : strCells s = bytesV s.data.toList := rfl
theorem wrap_u8 (n : Nat) : IntKind.u8.wrap (n : Int) = ((UInt8.ofNat n).toNat : Int) := by
  unfold IntKind.wrap
  simp [UInt8.toNat_ofNat', IntKind.signed, IntKind.bits]
/-- A fresh row of one's own. -/
theorem owns_fresh {w : World} {B : Nat} (hB : B ≤ w.heap.size) (e : TypeId) (cs : List Value) (hm : cs.length ≤ maxLen) : (w.alloc (.cells cs.toArray e)).ownsRow B e 1 (.slice (some ⟨w.heap.size, 0, none⟩) cs.length cs.length) cs.length cs :=
  ⟨by simp, .inr ⟨w.heap.size, cs.length, cs.toArray, rfl, hB, heap_alloc_new w _, Nat.le_refl _, hm, by simp, by simp⟩⟩
end Go.Proofs.YtihidnmpngeohaaGreat
