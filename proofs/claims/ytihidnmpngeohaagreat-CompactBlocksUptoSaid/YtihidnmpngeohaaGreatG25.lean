/- The document's Series: the walk. Plain law of merge.key: a text ahead of which its length stands can be read again; so can labels. No program. Bytes of the call's own; bytes as a text. merge.key: labels as a text, each text behind its length. -/
import Derived.Test.YtihidnmpngeohaaGreatRefPlace
import Derived.Test.YtihidnmpngeohaaGreatG12
import Derived.Lib.AppendStr
import Derived.Laws.BytesArg
import Derived.OwnWalk
import Derived.Deep.RegionHeld3
import Derived.BigQuiet
import Derived.LoopN
import Derived.Test.YtihidnmpngeohaaGreatG00
import Derived.Lib.VarintBits
import Derived.Lib.Zigzag
namespace Go.Proofs.YtihidnmpngeohaaGreat
open Go.RowKit Go.Lib

structure RAll (w wr : World) (ls : List (List Sv)) (i k : Nat) (v : Value) (os : List Sv) : Prop where
  rs : RSer wr w.heap.size v os
  law : os.map Sv.sr = allU labelsC ((aheadA ls i k).map Sv.sr)
  old : Below w.heap.size w wr
theorem flat_sr (l : List Sv) : (l.map Sv.sr).flatMap (·.2) = l.flatMap (·.s) := by rw [List.flatMap_map]; rfl
theorem flat_le {l r : List Sv} : (l.flatMap (·.s)).length ≤ ((l ++ r).flatMap (·.s)).length := by rw [List.flatMap_append, List.length_append]; omega
theorem flat_mem {l : List Sv} {y : Sv} (h : y ∈ l) : y.s.length ≤ (l.flatMap (·.s)).length := by
  obtain ⟨a, b, rfl⟩ := List.append_of_mem h
  rw [List.flatMap_append, List.flatMap_cons, List.length_append, List.length_append]; omega
/-- How much there is at a loop's head. -/
theorem RAll.few {w wr : World} {ls : List (List Sv)} {i k : Nat} {v : Value} {os : List Sv} (h : RAll w wr ls i k v os) : os.length ≤ ls.flatten.length ∧ ∀ z ∈ os, z.s.length ≤ (ls.flatten.flatMap (·.s)).length := by
  obtain ⟨r, hr⟩ := aheadA_prefix ls i k
  refine ⟨?_, fun z hz => ?_⟩
  · have h1 := congrArg List.length h.law
    have h2 := allU_len (c := labelsC) ((aheadA ls i k).map Sv.sr)
    rw [List.length_map] at h1 h2
    rw [hr, List.length_append]; omega
  · have h1 : z.sr ∈ allU labelsC ((aheadA ls i k).map Sv.sr) := by rw [← h.law]; exact List.mem_map.2 ⟨z, hz, rfl⟩
    have h2 := (allU_mem labelsC_cmp3 h1).2
    rw [flat_sr] at h2
    have h3 := flat_le (l := aheadA ls i k) (r := r)
    rw [hr]
    exact Nat.le_trans h2 h3
theorem RSer.parts {w : World} {B : Nat} {v : Value} {os : List Sv} {n : Nat} (h : RSer w B v os) (hn : os.length = n) : ∃ A c, v = .slice A n c ∧ Lst encSv 2 w w.heap.size A n os ∧ (A = none → n = 0 ∧ c = 0) ∧ n ≤ c ∧ c ≤ maxLen := by
  subst hn
  obtain ⟨A, c, rfl, h1, h2⟩ := owns_slice h.row
  obtain ⟨h3, h4, _⟩ := owns_lst h.row encSv_len (by omega)
  exact ⟨A, c, rfl, h3, h4, h1, h2⟩
theorem RAll.next {w wr w2 : World} {ls : List (List Sv)} {i k : Nat} {v v2 : Value} {os os2 : List Sv} {xs : List Sv} {y : Sv} (h : RAll w wr ls i k v os) (hxs : ls[i]? = some xs) (hy : xs[k]? = some y) (h2 : RSer w2 wr.heap.size v2 os2) (hl : os2.map Sv.sr = placeU labelsC (os.map Sv.sr) y.sr) (hb : Below wr.heap.size wr w2) : RAll w w2 ls i (k + 1) v2 os2 :=
  ⟨h2.base h.old.size, by rw [hl, h.law, aheadA_succ hxs hy, List.map_append, List.map_singleton, allU_snoc], h.old.trans (hb.mono h.old.size)⟩
theorem filter_take {os : List Sv} {j : Nat} {z : Sv} (hz : os[j]? = some z) : ((os.take (j + 1)).map Sv.sr).filter (fun p => !p.2.isEmpty) = ((os.take j).map Sv.sr).filter (fun p => !p.2.isEmpty) ++ if z.s.length = 0 then [] else [z.sr] := by
  obtain ⟨h1, h2⟩ := List.getElem?_eq_some_iff.1 hz
  rw [List.take_succ_eq_append_getElem h1, h2, List.map_append, List.filter_append]
  congr 1
  have e : z.sr.2 = z.s := rfl
  by_cases h : z.s.length = 0
  · rw [if_pos h]
    have h3 := List.length_eq_zero_iff.1 h
    simp [e, h3]
  · rw [if_neg h]
    have h3 : z.s.isEmpty = false := by
      cases hs : z.s with
      | nil => rw [hs] at h; exact absurd rfl h
      | cons a b => rfl
    simp [e, h3]
set_option maxHeartbeats 8000000 in
set_option maxRecDepth 100000 in
theorem refSeries_any (A : Option Addr) (n c : Nat) (ls : List (List Sv)) (w : World) (hls : Sls w w.heap.size A n ls) (hn : n ≤ 4000) (hlen : ls.flatten.length ≤ 4000) (hsm : (ls.flatten.flatMap (·.s)).length ≤ 20000) (hT : ∀ y ∈ ls.flatten, Sat w w.heap.size y) :
    Calls Tryz.prog 22 #[.slice A n c] w (PlacePost w (serU labelsC (ls.flatten.map Sv.sr))) := by
  obtain ⟨i0, hi, hz0, hz1, hz2⟩ := info_parts Tryz.infoSeries
  have HI := Lib.hid (show _ ∧ _ ∧ _ ∧ _ from ⟨hi, hz0, hz1, hz2⟩)
  have HL := Lib.hid (show _ ∧ _ from ⟨hls, hT⟩)
  clear hls hT hi hz0 hz1 hz2
  go_enter Tryz.func22, Tryz.ntmps22
  go_wp2
  go_loopw [3, 4, 5] (fun v iv _ wr => ∃ (i : Nat) (os : List Sv), i ≤ n ∧ iv = .int .i64 i ∧ Hid (RAll w wr ls i 0 v os)) (fun _ iv _ _ => n - (intOf iv).toNat)
  case atStart => exact ⟨0, [], Nat.zero_le _, rfl, Lib.hid ⟨⟨World.ownsRow_nil _ _ _ _, by simp⟩, by rw [aheadA_zero]; rfl, Below.refl _ _⟩⟩
  case round =>
    obtain ⟨i, os, hi, rfl, HR⟩ := hrel
    by_cases hlt : i < n
    · obtain ⟨xs, hxs⟩ : ∃ xs, ls[i]? = some xs := ⟨_, List.getElem?_eq_getElem (by have := HL.out.1.1; omega)⟩
      obtain ⟨b, off, rfl, hb, hc⟩ := HL.out.1.2 (by omega)
      obtain ⟨Ai, ci, h1, h2⟩ := hc i xs hxs
      obtain ⟨m, hm⟩ : ∃ m, xs.length = m := ⟨_, rfl⟩
      rw [hm] at h1 h2
      have hmem : ∀ y ∈ xs, y ∈ ls.flatten := fun y hy => List.mem_flatten.2 ⟨xs, List.mem_of_getElem? hxs, hy⟩
      have hm63 : m ≤ 4000 := by
        obtain ⟨r, hr⟩ := aheadA_prefix ls i xs.length
        have : (aheadA ls i xs.length).length = (ls.take i).flatten.length + xs.length := by unfold aheadA; rw [hxs]; simp
        rw [hr, List.length_append] at hlen
        omega
      have HX := Lib.hid (show _ ∧ _ ∧ _ ∧ _ ∧ _ from ⟨hxs, h1, h2, hm, hmem⟩)
      clear hc hxs h1 h2 hm hmem
      obtain ⟨wo, rfl⟩ : ∃ wo : World, wo = wr := ⟨_, rfl⟩
      go_wp2
      go_loopw [3, 5] (fun v kv wz => ∃ (k : Nat) (os : List Sv), k ≤ m ∧ kv = .int .i64 k ∧ Hid (RAll w wz ls i k v os)) (fun _ kv _ => m - (intOf kv).toNat)
      case atStart => exact ⟨0, os, Nat.zero_le _, rfl, HR⟩
      case round =>
        clear HR
        obtain ⟨k, os, hk, rfl, HR⟩ := hrel
        have c0 := (HR.out.old.cell (p := ⟨b, off + i, none⟩) hb).trans HX.out.2.1
        by_cases hkm : k < m
        · obtain ⟨bx, ox, y, rfl, hbx, hy, hcx⟩ := HX.out.2.2.1.at hkm
          have e0 := (HR.out.old.cell (p := ⟨bx, ox + k * 2 + 0, none⟩) hbx).trans (hcx 0 _ rfl)
          have e1 := (HR.out.old.cell (p := ⟨bx, ox + k * 2 + 1, none⟩) hbx).trans (hcx 1 _ rfl)
          simp only [Nat.add_zero] at e0
          obtain ⟨na, hna⟩ : ∃ na, os.length = na := ⟨_, rfl⟩
          obtain ⟨Aa, ca, rfl, hLa, hnila, hnca, hcma⟩ := HR.out.rs.parts hna
          have hfew := HR.out.few
          have hyf := HX.out.2.2.2.2 y (List.mem_of_getElem? hy)
          have hyS := (HL.out.2 y hyf).on HR.out.old
          have hym : y.m ≤ 30000 := by have := flat_mem hyf; have := hyS.sst.1; omega
          have hcall := place_any Aa na ca os y wr hLa hnila hnca hcma (by omega) (fun z hz => ⟨HR.out.rs.each z hz, by have := hfew.2 z hz; have := (HR.out.rs.each z hz).sst.1; omega⟩) hyS hym
          have HC := Lib.hid (show _ ∧ _ from ⟨hcall, hy⟩)
          clear hcall hfew hcx hy hLa hnila hnca hcma hna hyf hyS hym
          go_wp2_with fail
          refine HC.out.1.mono ?_
          rintro e w2 ⟨v2, os2, rfl, hr2, hl2, hb2⟩
          have H2 := Lib.hid (HR.out.next HX.out.1 HC.out.2 hr2 hl2 hb2)
          clear hr2 hl2 hb2 HC
          go_wp2
          go_roundw
          case measure => simp [intOf]; omega
          case rel => exact ⟨k + 1, os2, hkm, by simp, H2⟩
        · obtain rfl : k = m := by omega
          have hr := HR.out
          rw [← HX.out.2.2.2.1] at hr
          have hnx : RAll w wr ls (i + 1) 0 u3 os := ⟨hr.rs, by rw [hr.law, aheadA_next HX.out.1], hr.old⟩
          have HR2 := Lib.hid hnx
          clear hr hnx HR
          go_wp2
          go_roundw
          case measure => simp [intOf]; omega
          case rel => exact ⟨i + 1, os, hlt, by simp, HR2⟩
    · obtain rfl : i = n := by omega
      obtain ⟨na, hna⟩ : ∃ na, os.length = na := ⟨_, rfl⟩
      obtain ⟨Aa, ca, rfl, hLa, hnila, hnca, hcma⟩ := HR.out.rs.parts hna
      have hfew := HR.out.few
      have hlaw := HR.out.law
      have hin : aheadA ls i 0 = ls.flatten := by rw [← HL.out.1.1]; exact aheadA_all ls
      rw [hin] at hlaw
      obtain ⟨w2, rfl⟩ : ∃ w2 : World, w2 = wr := ⟨_, rfl⟩
      have hn1 : na ≤ 4000 := by omega
      have hsw := HR.out.old.size
      have HA := Lib.hid (show _ ∧ _ ∧ _ ∧ _ from ⟨hLa, hlaw, HR.out.rs.each, hna⟩)
      clear hLa hlaw hfew hna hin
      go_wp2
      go_loopw [6, 7] (fun ov jv wz => ∃ (j : Nat) (os' : List Sv), j ≤ na ∧ jv = .int .i64 j ∧ os'.length ≤ j ∧ Hid (wz.ownsRow w2.heap.size 132 2 ov os'.length (os'.flatMap encSv) ∧ os'.map Sv.sr = ((os.take j).map Sv.sr).filter (fun p => !p.2.isEmpty) ∧ Below w2.heap.size w2 wz ∧ ∀ z ∈ os', z ∈ os)) (fun _ jv _ => na - (intOf jv).toNat)
      case atStart => exact ⟨0, [], Nat.zero_le _, rfl, Nat.le_refl _, Lib.hid ⟨World.ownsRow_nil _ _ _ _, rfl, Below.refl _ _, by simp⟩⟩
      case round =>
        obtain ⟨j, os', hj, rfl, hl', HO⟩ := hrel
        have hsz := HO.out.2.2.1.size
        by_cases hjn : j < na
        · obtain ⟨bx, ox, z, rfl, hbx, hz, hcx⟩ := HA.out.1.at hjn
          have e0 := (HO.out.2.2.1.cell (p := ⟨bx, ox + j * 2 + 0, none⟩) hbx).trans (hcx 0 _ rfl)
          have e1 := (HO.out.2.2.1.cell (p := ⟨bx, ox + j * 2 + 1, none⟩) hbx).trans (hcx 1 _ rfl)
          simp only [Nat.add_zero] at e0
          have hft := filter_take hz
          have hzS := HA.out.2.2.1 z (List.mem_of_getElem? hz)
          have hzl := hzS.sst.1
          have HZ := Lib.hid (show _ ∧ _ ∧ _ ∧ _ from ⟨hft, hzS, hzl, List.mem_of_getElem? hz⟩)
          clear hcx hz hft hzS
          by_cases h0 : z.m = 0
          · have z0 : ¬ (0 : Int) < (z.m : Int) := by omega
            have hrel : os'.map Sv.sr = ((os.take (j + 1)).map Sv.sr).filter (fun p => !p.2.isEmpty) := by
              rw [HZ.out.1, if_pos (by omega), List.append_nil]; exact HO.out.2.1
            have HN := Lib.hid hrel
            clear hrel hzl h0
            go_wp2
            go_roundw
            case measure => simp [intOf]; omega
            case rel => exact ⟨j + 1, os', hjn, by simp, by omega, Lib.hid ⟨HO.out.1, HN.out, HO.out.2.2⟩⟩
          · have z0 : (0 : Int) < (z.m : Int) := by omega
            have hrel : (os' ++ [z]).map Sv.sr = ((os.take (j + 1)).map Sv.sr).filter (fun p => !p.2.isEmpty) := by
              rw [HZ.out.1, if_neg (by omega), List.map_append, HO.out.2.1]; rfl
            have HN := Lib.hid hrel
            clear hrel hzl h0
            obtain ⟨hi, hz0, hz1, hz2⟩ := HI.out
            go_wp2_with (at_builtin; refine wpList_append_own _ rfl _ _ 70 rfl w2.heap.size 132 i0 _ 2 48 Tryz.underlying70 hi hz0 hz1 hz2 rfl (by omega) _ os'.length (os'.flatMap encSv) rfl (HO.out.1.alloc _) ⟨wr.heap.size, 0, none⟩ 1 1 [.slice z.A z.n z.c, .slice z.D z.m z.d] rfl rfl (cells_newL wr [.slice z.A z.n z.c, .slice z.D z.m z.d] _) (by simp [Value.oneCell']) (by unfold maxLen; omega) (by omega) (by simp; omega) ?_)
            intro v5 w5 ho5 hg5 _
            have hba : Below wr.heap.size wr (wr.alloc (.cells #[.slice z.A z.n z.c, .slice z.D z.m z.d] 132)) := (Below.refl _ _).alloc (Nat.le_refl _) _
            have hb5 : Below w2.heap.size w2 w5 := (HO.out.2.2.1.trans (hba.mono hsz)).grown hg5 (by simp; omega) (fun j hj => (HO.out.1.lt j hj).1)
            have H5 := Lib.hid (show _ ∧ _ from ⟨ho5, hb5⟩)
            clear ho5 hg5 hba hb5 hi hz0 hz1 hz2
            go_wp2
            go_roundw
            case measure => simp [intOf]; omega
            case rel =>
              refine ⟨j + 1, os' ++ [z], hjn, by simp, by simp; omega, Lib.hid ⟨?_, HN.out, H5.out.2, fun y hy => ?_⟩⟩
              · rw [List.length_append, List.length_singleton, List.flatMap_append, List.flatMap_singleton]; exact H5.out.1
              · rcases List.mem_append.1 hy with hy | hy
                · exact HO.out.2.2.2 y hy
                · rw [List.mem_singleton.1 hy]; exact HZ.out.2.2.2
        · obtain rfl : j = na := by omega
          have hfin := HO.out.2.1
          rw [List.take_of_length_le (by rw [HA.out.2.2.2]; exact Nat.le_refl _), HA.out.2.1] at hfin
          have HF := Lib.hid (show _ ∧ _ ∧ _ from ⟨(⟨owns_base HO.out.1 hsw, fun z hz => (HA.out.2.2.1 z (HO.out.2.2.2 z hz)).on HO.out.2.2.1⟩ : RSer wr w.heap.size u6 os'), hfin, HR.out.old.trans (HO.out.2.2.1.mono hsw)⟩)
          clear hfin
          go_wp2
          go_ret
          exact ⟨_, os', rfl, HF.out.1, HF.out.2.1, HF.out.2.2⟩
end Go.Proofs.YtihidnmpngeohaaGreat
namespace Go.Proofs.YtihidnmpngeohaaGreat

/-- A number, seven bits a byte, the low ones first. -/
def vint (n : Nat) : List UInt8 := if n < 128 then [UInt8.ofNat n] else UInt8.ofNat (n % 128 + 128) :: vint (n / 128)
termination_by n
decreasing_by omega
theorem vint_lt {n : Nat} (h : n < 128) : vint n = [UInt8.ofNat n] := by rw [vint, if_pos h]
theorem vint_ge {n : Nat} (h : ¬ n < 128) : vint n = UInt8.ofNat (n % 128 + 128) :: vint (n / 128) := by rw [vint, if_neg h]
theorem ofNat_toNat {n : Nat} (h : n < 256) : (UInt8.ofNat n).toNat = n := by simp; omega
theorem vint_back : ∀ (n m : Nat) (a b : List UInt8), vint n ++ a = vint m ++ b → n = m ∧ a = b := by
  intro n
  induction n using Nat.strongRecOn with
  | ind n ih =>
    intro m a b h
    by_cases hn : n < 128
    · rw [vint_lt hn] at h
      by_cases hm : m < 128
      · rw [vint_lt hm] at h
        injection h with h1 h2
        have := congrArg UInt8.toNat h1
        rw [ofNat_toNat (by omega), ofNat_toNat (by omega)] at this
        exact ⟨this, h2⟩
      · rw [vint_ge hm] at h
        injection h with h1 h2
        have := congrArg UInt8.toNat h1
        rw [ofNat_toNat (by omega), ofNat_toNat (by omega)] at this
        omega
    · rw [vint_ge hn] at h
      by_cases hm : m < 128
      · rw [vint_lt hm] at h
        injection h with h1 h2
        have := congrArg UInt8.toNat h1
        rw [ofNat_toNat (by omega), ofNat_toNat (by omega)] at this
        omega
      · rw [vint_ge hm] at h
        injection h with h1 h2
        have := congrArg UInt8.toNat h1
        rw [ofNat_toNat (by omega), ofNat_toNat (by omega)] at this
        obtain ⟨h3, h4⟩ := ih (n / 128) (by omega) (m / 128) a b h2
        exact ⟨by omega, h4⟩
/-- A text, its length ahead. -/
def putK (s : List UInt8) : List UInt8 := vint s.length ++ s
theorem putK_back {s t a b : List UInt8} (h : putK s ++ a = putK t ++ b) : s = t ∧ a = b := by
  unfold putK at h
  rw [List.append_assoc, List.append_assoc] at h
  obtain ⟨h1, h2⟩ := vint_back _ _ _ _ h
  exact List.append_inj h2 h1
def labK (x : Lb) : List UInt8 := putK x.nm.data.toList ++ putK x.vl.data.toList
def keyL (l : List Lb) : List UInt8 := l.flatMap labK
theorem bytes_ext {a b : ByteArray} (h : a.data.toList = b.data.toList) : a = b := by
  obtain ⟨⟨a⟩⟩ := a
  obtain ⟨⟨b⟩⟩ := b
  simp at h
  rw [h]
theorem vint_ne (n : Nat) : vint n ≠ [] := by
  by_cases h : n < 128
  · rw [vint_lt h]; simp
  · rw [vint_ge h]; simp
theorem labK_ne (x : Lb) (a : List UInt8) : labK x ++ a ≠ [] := by
  unfold labK putK
  intro h
  have h1 := List.append_eq_nil_iff.1 h
  have h2 := List.append_eq_nil_iff.1 h1.1
  exact vint_ne _ (List.append_eq_nil_iff.1 h2.1).1
theorem labK_back {x y : Lb} {a b : List UInt8} (h : labK x ++ a = labK y ++ b) : x = y ∧ a = b := by
  unfold labK at h
  rw [List.append_assoc, List.append_assoc] at h
  obtain ⟨h1, h2⟩ := putK_back h
  obtain ⟨h3, h4⟩ := putK_back h2
  refine ⟨?_, h4⟩
  obtain ⟨n1, v1⟩ := x
  obtain ⟨n2, v2⟩ := y
  simp only at h1 h3
  rw [bytes_ext h1, bytes_ext h3]
theorem keyL_inj : ∀ {l m : List Lb}, keyL l = keyL m → l = m
  | [], [], _ => rfl
  | [], y :: m, h => absurd (show labK y ++ keyL m = [] from h.symm) (labK_ne _ _)
  | x :: l, [], h => absurd (show labK x ++ keyL l = [] from h) (labK_ne _ _)
  | x :: l, y :: m, h => by
    obtain ⟨h1, h2⟩ := labK_back (show labK x ++ keyL l = labK y ++ keyL m from h)
    rw [h1, keyL_inj h2]
theorem vint_len (n : Nat) : (vint n).length ≤ n + 1 := by
  induction n using Nat.strongRecOn with
  | ind n ih =>
    by_cases h : n < 128
    · rw [vint_lt h]; simp
    · rw [vint_ge h, List.length_cons]
      have := ih (n / 128) (by omega)
      omega
theorem putK_len (s : List UInt8) : (putK s).length ≤ 2 * s.length + 1 := by
  unfold putK
  rw [List.length_append]
  have := vint_len s.length
  omega
end Go.Proofs.YtihidnmpngeohaaGreat
namespace Go.Proofs.YtihidnmpngeohaaGreat
open Go.RowKit Go.Lib

theorem Tryz.infoByte : (Tryz.prog.info? 5).map (fun i => (i.zero, i.size, i.bytes)) = some (some (.int .u8 0), 1, 1) := by kernel_rfl
def bytesV (l : List UInt8) : List Value := l.map fun b => Value.int .u8 b.toNat
theorem byte_ne {b c : UInt8} (h : b ≠ c) : ((b.toNat : Int) == (c.toNat : Int)) = false := by
  rw [beq_eq_false_iff_ne]
  exact fun e => h (UInt8.toNat_inj.1 (by omega))
theorem strOfNums_bytes (l : List UInt8) : strOfNums (l.map fun b => (b.toNat : Int)) = ⟨l.toArray⟩ := by
  unfold strOfNums
  congr 2
  rw [List.map_map]
  conv => rhs; rw [← List.map_id l]
  apply List.map_congr_left
  intro b _
  simp
/-- Bytes of the call's own as a text. -/
theorem own_text {w : World} {B n : Nat} {v : Value} {l : List UInt8} (h : w.ownsRow B 5 1 v n (bytesV l)) : (convert 175 9 v).run Tryz.prog w = .ok (.string ⟨l.toArray⟩) w := by
  have hlen : l.length = n := by have := h.1; unfold bytesV at this; simpa using this
  rcases h.2 with ⟨rfl, rfl⟩ | ⟨g, cap, cur, rfl, _, _, _, _, _, _⟩
  · obtain rfl := List.length_eq_zero_iff.1 hlen
    exact run_convert_bytes_nil w 175 5 (by kernel_rfl) (by kernel_rfl) 0 0 9 (by kernel_rfl)
  · rw [← strOfNums_bytes]
    refine run_convert_bytes_arg w 175 5 (by kernel_rfl) (by kernel_rfl) g 0 n cap _ (by simpa using hlen) (fun i hi => ?_) 9 (by kernel_rfl)
    have hi' : i < l.length := by omega
    rw [Nat.zero_add]
    refine owns_cell h rfl ?_
    unfold bytesV
    simp [List.getElem?_eq_getElem hi']
theorem bytesV_append (a b : List UInt8) : bytesV (a ++ b) = bytesV a ++ bytesV b := by unfold bytesV; rw [List.map_append]
theorem bytesV_length (a : List UInt8) : (bytesV a).length = a.length := by unfold bytesV; rw [List.length_map]
theorem strCells_bytes (s : ByteArray) : strCells s = bytesV s.data.toList := rfl
theorem wrap_u8 (n : Nat) : IntKind.u8.wrap (n : Int) = ((UInt8.ofNat n).toNat : Int) := by
  unfold IntKind.wrap
  simp [UInt8.toNat_ofNat', IntKind.signed, IntKind.bits]
/-- A fresh row of one's own. -/
theorem owns_fresh {w : World} {B : Nat} (hB : B ≤ w.heap.size) (e : TypeId) (cs : List Value) (hm : cs.length ≤ maxLen) : (w.alloc (.cells cs.toArray e)).ownsRow B e 1 (.slice (some ⟨w.heap.size, 0, none⟩) cs.length cs.length) cs.length cs :=
  ⟨by simp, .inr ⟨w.heap.size, cs.length, cs.toArray, rfl, hB, heap_alloc_new w _, Nat.le_refl _, hm, by simp, by simp⟩⟩
end Go.Proofs.YtihidnmpngeohaaGreat
namespace Go.Proofs.YtihidnmpngeohaaGreat
open Go.RowKit Go.Lib

/-- The bytes so far, in the block that the closure holds. -/
structure KeyB (B bb : Nat) (w0 w : World) (l : List UInt8) : Prop where
  cell : ∃ v, w.heap[bb]? = some (.cells #[v] 175 (0, 0)) ∧ w.ownsRow B 5 1 v l.length (bytesV l)
  old : Below B w0 w
theorem KeyB.below {B bb : Nat} {w0 w w' : World} {l : List UInt8} (h : KeyB B bb w0 w l) (hs : B ≤ w.heap.size) (hb : Below w.heap.size w w') : KeyB B bb w0 w' l := by
  obtain ⟨v, h1, h2⟩ := h.cell
  exact ⟨⟨v, (hb.block bb (Array.getElem?_eq_some_iff.1 h1).1).trans h1, owns_below h2 hb⟩, h.old.trans (hb.mono hs)⟩
theorem u64_and127 (m : Nat) (h : m ≤ 10000000) : bits BinOp.and .u64 (m : Int) 127 = ((m % 128 : Nat) : Int) := by
  have h := bits_mask .u64 64 (by decide) wraps_u64 7 (by decide) (m : Int) (by omega) (by omega)
  rw [show ((2 : Int) ^ 7 - 1) = 127 by decide, show ((2 : Int) ^ 7) = 128 by decide] at h
  rw [h]; omega
theorem u8_or128 (p : Nat) (h : p < 128) : bits BinOp.or .u8 (p : Int) 128 = ((p + 128 : Nat) : Int) := by
  have h := bits_join_low .u8 8 (by decide) wraps_u8 7 (p : Int) 128 (by omega) (by omega) (by omega) (by decide) (by decide) (by decide)
  rw [h]; omega
theorem own_row_cells {w : World} {bb : Nat} {v : Value} {e : TypeId} (h : w.heap[bb]? = some (.cells #[v] e (0, 0))) : w.cell? ⟨bb, 0, none⟩ = some v ∧ w.frozen? ⟨bb, 0, none⟩ = false :=
  ⟨by rw [cell_of_row w bb 0 _ _ _ h]; rfl, by simp [World.frozen?, h]⟩
/-- The row's block is not the closure's. -/
theorem row_ne {w : World} {bb : Nat} {B n : Nat} {v u : Value} {xs : List Value} (hv : w.heap[bb]? = some (.cells #[u] 175 (0, 0))) (ho : w.ownsRow B 5 1 v n xs) : v.ownBlock ≠ some bb := fun e => by
  rcases ho.2 with ⟨rfl, _⟩ | ⟨b, cap, cur, rfl, _, hb, _⟩
  · cases e
  · obtain rfl : b = bb := by simpa [Value.ownBlock] using e
    rw [hb] at hv
    injection hv with hv
    injection hv with _ hv
    exact absurd hv (by decide)
/-- Blocks of labels stay. -/
def LabKept (w w' : World) : Prop := ∀ (b : Nat) (cs : Array Value) (fz : Nat × Nat), w.heap[b]? = some (Obj.cells cs 29 fz) → w'.heap[b]? = w.heap[b]?
theorem LabKept.refl (w : World) : LabKept w w := fun _ _ _ _ => rfl
theorem LabKept.trans {a b c : World} (h : LabKept a b) (k : LabKept b c) : LabKept a c := fun q cs fz hq => (k q cs fz ((h q cs fz hq).trans hq)).trans (h q cs fz hq)
theorem LabKept.grown {w w' : World} {B n : Nat} {v : Value} {xs : List Value} (ho : w.ownsRow B 5 1 v n xs) (hg : w.grownBy w' v.ownBlock) : LabKept w w' := fun b cs fz hb => hg.block b (Array.getElem?_eq_some_iff.1 hb).1 (fun e => by
  rcases ho.2 with ⟨rfl, _⟩ | ⟨q, cap, cur, rfl, _, hq, _⟩
  · cases e
  · obtain rfl : q = b := by simpa [Value.ownBlock] using e.symm
    rw [hq] at hb
    injection hb with hb
    injection hb with _ hb
    exact absurd hb (by decide))
theorem LabKept.below {w w' : World} (h : Below w.heap.size w w') : LabKept w w' := fun b cs fz hb => h.block b (Array.getElem?_eq_some_iff.1 hb).1
/-- The bytes have grown, and lie in the closure's block. -/
theorem KeyB.put {B bb n : Nat} {w0 w wa w1 : World} {l news : List UInt8} {v v' : Value} (h : Below B w0 w) (hv : w.heap[bb]? = some (.cells #[v] 175 (0, 0))) (ho : w.ownsRow B 5 1 v l.length (bytesV l)) (hB : B ≤ w.heap.size) (hBb : B ≤ bb)
    (ha : Below w.heap.size w wa) (hn : n = (l ++ news).length) (hown : w1.ownsRow B 5 1 v' n (bytesV (l ++ news))) (hg : wa.grownBy w1 v.ownBlock) :
    KeyB B bb w0 (w1.setCell ⟨bb, 0, none⟩ v') (l ++ news) ∧ w1.heap[bb]? = some (.cells #[v] 175 (0, 0)) ∧ w.heap.size ≤ (w1.setCell ⟨bb, 0, none⟩ v').heap.size ∧ (w1.setCell ⟨bb, 0, none⟩ v').ownsRow B 5 1 v' n (bytesV (l ++ news)) ∧ Below B w0 (w1.setCell ⟨bb, 0, none⟩ v') ∧
    (w1.setCell ⟨bb, 0, none⟩ v').heap[bb]? = some (.cells #[v'] 175 (0, 0)) ∧ LabKept w (w1.setCell ⟨bb, 0, none⟩ v') := by
  have hlt := (Array.getElem?_eq_some_iff.1 hv).1
  have hne := row_ne hv ho
  have hs := ha.size
  have hs1 := hg.size
  have hv1 : w1.heap[bb]? = some (.cells #[v] 175 (0, 0)) := (hg.block bb (by omega) (fun e => hne e.symm)).trans ((ha.block bb hlt).trans hv)
  have hne1 := row_ne hv1 hown
  have h2 : GrownIn (fun k => k = bb) w1 (w1.setCell ⟨bb, 0, none⟩ v') := ⟨rfl, rfl, rfl, by simp [World.setCell], fun k _ hk => Below.heap_setCell _ _ _ _ (fun e => hk e)⟩
  have h3 := h2.owns hown (fun k hk e => hne1 (by rw [hk, e]))
  have h4 : Below B w0 (w1.setCell ⟨bb, 0, none⟩ v') := (((h.trans (ha.mono hB)).grown hg (by omega) (fun j hj => (ho.lt j hj).1))).setCell hBb _
  have h5 : (w1.setCell ⟨bb, 0, none⟩ v').heap[bb]? = some (.cells #[v'] 175 (0, 0)) := heap_setCell_same _ _ _ _ _ _ hv1
  have h6 : LabKept w1 (w1.setCell ⟨bb, 0, none⟩ v') := fun b cs fz hb => Below.heap_setCell _ _ _ _ (fun e => by
    have e : b = bb := e
    rw [e, hv1] at hb
    injection hb with hb
    injection hb with _ hb
    exact absurd hb (by decide))
  exact ⟨⟨⟨_, h5, by subst hn; exact h3⟩, h4⟩, hv1, by simp [World.setCell]; omega, h3, h4, h5, ((LabKept.below ha).trans (LabKept.grown (owns_below ho ha) hg)).trans h6⟩
set_option maxHeartbeats 4000000 in
set_option maxRecDepth 100000 in
theorem keyPut_any (B bb : Nat) (l : List UInt8) (s : ByteArray) (w0 w : World) (h : KeyB B bb w0 w l) (hB : B ≤ w.heap.size) (hBb : B ≤ bb) (hn : l.length ≤ 100000000) (hs : s.size ≤ 10000000) :
    Calls Tryz.prog 110 #[.string s, .pointer (some ⟨bb, 0, none⟩)] w fun e w' => e = .returned (.tuple #[]) ∧ KeyB B bb w0 w' (l ++ putK s.data.toList) ∧ w.heap.size ≤ w'.heap.size ∧ LabKept w w' := by
  obtain ⟨i0, hi, hz0, hz1, hz2⟩ := info_parts Tryz.infoByte
  have hsz : s.size = s.data.toList.length := (Array.length_toList).symm
  have HO := Lib.hid h
  have HI := Lib.hid (show _ ∧ _ ∧ _ ∧ _ ∧ _ from ⟨hsz, hi, hz0, hz1, hz2⟩)
  clear h hsz hi hz0 hz1 hz2
  go_enter Tryz.func110, Tryz.ntmps110
  go_wp2
  go_loopw [3] (fun nv wr => ∃ (m : Nat) (l' : List UInt8), nv = .int .u64 m ∧ m ≤ 10000000 ∧ Hid (KeyB B bb w0 wr l' ∧ l' ++ vint m = l ++ vint s.size ∧ w.heap.size ≤ wr.heap.size ∧ LabKept w wr) ∧ l'.length ≤ 200000000 + s.size - m) (fun nv _ => (intOf nv).toNat)
  case atStart => exact ⟨s.size, l, rfl, hs, Lib.hid ⟨HO.out, rfl, Nat.le_refl _, LabKept.refl _⟩, by omega⟩
  case round =>
    obtain ⟨m, l', rfl, hm, HR, hl'⟩ := hrel
    obtain ⟨v, hv, ho⟩ := HR.out.1.cell
    obtain ⟨c0, f0⟩ := own_row_cells hv
    have hsz := HR.out.2.2.1
    obtain ⟨p, hp⟩ : ∃ p, m % 128 = p := ⟨_, rfl⟩
    have hand := u64_and127 m hm
    rw [hp] at hand
    have hp1 : p < 128 := by omega
    have hp2 : (p : Int) % 256 = p := by omega
    have hpb : ((UInt8.ofNat p).toNat : Int) = p := by rw [ofNat_toNat (by omega)]
    have hbv : bytesV [UInt8.ofNat p] = [.int .u8 (p : Int)] := by show [Value.int .u8 ((UInt8.ofNat p).toNat : Int)] = _; rw [hpb]
    obtain ⟨-, hi, hz0, hz1, hz2⟩ := HI.out
    have HV := Lib.hid (show _ ∧ _ ∧ _ ∧ _ from ⟨hv, ho, hbv, hp⟩)
    clear hv ho hbv hpb hp
    by_cases hlt : m < 128
    · have mm : (m : Int) < 128 := by omega
      go_wp2_with (at_builtin; refine wpList_append_full _ rfl _ _ 175 rfl B 5 i0 _ 1 1 Tryz.underlying175 hi hz0 hz1 hz2 rfl (by omega) _ l'.length (bytesV l') rfl (HV.out.2.1.alloc _) ⟨wr.heap.size, 0, none⟩ 1 1 [.int .u8 (p : Int)] rfl rfl (cells_newL wr [.int .u8 (p : Int)] _) (by simp [Value.oneCell']) (by omega) (by unfold maxLen; omega) (by omega) (by simp; omega) ?_)
      intro g cap w1 hown hg _ _
      have hba : Below wr.heap.size wr (wr.alloc (.cells #[.int .u8 (p : Int)] 5)) := (Below.refl _ _).alloc (Nat.le_refl _) _
      have hput := KeyB.put (n := l'.length + 1) (news := [UInt8.ofNat p]) HR.out.1.old HV.out.1 HV.out.2.1 (by omega) hBb hba (by simp) (by rw [bytesV_append, HV.out.2.2.1]; exact hown) hg
      obtain ⟨c1, f1⟩ := own_row_cells hput.2.1
      have hvl : vint m = [UInt8.ofNat p] := by rw [vint_lt hlt, ← HV.out.2.2.2, Nat.mod_eq_of_lt hlt]
      have HP := Lib.hid (show _ ∧ _ from ⟨hput, hvl⟩)
      clear hput hown hg hba c0 f0 hvl
      go_wp2_with (at_builtin; refine wpList_append_own_string _ rfl _ _ 175 9 rfl B 5 i0 Tryz.underlying175 Tryz.underlying9 hi hz0 hz1 hz2 _ (l'.length + 1) _ rfl HP.out.1.2.2.2.1 s rfl (by unfold maxLen; omega) (by omega) (by have := HP.out.1.2.2.1; omega) ?_)
      intro v2 w2 ho2 hg2 _
      obtain ⟨A2, q2, rfl, _, _⟩ := owns_slice ho2
      have hput2 := KeyB.put (n := l'.length + 1 + s.size) (news := s.data.toList) HP.out.1.2.2.2.2.1 HP.out.1.2.2.2.2.2.1 (by have := HP.out.1.2.2.2.1; rw [List.length_append]; exact this) (by have := HP.out.1.2.2.1; omega) hBb (Below.refl _ _) (by have := HI.out.1; simp; omega) (by rw [bytesV_append, ← strCells_bytes]; exact ho2) hg2
      obtain ⟨c2, f2⟩ := own_row_cells hput2.2.1
      have HP2 := Lib.hid hput2
      clear hput2 ho2 hg2 c1 f1 hi hz0 hz1 hz2
      go_wp2
      go_end0
      refine ⟨rfl, ?_, by have := HP.out.1.2.2.1; have := HP2.out.2.2.1; omega, (HR.out.2.2.2.trans HP.out.1.2.2.2.2.2.2).trans HP2.out.2.2.2.2.2.2⟩
      have e : l ++ putK s.data.toList = l' ++ [UInt8.ofNat p] ++ s.data.toList := by
        unfold putK
        rw [← HI.out.1, ← List.append_assoc, ← HR.out.2.1, HP.out.2]
      rw [e]
      exact HP2.out.1
    · have mm : ¬ (m : Int) < 128 := by omega
      have mm2 : (128 : Int) ≤ (m : Int) := by omega
      have hor := u8_or128 p hp1
      go_wp2_with (at_builtin; refine wpList_append_full _ rfl _ _ 175 rfl B 5 i0 _ 1 1 Tryz.underlying175 hi hz0 hz1 hz2 rfl (by omega) _ l'.length (bytesV l') rfl (HV.out.2.1.alloc _) ⟨wr.heap.size, 0, none⟩ 1 1 [.int .u8 (p : Int)] rfl rfl (cells_newL wr [.int .u8 (p : Int)] _) (by simp [Value.oneCell']) (by omega) (by unfold maxLen; omega) (by omega) (by simp; omega) ?_)
      intro g cap w1 hown hg _ _
      have hba : Below wr.heap.size wr (wr.alloc (.cells #[.int .u8 (p : Int)] 5)) := (Below.refl _ _).alloc (Nat.le_refl _) _
      have hput := KeyB.put (n := l'.length + 1) (news := [UInt8.ofNat p]) HR.out.1.old HV.out.1 HV.out.2.1 (by omega) hBb hba (by simp) (by rw [bytesV_append, HV.out.2.2.1]; exact hown) hg
      obtain ⟨c1, f1⟩ := own_row_cells hput.2.1
      have hgne : g ≠ bb := fun e => row_ne hput.2.1 hown (by rw [e]; rfl)
      have hgne' : bb ≠ g := fun e => hgne e.symm
      have he := owns_cell hown (g := g) rfl (t := l'.length) (u := .int .u8 (p : Int)) (by rw [List.getElem?_append_right (by rw [bytesV_length]; exact Nat.le_refl _), bytesV_length, Nat.sub_self]; rfl)
      have hef := hown.frozenAt l'.length
      have HP := Lib.hid (show _ ∧ _ from ⟨hput, hown⟩)
      clear hput hown hg hba c0 f0
      go_wp2_with fail
      obtain ⟨hs3, hs4⟩ := HP.out.1.2.2.2.1.stored l'.length (.int .u8 ((p : Int) + 128))
      have hnb : (((UInt8.ofNat (p + 128)).toNat : Nat) : Int) = (p : Int) + 128 := by rw [ofNat_toNat (by omega)]; omega
      have hset : (bytesV (l' ++ [UInt8.ofNat p])).set l'.length (.int .u8 ((p : Int) + 128)) = bytesV (l' ++ [UInt8.ofNat (p + 128)]) := by
        rw [bytesV_append, bytesV_append, List.set_append_right _ _ (by rw [bytesV_length]; exact Nat.le_refl _), bytesV_length, Nat.sub_self]
        show bytesV l' ++ [_] = bytesV l' ++ [Value.int .u8 ((UInt8.ofNat (p + 128)).toNat : Int)]
        rw [hnb]
      rw [hset] at hs3
      go_roundw
      case measure => simp [intOf]; omega
      case rel =>
        refine ⟨m / 128, l' ++ [UInt8.ofNat (p + 128)], by simp, by omega, Lib.hid ⟨⟨⟨_, (hs4.block bb (Array.getElem?_eq_some_iff.1 HP.out.1.2.2.2.2.2.1).1 (fun e => hgne' (by simpa [Value.ownBlock] using e))).trans HP.out.1.2.2.2.2.2.1, by rw [show (l' ++ [UInt8.ofNat (p + 128)]).length = l'.length + 1 by simp]; exact hs3⟩, ?_⟩, ?_, ?_, (HR.out.2.2.2.trans HP.out.1.2.2.2.2.2.2).trans (LabKept.grown HP.out.1.2.2.2.1 hs4)⟩, by simp; omega⟩
        · exact HP.out.1.2.2.2.2.1.setCell (HP.out.1.2.2.2.1.lt g rfl).1 _
        · rw [← HR.out.2.1, vint_ge hlt, HV.out.2.2.2, List.append_assoc]; rfl
        · have := HP.out.1.2.2.1
          have h2 := hs4.size
          omega
theorem keyL_mem {l : List Lb} {x : Lb} (h : x ∈ l) : x.nm.size ≤ (keyL l).length ∧ x.vl.size ≤ (keyL l).length := by
  induction l with
  | nil => cases h
  | cons y l ih =>
    have e : (keyL (y :: l)).length = (labK y).length + (keyL l).length := by show (labK y ++ keyL l).length = _; rw [List.length_append]
    have e2 : (labK y).length = (vint y.nm.data.toList.length).length + y.nm.data.toList.length + ((vint y.vl.data.toList.length).length + y.vl.data.toList.length) := by
      unfold labK putK; rw [List.length_append, List.length_append, List.length_append]
    have e3 : y.nm.data.toList.length = y.nm.size := by rw [Array.length_toList]; rfl
    have e4 : y.vl.data.toList.length = y.vl.size := by rw [Array.length_toList]; rfl
    rcases List.mem_cons.1 h with rfl | h
    · omega
    · have := ih h; omega
theorem keyL_take (l : List Lb) (k : Nat) : (keyL (l.take k)).length ≤ (keyL l).length := by
  have h : keyL l = keyL (l.take k) ++ keyL (l.drop k) := by unfold keyL; rw [← List.flatMap_append, List.take_append_drop]
  rw [h, List.length_append]; omega
def keyS (L : List Lb) : ByteArray := ⟨(keyL L).toArray⟩
set_option maxHeartbeats 4000000 in
set_option maxRecDepth 100000 in
theorem key_any (A : Option Addr) (n c : Nat) (l : List Lb) (w : World) (hL : Lst Lb.cells 2 w w.heap.size A n l) (hn : n ≤ 1000000) (hk : (keyL l).length ≤ 10000000) :
    Calls Tryz.prog 79 #[.slice A n c] w fun e w' => e = .returned (.string (keyS l)) ∧ Below w.heap.size w w' := by
  have HL := Lib.hid hL
  clear hL
  go_enter Tryz.func79, Tryz.ntmps79
  go_wp2
  have h0 : KeyB w.heap.size w.heap.size w (w.alloc (.cells #[.slice none 0 0] 175)) (keyL (l.take 0)) := ⟨⟨_, heap_alloc_new _ _, World.ownsRow_nil _ _ _ _⟩, (Below.refl _ _).alloc (Nat.le_refl _) _⟩
  have hs0 : w.heap.size + 1 ≤ (w.alloc (.cells #[.slice none 0 0] 175)).heap.size := by simp
  have H0 := Lib.hid (show _ ∧ _ from ⟨h0, hs0⟩)
  clear h0 hs0
  go_loopw [6, 10] (fun _ iv wr => ∃ k : Nat, k ≤ n ∧ iv = .int .i64 k ∧ Hid (KeyB w.heap.size w.heap.size w wr (keyL (l.take k)) ∧ w.heap.size + 1 ≤ wr.heap.size)) (fun _ iv _ => n - (intOf iv).toNat)
  case atStart => exact ⟨0, Nat.zero_le _, rfl, H0⟩
  case round =>
    obtain ⟨k, hk2, rfl, HR⟩ := hrel
    have hsz := HR.out.2
    by_cases hlt : k < n
    · obtain ⟨b, off, x, rfl, hb, hx, hcl⟩ := HL.out.at hlt
      have c0 := (HR.out.1.old.cell (p := ⟨b, off + k * 2 + 0, none⟩) hb).trans (hcl 0 _ rfl)
      have c1 := (HR.out.1.old.cell (p := ⟨b, off + k * 2 + 1, none⟩) hb).trans (hcl 1 _ rfl)
      simp only [Nat.add_zero] at c0
      have hmem := keyL_mem (List.mem_of_getElem? hx)
      have htk := keyL_take l k
      have hnx : keyL (l.take (k + 1)) = keyL (l.take k) ++ putK x.nm.data.toList ++ putK x.vl.data.toList := by
        obtain ⟨q1, q2⟩ := List.getElem?_eq_some_iff.1 hx
        rw [List.take_succ_eq_append_getElem q1, q2]
        unfold keyL
        rw [List.flatMap_append, List.flatMap_singleton, List.append_assoc]
        rfl
      have hkb : KeyB w.heap.size w.heap.size w (wr.alloc (.cells #[.string x.nm, .string x.vl] 29)) (keyL (l.take k)) := HR.out.1.below (by omega) ((Below.refl _ _).alloc (Nat.le_refl _) _)
      have hbox : (wr.alloc (.cells #[.string x.nm, .string x.vl] 29)).heap[wr.heap.size]? = some (.cells #[.string x.nm, .string x.vl] 29 (0, 0)) := heap_alloc_new _ _
      have hsa : wr.heap.size + 1 ≤ (wr.alloc (.cells #[.string x.nm, .string x.vl] 29)).heap.size := by simp
      have hpl := putK_len x.nm.data.toList
      have hpn : x.nm.data.toList.length = x.nm.size := by rw [Array.length_toList]; rfl
      have HX := Lib.hid (show _ ∧ _ ∧ _ ∧ _ ∧ _ ∧ _ from ⟨hmem, htk, hnx, hkb, hbox, (⟨hsa, hpl, hpn⟩ : _ ∧ _ ∧ _)⟩)
      clear hmem htk hnx hkb hbox hcl hx hsa hpl hpn
      go_wp2_with fail
      refine (keyPut_any w.heap.size w.heap.size (keyL (l.take k)) x.nm w _ HX.out.2.2.2.1 (by have := HX.out.2.2.2.2.2.1; omega) (Nat.le_refl _) (by have := HX.out.2.1; omega) (by have := HX.out.1.1; omega)).mono ?_
      rintro e w2 ⟨rfl, h2, hs2, hk2'⟩
      have hb2 := (hk2' _ _ _ HX.out.2.2.2.2.1).trans HX.out.2.2.2.2.1
      have e1 : w2.cell? ⟨wr.heap.size, 1, none⟩ = some (.string x.vl) := by rw [cell_of_row w2 _ 1 _ _ _ hb2]; rfl
      have H2 := Lib.hid (show _ ∧ _ from ⟨h2, hs2⟩)
      clear h2 hs2 hk2' hb2 c0 c1
      go_wp2_with fail
      refine (keyPut_any w.heap.size w.heap.size _ x.vl w _ H2.out.1 (by have := HX.out.2.2.2.2.2.1; have := H2.out.2; omega) (Nat.le_refl _) (by have := HX.out.2.1; have := HX.out.2.2.2.2.2.2; have := HX.out.1.1; rw [List.length_append]; omega) (by have := HX.out.1.2; omega)).mono ?_
      rintro e w3 ⟨rfl, h3, hs3, _⟩
      have H3 := Lib.hid (show _ ∧ _ from ⟨h3, hs3⟩)
      clear h3 hs3 e1
      go_wp2
      go_roundw
      case measure => simp [intOf]; omega
      case rel => exact ⟨k + 1, hlt, by simp, Lib.hid ⟨by rw [HX.out.2.2.1]; exact H3.out.1, by have := HX.out.2.2.2.2.2.1; have := H2.out.2; have := H3.out.2; omega⟩⟩
    · obtain rfl : k = n := by omega
      have hfin := HR.out.1
      rw [List.take_of_length_le (by have := HL.out.1; omega)] at hfin
      obtain ⟨v, hv, ho⟩ := hfin.cell
      obtain ⟨c0, f0⟩ := own_row_cells hv
      have hconv := own_text ho
      have hold := hfin.old
      have HF := Lib.hid hold
      clear hv ho hfin hold
      go_wp2
      go_ret
      exact ⟨rfl, HF.out⟩
end Go.Proofs.YtihidnmpngeohaaGreat
