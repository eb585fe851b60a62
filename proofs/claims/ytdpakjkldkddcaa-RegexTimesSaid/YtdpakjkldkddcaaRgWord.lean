/- Patterns: RegexWord, walked at any texts. -/
import Derived.Test.YtdpakjkldkddcaaRgHex
import Derived.Test.YtdpakjkldkddcaaG49
namespace Go.Proofs.Ytdpakjkldkddcaa
open Go.RowKit Go.Lib
open RX (PS Tr Pr Stp Th)

theorem escW_take {l : List UInt8} {i : Nat} {c : UInt8} (h : l[i]? = some c) : RX.escW (l.take (i + 1)) = RX.escW (l.take i) ++ RX.escB c := by
  obtain ⟨h1, h2⟩ := List.getElem?_eq_some_iff.1 h
  unfold RX.escW
  rw [List.take_succ_eq_append_getElem h1, h2, List.flatMap_append]
  simp
theorem bytesV_one (c : UInt8) : [Value.int .u8 c.toNat] = bytesV [c] := rfl
/-- A row of one's own grown by one. -/
theorem grown_after {B : Nat} {w0 W w6 : World} {o : Obj} {v : Value} {n : Nat} {e : TypeId} {sz : Nat} {xs : List Value} (hb : Below B w0 W) (hB : B ≤ W.heap.size) (ho : W.ownsRow B e sz v n xs) (hg : (W.alloc o).grownBy w6 v.ownBlock) : Below B w0 w6 :=
  (hb.alloc hB o).grown hg (by simp; omega) fun k hk => (ho.lt k hk).1
set_option maxHeartbeats 16000000 in
set_option maxRecDepth 100000 in
theorem regexWord_any (p s : ByteArray) (w : World) : Calls Try.prog 4 #[.string p, .string s] w fun e w' => e = .returned (.bool true) ∧ Below w.heap.size w w' := by
  by_cases hs : p.size ≤ 200 ∧ s.size ≤ 2000
  · obtain ⟨hs1, hs2⟩ := hs
    have i1 : ¬ (200 : Int) < (p.size : Int) := by omega
    have i2 : ¬ (2000 : Int) < (s.size : Int) := by omega
    obtain ⟨i0, hi0, hz0, hz1, hz2⟩ := info_parts Try.infoByteM
    have HI := Lib.hid (show _ ∧ _ ∧ _ ∧ _ from ⟨hi0, hz0, hz1, hz2⟩)
    have HS := Lib.hid (show _ ∧ _ from ⟨hs1, hs2⟩)
    have hps := hs1
    clear hs1 hs2 hi0 hz0 hz1 hz2
    go_enter Try.func4, Try.ntmps4
    go_wp2_with fail
    refine (known_any w).mono ?_
    rintro e w1 ⟨rfl, hb1⟩
    have H1 := Lib.hid hb1
    clear hb1
    go_wp2_with fail
    go_loopg [5, 6] (p.size + 1) (fun gk pv iv wr => ∃ (i n : Nat), gk + i = p.size + 1 ∧ i ≤ p.size ∧ iv = .int .i64 i ∧ n ≤ 2 * i ∧ Hid (wr.ownsRow w1.heap.size 5 1 pv n (bytesV (RX.escW (p.data.toList.take i))) ∧ Below w1.heap.size w1 wr))
    case atStart => exact ⟨0, 0, rfl, Nat.zero_le _, rfl, Nat.le_refl _, Lib.hid ⟨⟨rfl, .inl ⟨rfl, rfl⟩⟩, Below.refl _ _⟩⟩
    case round =>
      obtain ⟨i, n, hgk, hip, rfl, hn2, HR⟩ := hrel
      have w2 : IntKind.i64.wrap ((i : Int) + 1) = (i : Int) + 1 := IntWalk.i64_in _ (by omega)
      obtain ⟨Ap, cp, rfl, _, _⟩ := owns_slice HR.out.1
      by_cases hlt : i < p.size
      · have i3 : (i : Int) < (p.size : Int) := by omega
        have i4 : (0 : Int) ≤ (i : Int) := by omega
        obtain ⟨c, hc⟩ : ∃ c, p[i]'hlt = c := ⟨_, rfl⟩
        have hby : p.data.toList[i]? = some c := by rw [← hc]; exact byte_at hlt
        have htk := escW_take hby
        obtain ⟨hi0, hz0, hz1, hz2⟩ := HI.out
        have hle : w1.heap.size ≤ wr.heap.size := HR.out.2.size
        have hor := HR.out.1
        have hgk1 : gk - 1 < gk := by omega
        have hsg : RX.signC c = (decide (33 ≤ c.toNat ∧ c.toNat ≤ 126) && !(decide (97 ≤ c.toNat ∧ c.toNat ≤ 122) || decide (65 ≤ c.toNat ∧ c.toNat ≤ 90) || decide (48 ≤ c.toNat ∧ c.toNat ≤ 57))) := rfl
        rcases byte_parts c with ⟨h1, h2⟩ | ⟨h1, h2⟩ | ⟨h1, h2⟩ | ⟨h1, h2⟩ | ⟨h1, h2⟩ | ⟨h1, h2⟩ | ⟨h1, h2⟩ | ⟨h1, h2⟩ | ⟨h1, h2⟩
        · have he : RX.escB c = [c] := by
            unfold RX.escB
            rw [if_neg (by rw [hsg]; simp; omega)]
          have t0 : ¬ ((97 : Int) ≤ ((c.toNat : Nat) : Int)) := by omega
          have t1 : (((c.toNat : Nat) : Int) ≤ (122 : Int)) := by omega
          have t2 : ¬ ((65 : Int) ≤ ((c.toNat : Nat) : Int)) := by omega
          have t3 : (((c.toNat : Nat) : Int) ≤ (90 : Int)) := by omega
          have t4 : ¬ ((48 : Int) ≤ ((c.toNat : Nat) : Int)) := by omega
          have t5 : (((c.toNat : Nat) : Int) ≤ (57 : Int)) := by omega
          have t6 : ¬ ((33 : Int) ≤ ((c.toNat : Nat) : Int)) := by omega
          have t7 : (((c.toNat : Nat) : Int) ≤ (126 : Int)) := by omega
          have HE := Lib.hid (show _ ∧ _ from ⟨he, htk⟩)
          clear h1 h2 hsg he htk hby
          go_wp2_with (first
            | (at_builtin; refine wpList_append_full _ rfl _ _ 26 rfl w1.heap.size 5 i0 _ 1 1 Try.underlying26 hi0 hz0 hz1 hz2 rfl (by omega) (.slice Ap n cp) n (bytesV (RX.escW (p.data.toList.take i))) rfl (hor.alloc _) ⟨(wr).heap.size, 0, none⟩ 1 1 [.int .u8 c.toNat] rfl rfl (cells_newL (wr) [.int .u8 c.toNat] _) (by simp [Value.oneCell']) (by omega) (by unfold maxLen; omega) (by omega) (by simp; omega) ?_; intro g6 c6 w6 hown6 hg6 hl6 _; have H6 := Lib.hid (show _ ∧ _ from ⟨hown6, grown_after HR.out.2 hle hor hg6⟩); clear hown6 hg6 hl6)
            | fail)
          go_roundg (gk - 1)
          case measure => exact hgk1
          case rel =>
            refine ⟨i + 1, n + 1, by omega, hlt, by simp, by omega, Lib.hid ⟨?_, H6.out.2⟩⟩
            rw [HE.out.2, HE.out.1, bytesV_append]
            have h := H6.out.1
            skip
            exact h
        · have he : RX.escB c = [92, c] := by
            unfold RX.escB
            rw [if_pos (by rw [hsg]; simp; omega)]
          have t0 : ¬ ((97 : Int) ≤ ((c.toNat : Nat) : Int)) := by omega
          have t1 : (((c.toNat : Nat) : Int) ≤ (122 : Int)) := by omega
          have t2 : ¬ ((65 : Int) ≤ ((c.toNat : Nat) : Int)) := by omega
          have t3 : (((c.toNat : Nat) : Int) ≤ (90 : Int)) := by omega
          have t4 : ¬ ((48 : Int) ≤ ((c.toNat : Nat) : Int)) := by omega
          have t5 : (((c.toNat : Nat) : Int) ≤ (57 : Int)) := by omega
          have t6 : ((33 : Int) ≤ ((c.toNat : Nat) : Int)) := by omega
          have t7 : (((c.toNat : Nat) : Int) ≤ (126 : Int)) := by omega
          have HE := Lib.hid (show _ ∧ _ from ⟨he, htk⟩)
          clear h1 h2 hsg he htk hby
          go_wp2_with (first
            | (at_builtin; refine wpList_append_full _ rfl _ _ 26 rfl w1.heap.size 5 i0 _ 1 1 Try.underlying26 hi0 hz0 hz1 hz2 rfl (by omega) (.slice Ap n cp) n (bytesV (RX.escW (p.data.toList.take i))) rfl (hor.alloc _) ⟨(wr).heap.size, 0, none⟩ 1 1 [.int .u8 92] rfl rfl (cells_newL (wr) [.int .u8 92] _) (by simp [Value.oneCell']) (by omega) (by unfold maxLen; omega) (by omega) (by simp; omega) ?_; intro g6 c6 w6 hown6 hg6 hl6 _; have hb6 := grown_after HR.out.2 hle hor hg6; have hle6 : w1.heap.size ≤ w6.heap.size := hb6.size; have hor6 := hown6; have HH6 := Lib.hid hb6; clear hb6; clear hown6 hg6 hl6)
            | (at_builtin; refine wpList_append_full _ rfl _ _ 26 rfl w1.heap.size 5 i0 _ 1 1 Try.underlying26 hi0 hz0 hz1 hz2 rfl (by omega) (.slice (some ⟨g6, 0, none⟩) (n + 1) c6) (n + 1) ((bytesV (RX.escW (p.data.toList.take i))) ++ [.int .u8 92]) rfl (hor6.alloc _) ⟨(w6).heap.size, 0, none⟩ 1 1 [.int .u8 c.toNat] rfl rfl (cells_newL (w6) [.int .u8 c.toNat] _) (by simp [Value.oneCell']) (by omega) (by unfold maxLen; omega) (by omega) (by simp; omega) ?_; intro g7 c7 w7 hown6 hg6 hl6 _; have H6 := Lib.hid (show _ ∧ _ from ⟨hown6, grown_after HH6.out hle6 hor6 hg6⟩); clear hown6 hg6 hl6)
            | fail)
          go_roundg (gk - 1)
          case measure => exact hgk1
          case rel =>
            refine ⟨i + 1, n + 2, by omega, hlt, by simp, by omega, Lib.hid ⟨?_, H6.out.2⟩⟩
            rw [HE.out.2, HE.out.1, bytesV_append]
            have h := H6.out.1
            rw [List.append_assoc] at h
            exact h
        · have he : RX.escB c = [c] := by
            unfold RX.escB
            rw [if_neg (by rw [hsg]; simp; omega)]
          have t0 : ¬ ((97 : Int) ≤ ((c.toNat : Nat) : Int)) := by omega
          have t1 : (((c.toNat : Nat) : Int) ≤ (122 : Int)) := by omega
          have t2 : ¬ ((65 : Int) ≤ ((c.toNat : Nat) : Int)) := by omega
          have t3 : (((c.toNat : Nat) : Int) ≤ (90 : Int)) := by omega
          have t4 : ((48 : Int) ≤ ((c.toNat : Nat) : Int)) := by omega
          have t5 : (((c.toNat : Nat) : Int) ≤ (57 : Int)) := by omega
          have t6 : ((33 : Int) ≤ ((c.toNat : Nat) : Int)) := by omega
          have t7 : (((c.toNat : Nat) : Int) ≤ (126 : Int)) := by omega
          have HE := Lib.hid (show _ ∧ _ from ⟨he, htk⟩)
          clear h1 h2 hsg he htk hby
          go_wp2_with (first
            | (at_builtin; refine wpList_append_full _ rfl _ _ 26 rfl w1.heap.size 5 i0 _ 1 1 Try.underlying26 hi0 hz0 hz1 hz2 rfl (by omega) (.slice Ap n cp) n (bytesV (RX.escW (p.data.toList.take i))) rfl (hor.alloc _) ⟨(wr).heap.size, 0, none⟩ 1 1 [.int .u8 c.toNat] rfl rfl (cells_newL (wr) [.int .u8 c.toNat] _) (by simp [Value.oneCell']) (by omega) (by unfold maxLen; omega) (by omega) (by simp; omega) ?_; intro g6 c6 w6 hown6 hg6 hl6 _; have H6 := Lib.hid (show _ ∧ _ from ⟨hown6, grown_after HR.out.2 hle hor hg6⟩); clear hown6 hg6 hl6)
            | fail)
          go_roundg (gk - 1)
          case measure => exact hgk1
          case rel =>
            refine ⟨i + 1, n + 1, by omega, hlt, by simp, by omega, Lib.hid ⟨?_, H6.out.2⟩⟩
            rw [HE.out.2, HE.out.1, bytesV_append]
            have h := H6.out.1
            skip
            exact h
        · have he : RX.escB c = [92, c] := by
            unfold RX.escB
            rw [if_pos (by rw [hsg]; simp; omega)]
          have t0 : ¬ ((97 : Int) ≤ ((c.toNat : Nat) : Int)) := by omega
          have t1 : (((c.toNat : Nat) : Int) ≤ (122 : Int)) := by omega
          have t2 : ¬ ((65 : Int) ≤ ((c.toNat : Nat) : Int)) := by omega
          have t3 : (((c.toNat : Nat) : Int) ≤ (90 : Int)) := by omega
          have t4 : ((48 : Int) ≤ ((c.toNat : Nat) : Int)) := by omega
          have t5 : ¬ (((c.toNat : Nat) : Int) ≤ (57 : Int)) := by omega
          have t6 : ((33 : Int) ≤ ((c.toNat : Nat) : Int)) := by omega
          have t7 : (((c.toNat : Nat) : Int) ≤ (126 : Int)) := by omega
          have HE := Lib.hid (show _ ∧ _ from ⟨he, htk⟩)
          clear h1 h2 hsg he htk hby
          go_wp2_with (first
            | (at_builtin; refine wpList_append_full _ rfl _ _ 26 rfl w1.heap.size 5 i0 _ 1 1 Try.underlying26 hi0 hz0 hz1 hz2 rfl (by omega) (.slice Ap n cp) n (bytesV (RX.escW (p.data.toList.take i))) rfl (hor.alloc _) ⟨(wr).heap.size, 0, none⟩ 1 1 [.int .u8 92] rfl rfl (cells_newL (wr) [.int .u8 92] _) (by simp [Value.oneCell']) (by omega) (by unfold maxLen; omega) (by omega) (by simp; omega) ?_; intro g6 c6 w6 hown6 hg6 hl6 _; have hb6 := grown_after HR.out.2 hle hor hg6; have hle6 : w1.heap.size ≤ w6.heap.size := hb6.size; have hor6 := hown6; have HH6 := Lib.hid hb6; clear hb6; clear hown6 hg6 hl6)
            | (at_builtin; refine wpList_append_full _ rfl _ _ 26 rfl w1.heap.size 5 i0 _ 1 1 Try.underlying26 hi0 hz0 hz1 hz2 rfl (by omega) (.slice (some ⟨g6, 0, none⟩) (n + 1) c6) (n + 1) ((bytesV (RX.escW (p.data.toList.take i))) ++ [.int .u8 92]) rfl (hor6.alloc _) ⟨(w6).heap.size, 0, none⟩ 1 1 [.int .u8 c.toNat] rfl rfl (cells_newL (w6) [.int .u8 c.toNat] _) (by simp [Value.oneCell']) (by omega) (by unfold maxLen; omega) (by omega) (by simp; omega) ?_; intro g7 c7 w7 hown6 hg6 hl6 _; have H6 := Lib.hid (show _ ∧ _ from ⟨hown6, grown_after HH6.out hle6 hor6 hg6⟩); clear hown6 hg6 hl6)
            | fail)
          go_roundg (gk - 1)
          case measure => exact hgk1
          case rel =>
            refine ⟨i + 1, n + 2, by omega, hlt, by simp, by omega, Lib.hid ⟨?_, H6.out.2⟩⟩
            rw [HE.out.2, HE.out.1, bytesV_append]
            have h := H6.out.1
            rw [List.append_assoc] at h
            exact h
        · have he : RX.escB c = [c] := by
            unfold RX.escB
            rw [if_neg (by rw [hsg]; simp; omega)]
          have t0 : ¬ ((97 : Int) ≤ ((c.toNat : Nat) : Int)) := by omega
          have t1 : (((c.toNat : Nat) : Int) ≤ (122 : Int)) := by omega
          have t2 : ((65 : Int) ≤ ((c.toNat : Nat) : Int)) := by omega
          have t3 : (((c.toNat : Nat) : Int) ≤ (90 : Int)) := by omega
          have t4 : ((48 : Int) ≤ ((c.toNat : Nat) : Int)) := by omega
          have t5 : ¬ (((c.toNat : Nat) : Int) ≤ (57 : Int)) := by omega
          have t6 : ((33 : Int) ≤ ((c.toNat : Nat) : Int)) := by omega
          have t7 : (((c.toNat : Nat) : Int) ≤ (126 : Int)) := by omega
          have HE := Lib.hid (show _ ∧ _ from ⟨he, htk⟩)
          clear h1 h2 hsg he htk hby
          go_wp2_with (first
            | (at_builtin; refine wpList_append_full _ rfl _ _ 26 rfl w1.heap.size 5 i0 _ 1 1 Try.underlying26 hi0 hz0 hz1 hz2 rfl (by omega) (.slice Ap n cp) n (bytesV (RX.escW (p.data.toList.take i))) rfl (hor.alloc _) ⟨(wr).heap.size, 0, none⟩ 1 1 [.int .u8 c.toNat] rfl rfl (cells_newL (wr) [.int .u8 c.toNat] _) (by simp [Value.oneCell']) (by omega) (by unfold maxLen; omega) (by omega) (by simp; omega) ?_; intro g6 c6 w6 hown6 hg6 hl6 _; have H6 := Lib.hid (show _ ∧ _ from ⟨hown6, grown_after HR.out.2 hle hor hg6⟩); clear hown6 hg6 hl6)
            | fail)
          go_roundg (gk - 1)
          case measure => exact hgk1
          case rel =>
            refine ⟨i + 1, n + 1, by omega, hlt, by simp, by omega, Lib.hid ⟨?_, H6.out.2⟩⟩
            rw [HE.out.2, HE.out.1, bytesV_append]
            have h := H6.out.1
            skip
            exact h
        · have he : RX.escB c = [92, c] := by
            unfold RX.escB
            rw [if_pos (by rw [hsg]; simp; omega)]
          have t0 : ¬ ((97 : Int) ≤ ((c.toNat : Nat) : Int)) := by omega
          have t1 : (((c.toNat : Nat) : Int) ≤ (122 : Int)) := by omega
          have t2 : ((65 : Int) ≤ ((c.toNat : Nat) : Int)) := by omega
          have t3 : ¬ (((c.toNat : Nat) : Int) ≤ (90 : Int)) := by omega
          have t4 : ((48 : Int) ≤ ((c.toNat : Nat) : Int)) := by omega
          have t5 : ¬ (((c.toNat : Nat) : Int) ≤ (57 : Int)) := by omega
          have t6 : ((33 : Int) ≤ ((c.toNat : Nat) : Int)) := by omega
          have t7 : (((c.toNat : Nat) : Int) ≤ (126 : Int)) := by omega
          have HE := Lib.hid (show _ ∧ _ from ⟨he, htk⟩)
          clear h1 h2 hsg he htk hby
          go_wp2_with (first
            | (at_builtin; refine wpList_append_full _ rfl _ _ 26 rfl w1.heap.size 5 i0 _ 1 1 Try.underlying26 hi0 hz0 hz1 hz2 rfl (by omega) (.slice Ap n cp) n (bytesV (RX.escW (p.data.toList.take i))) rfl (hor.alloc _) ⟨(wr).heap.size, 0, none⟩ 1 1 [.int .u8 92] rfl rfl (cells_newL (wr) [.int .u8 92] _) (by simp [Value.oneCell']) (by omega) (by unfold maxLen; omega) (by omega) (by simp; omega) ?_; intro g6 c6 w6 hown6 hg6 hl6 _; have hb6 := grown_after HR.out.2 hle hor hg6; have hle6 : w1.heap.size ≤ w6.heap.size := hb6.size; have hor6 := hown6; have HH6 := Lib.hid hb6; clear hb6; clear hown6 hg6 hl6)
            | (at_builtin; refine wpList_append_full _ rfl _ _ 26 rfl w1.heap.size 5 i0 _ 1 1 Try.underlying26 hi0 hz0 hz1 hz2 rfl (by omega) (.slice (some ⟨g6, 0, none⟩) (n + 1) c6) (n + 1) ((bytesV (RX.escW (p.data.toList.take i))) ++ [.int .u8 92]) rfl (hor6.alloc _) ⟨(w6).heap.size, 0, none⟩ 1 1 [.int .u8 c.toNat] rfl rfl (cells_newL (w6) [.int .u8 c.toNat] _) (by simp [Value.oneCell']) (by omega) (by unfold maxLen; omega) (by omega) (by simp; omega) ?_; intro g7 c7 w7 hown6 hg6 hl6 _; have H6 := Lib.hid (show _ ∧ _ from ⟨hown6, grown_after HH6.out hle6 hor6 hg6⟩); clear hown6 hg6 hl6)
            | fail)
          go_roundg (gk - 1)
          case measure => exact hgk1
          case rel =>
            refine ⟨i + 1, n + 2, by omega, hlt, by simp, by omega, Lib.hid ⟨?_, H6.out.2⟩⟩
            rw [HE.out.2, HE.out.1, bytesV_append]
            have h := H6.out.1
            rw [List.append_assoc] at h
            exact h
        · have he : RX.escB c = [c] := by
            unfold RX.escB
            rw [if_neg (by rw [hsg]; simp; omega)]
          have t0 : ((97 : Int) ≤ ((c.toNat : Nat) : Int)) := by omega
          have t1 : (((c.toNat : Nat) : Int) ≤ (122 : Int)) := by omega
          have t2 : ((65 : Int) ≤ ((c.toNat : Nat) : Int)) := by omega
          have t3 : ¬ (((c.toNat : Nat) : Int) ≤ (90 : Int)) := by omega
          have t4 : ((48 : Int) ≤ ((c.toNat : Nat) : Int)) := by omega
          have t5 : ¬ (((c.toNat : Nat) : Int) ≤ (57 : Int)) := by omega
          have t6 : ((33 : Int) ≤ ((c.toNat : Nat) : Int)) := by omega
          have t7 : (((c.toNat : Nat) : Int) ≤ (126 : Int)) := by omega
          have HE := Lib.hid (show _ ∧ _ from ⟨he, htk⟩)
          clear h1 h2 hsg he htk hby
          go_wp2_with (first
            | (at_builtin; refine wpList_append_full _ rfl _ _ 26 rfl w1.heap.size 5 i0 _ 1 1 Try.underlying26 hi0 hz0 hz1 hz2 rfl (by omega) (.slice Ap n cp) n (bytesV (RX.escW (p.data.toList.take i))) rfl (hor.alloc _) ⟨(wr).heap.size, 0, none⟩ 1 1 [.int .u8 c.toNat] rfl rfl (cells_newL (wr) [.int .u8 c.toNat] _) (by simp [Value.oneCell']) (by omega) (by unfold maxLen; omega) (by omega) (by simp; omega) ?_; intro g6 c6 w6 hown6 hg6 hl6 _; have H6 := Lib.hid (show _ ∧ _ from ⟨hown6, grown_after HR.out.2 hle hor hg6⟩); clear hown6 hg6 hl6)
            | fail)
          go_roundg (gk - 1)
          case measure => exact hgk1
          case rel =>
            refine ⟨i + 1, n + 1, by omega, hlt, by simp, by omega, Lib.hid ⟨?_, H6.out.2⟩⟩
            rw [HE.out.2, HE.out.1, bytesV_append]
            have h := H6.out.1
            skip
            exact h
        · have he : RX.escB c = [92, c] := by
            unfold RX.escB
            rw [if_pos (by rw [hsg]; simp; omega)]
          have t0 : ((97 : Int) ≤ ((c.toNat : Nat) : Int)) := by omega
          have t1 : ¬ (((c.toNat : Nat) : Int) ≤ (122 : Int)) := by omega
          have t2 : ((65 : Int) ≤ ((c.toNat : Nat) : Int)) := by omega
          have t3 : ¬ (((c.toNat : Nat) : Int) ≤ (90 : Int)) := by omega
          have t4 : ((48 : Int) ≤ ((c.toNat : Nat) : Int)) := by omega
          have t5 : ¬ (((c.toNat : Nat) : Int) ≤ (57 : Int)) := by omega
          have t6 : ((33 : Int) ≤ ((c.toNat : Nat) : Int)) := by omega
          have t7 : (((c.toNat : Nat) : Int) ≤ (126 : Int)) := by omega
          have HE := Lib.hid (show _ ∧ _ from ⟨he, htk⟩)
          clear h1 h2 hsg he htk hby
          go_wp2_with (first
            | (at_builtin; refine wpList_append_full _ rfl _ _ 26 rfl w1.heap.size 5 i0 _ 1 1 Try.underlying26 hi0 hz0 hz1 hz2 rfl (by omega) (.slice Ap n cp) n (bytesV (RX.escW (p.data.toList.take i))) rfl (hor.alloc _) ⟨(wr).heap.size, 0, none⟩ 1 1 [.int .u8 92] rfl rfl (cells_newL (wr) [.int .u8 92] _) (by simp [Value.oneCell']) (by omega) (by unfold maxLen; omega) (by omega) (by simp; omega) ?_; intro g6 c6 w6 hown6 hg6 hl6 _; have hb6 := grown_after HR.out.2 hle hor hg6; have hle6 : w1.heap.size ≤ w6.heap.size := hb6.size; have hor6 := hown6; have HH6 := Lib.hid hb6; clear hb6; clear hown6 hg6 hl6)
            | (at_builtin; refine wpList_append_full _ rfl _ _ 26 rfl w1.heap.size 5 i0 _ 1 1 Try.underlying26 hi0 hz0 hz1 hz2 rfl (by omega) (.slice (some ⟨g6, 0, none⟩) (n + 1) c6) (n + 1) ((bytesV (RX.escW (p.data.toList.take i))) ++ [.int .u8 92]) rfl (hor6.alloc _) ⟨(w6).heap.size, 0, none⟩ 1 1 [.int .u8 c.toNat] rfl rfl (cells_newL (w6) [.int .u8 c.toNat] _) (by simp [Value.oneCell']) (by omega) (by unfold maxLen; omega) (by omega) (by simp; omega) ?_; intro g7 c7 w7 hown6 hg6 hl6 _; have H6 := Lib.hid (show _ ∧ _ from ⟨hown6, grown_after HH6.out hle6 hor6 hg6⟩); clear hown6 hg6 hl6)
            | fail)
          go_roundg (gk - 1)
          case measure => exact hgk1
          case rel =>
            refine ⟨i + 1, n + 2, by omega, hlt, by simp, by omega, Lib.hid ⟨?_, H6.out.2⟩⟩
            rw [HE.out.2, HE.out.1, bytesV_append]
            have h := H6.out.1
            rw [List.append_assoc] at h
            exact h
        · have he : RX.escB c = [c] := by
            unfold RX.escB
            rw [if_neg (by rw [hsg]; simp; omega)]
          have t0 : ((97 : Int) ≤ ((c.toNat : Nat) : Int)) := by omega
          have t1 : ¬ (((c.toNat : Nat) : Int) ≤ (122 : Int)) := by omega
          have t2 : ((65 : Int) ≤ ((c.toNat : Nat) : Int)) := by omega
          have t3 : ¬ (((c.toNat : Nat) : Int) ≤ (90 : Int)) := by omega
          have t4 : ((48 : Int) ≤ ((c.toNat : Nat) : Int)) := by omega
          have t5 : ¬ (((c.toNat : Nat) : Int) ≤ (57 : Int)) := by omega
          have t6 : ((33 : Int) ≤ ((c.toNat : Nat) : Int)) := by omega
          have t7 : ¬ (((c.toNat : Nat) : Int) ≤ (126 : Int)) := by omega
          have HE := Lib.hid (show _ ∧ _ from ⟨he, htk⟩)
          clear h1 h2 hsg he htk hby
          go_wp2_with (first
            | (at_builtin; refine wpList_append_full _ rfl _ _ 26 rfl w1.heap.size 5 i0 _ 1 1 Try.underlying26 hi0 hz0 hz1 hz2 rfl (by omega) (.slice Ap n cp) n (bytesV (RX.escW (p.data.toList.take i))) rfl (hor.alloc _) ⟨(wr).heap.size, 0, none⟩ 1 1 [.int .u8 c.toNat] rfl rfl (cells_newL (wr) [.int .u8 c.toNat] _) (by simp [Value.oneCell']) (by omega) (by unfold maxLen; omega) (by omega) (by simp; omega) ?_; intro g6 c6 w6 hown6 hg6 hl6 _; have H6 := Lib.hid (show _ ∧ _ from ⟨hown6, grown_after HR.out.2 hle hor hg6⟩); clear hown6 hg6 hl6)
            | fail)
          go_roundg (gk - 1)
          case measure => exact hgk1
          case rel =>
            refine ⟨i + 1, n + 1, by omega, hlt, by simp, by omega, Lib.hid ⟨?_, H6.out.2⟩⟩
            rw [HE.out.2, HE.out.1, bytesV_append]
            have h := H6.out.1
            skip
            exact h
      · obtain rfl : i = p.size := by omega
        have i3 : ¬ ((p.size : Nat) : Int) < (p.size : Int) := by omega
        have htk : p.data.toList.take p.size = p.data.toList := List.take_of_length_le (by rw [Array.length_toList]; exact Nat.le_refl _)
        have hcv := own_text HR.out.1
        rw [htk] at hcv
        have hlw := fun t => RX.law_word p.data.toList t (by rw [Array.length_toList]; exact HS.out.1)
        obtain ⟨P, hP⟩ : ∃ P : ByteArray, (⟨(RX.escW p.data.toList).toArray⟩ : ByteArray) = P := ⟨_, rfl⟩
        rw [hP] at hcv
        have hAB : ∀ t : ByteArray, fitA P t = true ∧ fitB P t = decide (t.data.toList = p.data.toList) := fun t => by
          have h := hlw t.data.toList
          rw [← hP]
          unfold fitA fitB
          rw [show (ByteArray.mk (RX.escW p.data.toList).toArray).data.toList = RX.escW p.data.toList by simp, h]
          exact ⟨rfl, rfl⟩
        have HAB := Lib.hid (show _ ∧ _ ∧ _ from ⟨hAB, htk, hP⟩)
        clear hlw hP hAB htk
        have hps2 := HS.out
        go_wp2_with fail
        refine (fits_any P p wr (by omega)).mono ?_
        rintro e w5 ⟨rfl, hb5⟩
        rw [(HAB.out.1 p).1, (HAB.out.1 p).2, decide_eq_true rfl]
        have hcv5 := own_text (owns_below HR.out.1 hb5)
        rw [HAB.out.2.1, HAB.out.2.2] at hcv5
        have H5 := Lib.hid (H1.out.trans ((HR.out.2.trans (hb5.mono HR.out.2.size)).mono H1.out.size))
        clear hb5 hcv
        go_wp2_with fail
        refine (fits_any P s w5 (by omega)).mono ?_
        rintro e w6 ⟨rfl, hb6⟩
        rw [(HAB.out.1 s).1, (HAB.out.1 s).2]
        have H6 := Lib.hid (H5.out.trans (hb6.mono H5.out.size))
        clear hb6 hcv5
        by_cases e : s = p
        · subst e
          rw [decide_eq_true rfl]
          go_wp2_with fail
          exact bodyPost_ret (v := .bool true) (by simp [results, Try.results4, go_sem]) rfl ⟨rfl, H6.out⟩
        · have hne : ¬ s.data.toList = p.data.toList := fun h => e (by
            cases s; cases p
            congr 1
            exact Array.toList_inj.1 h)
          rw [decide_eq_false hne]
          have hbe : ¬ s.toList = p.toList := by rw [ByteArray.toList_eq, ByteArray.toList_eq]; exact hne
          clear hne
          go_wp2_with fail
          exact bodyPost_ret (v := .bool true) (by simp [results, Try.results4, go_sem, hbe]) rfl ⟨rfl, H6.out⟩
  · by_cases hp : p.size ≤ 200
    · have i1 : ¬ (200 : Int) < (p.size : Int) := by omega
      have i2 : (2000 : Int) < (s.size : Int) := by omega
      clear hs hp
      go_enter Try.func4, Try.ntmps4
      go_wp2_with fail
      refine (known_any w).mono ?_
      rintro e w1 ⟨rfl, hb1⟩
      have H1 := Lib.hid hb1
      clear hb1
      go_wp2_with fail
      refine (known_any w1).mono ?_
      rintro e w2 ⟨rfl, hb2⟩
      have H2 := Lib.hid (H1.out.trans (hb2.mono H1.out.size))
      clear hb2
      go_wp2_with fail
      exact bodyPost_ret (v := .bool true) (by simp [results, Try.results4, go_sem]) rfl ⟨rfl, H2.out⟩
    · have i1 : (200 : Int) < (p.size : Int) := by omega
      clear hs hp
      go_enter Try.func4, Try.ntmps4
      go_wp2_with fail
      refine (known_any w).mono ?_
      rintro e w1 ⟨rfl, hb1⟩
      have H1 := Lib.hid hb1
      clear hb1
      go_wp2_with fail
      refine (known_any w1).mono ?_
      rintro e w2 ⟨rfl, hb2⟩
      have H2 := Lib.hid (H1.out.trans (hb2.mono H1.out.size))
      clear hb2
      go_wp2_with fail
      exact bodyPost_ret (v := .bool true) (by simp [results, Try.results4, go_sem]) rfl ⟨rfl, H2.out⟩
end Go.Proofs.Ytdpakjkldkddcaa
