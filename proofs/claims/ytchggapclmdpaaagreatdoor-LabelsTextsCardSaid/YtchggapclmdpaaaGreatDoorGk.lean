/- text.escape: three digits to base 8. text.escape: three digits to base 8. -/
import Derived.Test.YtchggapclmdpaaaGreatDoorEsc7
namespace Go.Proofs.YtchggapclmdpaaaGreatDoor
open Go.RowKit Go.Lib

set_option maxHeartbeats 8000000 in
set_option maxRecDepth 100000 in
theorem escape_o52 (K : Nat) (a b : Addr) (s : ByteArray) (c : UInt8) (r : List UInt8) (w : World) (hE : LaidE K a b w) (hs : s.data.toList = c :: r) (hc : c = 52) (hbig : s.size ≤ 1000000000) :
    Calls Tryz.prog 187 #[.string s] w (EscPost a b s.data.toList w) := by
  have hsz : s.size = r.length + 1 := by
    have : s.size = s.data.toList.length := (Array.length_toList).symm
    rw [this, hs]; simp
  have hpos : 0 < s.size := by omega
  have h0 := first_byte hs hpos
  have hne : (s.toList == []) = false := by rw [ByteArray.toList_eq, hs]; rfl
  have i0 : (0 : Int) < (s.size : Int) := by omega
  have i1 : (1 : Int) ≤ (s.size : Int) := by omega
  have ce := hE.esc
  have hkey : ¬ 0 ≤ simpleV c ∧ escK c = some (3, 8, 0, 255) := by
    subst hc
    all_goals exact ⟨by decide, by decide⟩
  have her := escR_num (r := r) hkey.1 hkey.2
  have hnum := number_any K a b s 3 8 w hE (by omega) (by omega) (by omega)
  rw [hs, show (c :: r : List UInt8) = (c :: r).drop 0 from rfl] at hnum
  rw [hs]
  obtain ⟨N, hN⟩ : ∃ N, numR 3 8 ((c :: r).drop 0) 0 = N := ⟨_, rfl⟩
  rw [hN] at hnum her
  have HN := Lib.hid (show _ ∧ _ from ⟨hnum, her⟩)
  clear hnum her hN hkey hs hsz hE
  obtain ⟨L, hL⟩ : ∃ L, c :: r = L := ⟨_, rfl⟩
  rw [hL] at HN ⊢
  clear hL
  subst hc
  all_goals
    go_enter Tryz.func187, Tryz.ntmps187
    go_wp2_with fail
    refine HN.out.1.mono ?_
    rintro e w1 ⟨⟨n, hNn, h32, rfl⟩ | ⟨hNn, v, hv, rfl⟩, q, rfl⟩
    · have her := HN.out.2
      rw [hNn] at her
      have her2 : escR L = match outR 255 n with | none => none | some x => some (x, 3) := her
      clear her
      by_cases hm : 255 < n
      · have hout : escR L = none := by rw [her2]; unfold outR; rw [if_pos (Or.inl hm)]
        have j1 : (255 : Int) < (n : Int) := by omega
        have HO := Lib.hid hout
        clear hout her2
        go_wp2_with (go_quiet (fail))
        exact bodyPost_ret (v := .tuple #[.slice none 0 0, .int .i64 0, .iface 341 (.pointer (some b))]) (by simp [results, Tryz.results187, go_sem]) rfl ⟨.inr ⟨HO.out, _, .inr rfl, rfl⟩, by first | exact below_drewN (Below.refl _ _) _ | exact below_drewN (below_drewN (Below.refl _ _) _) _⟩
      · have j1 : ¬ (255 : Int) < (n : Int) := by omega
        have j2 : IntKind.u8.wrap (n : Int) = (n : Int) := u8_nat n (by omega)
        have hout : escR L = some ([UInt8.ofNat n], 3) := by
          rw [her2]
          have h : outR 255 n = some [UInt8.ofNat n] := by unfold outR; rw [if_neg (by omega), if_neg (by decide)]
          rw [h]
        have hcell : bytesV [UInt8.ofNat n] = [Value.int .u8 n] := by
          unfold bytesV
          rw [List.map_cons, List.map_nil, UInt8.toNat_ofNat_of_lt' (by show n < 256; omega)]
        have HO := Lib.hid (show _ ∧ _ from ⟨hout, hcell⟩)
        clear hout hcell her2
        go_wp2
        refine bodyPost_ret (v := .tuple #[.slice (some ⟨w.heap.size, 0, none⟩) 1 1, .int .i64 3, .nilIface]) (by simp [results, Tryz.results187, go_sem]) rfl ⟨.inl ⟨_, 3, _, HO.out.1, rfl, ?_⟩, (below_drewN (Below.refl _ _) q).alloc (Nat.le_refl _) _⟩
        rw [HO.out.2]
        exact owns_fresh (w := w.drewN q) (B := w.heap.size) (Nat.le_refl _) 5 [Value.int .u8 n] (by show 1 ≤ maxLen; decide)
    · have her := HN.out.2
      rw [hNn] at her
      have HV := Lib.hid (show _ ∧ escR L = none from ⟨hv, her⟩)
      clear her
      rcases hv with rfl | rfl
      · go_wp2
        exact bodyPost_ret (v := .tuple #[.slice none 0 0, .int .i64 0, .iface 341 (.pointer (some a))]) (by simp [results, Tryz.results187, go_sem]) rfl ⟨.inr ⟨HV.out.2, _, .inl rfl, rfl⟩, below_drewN (Below.refl _ _) q⟩
      · go_wp2
        exact bodyPost_ret (v := .tuple #[.slice none 0 0, .int .i64 0, .iface 341 (.pointer (some b))]) (by simp [results, Tryz.results187, go_sem]) rfl ⟨.inr ⟨HV.out.2, _, .inr rfl, rfl⟩, below_drewN (Below.refl _ _) q⟩
set_option maxHeartbeats 8000000 in
set_option maxRecDepth 100000 in
theorem escape_o53 (K : Nat) (a b : Addr) (s : ByteArray) (c : UInt8) (r : List UInt8) (w : World) (hE : LaidE K a b w) (hs : s.data.toList = c :: r) (hc : c = 53) (hbig : s.size ≤ 1000000000) :
    Calls Tryz.prog 187 #[.string s] w (EscPost a b s.data.toList w) := by
  have hsz : s.size = r.length + 1 := by
    have : s.size = s.data.toList.length := (Array.length_toList).symm
    rw [this, hs]; simp
  have hpos : 0 < s.size := by omega
  have h0 := first_byte hs hpos
  have hne : (s.toList == []) = false := by rw [ByteArray.toList_eq, hs]; rfl
  have i0 : (0 : Int) < (s.size : Int) := by omega
  have i1 : (1 : Int) ≤ (s.size : Int) := by omega
  have ce := hE.esc
  have hkey : ¬ 0 ≤ simpleV c ∧ escK c = some (3, 8, 0, 255) := by
    subst hc
    all_goals exact ⟨by decide, by decide⟩
  have her := escR_num (r := r) hkey.1 hkey.2
  have hnum := number_any K a b s 3 8 w hE (by omega) (by omega) (by omega)
  rw [hs, show (c :: r : List UInt8) = (c :: r).drop 0 from rfl] at hnum
  rw [hs]
  obtain ⟨N, hN⟩ : ∃ N, numR 3 8 ((c :: r).drop 0) 0 = N := ⟨_, rfl⟩
  rw [hN] at hnum her
  have HN := Lib.hid (show _ ∧ _ from ⟨hnum, her⟩)
  clear hnum her hN hkey hs hsz hE
  obtain ⟨L, hL⟩ : ∃ L, c :: r = L := ⟨_, rfl⟩
  rw [hL] at HN ⊢
  clear hL
  subst hc
  all_goals
    go_enter Tryz.func187, Tryz.ntmps187
    go_wp2_with fail
    refine HN.out.1.mono ?_
    rintro e w1 ⟨⟨n, hNn, h32, rfl⟩ | ⟨hNn, v, hv, rfl⟩, q, rfl⟩
    · have her := HN.out.2
      rw [hNn] at her
      have her2 : escR L = match outR 255 n with | none => none | some x => some (x, 3) := her
      clear her
      by_cases hm : 255 < n
      · have hout : escR L = none := by rw [her2]; unfold outR; rw [if_pos (Or.inl hm)]
        have j1 : (255 : Int) < (n : Int) := by omega
        have HO := Lib.hid hout
        clear hout her2
        go_wp2_with (go_quiet (fail))
        exact bodyPost_ret (v := .tuple #[.slice none 0 0, .int .i64 0, .iface 341 (.pointer (some b))]) (by simp [results, Tryz.results187, go_sem]) rfl ⟨.inr ⟨HO.out, _, .inr rfl, rfl⟩, by first | exact below_drewN (Below.refl _ _) _ | exact below_drewN (below_drewN (Below.refl _ _) _) _⟩
      · have j1 : ¬ (255 : Int) < (n : Int) := by omega
        have j2 : IntKind.u8.wrap (n : Int) = (n : Int) := u8_nat n (by omega)
        have hout : escR L = some ([UInt8.ofNat n], 3) := by
          rw [her2]
          have h : outR 255 n = some [UInt8.ofNat n] := by unfold outR; rw [if_neg (by omega), if_neg (by decide)]
          rw [h]
        have hcell : bytesV [UInt8.ofNat n] = [Value.int .u8 n] := by
          unfold bytesV
          rw [List.map_cons, List.map_nil, UInt8.toNat_ofNat_of_lt' (by show n < 256; omega)]
        have HO := Lib.hid (show _ ∧ _ from ⟨hout, hcell⟩)
        clear hout hcell her2
        go_wp2
        refine bodyPost_ret (v := .tuple #[.slice (some ⟨w.heap.size, 0, none⟩) 1 1, .int .i64 3, .nilIface]) (by simp [results, Tryz.results187, go_sem]) rfl ⟨.inl ⟨_, 3, _, HO.out.1, rfl, ?_⟩, (below_drewN (Below.refl _ _) q).alloc (Nat.le_refl _) _⟩
        rw [HO.out.2]
        exact owns_fresh (w := w.drewN q) (B := w.heap.size) (Nat.le_refl _) 5 [Value.int .u8 n] (by show 1 ≤ maxLen; decide)
    · have her := HN.out.2
      rw [hNn] at her
      have HV := Lib.hid (show _ ∧ escR L = none from ⟨hv, her⟩)
      clear her
      rcases hv with rfl | rfl
      · go_wp2
        exact bodyPost_ret (v := .tuple #[.slice none 0 0, .int .i64 0, .iface 341 (.pointer (some a))]) (by simp [results, Tryz.results187, go_sem]) rfl ⟨.inr ⟨HV.out.2, _, .inl rfl, rfl⟩, below_drewN (Below.refl _ _) q⟩
      · go_wp2
        exact bodyPost_ret (v := .tuple #[.slice none 0 0, .int .i64 0, .iface 341 (.pointer (some b))]) (by simp [results, Tryz.results187, go_sem]) rfl ⟨.inr ⟨HV.out.2, _, .inr rfl, rfl⟩, below_drewN (Below.refl _ _) q⟩
set_option maxHeartbeats 8000000 in
set_option maxRecDepth 100000 in
theorem escape_o54 (K : Nat) (a b : Addr) (s : ByteArray) (c : UInt8) (r : List UInt8) (w : World) (hE : LaidE K a b w) (hs : s.data.toList = c :: r) (hc : c = 54) (hbig : s.size ≤ 1000000000) :
    Calls Tryz.prog 187 #[.string s] w (EscPost a b s.data.toList w) := by
  have hsz : s.size = r.length + 1 := by
    have : s.size = s.data.toList.length := (Array.length_toList).symm
    rw [this, hs]; simp
  have hpos : 0 < s.size := by omega
  have h0 := first_byte hs hpos
  have hne : (s.toList == []) = false := by rw [ByteArray.toList_eq, hs]; rfl
  have i0 : (0 : Int) < (s.size : Int) := by omega
  have i1 : (1 : Int) ≤ (s.size : Int) := by omega
  have ce := hE.esc
  have hkey : ¬ 0 ≤ simpleV c ∧ escK c = some (3, 8, 0, 255) := by
    subst hc
    all_goals exact ⟨by decide, by decide⟩
  have her := escR_num (r := r) hkey.1 hkey.2
  have hnum := number_any K a b s 3 8 w hE (by omega) (by omega) (by omega)
  rw [hs, show (c :: r : List UInt8) = (c :: r).drop 0 from rfl] at hnum
  rw [hs]
  obtain ⟨N, hN⟩ : ∃ N, numR 3 8 ((c :: r).drop 0) 0 = N := ⟨_, rfl⟩
  rw [hN] at hnum her
  have HN := Lib.hid (show _ ∧ _ from ⟨hnum, her⟩)
  clear hnum her hN hkey hs hsz hE
  obtain ⟨L, hL⟩ : ∃ L, c :: r = L := ⟨_, rfl⟩
  rw [hL] at HN ⊢
  clear hL
  subst hc
  all_goals
    go_enter Tryz.func187, Tryz.ntmps187
    go_wp2_with fail
    refine HN.out.1.mono ?_
    rintro e w1 ⟨⟨n, hNn, h32, rfl⟩ | ⟨hNn, v, hv, rfl⟩, q, rfl⟩
    · have her := HN.out.2
      rw [hNn] at her
      have her2 : escR L = match outR 255 n with | none => none | some x => some (x, 3) := her
      clear her
      by_cases hm : 255 < n
      · have hout : escR L = none := by rw [her2]; unfold outR; rw [if_pos (Or.inl hm)]
        have j1 : (255 : Int) < (n : Int) := by omega
        have HO := Lib.hid hout
        clear hout her2
        go_wp2_with (go_quiet (fail))
        exact bodyPost_ret (v := .tuple #[.slice none 0 0, .int .i64 0, .iface 341 (.pointer (some b))]) (by simp [results, Tryz.results187, go_sem]) rfl ⟨.inr ⟨HO.out, _, .inr rfl, rfl⟩, by first | exact below_drewN (Below.refl _ _) _ | exact below_drewN (below_drewN (Below.refl _ _) _) _⟩
      · have j1 : ¬ (255 : Int) < (n : Int) := by omega
        have j2 : IntKind.u8.wrap (n : Int) = (n : Int) := u8_nat n (by omega)
        have hout : escR L = some ([UInt8.ofNat n], 3) := by
          rw [her2]
          have h : outR 255 n = some [UInt8.ofNat n] := by unfold outR; rw [if_neg (by omega), if_neg (by decide)]
          rw [h]
        have hcell : bytesV [UInt8.ofNat n] = [Value.int .u8 n] := by
          unfold bytesV
          rw [List.map_cons, List.map_nil, UInt8.toNat_ofNat_of_lt' (by show n < 256; omega)]
        have HO := Lib.hid (show _ ∧ _ from ⟨hout, hcell⟩)
        clear hout hcell her2
        go_wp2
        refine bodyPost_ret (v := .tuple #[.slice (some ⟨w.heap.size, 0, none⟩) 1 1, .int .i64 3, .nilIface]) (by simp [results, Tryz.results187, go_sem]) rfl ⟨.inl ⟨_, 3, _, HO.out.1, rfl, ?_⟩, (below_drewN (Below.refl _ _) q).alloc (Nat.le_refl _) _⟩
        rw [HO.out.2]
        exact owns_fresh (w := w.drewN q) (B := w.heap.size) (Nat.le_refl _) 5 [Value.int .u8 n] (by show 1 ≤ maxLen; decide)
    · have her := HN.out.2
      rw [hNn] at her
      have HV := Lib.hid (show _ ∧ escR L = none from ⟨hv, her⟩)
      clear her
      rcases hv with rfl | rfl
      · go_wp2
        exact bodyPost_ret (v := .tuple #[.slice none 0 0, .int .i64 0, .iface 341 (.pointer (some a))]) (by simp [results, Tryz.results187, go_sem]) rfl ⟨.inr ⟨HV.out.2, _, .inl rfl, rfl⟩, below_drewN (Below.refl _ _) q⟩
      · go_wp2
        exact bodyPost_ret (v := .tuple #[.slice none 0 0, .int .i64 0, .iface 341 (.pointer (some b))]) (by simp [results, Tryz.results187, go_sem]) rfl ⟨.inr ⟨HV.out.2, _, .inr rfl, rfl⟩, below_drewN (Below.refl _ _) q⟩
set_option maxHeartbeats 8000000 in
set_option maxRecDepth 100000 in
theorem escape_o55 (K : Nat) (a b : Addr) (s : ByteArray) (c : UInt8) (r : List UInt8) (w : World) (hE : LaidE K a b w) (hs : s.data.toList = c :: r) (hc : c = 55) (hbig : s.size ≤ 1000000000) :
    Calls Tryz.prog 187 #[.string s] w (EscPost a b s.data.toList w) := by
  have hsz : s.size = r.length + 1 := by
    have : s.size = s.data.toList.length := (Array.length_toList).symm
    rw [this, hs]; simp
  have hpos : 0 < s.size := by omega
  have h0 := first_byte hs hpos
  have hne : (s.toList == []) = false := by rw [ByteArray.toList_eq, hs]; rfl
  have i0 : (0 : Int) < (s.size : Int) := by omega
  have i1 : (1 : Int) ≤ (s.size : Int) := by omega
  have ce := hE.esc
  have hkey : ¬ 0 ≤ simpleV c ∧ escK c = some (3, 8, 0, 255) := by
    subst hc
    all_goals exact ⟨by decide, by decide⟩
  have her := escR_num (r := r) hkey.1 hkey.2
  have hnum := number_any K a b s 3 8 w hE (by omega) (by omega) (by omega)
  rw [hs, show (c :: r : List UInt8) = (c :: r).drop 0 from rfl] at hnum
  rw [hs]
  obtain ⟨N, hN⟩ : ∃ N, numR 3 8 ((c :: r).drop 0) 0 = N := ⟨_, rfl⟩
  rw [hN] at hnum her
  have HN := Lib.hid (show _ ∧ _ from ⟨hnum, her⟩)
  clear hnum her hN hkey hs hsz hE
  obtain ⟨L, hL⟩ : ∃ L, c :: r = L := ⟨_, rfl⟩
  rw [hL] at HN ⊢
  clear hL
  subst hc
  all_goals
    go_enter Tryz.func187, Tryz.ntmps187
    go_wp2_with fail
    refine HN.out.1.mono ?_
    rintro e w1 ⟨⟨n, hNn, h32, rfl⟩ | ⟨hNn, v, hv, rfl⟩, q, rfl⟩
    · have her := HN.out.2
      rw [hNn] at her
      have her2 : escR L = match outR 255 n with | none => none | some x => some (x, 3) := her
      clear her
      by_cases hm : 255 < n
      · have hout : escR L = none := by rw [her2]; unfold outR; rw [if_pos (Or.inl hm)]
        have j1 : (255 : Int) < (n : Int) := by omega
        have HO := Lib.hid hout
        clear hout her2
        go_wp2_with (go_quiet (fail))
        exact bodyPost_ret (v := .tuple #[.slice none 0 0, .int .i64 0, .iface 341 (.pointer (some b))]) (by simp [results, Tryz.results187, go_sem]) rfl ⟨.inr ⟨HO.out, _, .inr rfl, rfl⟩, by first | exact below_drewN (Below.refl _ _) _ | exact below_drewN (below_drewN (Below.refl _ _) _) _⟩
      · have j1 : ¬ (255 : Int) < (n : Int) := by omega
        have j2 : IntKind.u8.wrap (n : Int) = (n : Int) := u8_nat n (by omega)
        have hout : escR L = some ([UInt8.ofNat n], 3) := by
          rw [her2]
          have h : outR 255 n = some [UInt8.ofNat n] := by unfold outR; rw [if_neg (by omega), if_neg (by decide)]
          rw [h]
        have hcell : bytesV [UInt8.ofNat n] = [Value.int .u8 n] := by
          unfold bytesV
          rw [List.map_cons, List.map_nil, UInt8.toNat_ofNat_of_lt' (by show n < 256; omega)]
        have HO := Lib.hid (show _ ∧ _ from ⟨hout, hcell⟩)
        clear hout hcell her2
        go_wp2
        refine bodyPost_ret (v := .tuple #[.slice (some ⟨w.heap.size, 0, none⟩) 1 1, .int .i64 3, .nilIface]) (by simp [results, Tryz.results187, go_sem]) rfl ⟨.inl ⟨_, 3, _, HO.out.1, rfl, ?_⟩, (below_drewN (Below.refl _ _) q).alloc (Nat.le_refl _) _⟩
        rw [HO.out.2]
        exact owns_fresh (w := w.drewN q) (B := w.heap.size) (Nat.le_refl _) 5 [Value.int .u8 n] (by show 1 ≤ maxLen; decide)
    · have her := HN.out.2
      rw [hNn] at her
      have HV := Lib.hid (show _ ∧ escR L = none from ⟨hv, her⟩)
      clear her
      rcases hv with rfl | rfl
      · go_wp2
        exact bodyPost_ret (v := .tuple #[.slice none 0 0, .int .i64 0, .iface 341 (.pointer (some a))]) (by simp [results, Tryz.results187, go_sem]) rfl ⟨.inr ⟨HV.out.2, _, .inl rfl, rfl⟩, below_drewN (Below.refl _ _) q⟩
      · go_wp2
        exact bodyPost_ret (v := .tuple #[.slice none 0 0, .int .i64 0, .iface 341 (.pointer (some b))]) (by simp [results, Tryz.results187, go_sem]) rfl ⟨.inr ⟨HV.out.2, _, .inr rfl, rfl⟩, below_drewN (Below.refl _ _) q⟩
end Go.Proofs.YtchggapclmdpaaaGreatDoor
namespace Go.Proofs.YtchggapclmdpaaaGreatDoor
open Go.RowKit Go.Lib

set_option maxHeartbeats 8000000 in
set_option maxRecDepth 100000 in
theorem escape_o48 (K : Nat) (a b : Addr) (s : ByteArray) (c : UInt8) (r : List UInt8) (w : World) (hE : LaidE K a b w) (hs : s.data.toList = c :: r) (hc : c = 48) (hbig : s.size ≤ 1000000000) :
    Calls Tryz.prog 187 #[.string s] w (EscPost a b s.data.toList w) := by
  have hsz : s.size = r.length + 1 := by
    have : s.size = s.data.toList.length := (Array.length_toList).symm
    rw [this, hs]; simp
  have hpos : 0 < s.size := by omega
  have h0 := first_byte hs hpos
  have hne : (s.toList == []) = false := by rw [ByteArray.toList_eq, hs]; rfl
  have i0 : (0 : Int) < (s.size : Int) := by omega
  have i1 : (1 : Int) ≤ (s.size : Int) := by omega
  have ce := hE.esc
  have hkey : ¬ 0 ≤ simpleV c ∧ escK c = some (3, 8, 0, 255) := by
    subst hc
    all_goals exact ⟨by decide, by decide⟩
  have her := escR_num (r := r) hkey.1 hkey.2
  have hnum := number_any K a b s 3 8 w hE (by omega) (by omega) (by omega)
  rw [hs, show (c :: r : List UInt8) = (c :: r).drop 0 from rfl] at hnum
  rw [hs]
  obtain ⟨N, hN⟩ : ∃ N, numR 3 8 ((c :: r).drop 0) 0 = N := ⟨_, rfl⟩
  rw [hN] at hnum her
  have HN := Lib.hid (show _ ∧ _ from ⟨hnum, her⟩)
  clear hnum her hN hkey hs hsz hE
  obtain ⟨L, hL⟩ : ∃ L, c :: r = L := ⟨_, rfl⟩
  rw [hL] at HN ⊢
  clear hL
  subst hc
  all_goals
    go_enter Tryz.func187, Tryz.ntmps187
    go_wp2_with fail
    refine HN.out.1.mono ?_
    rintro e w1 ⟨⟨n, hNn, h32, rfl⟩ | ⟨hNn, v, hv, rfl⟩, q, rfl⟩
    · have her := HN.out.2
      rw [hNn] at her
      have her2 : escR L = match outR 255 n with | none => none | some x => some (x, 3) := her
      clear her
      by_cases hm : 255 < n
      · have hout : escR L = none := by rw [her2]; unfold outR; rw [if_pos (Or.inl hm)]
        have j1 : (255 : Int) < (n : Int) := by omega
        have HO := Lib.hid hout
        clear hout her2
        go_wp2_with (go_quiet (fail))
        exact bodyPost_ret (v := .tuple #[.slice none 0 0, .int .i64 0, .iface 341 (.pointer (some b))]) (by simp [results, Tryz.results187, go_sem]) rfl ⟨.inr ⟨HO.out, _, .inr rfl, rfl⟩, by first | exact below_drewN (Below.refl _ _) _ | exact below_drewN (below_drewN (Below.refl _ _) _) _⟩
      · have j1 : ¬ (255 : Int) < (n : Int) := by omega
        have j2 : IntKind.u8.wrap (n : Int) = (n : Int) := u8_nat n (by omega)
        have hout : escR L = some ([UInt8.ofNat n], 3) := by
          rw [her2]
          have h : outR 255 n = some [UInt8.ofNat n] := by unfold outR; rw [if_neg (by omega), if_neg (by decide)]
          rw [h]
        have hcell : bytesV [UInt8.ofNat n] = [Value.int .u8 n] := by
          unfold bytesV
          rw [List.map_cons, List.map_nil, UInt8.toNat_ofNat_of_lt' (by show n < 256; omega)]
        have HO := Lib.hid (show _ ∧ _ from ⟨hout, hcell⟩)
        clear hout hcell her2
        go_wp2
        refine bodyPost_ret (v := .tuple #[.slice (some ⟨w.heap.size, 0, none⟩) 1 1, .int .i64 3, .nilIface]) (by simp [results, Tryz.results187, go_sem]) rfl ⟨.inl ⟨_, 3, _, HO.out.1, rfl, ?_⟩, (below_drewN (Below.refl _ _) q).alloc (Nat.le_refl _) _⟩
        rw [HO.out.2]
        exact owns_fresh (w := w.drewN q) (B := w.heap.size) (Nat.le_refl _) 5 [Value.int .u8 n] (by show 1 ≤ maxLen; decide)
    · have her := HN.out.2
      rw [hNn] at her
      have HV := Lib.hid (show _ ∧ escR L = none from ⟨hv, her⟩)
      clear her
      rcases hv with rfl | rfl
      · go_wp2
        exact bodyPost_ret (v := .tuple #[.slice none 0 0, .int .i64 0, .iface 341 (.pointer (some a))]) (by simp [results, Tryz.results187, go_sem]) rfl ⟨.inr ⟨HV.out.2, _, .inl rfl, rfl⟩, below_drewN (Below.refl _ _) q⟩
      · go_wp2
        exact bodyPost_ret (v := .tuple #[.slice none 0 0, .int .i64 0, .iface 341 (.pointer (some b))]) (by simp [results, Tryz.results187, go_sem]) rfl ⟨.inr ⟨HV.out.2, _, .inr rfl, rfl⟩, below_drewN (Below.refl _ _) q⟩
set_option maxHeartbeats 8000000 in
set_option maxRecDepth 100000 in
theorem escape_o49 (K : Nat) (a b : Addr) (s : ByteArray) (c : UInt8) (r : List UInt8) (w : World) (hE : LaidE K a b w) (hs : s.data.toList = c :: r) (hc : c = 49) (hbig : s.size ≤ 1000000000) :
    Calls Tryz.prog 187 #[.string s] w (EscPost a b s.data.toList w) := by
  have hsz : s.size = r.length + 1 := by
    have : s.size = s.data.toList.length := (Array.length_toList).symm
    rw [this, hs]; simp
  have hpos : 0 < s.size := by omega
  have h0 := first_byte hs hpos
  have hne : (s.toList == []) = false := by rw [ByteArray.toList_eq, hs]; rfl
  have i0 : (0 : Int) < (s.size : Int) := by omega
  have i1 : (1 : Int) ≤ (s.size : Int) := by omega
  have ce := hE.esc
  have hkey : ¬ 0 ≤ simpleV c ∧ escK c = some (3, 8, 0, 255) := by
    subst hc
    all_goals exact ⟨by decide, by decide⟩
  have her := escR_num (r := r) hkey.1 hkey.2
  have hnum := number_any K a b s 3 8 w hE (by omega) (by omega) (by omega)
  rw [hs, show (c :: r : List UInt8) = (c :: r).drop 0 from rfl] at hnum
  rw [hs]
  obtain ⟨N, hN⟩ : ∃ N, numR 3 8 ((c :: r).drop 0) 0 = N := ⟨_, rfl⟩
  rw [hN] at hnum her
  have HN := Lib.hid (show _ ∧ _ from ⟨hnum, her⟩)
  clear hnum her hN hkey hs hsz hE
  obtain ⟨L, hL⟩ : ∃ L, c :: r = L := ⟨_, rfl⟩
  rw [hL] at HN ⊢
  clear hL
  subst hc
  all_goals
    go_enter Tryz.func187, Tryz.ntmps187
    go_wp2_with fail
    refine HN.out.1.mono ?_
    rintro e w1 ⟨⟨n, hNn, h32, rfl⟩ | ⟨hNn, v, hv, rfl⟩, q, rfl⟩
    · have her := HN.out.2
      rw [hNn] at her
      have her2 : escR L = match outR 255 n with | none => none | some x => some (x, 3) := her
      clear her
      by_cases hm : 255 < n
      · have hout : escR L = none := by rw [her2]; unfold outR; rw [if_pos (Or.inl hm)]
        have j1 : (255 : Int) < (n : Int) := by omega
        have HO := Lib.hid hout
        clear hout her2
        go_wp2_with (go_quiet (fail))
        exact bodyPost_ret (v := .tuple #[.slice none 0 0, .int .i64 0, .iface 341 (.pointer (some b))]) (by simp [results, Tryz.results187, go_sem]) rfl ⟨.inr ⟨HO.out, _, .inr rfl, rfl⟩, by first | exact below_drewN (Below.refl _ _) _ | exact below_drewN (below_drewN (Below.refl _ _) _) _⟩
      · have j1 : ¬ (255 : Int) < (n : Int) := by omega
        have j2 : IntKind.u8.wrap (n : Int) = (n : Int) := u8_nat n (by omega)
        have hout : escR L = some ([UInt8.ofNat n], 3) := by
          rw [her2]
          have h : outR 255 n = some [UInt8.ofNat n] := by unfold outR; rw [if_neg (by omega), if_neg (by decide)]
          rw [h]
        have hcell : bytesV [UInt8.ofNat n] = [Value.int .u8 n] := by
          unfold bytesV
          rw [List.map_cons, List.map_nil, UInt8.toNat_ofNat_of_lt' (by show n < 256; omega)]
        have HO := Lib.hid (show _ ∧ _ from ⟨hout, hcell⟩)
        clear hout hcell her2
        go_wp2
        refine bodyPost_ret (v := .tuple #[.slice (some ⟨w.heap.size, 0, none⟩) 1 1, .int .i64 3, .nilIface]) (by simp [results, Tryz.results187, go_sem]) rfl ⟨.inl ⟨_, 3, _, HO.out.1, rfl, ?_⟩, (below_drewN (Below.refl _ _) q).alloc (Nat.le_refl _) _⟩
        rw [HO.out.2]
        exact owns_fresh (w := w.drewN q) (B := w.heap.size) (Nat.le_refl _) 5 [Value.int .u8 n] (by show 1 ≤ maxLen; decide)
    · have her := HN.out.2
      rw [hNn] at her
      have HV := Lib.hid (show _ ∧ escR L = none from ⟨hv, her⟩)
      clear her
      rcases hv with rfl | rfl
      · go_wp2
        exact bodyPost_ret (v := .tuple #[.slice none 0 0, .int .i64 0, .iface 341 (.pointer (some a))]) (by simp [results, Tryz.results187, go_sem]) rfl ⟨.inr ⟨HV.out.2, _, .inl rfl, rfl⟩, below_drewN (Below.refl _ _) q⟩
      · go_wp2
        exact bodyPost_ret (v := .tuple #[.slice none 0 0, .int .i64 0, .iface 341 (.pointer (some b))]) (by simp [results, Tryz.results187, go_sem]) rfl ⟨.inr ⟨HV.out.2, _, .inr rfl, rfl⟩, below_drewN (Below.refl _ _) q⟩
set_option maxHeartbeats 8000000 in
set_option maxRecDepth 100000 in
theorem escape_o50 (K : Nat) (a b : Addr) (s : ByteArray) (c : UInt8) (r : List UInt8) (w : World) (hE : LaidE K a b w) (hs : s.data.toList = c :: r) (hc : c = 50) (hbig : s.size ≤ 1000000000) :
    Calls Tryz.prog 187 #[.string s] w (EscPost a b s.data.toList w) := by
  have hsz : s.size = r.length + 1 := by
    have : s.size = s.data.toList.length := (Array.length_toList).symm
    rw [this, hs]; simp
  have hpos : 0 < s.size := by omega
  have h0 := first_byte hs hpos
  have hne : (s.toList == []) = false := by rw [ByteArray.toList_eq, hs]; rfl
  have i0 : (0 : Int) < (s.size : Int) := by omega
  have i1 : (1 : Int) ≤ (s.size : Int) := by omega
  have ce := hE.esc
  have hkey : ¬ 0 ≤ simpleV c ∧ escK c = some (3, 8, 0, 255) := by
    subst hc
    all_goals exact ⟨by decide, by decide⟩
  have her := escR_num (r := r) hkey.1 hkey.2
  have hnum := number_any K a b s 3 8 w hE (by omega) (by omega) (by omega)
  rw [hs, show (c :: r : List UInt8) = (c :: r).drop 0 from rfl] at hnum
  rw [hs]
  obtain ⟨N, hN⟩ : ∃ N, numR 3 8 ((c :: r).drop 0) 0 = N := ⟨_, rfl⟩
  rw [hN] at hnum her
  have HN := Lib.hid (show _ ∧ _ from ⟨hnum, her⟩)
  clear hnum her hN hkey hs hsz hE
  obtain ⟨L, hL⟩ : ∃ L, c :: r = L := ⟨_, rfl⟩
  rw [hL] at HN ⊢
  clear hL
  subst hc
  all_goals
    go_enter Tryz.func187, Tryz.ntmps187
    go_wp2_with fail
    refine HN.out.1.mono ?_
    rintro e w1 ⟨⟨n, hNn, h32, rfl⟩ | ⟨hNn, v, hv, rfl⟩, q, rfl⟩
    · have her := HN.out.2
      rw [hNn] at her
      have her2 : escR L = match outR 255 n with | none => none | some x => some (x, 3) := her
      clear her
      by_cases hm : 255 < n
      · have hout : escR L = none := by rw [her2]; unfold outR; rw [if_pos (Or.inl hm)]
        have j1 : (255 : Int) < (n : Int) := by omega
        have HO := Lib.hid hout
        clear hout her2
        go_wp2_with (go_quiet (fail))
        exact bodyPost_ret (v := .tuple #[.slice none 0 0, .int .i64 0, .iface 341 (.pointer (some b))]) (by simp [results, Tryz.results187, go_sem]) rfl ⟨.inr ⟨HO.out, _, .inr rfl, rfl⟩, by first | exact below_drewN (Below.refl _ _) _ | exact below_drewN (below_drewN (Below.refl _ _) _) _⟩
      · have j1 : ¬ (255 : Int) < (n : Int) := by omega
        have j2 : IntKind.u8.wrap (n : Int) = (n : Int) := u8_nat n (by omega)
        have hout : escR L = some ([UInt8.ofNat n], 3) := by
          rw [her2]
          have h : outR 255 n = some [UInt8.ofNat n] := by unfold outR; rw [if_neg (by omega), if_neg (by decide)]
          rw [h]
        have hcell : bytesV [UInt8.ofNat n] = [Value.int .u8 n] := by
          unfold bytesV
          rw [List.map_cons, List.map_nil, UInt8.toNat_ofNat_of_lt' (by show n < 256; omega)]
        have HO := Lib.hid (show _ ∧ _ from ⟨hout, hcell⟩)
        clear hout hcell her2
        go_wp2
        refine bodyPost_ret (v := .tuple #[.slice (some ⟨w.heap.size, 0, none⟩) 1 1, .int .i64 3, .nilIface]) (by simp [results, Tryz.results187, go_sem]) rfl ⟨.inl ⟨_, 3, _, HO.out.1, rfl, ?_⟩, (below_drewN (Below.refl _ _) q).alloc (Nat.le_refl _) _⟩
        rw [HO.out.2]
        exact owns_fresh (w := w.drewN q) (B := w.heap.size) (Nat.le_refl _) 5 [Value.int .u8 n] (by show 1 ≤ maxLen; decide)
    · have her := HN.out.2
      rw [hNn] at her
      have HV := Lib.hid (show _ ∧ escR L = none from ⟨hv, her⟩)
      clear her
      rcases hv with rfl | rfl
      · go_wp2
        exact bodyPost_ret (v := .tuple #[.slice none 0 0, .int .i64 0, .iface 341 (.pointer (some a))]) (by simp [results, Tryz.results187, go_sem]) rfl ⟨.inr ⟨HV.out.2, _, .inl rfl, rfl⟩, below_drewN (Below.refl _ _) q⟩
      · go_wp2
        exact bodyPost_ret (v := .tuple #[.slice none 0 0, .int .i64 0, .iface 341 (.pointer (some b))]) (by simp [results, Tryz.results187, go_sem]) rfl ⟨.inr ⟨HV.out.2, _, .inr rfl, rfl⟩, below_drewN (Below.refl _ _) q⟩
set_option maxHeartbeats 8000000 in
set_option maxRecDepth 100000 in
theorem escape_o51 (K : Nat) (a b : Addr) (s : ByteArray) (c : UInt8) (r : List UInt8) (w : World) (hE : LaidE K a b w) (hs : s.data.toList = c :: r) (hc : c = 51) (hbig : s.size ≤ 1000000000) :
    Calls Tryz.prog 187 #[.string s] w (EscPost a b s.data.toList w) := by
  have hsz : s.size = r.length + 1 := by
    have : s.size = s.data.toList.length := (Array.length_toList).symm
    rw [this, hs]; simp
  have hpos : 0 < s.size := by omega
  have h0 := first_byte hs hpos
  have hne : (s.toList == []) = false := by rw [ByteArray.toList_eq, hs]; rfl
  have i0 : (0 : Int) < (s.size : Int) := by omega
  have i1 : (1 : Int) ≤ (s.size : Int) := by omega
  have ce := hE.esc
  have hkey : ¬ 0 ≤ simpleV c ∧ escK c = some (3, 8, 0, 255) := by
    subst hc
    all_goals exact ⟨by decide, by decide⟩
  have her := escR_num (r := r) hkey.1 hkey.2
  have hnum := number_any K a b s 3 8 w hE (by omega) (by omega) (by omega)
  rw [hs, show (c :: r : List UInt8) = (c :: r).drop 0 from rfl] at hnum
  rw [hs]
  obtain ⟨N, hN⟩ : ∃ N, numR 3 8 ((c :: r).drop 0) 0 = N := ⟨_, rfl⟩
  rw [hN] at hnum her
  have HN := Lib.hid (show _ ∧ _ from ⟨hnum, her⟩)
  clear hnum her hN hkey hs hsz hE
  obtain ⟨L, hL⟩ : ∃ L, c :: r = L := ⟨_, rfl⟩
  rw [hL] at HN ⊢
  clear hL
  subst hc
  all_goals
    go_enter Tryz.func187, Tryz.ntmps187
    go_wp2_with fail
    refine HN.out.1.mono ?_
    rintro e w1 ⟨⟨n, hNn, h32, rfl⟩ | ⟨hNn, v, hv, rfl⟩, q, rfl⟩
    · have her := HN.out.2
      rw [hNn] at her
      have her2 : escR L = match outR 255 n with | none => none | some x => some (x, 3) := her
      clear her
      by_cases hm : 255 < n
      · have hout : escR L = none := by rw [her2]; unfold outR; rw [if_pos (Or.inl hm)]
        have j1 : (255 : Int) < (n : Int) := by omega
        have HO := Lib.hid hout
        clear hout her2
        go_wp2_with (go_quiet (fail))
        exact bodyPost_ret (v := .tuple #[.slice none 0 0, .int .i64 0, .iface 341 (.pointer (some b))]) (by simp [results, Tryz.results187, go_sem]) rfl ⟨.inr ⟨HO.out, _, .inr rfl, rfl⟩, by first | exact below_drewN (Below.refl _ _) _ | exact below_drewN (below_drewN (Below.refl _ _) _) _⟩
      · have j1 : ¬ (255 : Int) < (n : Int) := by omega
        have j2 : IntKind.u8.wrap (n : Int) = (n : Int) := u8_nat n (by omega)
        have hout : escR L = some ([UInt8.ofNat n], 3) := by
          rw [her2]
          have h : outR 255 n = some [UInt8.ofNat n] := by unfold outR; rw [if_neg (by omega), if_neg (by decide)]
          rw [h]
        have hcell : bytesV [UInt8.ofNat n] = [Value.int .u8 n] := by
          unfold bytesV
          rw [List.map_cons, List.map_nil, UInt8.toNat_ofNat_of_lt' (by show n < 256; omega)]
        have HO := Lib.hid (show _ ∧ _ from ⟨hout, hcell⟩)
        clear hout hcell her2
        go_wp2
        refine bodyPost_ret (v := .tuple #[.slice (some ⟨w.heap.size, 0, none⟩) 1 1, .int .i64 3, .nilIface]) (by simp [results, Tryz.results187, go_sem]) rfl ⟨.inl ⟨_, 3, _, HO.out.1, rfl, ?_⟩, (below_drewN (Below.refl _ _) q).alloc (Nat.le_refl _) _⟩
        rw [HO.out.2]
        exact owns_fresh (w := w.drewN q) (B := w.heap.size) (Nat.le_refl _) 5 [Value.int .u8 n] (by show 1 ≤ maxLen; decide)
    · have her := HN.out.2
      rw [hNn] at her
      have HV := Lib.hid (show _ ∧ escR L = none from ⟨hv, her⟩)
      clear her
      rcases hv with rfl | rfl
      · go_wp2
        exact bodyPost_ret (v := .tuple #[.slice none 0 0, .int .i64 0, .iface 341 (.pointer (some a))]) (by simp [results, Tryz.results187, go_sem]) rfl ⟨.inr ⟨HV.out.2, _, .inl rfl, rfl⟩, below_drewN (Below.refl _ _) q⟩
      · go_wp2
        exact bodyPost_ret (v := .tuple #[.slice none 0 0, .int .i64 0, .iface 341 (.pointer (some b))]) (by simp [results, Tryz.results187, go_sem]) rfl ⟨.inr ⟨HV.out.2, _, .inr rfl, rfl⟩, below_drewN (Below.refl _ _) q⟩
end Go.Proofs.YtchggapclmdpaaaGreatDoor
