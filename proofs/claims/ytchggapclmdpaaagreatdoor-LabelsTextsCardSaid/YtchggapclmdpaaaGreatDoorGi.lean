/- text.escape: a letter. text.escape: a letter or sign. text.escape: two hex digits. -/
import Derived.Test.YtchggapclmdpaaaGreatDoorEsc7
namespace Go.Proofs.YtchggapclmdpaaaGreatDoor
open Go.RowKit Go.Lib

set_option maxHeartbeats 4000000 in
set_option maxRecDepth 100000 in
theorem escape_s97 (a b : Addr) (s : ByteArray) (r : List UInt8) (w : World) (hs : s.data.toList = 97 :: r) :
    Calls Tryz.prog 187 #[.string s] w (EscPost a b s.data.toList w) := by
  have hsz : s.size = r.length + 1 := by
    have : s.size = s.data.toList.length := (Array.length_toList).symm
    rw [this, hs]; simp
  have hpos : 0 < s.size := by omega
  have h0 := first_byte hs hpos
  have hne : (s.toList == []) = false := by rw [ByteArray.toList_eq, hs]; rfl
  have i0 : (0 : Int) < (s.size : Int) := by omega
  have her : escR s.data.toList = some ([7], 1) := by rw [hs]; exact escR_simple (by decide) rfl
  have HS := Lib.hid her
  clear hs hsz her
  go_enter Tryz.func187, Tryz.ntmps187
  go_wp2
  exact bodyPost_ret (v := .tuple #[.slice (some ⟨w.heap.size, 0, none⟩) 1 1, .int .i64 1, .nilIface]) (by simp [results, Tryz.results187, go_sem]) rfl ⟨.inl ⟨[7], 1, _, HS.out, rfl, owns_fresh (Nat.le_refl _) 5 [Value.int .u8 7] (by decide)⟩, (Below.refl _ _).alloc (Nat.le_refl _) _⟩
set_option maxHeartbeats 4000000 in
set_option maxRecDepth 100000 in
theorem escape_s98 (a b : Addr) (s : ByteArray) (r : List UInt8) (w : World) (hs : s.data.toList = 98 :: r) :
    Calls Tryz.prog 187 #[.string s] w (EscPost a b s.data.toList w) := by
  have hsz : s.size = r.length + 1 := by
    have : s.size = s.data.toList.length := (Array.length_toList).symm
    rw [this, hs]; simp
  have hpos : 0 < s.size := by omega
  have h0 := first_byte hs hpos
  have hne : (s.toList == []) = false := by rw [ByteArray.toList_eq, hs]; rfl
  have i0 : (0 : Int) < (s.size : Int) := by omega
  have her : escR s.data.toList = some ([8], 1) := by rw [hs]; exact escR_simple (by decide) rfl
  have HS := Lib.hid her
  clear hs hsz her
  go_enter Tryz.func187, Tryz.ntmps187
  go_wp2
  exact bodyPost_ret (v := .tuple #[.slice (some ⟨w.heap.size, 0, none⟩) 1 1, .int .i64 1, .nilIface]) (by simp [results, Tryz.results187, go_sem]) rfl ⟨.inl ⟨[8], 1, _, HS.out, rfl, owns_fresh (Nat.le_refl _) 5 [Value.int .u8 8] (by decide)⟩, (Below.refl _ _).alloc (Nat.le_refl _) _⟩
set_option maxHeartbeats 4000000 in
set_option maxRecDepth 100000 in
theorem escape_s102 (a b : Addr) (s : ByteArray) (r : List UInt8) (w : World) (hs : s.data.toList = 102 :: r) :
    Calls Tryz.prog 187 #[.string s] w (EscPost a b s.data.toList w) := by
  have hsz : s.size = r.length + 1 := by
    have : s.size = s.data.toList.length := (Array.length_toList).symm
    rw [this, hs]; simp
  have hpos : 0 < s.size := by omega
  have h0 := first_byte hs hpos
  have hne : (s.toList == []) = false := by rw [ByteArray.toList_eq, hs]; rfl
  have i0 : (0 : Int) < (s.size : Int) := by omega
  have her : escR s.data.toList = some ([12], 1) := by rw [hs]; exact escR_simple (by decide) rfl
  have HS := Lib.hid her
  clear hs hsz her
  go_enter Tryz.func187, Tryz.ntmps187
  go_wp2
  exact bodyPost_ret (v := .tuple #[.slice (some ⟨w.heap.size, 0, none⟩) 1 1, .int .i64 1, .nilIface]) (by simp [results, Tryz.results187, go_sem]) rfl ⟨.inl ⟨[12], 1, _, HS.out, rfl, owns_fresh (Nat.le_refl _) 5 [Value.int .u8 12] (by decide)⟩, (Below.refl _ _).alloc (Nat.le_refl _) _⟩
set_option maxHeartbeats 4000000 in
set_option maxRecDepth 100000 in
theorem escape_s110 (a b : Addr) (s : ByteArray) (r : List UInt8) (w : World) (hs : s.data.toList = 110 :: r) :
    Calls Tryz.prog 187 #[.string s] w (EscPost a b s.data.toList w) := by
  have hsz : s.size = r.length + 1 := by
    have : s.size = s.data.toList.length := (Array.length_toList).symm
    rw [this, hs]; simp
  have hpos : 0 < s.size := by omega
  have h0 := first_byte hs hpos
  have hne : (s.toList == []) = false := by rw [ByteArray.toList_eq, hs]; rfl
  have i0 : (0 : Int) < (s.size : Int) := by omega
  have her : escR s.data.toList = some ([10], 1) := by rw [hs]; exact escR_simple (by decide) rfl
  have HS := Lib.hid her
  clear hs hsz her
  go_enter Tryz.func187, Tryz.ntmps187
  go_wp2
  exact bodyPost_ret (v := .tuple #[.slice (some ⟨w.heap.size, 0, none⟩) 1 1, .int .i64 1, .nilIface]) (by simp [results, Tryz.results187, go_sem]) rfl ⟨.inl ⟨[10], 1, _, HS.out, rfl, owns_fresh (Nat.le_refl _) 5 [Value.int .u8 10] (by decide)⟩, (Below.refl _ _).alloc (Nat.le_refl _) _⟩
set_option maxHeartbeats 4000000 in
set_option maxRecDepth 100000 in
theorem escape_s114 (a b : Addr) (s : ByteArray) (r : List UInt8) (w : World) (hs : s.data.toList = 114 :: r) :
    Calls Tryz.prog 187 #[.string s] w (EscPost a b s.data.toList w) := by
  have hsz : s.size = r.length + 1 := by
    have : s.size = s.data.toList.length := (Array.length_toList).symm
    rw [this, hs]; simp
  have hpos : 0 < s.size := by omega
  have h0 := first_byte hs hpos
  have hne : (s.toList == []) = false := by rw [ByteArray.toList_eq, hs]; rfl
  have i0 : (0 : Int) < (s.size : Int) := by omega
  have her : escR s.data.toList = some ([13], 1) := by rw [hs]; exact escR_simple (by decide) rfl
  have HS := Lib.hid her
  clear hs hsz her
  go_enter Tryz.func187, Tryz.ntmps187
  go_wp2
  exact bodyPost_ret (v := .tuple #[.slice (some ⟨w.heap.size, 0, none⟩) 1 1, .int .i64 1, .nilIface]) (by simp [results, Tryz.results187, go_sem]) rfl ⟨.inl ⟨[13], 1, _, HS.out, rfl, owns_fresh (Nat.le_refl _) 5 [Value.int .u8 13] (by decide)⟩, (Below.refl _ _).alloc (Nat.le_refl _) _⟩
end Go.Proofs.YtchggapclmdpaaaGreatDoor
namespace Go.Proofs.YtchggapclmdpaaaGreatDoor
open Go.RowKit Go.Lib

set_option maxHeartbeats 4000000 in
set_option maxRecDepth 100000 in
theorem escape_s116 (a b : Addr) (s : ByteArray) (r : List UInt8) (w : World) (hs : s.data.toList = 116 :: r) :
    Calls Tryz.prog 187 #[.string s] w (EscPost a b s.data.toList w) := by
  have hsz : s.size = r.length + 1 := by
    have : s.size = s.data.toList.length := (Array.length_toList).symm
    rw [this, hs]; simp
  have hpos : 0 < s.size := by omega
  have h0 := first_byte hs hpos
  have hne : (s.toList == []) = false := by rw [ByteArray.toList_eq, hs]; rfl
  have i0 : (0 : Int) < (s.size : Int) := by omega
  have her : escR s.data.toList = some ([9], 1) := by rw [hs]; exact escR_simple (by decide) rfl
  have HS := Lib.hid her
  clear hs hsz her
  go_enter Tryz.func187, Tryz.ntmps187
  go_wp2
  exact bodyPost_ret (v := .tuple #[.slice (some ⟨w.heap.size, 0, none⟩) 1 1, .int .i64 1, .nilIface]) (by simp [results, Tryz.results187, go_sem]) rfl ⟨.inl ⟨[9], 1, _, HS.out, rfl, owns_fresh (Nat.le_refl _) 5 [Value.int .u8 9] (by decide)⟩, (Below.refl _ _).alloc (Nat.le_refl _) _⟩
set_option maxHeartbeats 4000000 in
set_option maxRecDepth 100000 in
theorem escape_s118 (a b : Addr) (s : ByteArray) (r : List UInt8) (w : World) (hs : s.data.toList = 118 :: r) :
    Calls Tryz.prog 187 #[.string s] w (EscPost a b s.data.toList w) := by
  have hsz : s.size = r.length + 1 := by
    have : s.size = s.data.toList.length := (Array.length_toList).symm
    rw [this, hs]; simp
  have hpos : 0 < s.size := by omega
  have h0 := first_byte hs hpos
  have hne : (s.toList == []) = false := by rw [ByteArray.toList_eq, hs]; rfl
  have i0 : (0 : Int) < (s.size : Int) := by omega
  have her : escR s.data.toList = some ([11], 1) := by rw [hs]; exact escR_simple (by decide) rfl
  have HS := Lib.hid her
  clear hs hsz her
  go_enter Tryz.func187, Tryz.ntmps187
  go_wp2
  exact bodyPost_ret (v := .tuple #[.slice (some ⟨w.heap.size, 0, none⟩) 1 1, .int .i64 1, .nilIface]) (by simp [results, Tryz.results187, go_sem]) rfl ⟨.inl ⟨[11], 1, _, HS.out, rfl, owns_fresh (Nat.le_refl _) 5 [Value.int .u8 11] (by decide)⟩, (Below.refl _ _).alloc (Nat.le_refl _) _⟩
set_option maxHeartbeats 4000000 in
set_option maxRecDepth 100000 in
theorem escape_s92 (a b : Addr) (s : ByteArray) (r : List UInt8) (w : World) (hs : s.data.toList = 92 :: r) :
    Calls Tryz.prog 187 #[.string s] w (EscPost a b s.data.toList w) := by
  have hsz : s.size = r.length + 1 := by
    have : s.size = s.data.toList.length := (Array.length_toList).symm
    rw [this, hs]; simp
  have hpos : 0 < s.size := by omega
  have h0 := first_byte hs hpos
  have hne : (s.toList == []) = false := by rw [ByteArray.toList_eq, hs]; rfl
  have i0 : (0 : Int) < (s.size : Int) := by omega
  have her : escR s.data.toList = some ([92], 1) := by rw [hs]; exact escR_simple (by decide) rfl
  have HS := Lib.hid her
  clear hs hsz her
  go_enter Tryz.func187, Tryz.ntmps187
  go_wp2
  exact bodyPost_ret (v := .tuple #[.slice (some ⟨w.heap.size, 0, none⟩) 1 1, .int .i64 1, .nilIface]) (by simp [results, Tryz.results187, go_sem]) rfl ⟨.inl ⟨[92], 1, _, HS.out, rfl, owns_fresh (Nat.le_refl _) 5 [Value.int .u8 92] (by decide)⟩, (Below.refl _ _).alloc (Nat.le_refl _) _⟩
set_option maxHeartbeats 4000000 in
set_option maxRecDepth 100000 in
theorem escape_s39 (a b : Addr) (s : ByteArray) (r : List UInt8) (w : World) (hs : s.data.toList = 39 :: r) :
    Calls Tryz.prog 187 #[.string s] w (EscPost a b s.data.toList w) := by
  have hsz : s.size = r.length + 1 := by
    have : s.size = s.data.toList.length := (Array.length_toList).symm
    rw [this, hs]; simp
  have hpos : 0 < s.size := by omega
  have h0 := first_byte hs hpos
  have hne : (s.toList == []) = false := by rw [ByteArray.toList_eq, hs]; rfl
  have i0 : (0 : Int) < (s.size : Int) := by omega
  have her : escR s.data.toList = some ([39], 1) := by rw [hs]; exact escR_simple (by decide) rfl
  have HS := Lib.hid her
  clear hs hsz her
  go_enter Tryz.func187, Tryz.ntmps187
  go_wp2
  exact bodyPost_ret (v := .tuple #[.slice (some ⟨w.heap.size, 0, none⟩) 1 1, .int .i64 1, .nilIface]) (by simp [results, Tryz.results187, go_sem]) rfl ⟨.inl ⟨[39], 1, _, HS.out, rfl, owns_fresh (Nat.le_refl _) 5 [Value.int .u8 39] (by decide)⟩, (Below.refl _ _).alloc (Nat.le_refl _) _⟩
set_option maxHeartbeats 4000000 in
set_option maxRecDepth 100000 in
theorem escape_s34 (a b : Addr) (s : ByteArray) (r : List UInt8) (w : World) (hs : s.data.toList = 34 :: r) :
    Calls Tryz.prog 187 #[.string s] w (EscPost a b s.data.toList w) := by
  have hsz : s.size = r.length + 1 := by
    have : s.size = s.data.toList.length := (Array.length_toList).symm
    rw [this, hs]; simp
  have hpos : 0 < s.size := by omega
  have h0 := first_byte hs hpos
  have hne : (s.toList == []) = false := by rw [ByteArray.toList_eq, hs]; rfl
  have i0 : (0 : Int) < (s.size : Int) := by omega
  have her : escR s.data.toList = some ([34], 1) := by rw [hs]; exact escR_simple (by decide) rfl
  have HS := Lib.hid her
  clear hs hsz her
  go_enter Tryz.func187, Tryz.ntmps187
  go_wp2
  exact bodyPost_ret (v := .tuple #[.slice (some ⟨w.heap.size, 0, none⟩) 1 1, .int .i64 1, .nilIface]) (by simp [results, Tryz.results187, go_sem]) rfl ⟨.inl ⟨[34], 1, _, HS.out, rfl, owns_fresh (Nat.le_refl _) 5 [Value.int .u8 34] (by decide)⟩, (Below.refl _ _).alloc (Nat.le_refl _) _⟩
end Go.Proofs.YtchggapclmdpaaaGreatDoor
namespace Go.Proofs.YtchggapclmdpaaaGreatDoor
open Go.RowKit Go.Lib

set_option maxHeartbeats 8000000 in
set_option maxRecDepth 100000 in
theorem escape_x (K : Nat) (a b : Addr) (s : ByteArray) (c : UInt8) (r : List UInt8) (w : World) (hE : LaidE K a b w) (hs : s.data.toList = c :: r) (hc : c = 120) (hbig : s.size ≤ 1000000000) :
    Calls Tryz.prog 187 #[.string s] w (EscPost a b s.data.toList w) := by
  have hsz : s.size = r.length + 1 := by
    have : s.size = s.data.toList.length := (Array.length_toList).symm
    rw [this, hs]; simp
  have hpos : 0 < s.size := by omega
  have h0 := first_byte hs hpos
  have hne : (s.toList == []) = false := by rw [ByteArray.toList_eq, hs]; rfl
  have i0 : (0 : Int) < (s.size : Int) := by omega
  have i1 : (1 : Int) ≤ (s.size : Int) := by omega
  have ce := hE.esc
  have hkey : ¬ 0 ≤ simpleV c ∧ escK c = some (2, 16, 1, 255) := by
    subst hc
    all_goals exact ⟨by decide, by decide⟩
  have her := escR_num (r := r) hkey.1 hkey.2
  have hnum := number_any K a b (s.extract 1 s.size) 2 16 w hE (by omega) (by omega) (by rw [ByteArray.size_extract]; omega)
  rw [extract_data, List.take_of_length_le (by rw [hs, List.length_cons]; omega), hs] at hnum
  rw [hs]
  obtain ⟨N, hN⟩ : ∃ N, numR 2 16 ((c :: r).drop 1) 0 = N := ⟨_, rfl⟩
  rw [hN] at hnum her
  have HN := Lib.hid (show _ ∧ _ from ⟨hnum, her⟩)
  clear hnum her hN hkey hs hsz hE
  obtain ⟨L, hL⟩ : ∃ L, c :: r = L := ⟨_, rfl⟩
  rw [hL] at HN ⊢
  clear hL
  subst hc
  all_goals
    go_enter Tryz.func187, Tryz.ntmps187
    go_wp2_with fail
    refine HN.out.1.mono ?_
    rintro e w1 ⟨⟨n, hNn, h32, rfl⟩ | ⟨hNn, v, hv, rfl⟩, q, rfl⟩
    · have her := HN.out.2
      rw [hNn] at her
      have her2 : escR L = match outR 255 n with | none => none | some x => some (x, 3) := her
      clear her
      by_cases hm : 255 < n
      · have hout : escR L = none := by rw [her2]; unfold outR; rw [if_pos (Or.inl hm)]
        have j1 : (255 : Int) < (n : Int) := by omega
        have HO := Lib.hid hout
        clear hout her2
        go_wp2_with (go_quiet (fail))
        exact bodyPost_ret (v := .tuple #[.slice none 0 0, .int .i64 0, .iface 341 (.pointer (some b))]) (by simp [results, Tryz.results187, go_sem]) rfl ⟨.inr ⟨HO.out, _, .inr rfl, rfl⟩, by first | exact below_drewN (Below.refl _ _) _ | exact below_drewN (below_drewN (Below.refl _ _) _) _⟩
      · have j1 : ¬ (255 : Int) < (n : Int) := by omega
        have j2 : IntKind.u8.wrap (n : Int) = (n : Int) := u8_nat n (by omega)
        have hout : escR L = some ([UInt8.ofNat n], 3) := by
          rw [her2]
          have h : outR 255 n = some [UInt8.ofNat n] := by unfold outR; rw [if_neg (by omega), if_neg (by decide)]
          rw [h]
        have hcell : bytesV [UInt8.ofNat n] = [Value.int .u8 n] := by
          unfold bytesV
          rw [List.map_cons, List.map_nil, UInt8.toNat_ofNat_of_lt' (by show n < 256; omega)]
        have HO := Lib.hid (show _ ∧ _ from ⟨hout, hcell⟩)
        clear hout hcell her2
        go_wp2
        refine bodyPost_ret (v := .tuple #[.slice (some ⟨w.heap.size, 0, none⟩) 1 1, .int .i64 3, .nilIface]) (by simp [results, Tryz.results187, go_sem]) rfl ⟨.inl ⟨_, 3, _, HO.out.1, rfl, ?_⟩, (below_drewN (Below.refl _ _) q).alloc (Nat.le_refl _) _⟩
        rw [HO.out.2]
        exact owns_fresh (w := w.drewN q) (B := w.heap.size) (Nat.le_refl _) 5 [Value.int .u8 n] (by show 1 ≤ maxLen; decide)
    · have her := HN.out.2
      rw [hNn] at her
      have HV := Lib.hid (show _ ∧ escR L = none from ⟨hv, her⟩)
      clear her
      rcases hv with rfl | rfl
      · go_wp2
        exact bodyPost_ret (v := .tuple #[.slice none 0 0, .int .i64 0, .iface 341 (.pointer (some a))]) (by simp [results, Tryz.results187, go_sem]) rfl ⟨.inr ⟨HV.out.2, _, .inl rfl, rfl⟩, below_drewN (Below.refl _ _) q⟩
      · go_wp2
        exact bodyPost_ret (v := .tuple #[.slice none 0 0, .int .i64 0, .iface 341 (.pointer (some b))]) (by simp [results, Tryz.results187, go_sem]) rfl ⟨.inr ⟨HV.out.2, _, .inr rfl, rfl⟩, below_drewN (Below.refl _ _) q⟩
end Go.Proofs.YtchggapclmdpaaaGreatDoor
