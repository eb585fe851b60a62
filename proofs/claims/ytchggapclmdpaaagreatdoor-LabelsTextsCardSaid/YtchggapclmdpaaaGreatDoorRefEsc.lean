/- The document's escape. -/
import Derived.Test.YtchggapclmdpaaaGreatDoorRefNum
import Derived.Test.YtchggapclmdpaaaGreatDoorGl
namespace Go.Proofs.YtchggapclmdpaaaGreatDoor
open Go.RowKit Go.Lib

/-- What it leaves. -/
def REscPost (l : List UInt8) (w : World) (e : Ending) (w' : World) : Prop :=
  ((∃ (x : List UInt8) (k : Nat) (v : Value), escR l = some (x, k) ∧ e = .returned (.tuple #[v, .int .i64 k, .int .i64 0]) ∧ w'.ownsRow w.heap.size 5 1 v x.length (bytesV x)) ∨ (escR l = none ∧ ∃ q : Int, (q = 1 ∨ q = 2) ∧ e = .returned (.tuple #[.slice none 0 0, .int .i64 0, .int .i64 q]))) ∧ Below w.heap.size w w'
theorem drop_at {s : ByteArray} {k : Nat} (h : k < s.size) : s.data.toList.drop k = s[k]'h :: s.data.toList.drop (k + 1) := by
  have h1 : k < s.data.toList.length := by rw [Array.length_toList]; exact h
  rw [List.drop_eq_getElem_cons h1]
  rfl
theorem simpleV_le (c : UInt8) : simpleV c ≤ 255 := by
  have := c.toNat_lt
  unfold simpleV
  split <;> (try split) <;> (try split) <;> (try split) <;> (try split) <;> (try split) <;> (try split) <;> (try split) <;> omega
set_option maxHeartbeats 2000000 in
set_option maxRecDepth 100000 in
theorem refEsc_end (s : ByteArray) (k : Nat) (w : World) (hk : s.size ≤ k) (_hbig : k ≤ 1000000000) :
    Calls Tryz.prog 160 #[.string s, .int .i64 k] w (REscPost (s.data.toList.drop k) w) := by
  rw [List.drop_eq_nil_of_le (by rw [Array.length_toList]; exact hk)]
  have i0 : (s.size : Int) ≤ (k : Int) := by omega
  go_enter Tryz.func160, Tryz.ntmps160
  go_wp2
  exact bodyPost_ret (v := .tuple #[.slice none 0 0, .int .i64 0, .int .i64 2]) (by simp [results, Tryz.results160, go_sem]) rfl ⟨.inr ⟨rfl, _, .inr rfl, rfl⟩, Below.refl _ _⟩
set_option maxHeartbeats 2000000 in
set_option maxRecDepth 100000 in
theorem refEsc_simple (s : ByteArray) (k : Nat) (c : UInt8) (w : World) (hk : k < s.size) (hc : s[k]'hk = c) (hv : 0 ≤ simpleV c) (_hbig : s.size ≤ 1000000000) :
    Calls Tryz.prog 160 #[.string s, .int .i64 k] w (REscPost (s.data.toList.drop k) w) := by
  have her : escR (s.data.toList.drop k) = some ([UInt8.ofNat (simpleV c).toNat], 1) := by rw [drop_at hk, hc, escR, if_pos hv]
  have hle := simpleV_le c
  have hs := fun W => refSimple_any c W
  have HE := Lib.hid her
  clear her
  generalize simpleV c = v at *
  have hcell : bytesV [UInt8.ofNat v.toNat] = [Value.int .u8 v] := by
    unfold bytesV
    rw [List.map_cons, List.map_nil, UInt8.toNat_ofNat_of_lt' (by show v.toNat < 256; omega), Int.toNat_of_nonneg hv]
  have i0 : ¬ (s.size : Int) ≤ (k : Int) := by omega
  have i1 : (k : Int) < (s.size : Int) := by omega
  have i2 : (0 : Int) ≤ (k : Int) := by omega
  have k1 : IntKind.u8.wrap v = v := u8_in _ (by omega)
  have HC := Lib.hid (show _ ∧ _ from ⟨hcell, hs⟩)
  clear hcell hs
  go_enter Tryz.func160, Tryz.ntmps160
  go_wp2_with (go_at_call 179; refine (HC.out.2 _).mono ?_; rintro e w' ⟨rfl, hw⟩; obtain rfl := hw.symm)
  refine bodyPost_ret (v := .tuple #[.slice (some ⟨w.heap.size, 0, none⟩) 1 1, .int .i64 1, .int .i64 0]) (by simp [results, Tryz.results160, go_sem]) rfl ⟨.inl ⟨_, 1, _, HE.out, rfl, ?_⟩, (Below.refl _ _).alloc (Nat.le_refl _) _⟩
  rw [HC.out.1]
  exact owns_fresh (Nat.le_refl _) 5 [Value.int .u8 v] (by show 1 ≤ maxLen; decide)
set_option maxHeartbeats 8000000 in
set_option maxRecDepth 100000 in
theorem refEsc_none (s : ByteArray) (k : Nat) (c : UInt8) (w : World) (hk : k < s.size) (hc : s[k]'hk = c) (hkind : noEsc c) (hbig : s.size ≤ 1000000000) :
    Calls Tryz.prog 160 #[.string s, .int .i64 k] w (REscPost (s.data.toList.drop k) w) := by
  obtain ⟨n97, n98, n102, n110, n114, n116, n118, n92, n39, n34, n85, n117, n120, n48, n49, n50, n51, n52, n53, n54, n55⟩ := hkind
  have hv : simpleV c = -1 := simpleV_no ⟨n97, n98, n102, n110, n114, n116, n118, n92, n39, n34⟩
  have h3 : ∀ m : UInt8, c ≠ m → c.toNat ≠ m.toNat := fun m h e => h (UInt8.toNat_inj.1 e)
  have m48 := h3 48 n48
  have m49 := h3 49 n49
  have m50 := h3 50 n50
  have m51 := h3 51 n51
  have m52 := h3 52 n52
  have m53 := h3 53 n53
  have m54 := h3 54 n54
  have m55 := h3 55 n55
  simp at m48 m49 m50 m51 m52 m53 m54 m55
  have hno : ¬ (48 ≤ c.toNat ∧ c.toNat ≤ 55) := by omega
  have her : escR (s.data.toList.drop k) = none := by
    rw [drop_at hk, hc]
    refine escR_none (by omega) ?_
    unfold escK
    rw [if_neg n120, if_neg n117, if_neg n85, if_neg hno]
  have q120 : ((c.toNat : Int) == 120) = false := byte_ne n120
  have q117 : ((c.toNat : Int) == 117) = false := byte_ne n117
  have q85 : ((c.toNat : Int) == 85) = false := byte_ne n85
  have HE := Lib.hid her
  clear her h3
  have hs := fun W => refSimple_any c W
  rw [hv] at hs
  have i0 : ¬ (s.size : Int) ≤ (k : Int) := by omega
  have i1 : (k : Int) < (s.size : Int) := by omega
  have i2 : (0 : Int) ≤ (k : Int) := by omega
  have HS := Lib.hid hs
  clear hs hv n97 n98 n102 n110 n114 n116 n118 n92 n39 n34 n85 n117 n120 n48 n49 n50 n51 n52 n53 n54 n55 m48 m49 m50 m51 m52 m53 m54 m55
  by_cases h48 : 48 ≤ c.toNat
  · have p1 : (48 : Int) ≤ (c.toNat : Int) := by omega
    have p2 : ¬ (c.toNat : Int) ≤ 55 := by omega
    go_enter Tryz.func160, Tryz.ntmps160
    go_wp2_with (go_at_call 179; refine (HS.out _).mono ?_; rintro e w' ⟨rfl, hw⟩; obtain rfl := hw.symm)
    exact bodyPost_ret (v := .tuple #[.slice none 0 0, .int .i64 0, .int .i64 1]) (by simp [results, Tryz.results160, go_sem]) rfl ⟨.inr ⟨HE.out, _, .inl rfl, rfl⟩, Below.refl _ _⟩
  · have p1 : ¬ (48 : Int) ≤ (c.toNat : Int) := by omega
    go_enter Tryz.func160, Tryz.ntmps160
    go_wp2_with (go_at_call 179; refine (HS.out _).mono ?_; rintro e w' ⟨rfl, hw⟩; obtain rfl := hw.symm)
    exact bodyPost_ret (v := .tuple #[.slice none 0 0, .int .i64 0, .int .i64 1]) (by simp [results, Tryz.results160, go_sem]) rfl ⟨.inr ⟨HE.out, _, .inl rfl, rfl⟩, Below.refl _ _⟩
set_option maxHeartbeats 8000000 in
set_option maxRecDepth 100000 in
theorem refEsc_x (s : ByteArray) (k : Nat) (c : UInt8) (w : World) (hk : k < s.size) (hc : s[k]'hk = c) (hkind : c = 120) (hbig : s.size ≤ 1000000000) :
    Calls Tryz.prog 160 #[.string s, .int .i64 k] w (REscPost (s.data.toList.drop k) w) := by
  subst hkind
  have hv : simpleV 120 = -1 := by decide
  have hK : escK 120 = some (2, 16, 1, 255) := by decide
  have hs := fun W => refSimple_any 120 W
  rw [hv] at hs
  have i0 : ¬ (s.size : Int) ≤ (k : Int) := by omega
  have i1 : (k : Int) < (s.size : Int) := by omega
  have i2 : (0 : Int) ≤ (k : Int) := by omega
  have her : escR (s.data.toList.drop k) = match numR 2 16 (s.data.toList.drop (k + 1)) 0 with
      | none => none
      | some n => match outR 255 n with
        | none => none
        | some x => some (x, 3) := by
    have hd := drop_at hk
    rw [hc] at hd
    have h2 : (s.data.toList.drop k).drop 1 = s.data.toList.drop (k + 1) := by rw [List.drop_drop]
    rw [← h2, hd]
    exact escR_num (by omega) hK
  obtain ⟨N, hN⟩ : ∃ N, numR 2 16 (s.data.toList.drop (k + 1)) 0 = N := ⟨_, rfl⟩
  rw [hN] at her
  obtain ⟨L, hL⟩ : ∃ L, s.data.toList.drop k = L := ⟨_, rfl⟩
  rw [hL] at her ⊢
  have HE := Lib.hid (show _ ∧ _ from ⟨her, hN⟩)
  have HS := Lib.hid hs
  have w1 : IntKind.i64.wrap ((k : Int) + 1) = (k : Int) + 1 := IntWalk.i64_in _ (by omega)
  clear her hN hL hs hK
  go_enter Tryz.func160, Tryz.ntmps160
  go_wp2_with (go_at_call 179; refine (HS.out _).mono ?_; rintro e w' ⟨rfl, hw⟩; obtain rfl := hw.symm)
  go_loopw [12, 13, 14] (fun nv iv _ wr => ∃ (j n : Nat), j ≤ 2 ∧ nv = .int .i64 n ∧ iv = .int .i64 j ∧ wr = w ∧ Hid (n < 16 ^ j ∧ numR (2 - j) 16 (s.data.toList.drop (k + 1 + j)) n = N)) (fun _ iv _ _ => 2 - (intOf iv).toNat)
  case atStart => exact ⟨0, 0, Nat.zero_le _, rfl, rfl, rfl, Lib.hid ⟨by decide, HE.out.2⟩⟩
  case round =>
    obtain ⟨j, n, hj, rfl, rfl, hw, HR⟩ := hrel
    obtain rfl := hw.symm
    by_cases hlt : j < 2
    · have j1 : (j : Int) < 2 := by omega
      have j0 : (0 : Int) ≤ (j : Int) := by omega
      have hpow : n < 16 ^ 7 := Nat.lt_of_lt_of_le HR.out.1 (Nat.pow_le_pow_right (by decide) (by omega))
      have hst : 2 - j = (2 - (j + 1)) + 1 := by omega
      have w2 : IntKind.i64.wrap ((k : Int) + 1 + (j : Int)) = (k : Int) + 1 + (j : Int) := IntWalk.i64_in _ (by omega)
      by_cases hks : k + 1 + j < s.size
      · have j2 : ¬ (s.size : Int) ≤ (k : Int) + 1 + (j : Int) := by omega
        have j3 : (k : Int) + 1 + (j : Int) < (s.size : Int) := by omega
        have j4 : (0 : Int) ≤ (k : Int) + 1 + (j : Int) := by omega
        have j5 : ((k : Int) + 1 + (j : Int)).toNat = k + 1 + j := by omega
        obtain ⟨d, hd⟩ : ∃ d, s[k + 1 + j]'hks = d := ⟨_, rfl⟩
        have hdr := drop_at hks
        rw [hd] at hdr
        have hnr := HR.out.2
        rw [hst, hdr, numR] at hnr
        have hx := fun W => refHex_any d.toNat d.toNat_lt W
        have hv2 := hexV_lt d.toNat
        generalize hexV d.toNat = v at hnr hx hv2
        have HX := Lib.hid (show _ ∧ _ from ⟨hnr, hx⟩)
        clear hnr hx hdr hst
        by_cases h0 : v < 0 ∨ 16 ≤ v
        · have hno : N = none := by have := HX.out.1; rw [if_pos (h0.imp id (fun h => by omega))] at this; exact this.symm
          have her : escR L = none := by have := HE.out.1; rw [hno] at this; exact this
          have HN := Lib.hid her
          clear hno her
          by_cases h00 : v < 0
          · go_wp2_with (go_at_call 180; refine (HX.out.2 _).mono ?_; rintro e w' ⟨rfl, hw⟩; obtain rfl := hw.symm)
            exact bodyPost_ret (v := .tuple #[.slice none 0 0, .int .i64 0, .int .i64 1]) (by simp [results, Tryz.results160, go_sem]) rfl ⟨.inr ⟨HN.out, _, .inl rfl, rfl⟩, Below.refl _ _⟩
          · have h01 : (16 : Int) ≤ v := by omega
            go_wp2_with (go_at_call 180; refine (HX.out.2 _).mono ?_; rintro e w' ⟨rfl, hw⟩; obtain rfl := hw.symm)
            exact bodyPost_ret (v := .tuple #[.slice none 0 0, .int .i64 0, .int .i64 1]) (by simp [results, Tryz.results160, go_sem]) rfl ⟨.inr ⟨HN.out, _, .inl rfl, rfl⟩, Below.refl _ _⟩
        · have h00 : ¬ v < 0 := by omega
          have h01 : ¬ (16 : Int) ≤ v := by omega
          have hnr : numR (2 - (j + 1)) 16 (s.data.toList.drop (k + 1 + j + 1)) (n * 16 + v.toNat) = N := by have := HX.out.1; rwa [if_neg (by omega)] at this
          have hlt2 : n * 16 + v.toNat < 16 ^ (j + 1) := by
            have := HR.out.1
            rw [Nat.pow_succ]
            omega
          have k1 : IntKind.i64.wrap (16 * (n : Int)) = ((n * 16 : Nat) : Int) := by
            rw [show 16 * (n : Int) = ((n * 16 : Nat) : Int) by omega]
            exact IntWalk.i64_in _ (by omega)
          have k2 : IntKind.i64.wrap (((n * 16 : Nat) : Int) + v) = ((n * 16 + v.toNat : Nat) : Int) := by
            rw [show ((n * 16 : Nat) : Int) + v = ((n * 16 + v.toNat : Nat) : Int) by omega]
            exact IntWalk.i64_in _ (by omega)
          have HN := Lib.hid (show _ ∧ _ from ⟨hlt2, hnr⟩)
          clear hnr hlt2
          go_wp2_with (go_at_call 180; refine (HX.out.2 _).mono ?_; rintro e w' ⟨rfl, hw⟩; obtain rfl := hw.symm)
          go_roundw
          case measure => simp [intOf]; omega
          case rel => exact ⟨j + 1, n * 16 + v.toNat, hlt, by first | rfl | (congr 1; omega) | (simp; omega), by simp, by first | rfl | trivial, HN⟩
      · have j2 : (s.size : Int) ≤ (k : Int) + 1 + (j : Int) := by omega
        have hno : N = none := by
          have := HR.out.2
          rw [hst, List.drop_eq_nil_of_le (by rw [Array.length_toList]; show s.size ≤ _; omega)] at this
          exact this.symm
        have her : escR L = none := by have := HE.out.1; rw [hno] at this; exact this
        have HN := Lib.hid her
        clear hno her hst
        go_wp2
        exact bodyPost_ret (v := .tuple #[.slice none 0 0, .int .i64 0, .int .i64 2]) (by simp [results, Tryz.results160, go_sem]) rfl ⟨.inr ⟨HN.out, _, .inr rfl, rfl⟩, Below.refl _ _⟩
    · obtain rfl : j = 2 := by omega
      have hyes : N = some n := by
        have := HR.out.2
        exact this.symm
      have hpow : n < 4294967296 := Nat.lt_of_lt_of_le HR.out.1 (by decide)
      have her : escR L = match outR 255 n with | none => none | some x => some (x, 3) := by have := HE.out.1; rw [hyes] at this; exact this
      clear hyes
      by_cases hm : 255 < n
      · have hno : escR L = none := by rw [her]; unfold outR; rw [if_pos (Or.inl hm)]
        have j1 : (255 : Int) < (n : Int) := by omega
        have HN := Lib.hid hno
        clear hno her
        go_wp2
        exact bodyPost_ret (v := .tuple #[.slice none 0 0, .int .i64 0, .int .i64 1]) (by simp [results, Tryz.results160, go_sem]) rfl ⟨.inr ⟨HN.out, _, .inl rfl, rfl⟩, Below.refl _ _⟩
      · have j1 : ¬ (255 : Int) < (n : Int) := by omega
        have j2 : IntKind.u8.wrap (n : Int) = (n : Int) := u8_nat n (by omega)
        have hout : escR L = some ([UInt8.ofNat n], 3) := by
          rw [her]
          have h : outR 255 n = some [UInt8.ofNat n] := by unfold outR; rw [if_neg (by omega), if_neg (by decide)]
          rw [h]
        have hcell : bytesV [UInt8.ofNat n] = [Value.int .u8 n] := by
          unfold bytesV
          rw [List.map_cons, List.map_nil, UInt8.toNat_ofNat_of_lt' (by show n < 256; omega)]
        have s1 : IntKind.i64.wrap ((k : Int) + 1 - (k : Int)) = 1 := by rw [show (k : Int) + 1 - (k : Int) = 1 by omega]; exact IntWalk.i64_in _ (by decide)
        have HO := Lib.hid (show _ ∧ _ from ⟨hout, hcell⟩)
        clear hout hcell her
        go_wp2
        refine bodyPost_ret (v := .tuple #[.slice (some ⟨w.heap.size, 0, none⟩) 1 1, .int .i64 3, .int .i64 0]) (by simp [results, Tryz.results160, go_sem]) rfl ⟨.inl ⟨_, 3, _, HO.out.1, rfl, ?_⟩, (Below.refl _ _).alloc (Nat.le_refl _) _⟩
        rw [HO.out.2]
        exact owns_fresh (Nat.le_refl _) 5 [Value.int .u8 n] (by show 1 ≤ maxLen; decide)
set_option maxHeartbeats 8000000 in
set_option maxRecDepth 100000 in
theorem refEsc_u (s : ByteArray) (k : Nat) (c : UInt8) (w : World) (hk : k < s.size) (hc : s[k]'hk = c) (hkind : c = 117) (hbig : s.size ≤ 1000000000) :
    Calls Tryz.prog 160 #[.string s, .int .i64 k] w (REscPost (s.data.toList.drop k) w) := by
  subst hkind
  have hv : simpleV 117 = -1 := by decide
  have hK : escK 117 = some (4, 16, 1, 1114111) := by decide
  have hs := fun W => refSimple_any 117 W
  rw [hv] at hs
  have i0 : ¬ (s.size : Int) ≤ (k : Int) := by omega
  have i1 : (k : Int) < (s.size : Int) := by omega
  have i2 : (0 : Int) ≤ (k : Int) := by omega
  have her : escR (s.data.toList.drop k) = match numR 4 16 (s.data.toList.drop (k + 1)) 0 with
      | none => none
      | some n => match outR 1114111 n with
        | none => none
        | some x => some (x, 5) := by
    have hd := drop_at hk
    rw [hc] at hd
    have h2 : (s.data.toList.drop k).drop 1 = s.data.toList.drop (k + 1) := by rw [List.drop_drop]
    rw [← h2, hd]
    exact escR_num (by omega) hK
  obtain ⟨N, hN⟩ : ∃ N, numR 4 16 (s.data.toList.drop (k + 1)) 0 = N := ⟨_, rfl⟩
  rw [hN] at her
  obtain ⟨L, hL⟩ : ∃ L, s.data.toList.drop k = L := ⟨_, rfl⟩
  rw [hL] at her ⊢
  have HE := Lib.hid (show _ ∧ _ from ⟨her, hN⟩)
  have HS := Lib.hid hs
  have w1 : IntKind.i64.wrap ((k : Int) + 1) = (k : Int) + 1 := IntWalk.i64_in _ (by omega)
  clear her hN hL hs hK
  go_enter Tryz.func160, Tryz.ntmps160
  go_wp2_with (go_at_call 179; refine (HS.out _).mono ?_; rintro e w' ⟨rfl, hw⟩; obtain rfl := hw.symm)
  go_loopw [12, 13, 14] (fun nv iv _ wr => ∃ (j n : Nat), j ≤ 4 ∧ nv = .int .i64 n ∧ iv = .int .i64 j ∧ wr = w ∧ Hid (n < 16 ^ j ∧ numR (4 - j) 16 (s.data.toList.drop (k + 1 + j)) n = N)) (fun _ iv _ _ => 4 - (intOf iv).toNat)
  case atStart => exact ⟨0, 0, Nat.zero_le _, rfl, rfl, rfl, Lib.hid ⟨by decide, HE.out.2⟩⟩
  case round =>
    obtain ⟨j, n, hj, rfl, rfl, hw, HR⟩ := hrel
    obtain rfl := hw.symm
    by_cases hlt : j < 4
    · have j1 : (j : Int) < 4 := by omega
      have j0 : (0 : Int) ≤ (j : Int) := by omega
      have hpow : n < 16 ^ 7 := Nat.lt_of_lt_of_le HR.out.1 (Nat.pow_le_pow_right (by decide) (by omega))
      have hst : 4 - j = (4 - (j + 1)) + 1 := by omega
      have w2 : IntKind.i64.wrap ((k : Int) + 1 + (j : Int)) = (k : Int) + 1 + (j : Int) := IntWalk.i64_in _ (by omega)
      by_cases hks : k + 1 + j < s.size
      · have j2 : ¬ (s.size : Int) ≤ (k : Int) + 1 + (j : Int) := by omega
        have j3 : (k : Int) + 1 + (j : Int) < (s.size : Int) := by omega
        have j4 : (0 : Int) ≤ (k : Int) + 1 + (j : Int) := by omega
        have j5 : ((k : Int) + 1 + (j : Int)).toNat = k + 1 + j := by omega
        obtain ⟨d, hd⟩ : ∃ d, s[k + 1 + j]'hks = d := ⟨_, rfl⟩
        have hdr := drop_at hks
        rw [hd] at hdr
        have hnr := HR.out.2
        rw [hst, hdr, numR] at hnr
        have hx := fun W => refHex_any d.toNat d.toNat_lt W
        have hv2 := hexV_lt d.toNat
        generalize hexV d.toNat = v at hnr hx hv2
        have HX := Lib.hid (show _ ∧ _ from ⟨hnr, hx⟩)
        clear hnr hx hdr hst
        by_cases h0 : v < 0 ∨ 16 ≤ v
        · have hno : N = none := by have := HX.out.1; rw [if_pos (h0.imp id (fun h => by omega))] at this; exact this.symm
          have her : escR L = none := by have := HE.out.1; rw [hno] at this; exact this
          have HN := Lib.hid her
          clear hno her
          by_cases h00 : v < 0
          · go_wp2_with (go_at_call 180; refine (HX.out.2 _).mono ?_; rintro e w' ⟨rfl, hw⟩; obtain rfl := hw.symm)
            exact bodyPost_ret (v := .tuple #[.slice none 0 0, .int .i64 0, .int .i64 1]) (by simp [results, Tryz.results160, go_sem]) rfl ⟨.inr ⟨HN.out, _, .inl rfl, rfl⟩, Below.refl _ _⟩
          · have h01 : (16 : Int) ≤ v := by omega
            go_wp2_with (go_at_call 180; refine (HX.out.2 _).mono ?_; rintro e w' ⟨rfl, hw⟩; obtain rfl := hw.symm)
            exact bodyPost_ret (v := .tuple #[.slice none 0 0, .int .i64 0, .int .i64 1]) (by simp [results, Tryz.results160, go_sem]) rfl ⟨.inr ⟨HN.out, _, .inl rfl, rfl⟩, Below.refl _ _⟩
        · have h00 : ¬ v < 0 := by omega
          have h01 : ¬ (16 : Int) ≤ v := by omega
          have hnr : numR (4 - (j + 1)) 16 (s.data.toList.drop (k + 1 + j + 1)) (n * 16 + v.toNat) = N := by have := HX.out.1; rwa [if_neg (by omega)] at this
          have hlt2 : n * 16 + v.toNat < 16 ^ (j + 1) := by
            have := HR.out.1
            rw [Nat.pow_succ]
            omega
          have k1 : IntKind.i64.wrap (16 * (n : Int)) = ((n * 16 : Nat) : Int) := by
            rw [show 16 * (n : Int) = ((n * 16 : Nat) : Int) by omega]
            exact IntWalk.i64_in _ (by omega)
          have k2 : IntKind.i64.wrap (((n * 16 : Nat) : Int) + v) = ((n * 16 + v.toNat : Nat) : Int) := by
            rw [show ((n * 16 : Nat) : Int) + v = ((n * 16 + v.toNat : Nat) : Int) by omega]
            exact IntWalk.i64_in _ (by omega)
          have HN := Lib.hid (show _ ∧ _ from ⟨hlt2, hnr⟩)
          clear hnr hlt2
          go_wp2_with (go_at_call 180; refine (HX.out.2 _).mono ?_; rintro e w' ⟨rfl, hw⟩; obtain rfl := hw.symm)
          go_roundw
          case measure => simp [intOf]; omega
          case rel => exact ⟨j + 1, n * 16 + v.toNat, hlt, by first | rfl | (congr 1; omega) | (simp; omega), by simp, by first | rfl | trivial, HN⟩
      · have j2 : (s.size : Int) ≤ (k : Int) + 1 + (j : Int) := by omega
        have hno : N = none := by
          have := HR.out.2
          rw [hst, List.drop_eq_nil_of_le (by rw [Array.length_toList]; show s.size ≤ _; omega)] at this
          exact this.symm
        have her : escR L = none := by have := HE.out.1; rw [hno] at this; exact this
        have HN := Lib.hid her
        clear hno her hst
        go_wp2
        exact bodyPost_ret (v := .tuple #[.slice none 0 0, .int .i64 0, .int .i64 2]) (by simp [results, Tryz.results160, go_sem]) rfl ⟨.inr ⟨HN.out, _, .inr rfl, rfl⟩, Below.refl _ _⟩
    · obtain rfl : j = 4 := by omega
      have hyes : N = some n := by
        have := HR.out.2
        exact this.symm
      have hpow : n < 4294967296 := Nat.lt_of_lt_of_le HR.out.1 (by decide)
      have her : escR L = match outR 1114111 n with | none => none | some x => some (x, 5) := by have := HE.out.1; rw [hyes] at this; exact this
      clear hyes
      by_cases hm : 1114111 < n
      · have hno : escR L = none := by rw [her]; unfold outR; rw [if_pos (Or.inl hm)]
        have j1 : (1114111 : Int) < (n : Int) := by omega
        have HN := Lib.hid hno
        clear hno her
        go_wp2
        exact bodyPost_ret (v := .tuple #[.slice none 0 0, .int .i64 0, .int .i64 1]) (by simp [results, Tryz.results160, go_sem]) rfl ⟨.inr ⟨HN.out, _, .inl rfl, rfl⟩, Below.refl _ _⟩
      · have j1 : ¬ (1114111 : Int) < (n : Int) := by omega
        by_cases hsur : 55296 ≤ n ∧ n ≤ 57343
        · have hvd : Lib.validRune n = false := by unfold Lib.validRune; exact decide_eq_false (by omega)
          have hno : escR L = none := by rw [her]; unfold outR; rw [if_pos (Or.inr ⟨rfl, hvd⟩)]
          clear hvd
          have j2 : (55296 : Int) ≤ (n : Int) := by omega
          have j3 : (n : Int) ≤ 57343 := by omega
          have HN := Lib.hid hno
          clear hno her
          go_wp2
          exact bodyPost_ret (v := .tuple #[.slice none 0 0, .int .i64 0, .int .i64 1]) (by simp [results, Tryz.results160, go_sem]) rfl ⟨.inr ⟨HN.out, _, .inl rfl, rfl⟩, Below.refl _ _⟩
        · have hvd : Lib.validRune n = true := by unfold Lib.validRune; exact decide_eq_true (by omega)
          have hout : escR L = some (Lib.encodeRune n, 5) := by
            rw [her]
            have h : outR 1114111 n = some (Lib.encodeRune n) := by unfold outR; rw [if_neg (fun h => h.elim (by omega) (fun h => by rw [hvd] at h; cases h.2)), if_pos rfl]
            rw [h]
          have hu := fun W => refUtf8_any n hvd W
          have s1 : IntKind.i64.wrap ((k : Int) + 1 - (k : Int)) = 1 := by rw [show (k : Int) + 1 - (k : Int) = 1 by omega]; exact IntWalk.i64_in _ (by decide)
          have HO := Lib.hid (show _ ∧ _ from ⟨hout, hu⟩)
          clear hout hu her hvd
          by_cases h55 : 55296 ≤ n
          · have j2 : (55296 : Int) ≤ (n : Int) := by omega
            have j3 : ¬ (n : Int) ≤ 57343 := by omega
            go_wp2_with (go_at_call 181; refine (HO.out.2 _).mono ?_; rintro e w3 ⟨v3, rfl, ho3, hb3⟩; have H3 := Lib.hid (show _ ∧ _ from ⟨ho3, hb3⟩); clear ho3 hb3)
            exact bodyPost_ret (v := .tuple #[v3, .int .i64 5, .int .i64 0]) (by simp [results, Tryz.results160, go_sem]) rfl ⟨.inl ⟨_, 5, _, HO.out.1, rfl, H3.out.1⟩, H3.out.2⟩
          · have j2 : ¬ (55296 : Int) ≤ (n : Int) := by omega
            go_wp2_with (go_at_call 181; refine (HO.out.2 _).mono ?_; rintro e w3 ⟨v3, rfl, ho3, hb3⟩; have H3 := Lib.hid (show _ ∧ _ from ⟨ho3, hb3⟩); clear ho3 hb3)
            exact bodyPost_ret (v := .tuple #[v3, .int .i64 5, .int .i64 0]) (by simp [results, Tryz.results160, go_sem]) rfl ⟨.inl ⟨_, 5, _, HO.out.1, rfl, H3.out.1⟩, H3.out.2⟩
set_option maxHeartbeats 8000000 in
set_option maxRecDepth 100000 in
theorem refEsc_U (s : ByteArray) (k : Nat) (c : UInt8) (w : World) (hk : k < s.size) (hc : s[k]'hk = c) (hkind : c = 85) (hbig : s.size ≤ 1000000000) :
    Calls Tryz.prog 160 #[.string s, .int .i64 k] w (REscPost (s.data.toList.drop k) w) := by
  subst hkind
  have hv : simpleV 85 = -1 := by decide
  have hK : escK 85 = some (8, 16, 1, 1114111) := by decide
  have hs := fun W => refSimple_any 85 W
  rw [hv] at hs
  have i0 : ¬ (s.size : Int) ≤ (k : Int) := by omega
  have i1 : (k : Int) < (s.size : Int) := by omega
  have i2 : (0 : Int) ≤ (k : Int) := by omega
  have her : escR (s.data.toList.drop k) = match numR 8 16 (s.data.toList.drop (k + 1)) 0 with
      | none => none
      | some n => match outR 1114111 n with
        | none => none
        | some x => some (x, 9) := by
    have hd := drop_at hk
    rw [hc] at hd
    have h2 : (s.data.toList.drop k).drop 1 = s.data.toList.drop (k + 1) := by rw [List.drop_drop]
    rw [← h2, hd]
    exact escR_num (by omega) hK
  obtain ⟨N, hN⟩ : ∃ N, numR 8 16 (s.data.toList.drop (k + 1)) 0 = N := ⟨_, rfl⟩
  rw [hN] at her
  obtain ⟨L, hL⟩ : ∃ L, s.data.toList.drop k = L := ⟨_, rfl⟩
  rw [hL] at her ⊢
  have HE := Lib.hid (show _ ∧ _ from ⟨her, hN⟩)
  have HS := Lib.hid hs
  have w1 : IntKind.i64.wrap ((k : Int) + 1) = (k : Int) + 1 := IntWalk.i64_in _ (by omega)
  clear her hN hL hs hK
  go_enter Tryz.func160, Tryz.ntmps160
  go_wp2_with (go_at_call 179; refine (HS.out _).mono ?_; rintro e w' ⟨rfl, hw⟩; obtain rfl := hw.symm)
  go_loopw [12, 13, 14] (fun nv iv _ wr => ∃ (j n : Nat), j ≤ 8 ∧ nv = .int .i64 n ∧ iv = .int .i64 j ∧ wr = w ∧ Hid (n < 16 ^ j ∧ numR (8 - j) 16 (s.data.toList.drop (k + 1 + j)) n = N)) (fun _ iv _ _ => 8 - (intOf iv).toNat)
  case atStart => exact ⟨0, 0, Nat.zero_le _, rfl, rfl, rfl, Lib.hid ⟨by decide, HE.out.2⟩⟩
  case round =>
    obtain ⟨j, n, hj, rfl, rfl, hw, HR⟩ := hrel
    obtain rfl := hw.symm
    by_cases hlt : j < 8
    · have j1 : (j : Int) < 8 := by omega
      have j0 : (0 : Int) ≤ (j : Int) := by omega
      have hpow : n < 16 ^ 7 := Nat.lt_of_lt_of_le HR.out.1 (Nat.pow_le_pow_right (by decide) (by omega))
      have hst : 8 - j = (8 - (j + 1)) + 1 := by omega
      have w2 : IntKind.i64.wrap ((k : Int) + 1 + (j : Int)) = (k : Int) + 1 + (j : Int) := IntWalk.i64_in _ (by omega)
      by_cases hks : k + 1 + j < s.size
      · have j2 : ¬ (s.size : Int) ≤ (k : Int) + 1 + (j : Int) := by omega
        have j3 : (k : Int) + 1 + (j : Int) < (s.size : Int) := by omega
        have j4 : (0 : Int) ≤ (k : Int) + 1 + (j : Int) := by omega
        have j5 : ((k : Int) + 1 + (j : Int)).toNat = k + 1 + j := by omega
        obtain ⟨d, hd⟩ : ∃ d, s[k + 1 + j]'hks = d := ⟨_, rfl⟩
        have hdr := drop_at hks
        rw [hd] at hdr
        have hnr := HR.out.2
        rw [hst, hdr, numR] at hnr
        have hx := fun W => refHex_any d.toNat d.toNat_lt W
        have hv2 := hexV_lt d.toNat
        generalize hexV d.toNat = v at hnr hx hv2
        have HX := Lib.hid (show _ ∧ _ from ⟨hnr, hx⟩)
        clear hnr hx hdr hst
        by_cases h0 : v < 0 ∨ 16 ≤ v
        · have hno : N = none := by have := HX.out.1; rw [if_pos (h0.imp id (fun h => by omega))] at this; exact this.symm
          have her : escR L = none := by have := HE.out.1; rw [hno] at this; exact this
          have HN := Lib.hid her
          clear hno her
          by_cases h00 : v < 0
          · go_wp2_with (go_at_call 180; refine (HX.out.2 _).mono ?_; rintro e w' ⟨rfl, hw⟩; obtain rfl := hw.symm)
            exact bodyPost_ret (v := .tuple #[.slice none 0 0, .int .i64 0, .int .i64 1]) (by simp [results, Tryz.results160, go_sem]) rfl ⟨.inr ⟨HN.out, _, .inl rfl, rfl⟩, Below.refl _ _⟩
          · have h01 : (16 : Int) ≤ v := by omega
            go_wp2_with (go_at_call 180; refine (HX.out.2 _).mono ?_; rintro e w' ⟨rfl, hw⟩; obtain rfl := hw.symm)
            exact bodyPost_ret (v := .tuple #[.slice none 0 0, .int .i64 0, .int .i64 1]) (by simp [results, Tryz.results160, go_sem]) rfl ⟨.inr ⟨HN.out, _, .inl rfl, rfl⟩, Below.refl _ _⟩
        · have h00 : ¬ v < 0 := by omega
          have h01 : ¬ (16 : Int) ≤ v := by omega
          have hnr : numR (8 - (j + 1)) 16 (s.data.toList.drop (k + 1 + j + 1)) (n * 16 + v.toNat) = N := by have := HX.out.1; rwa [if_neg (by omega)] at this
          have hlt2 : n * 16 + v.toNat < 16 ^ (j + 1) := by
            have := HR.out.1
            rw [Nat.pow_succ]
            omega
          have k1 : IntKind.i64.wrap (16 * (n : Int)) = ((n * 16 : Nat) : Int) := by
            rw [show 16 * (n : Int) = ((n * 16 : Nat) : Int) by omega]
            exact IntWalk.i64_in _ (by omega)
          have k2 : IntKind.i64.wrap (((n * 16 : Nat) : Int) + v) = ((n * 16 + v.toNat : Nat) : Int) := by
            rw [show ((n * 16 : Nat) : Int) + v = ((n * 16 + v.toNat : Nat) : Int) by omega]
            exact IntWalk.i64_in _ (by omega)
          have HN := Lib.hid (show _ ∧ _ from ⟨hlt2, hnr⟩)
          clear hnr hlt2
          go_wp2_with (go_at_call 180; refine (HX.out.2 _).mono ?_; rintro e w' ⟨rfl, hw⟩; obtain rfl := hw.symm)
          go_roundw
          case measure => simp [intOf]; omega
          case rel => exact ⟨j + 1, n * 16 + v.toNat, hlt, by first | rfl | (congr 1; omega) | (simp; omega), by simp, by first | rfl | trivial, HN⟩
      · have j2 : (s.size : Int) ≤ (k : Int) + 1 + (j : Int) := by omega
        have hno : N = none := by
          have := HR.out.2
          rw [hst, List.drop_eq_nil_of_le (by rw [Array.length_toList]; show s.size ≤ _; omega)] at this
          exact this.symm
        have her : escR L = none := by have := HE.out.1; rw [hno] at this; exact this
        have HN := Lib.hid her
        clear hno her hst
        go_wp2
        exact bodyPost_ret (v := .tuple #[.slice none 0 0, .int .i64 0, .int .i64 2]) (by simp [results, Tryz.results160, go_sem]) rfl ⟨.inr ⟨HN.out, _, .inr rfl, rfl⟩, Below.refl _ _⟩
    · obtain rfl : j = 8 := by omega
      have hyes : N = some n := by
        have := HR.out.2
        exact this.symm
      have hpow : n < 4294967296 := Nat.lt_of_lt_of_le HR.out.1 (by decide)
      have her : escR L = match outR 1114111 n with | none => none | some x => some (x, 9) := by have := HE.out.1; rw [hyes] at this; exact this
      clear hyes
      by_cases hm : 1114111 < n
      · have hno : escR L = none := by rw [her]; unfold outR; rw [if_pos (Or.inl hm)]
        have j1 : (1114111 : Int) < (n : Int) := by omega
        have HN := Lib.hid hno
        clear hno her
        go_wp2
        exact bodyPost_ret (v := .tuple #[.slice none 0 0, .int .i64 0, .int .i64 1]) (by simp [results, Tryz.results160, go_sem]) rfl ⟨.inr ⟨HN.out, _, .inl rfl, rfl⟩, Below.refl _ _⟩
      · have j1 : ¬ (1114111 : Int) < (n : Int) := by omega
        by_cases hsur : 55296 ≤ n ∧ n ≤ 57343
        · have hvd : Lib.validRune n = false := by unfold Lib.validRune; exact decide_eq_false (by omega)
          have hno : escR L = none := by rw [her]; unfold outR; rw [if_pos (Or.inr ⟨rfl, hvd⟩)]
          clear hvd
          have j2 : (55296 : Int) ≤ (n : Int) := by omega
          have j3 : (n : Int) ≤ 57343 := by omega
          have HN := Lib.hid hno
          clear hno her
          go_wp2
          exact bodyPost_ret (v := .tuple #[.slice none 0 0, .int .i64 0, .int .i64 1]) (by simp [results, Tryz.results160, go_sem]) rfl ⟨.inr ⟨HN.out, _, .inl rfl, rfl⟩, Below.refl _ _⟩
        · have hvd : Lib.validRune n = true := by unfold Lib.validRune; exact decide_eq_true (by omega)
          have hout : escR L = some (Lib.encodeRune n, 9) := by
            rw [her]
            have h : outR 1114111 n = some (Lib.encodeRune n) := by unfold outR; rw [if_neg (fun h => h.elim (by omega) (fun h => by rw [hvd] at h; cases h.2)), if_pos rfl]
            rw [h]
          have hu := fun W => refUtf8_any n hvd W
          have s1 : IntKind.i64.wrap ((k : Int) + 1 - (k : Int)) = 1 := by rw [show (k : Int) + 1 - (k : Int) = 1 by omega]; exact IntWalk.i64_in _ (by decide)
          have HO := Lib.hid (show _ ∧ _ from ⟨hout, hu⟩)
          clear hout hu her hvd
          by_cases h55 : 55296 ≤ n
          · have j2 : (55296 : Int) ≤ (n : Int) := by omega
            have j3 : ¬ (n : Int) ≤ 57343 := by omega
            go_wp2_with (go_at_call 181; refine (HO.out.2 _).mono ?_; rintro e w3 ⟨v3, rfl, ho3, hb3⟩; have H3 := Lib.hid (show _ ∧ _ from ⟨ho3, hb3⟩); clear ho3 hb3)
            exact bodyPost_ret (v := .tuple #[v3, .int .i64 9, .int .i64 0]) (by simp [results, Tryz.results160, go_sem]) rfl ⟨.inl ⟨_, 9, _, HO.out.1, rfl, H3.out.1⟩, H3.out.2⟩
          · have j2 : ¬ (55296 : Int) ≤ (n : Int) := by omega
            go_wp2_with (go_at_call 181; refine (HO.out.2 _).mono ?_; rintro e w3 ⟨v3, rfl, ho3, hb3⟩; have H3 := Lib.hid (show _ ∧ _ from ⟨ho3, hb3⟩); clear ho3 hb3)
            exact bodyPost_ret (v := .tuple #[v3, .int .i64 9, .int .i64 0]) (by simp [results, Tryz.results160, go_sem]) rfl ⟨.inl ⟨_, 9, _, HO.out.1, rfl, H3.out.1⟩, H3.out.2⟩
set_option maxHeartbeats 8000000 in
set_option maxRecDepth 100000 in
theorem refEsc_o (s : ByteArray) (k : Nat) (c : UInt8) (w : World) (hk : k < s.size) (hc : s[k]'hk = c) (hkind : 48 ≤ c.toNat ∧ c.toNat ≤ 55) (hbig : s.size ≤ 1000000000) :
    Calls Tryz.prog 160 #[.string s, .int .i64 k] w (REscPost (s.data.toList.drop k) w) := by
  have hnn : ∀ m : UInt8, ¬ (48 ≤ m.toNat ∧ m.toNat ≤ 55) → c ≠ m := fun m h e => h (by rw [← e]; exact hkind)
  have hv : simpleV c = -1 := simpleV_no ⟨hnn 97 (by decide), hnn 98 (by decide), hnn 102 (by decide), hnn 110 (by decide), hnn 114 (by decide), hnn 116 (by decide), hnn 118 (by decide), hnn 92 (by decide), hnn 39 (by decide), hnn 34 (by decide)⟩
  have hK : escK c = some (3, 8, 0, 255) := by unfold escK; rw [if_neg (hnn 120 (by decide)), if_neg (hnn 117 (by decide)), if_neg (hnn 85 (by decide)), if_pos hkind]
  have q120 : ((c.toNat : Int) == 120) = false := byte_ne (hnn 120 (by decide))
  have q117 : ((c.toNat : Int) == 117) = false := byte_ne (hnn 117 (by decide))
  have q85 : ((c.toNat : Int) == 85) = false := byte_ne (hnn 85 (by decide))
  have p1 : (48 : Int) ≤ (c.toNat : Int) := by omega
  have p2 : (c.toNat : Int) ≤ 55 := by omega
  clear hnn hkind
  have hs := fun W => refSimple_any c W
  rw [hv] at hs
  have i0 : ¬ (s.size : Int) ≤ (k : Int) := by omega
  have i1 : (k : Int) < (s.size : Int) := by omega
  have i2 : (0 : Int) ≤ (k : Int) := by omega
  have her : escR (s.data.toList.drop k) = match numR 3 8 (s.data.toList.drop (k)) 0 with
      | none => none
      | some n => match outR 255 n with
        | none => none
        | some x => some (x, 3) := by
    have hd := drop_at hk
    rw [hc] at hd
    rw [hd]
    exact escR_num (by omega) hK
  obtain ⟨N, hN⟩ : ∃ N, numR 3 8 (s.data.toList.drop (k)) 0 = N := ⟨_, rfl⟩
  rw [hN] at her
  obtain ⟨L, hL⟩ : ∃ L, s.data.toList.drop k = L := ⟨_, rfl⟩
  rw [hL] at her ⊢
  have HE := Lib.hid (show _ ∧ _ from ⟨her, hN⟩)
  have HS := Lib.hid hs
  have w1 : IntKind.i64.wrap ((k : Int) + 1) = (k : Int) + 1 := IntWalk.i64_in _ (by omega)
  clear her hN hL hs hK
  go_enter Tryz.func160, Tryz.ntmps160
  go_wp2_with (go_at_call 179; refine (HS.out _).mono ?_; rintro e w' ⟨rfl, hw⟩; obtain rfl := hw.symm)
  go_loopw [12, 13, 14] (fun nv iv _ wr => ∃ (j n : Nat), j ≤ 3 ∧ nv = .int .i64 n ∧ iv = .int .i64 j ∧ wr = w ∧ Hid (n < 16 ^ j ∧ numR (3 - j) 8 (s.data.toList.drop (k + j)) n = N)) (fun _ iv _ _ => 3 - (intOf iv).toNat)
  case atStart => exact ⟨0, 0, Nat.zero_le _, rfl, rfl, rfl, Lib.hid ⟨by decide, HE.out.2⟩⟩
  case round =>
    obtain ⟨j, n, hj, rfl, rfl, hw, HR⟩ := hrel
    obtain rfl := hw.symm
    by_cases hlt : j < 3
    · have j1 : (j : Int) < 3 := by omega
      have j0 : (0 : Int) ≤ (j : Int) := by omega
      have hpow : n < 16 ^ 7 := Nat.lt_of_lt_of_le HR.out.1 (Nat.pow_le_pow_right (by decide) (by omega))
      have hst : 3 - j = (3 - (j + 1)) + 1 := by omega
      have w2 : IntKind.i64.wrap ((k : Int) + (j : Int)) = (k : Int) + (j : Int) := IntWalk.i64_in _ (by omega)
      by_cases hks : k + j < s.size
      · have j2 : ¬ (s.size : Int) ≤ (k : Int) + (j : Int) := by omega
        have j3 : (k : Int) + (j : Int) < (s.size : Int) := by omega
        have j4 : (0 : Int) ≤ (k : Int) + (j : Int) := by omega
        have j5 : ((k : Int) + (j : Int)).toNat = k + j := by omega
        obtain ⟨d, hd⟩ : ∃ d, s[k + j]'hks = d := ⟨_, rfl⟩
        have hdr := drop_at hks
        rw [hd] at hdr
        have hnr := HR.out.2
        rw [hst, hdr, numR] at hnr
        have hx := fun W => refHex_any d.toNat d.toNat_lt W
        have hv2 := hexV_lt d.toNat
        generalize hexV d.toNat = v at hnr hx hv2
        have HX := Lib.hid (show _ ∧ _ from ⟨hnr, hx⟩)
        clear hnr hx hdr hst
        by_cases h0 : v < 0 ∨ 8 ≤ v
        · have hno : N = none := by have := HX.out.1; rw [if_pos (h0.imp id (fun h => by omega))] at this; exact this.symm
          have her : escR L = none := by have := HE.out.1; rw [hno] at this; exact this
          have HN := Lib.hid her
          clear hno her
          by_cases h00 : v < 0
          · go_wp2_with (go_at_call 180; refine (HX.out.2 _).mono ?_; rintro e w' ⟨rfl, hw⟩; obtain rfl := hw.symm)
            exact bodyPost_ret (v := .tuple #[.slice none 0 0, .int .i64 0, .int .i64 1]) (by simp [results, Tryz.results160, go_sem]) rfl ⟨.inr ⟨HN.out, _, .inl rfl, rfl⟩, Below.refl _ _⟩
          · have h01 : (8 : Int) ≤ v := by omega
            go_wp2_with (go_at_call 180; refine (HX.out.2 _).mono ?_; rintro e w' ⟨rfl, hw⟩; obtain rfl := hw.symm)
            exact bodyPost_ret (v := .tuple #[.slice none 0 0, .int .i64 0, .int .i64 1]) (by simp [results, Tryz.results160, go_sem]) rfl ⟨.inr ⟨HN.out, _, .inl rfl, rfl⟩, Below.refl _ _⟩
        · have h00 : ¬ v < 0 := by omega
          have h01 : ¬ (8 : Int) ≤ v := by omega
          have hnr : numR (3 - (j + 1)) 8 (s.data.toList.drop (k + j + 1)) (n * 8 + v.toNat) = N := by have := HX.out.1; rwa [if_neg (by omega)] at this
          have hlt2 : n * 8 + v.toNat < 16 ^ (j + 1) := by
            have := HR.out.1
            rw [Nat.pow_succ]
            omega
          have k1 : IntKind.i64.wrap (8 * (n : Int)) = ((n * 8 : Nat) : Int) := by
            rw [show 8 * (n : Int) = ((n * 8 : Nat) : Int) by omega]
            exact IntWalk.i64_in _ (by omega)
          have k2 : IntKind.i64.wrap (((n * 8 : Nat) : Int) + v) = ((n * 8 + v.toNat : Nat) : Int) := by
            rw [show ((n * 8 : Nat) : Int) + v = ((n * 8 + v.toNat : Nat) : Int) by omega]
            exact IntWalk.i64_in _ (by omega)
          have HN := Lib.hid (show _ ∧ _ from ⟨hlt2, hnr⟩)
          clear hnr hlt2
          go_wp2_with (go_at_call 180; refine (HX.out.2 _).mono ?_; rintro e w' ⟨rfl, hw⟩; obtain rfl := hw.symm)
          go_roundw
          case measure => simp [intOf]; omega
          case rel => exact ⟨j + 1, n * 8 + v.toNat, hlt, by first | rfl | (congr 1; omega) | (simp; omega), by simp, by first | rfl | trivial, HN⟩
      · have j2 : (s.size : Int) ≤ (k : Int) + (j : Int) := by omega
        have hno : N = none := by
          have := HR.out.2
          rw [hst, List.drop_eq_nil_of_le (by rw [Array.length_toList]; show s.size ≤ _; omega)] at this
          exact this.symm
        have her : escR L = none := by have := HE.out.1; rw [hno] at this; exact this
        have HN := Lib.hid her
        clear hno her hst
        go_wp2
        exact bodyPost_ret (v := .tuple #[.slice none 0 0, .int .i64 0, .int .i64 2]) (by simp [results, Tryz.results160, go_sem]) rfl ⟨.inr ⟨HN.out, _, .inr rfl, rfl⟩, Below.refl _ _⟩
    · obtain rfl : j = 3 := by omega
      have hyes : N = some n := by
        have := HR.out.2
        exact this.symm
      have hpow : n < 4294967296 := Nat.lt_of_lt_of_le HR.out.1 (by decide)
      have her : escR L = match outR 255 n with | none => none | some x => some (x, 3) := by have := HE.out.1; rw [hyes] at this; exact this
      clear hyes
      by_cases hm : 255 < n
      · have hno : escR L = none := by rw [her]; unfold outR; rw [if_pos (Or.inl hm)]
        have j1 : (255 : Int) < (n : Int) := by omega
        have HN := Lib.hid hno
        clear hno her
        go_wp2
        exact bodyPost_ret (v := .tuple #[.slice none 0 0, .int .i64 0, .int .i64 1]) (by simp [results, Tryz.results160, go_sem]) rfl ⟨.inr ⟨HN.out, _, .inl rfl, rfl⟩, Below.refl _ _⟩
      · have j1 : ¬ (255 : Int) < (n : Int) := by omega
        have j2 : IntKind.u8.wrap (n : Int) = (n : Int) := u8_nat n (by omega)
        have hout : escR L = some ([UInt8.ofNat n], 3) := by
          rw [her]
          have h : outR 255 n = some [UInt8.ofNat n] := by unfold outR; rw [if_neg (by omega), if_neg (by decide)]
          rw [h]
        have hcell : bytesV [UInt8.ofNat n] = [Value.int .u8 n] := by
          unfold bytesV
          rw [List.map_cons, List.map_nil, UInt8.toNat_ofNat_of_lt' (by show n < 256; omega)]
        have s1 : IntKind.i64.wrap ((k : Int) - (k : Int)) = 0 := by rw [show (k : Int) - (k : Int) = 0 by omega]; exact IntWalk.i64_in _ (by decide)
        have HO := Lib.hid (show _ ∧ _ from ⟨hout, hcell⟩)
        clear hout hcell her
        go_wp2
        refine bodyPost_ret (v := .tuple #[.slice (some ⟨w.heap.size, 0, none⟩) 1 1, .int .i64 3, .int .i64 0]) (by simp [results, Tryz.results160, go_sem]) rfl ⟨.inl ⟨_, 3, _, HO.out.1, rfl, ?_⟩, (Below.refl _ _).alloc (Nat.le_refl _) _⟩
        rw [HO.out.2]
        exact owns_fresh (Nat.le_refl _) 5 [Value.int .u8 n] (by show 1 ≤ maxLen; decide)
theorem refEscape_any (s : ByteArray) (k : Nat) (w : World) (hk : k ≤ s.size) (hbig : s.size ≤ 1000000000) :
    Calls Tryz.prog 160 #[.string s, .int .i64 k] w (REscPost (s.data.toList.drop k) w) := by
  by_cases hlt : k < s.size
  · obtain ⟨c, hc⟩ : ∃ c, s[k]'hlt = c := ⟨_, rfl⟩
    by_cases hv : 0 ≤ simpleV c
    · exact refEsc_simple s k c w hlt hc hv hbig
    · by_cases h1 : c = 120
      · exact refEsc_x s k c w hlt hc h1 hbig
      · by_cases h2 : c = 117
        · exact refEsc_u s k c w hlt hc h2 hbig
        · by_cases h3 : c = 85
          · exact refEsc_U s k c w hlt hc h3 hbig
          · by_cases h4 : 48 ≤ c.toNat ∧ c.toNat ≤ 55
            · exact refEsc_o s k c w hlt hc h4 hbig
            · have hs : ∀ m : UInt8, 0 ≤ simpleV m → c ≠ m := fun m h e => hv (by rw [e]; exact h)
              have hn : ∀ m : UInt8, (48 ≤ m.toNat ∧ m.toNat ≤ 55) → c ≠ m := fun m h e => h4 (by rw [e]; exact h)
              exact refEsc_none s k c w hlt hc ⟨hs 97 (by decide), hs 98 (by decide), hs 102 (by decide), hs 110 (by decide), hs 114 (by decide), hs 116 (by decide), hs 118 (by decide), hs 92 (by decide), hs 39 (by decide), hs 34 (by decide), h3, h2, h1, hn 48 (by decide), hn 49 (by decide), hn 50 (by decide), hn 51 (by decide), hn 52 (by decide), hn 53 (by decide), hn 54 (by decide), hn 55 (by decide)⟩ hbig
  · exact refEsc_end s k w (by omega) (by omega)
end Go.Proofs.YtchggapclmdpaaaGreatDoor
