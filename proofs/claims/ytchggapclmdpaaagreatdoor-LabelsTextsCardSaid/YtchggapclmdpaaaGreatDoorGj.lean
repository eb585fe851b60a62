/- text.escape: runes. text.escape: runes of four digits. -/
import Derived.Test.YtchggapclmdpaaaGreatDoorEsc7
namespace Go.Proofs.YtchggapclmdpaaaGreatDoor
open Go.RowKit Go.Lib

set_option maxHeartbeats 8000000 in
set_option maxRecDepth 100000 in
theorem escape_U (K : Nat) (a b : Addr) (s : ByteArray) (c : UInt8) (r : List UInt8) (w : World) (hE : LaidE K a b w) (hs : s.data.toList = c :: r) (hc : c = 85) (hbig : s.size ≤ 1000000000) :
    Calls Tryz.prog 187 #[.string s] w (EscPost a b s.data.toList w) := by
  have hsz : s.size = r.length + 1 := by
    have : s.size = s.data.toList.length := (Array.length_toList).symm
    rw [this, hs]; simp
  have hpos : 0 < s.size := by omega
  have h0 := first_byte hs hpos
  have hne : (s.toList == []) = false := by rw [ByteArray.toList_eq, hs]; rfl
  have i0 : (0 : Int) < (s.size : Int) := by omega
  have i1 : (1 : Int) ≤ (s.size : Int) := by omega
  have ce := hE.esc
  have hkey : ¬ 0 ≤ simpleV c ∧ escK c = some (8, 16, 1, 1114111) := by
    subst hc
    all_goals exact ⟨by decide, by decide⟩
  have her := escR_num (r := r) hkey.1 hkey.2
  have hnum := number_any K a b (s.extract 1 s.size) 8 16 w hE (by omega) (by omega) (by rw [ByteArray.size_extract]; omega)
  rw [extract_data, List.take_of_length_le (by rw [hs, List.length_cons]; omega), hs] at hnum
  rw [hs]
  obtain ⟨N, hN⟩ : ∃ N, numR 8 16 ((c :: r).drop 1) 0 = N := ⟨_, rfl⟩
  rw [hN] at hnum her
  have HN := Lib.hid (show _ ∧ _ from ⟨hnum, her⟩)
  clear hnum her hN hkey hs hsz hE
  obtain ⟨L, hL⟩ : ∃ L, c :: r = L := ⟨_, rfl⟩
  rw [hL] at HN ⊢
  clear hL
  subst hc
  all_goals
    go_enter Tryz.func187, Tryz.ntmps187
    go_wp2_with fail
    refine HN.out.1.mono ?_
    rintro e w1 ⟨⟨n, hNn, h32, rfl⟩ | ⟨hNn, v, hv, rfl⟩, q, rfl⟩
    · have her := HN.out.2
      rw [hNn] at her
      have her2 : escR L = match outR 1114111 n with | none => none | some x => some (x, 9) := her
      clear her
      by_cases hm : 1114111 < n
      · have hout : escR L = none := by rw [her2]; unfold outR; rw [if_pos (Or.inl hm)]
        have j1 : (1114111 : Int) < (n : Int) := by omega
        have HO := Lib.hid hout
        clear hout her2
        go_wp2_with (go_quiet (fail))
        exact bodyPost_ret (v := .tuple #[.slice none 0 0, .int .i64 0, .iface 341 (.pointer (some b))]) (by simp [results, Tryz.results187, go_sem]) rfl ⟨.inr ⟨HO.out, _, .inr rfl, rfl⟩, by first | exact below_drewN (Below.refl _ _) _ | exact below_drewN (below_drewN (Below.refl _ _) _) _⟩
      · have j1 : ¬ (1114111 : Int) < (n : Int) := by omega
        have j2 : IntKind.i32.wrap (n : Int) = (n : Int) := i32_nat n (by omega)
        have hvr := fun W => Any.utf8_ValidRune Tryz.lValid n W
        have hap := fun W hW => Any.utf8_AppendRune_plain Tryz.lRuneOut Tryz.infoByte w.heap.size (.slice none 0 0) 0 [] n (by omega) (by omega) W (World.ownsRow_nil _ _ _ _) (by decide) hW
        cases hvd : Lib.validRune n with
        | false =>
          have hout : escR L = none := by rw [her2]; unfold outR; rw [if_pos (Or.inr ⟨rfl, hvd⟩)]
          rw [hvd] at hvr
          have HO := Lib.hid hout
          have HV := Lib.hid hvr
          clear hout hvr hap hvd her2
          go_wp2_with (first | (go_at_call 185; refine (HV.out _).mono ?_; rintro e w2 ⟨rfl, hw2⟩; obtain rfl := hw2.symm) | go_quiet (fail))
          exact bodyPost_ret (v := .tuple #[.slice none 0 0, .int .i64 0, .iface 341 (.pointer (some b))]) (by simp [results, Tryz.results187, go_sem]) rfl ⟨.inr ⟨HO.out, _, .inr rfl, rfl⟩, by first | exact below_drewN (Below.refl _ _) _ | exact below_drewN (below_drewN (Below.refl _ _) _) _⟩
        | true =>
          have hout : escR L = some (Lib.encodeRune n, 9) := by
            rw [her2]
            have h : outR 1114111 n = some (Lib.encodeRune n) := by unfold outR; rw [if_neg (fun h => h.elim (by omega) (fun h => by rw [hvd] at h; cases h.2)), if_pos rfl]
            rw [h]
          rw [hvd] at hvr
          have HO := Lib.hid hout
          have HV := Lib.hid (show _ ∧ _ from ⟨hvr, hap⟩)
          clear hout hvr hap hvd her2
          go_wp2_with (first | (go_at_call 185; refine (HV.out.1 _).mono ?_; rintro e w2 ⟨rfl, hw2⟩; obtain rfl := hw2.symm) | (go_at_call 192; refine (HV.out.2 (w.drewN q) (Nat.le_refl _)).mono ?_; rintro e w3 ⟨v3, rfl, ho3, o3, hg3⟩; rw [runeCells_bytes, bytesV_length, Nat.zero_add] at ho3; have H3 := Lib.hid (show _ ∧ Below w.heap.size w w3 from ⟨ho3, ((below_drewN (Below.refl _ w) q).alloc (Nat.le_refl _) o3).grown hg3 (by simp) (fun j hj => by cases hj)⟩); clear ho3 hg3))
          exact bodyPost_ret (v := .tuple #[v3, .int .i64 9, .nilIface]) (by simp [results, Tryz.results187, go_sem]) rfl ⟨.inl ⟨_, 9, _, HO.out, rfl, H3.out.1⟩, H3.out.2⟩
    · have her := HN.out.2
      rw [hNn] at her
      have HV := Lib.hid (show _ ∧ escR L = none from ⟨hv, her⟩)
      clear her
      rcases hv with rfl | rfl
      · go_wp2
        exact bodyPost_ret (v := .tuple #[.slice none 0 0, .int .i64 0, .iface 341 (.pointer (some a))]) (by simp [results, Tryz.results187, go_sem]) rfl ⟨.inr ⟨HV.out.2, _, .inl rfl, rfl⟩, below_drewN (Below.refl _ _) q⟩
      · go_wp2
        exact bodyPost_ret (v := .tuple #[.slice none 0 0, .int .i64 0, .iface 341 (.pointer (some b))]) (by simp [results, Tryz.results187, go_sem]) rfl ⟨.inr ⟨HV.out.2, _, .inr rfl, rfl⟩, below_drewN (Below.refl _ _) q⟩
end Go.Proofs.YtchggapclmdpaaaGreatDoor
namespace Go.Proofs.YtchggapclmdpaaaGreatDoor
open Go.RowKit Go.Lib

set_option maxHeartbeats 8000000 in
set_option maxRecDepth 100000 in
theorem escape_u (K : Nat) (a b : Addr) (s : ByteArray) (c : UInt8) (r : List UInt8) (w : World) (hE : LaidE K a b w) (hs : s.data.toList = c :: r) (hc : c = 117) (hbig : s.size ≤ 1000000000) :
    Calls Tryz.prog 187 #[.string s] w (EscPost a b s.data.toList w) := by
  have hsz : s.size = r.length + 1 := by
    have : s.size = s.data.toList.length := (Array.length_toList).symm
    rw [this, hs]; simp
  have hpos : 0 < s.size := by omega
  have h0 := first_byte hs hpos
  have hne : (s.toList == []) = false := by rw [ByteArray.toList_eq, hs]; rfl
  have i0 : (0 : Int) < (s.size : Int) := by omega
  have i1 : (1 : Int) ≤ (s.size : Int) := by omega
  have ce := hE.esc
  have hkey : ¬ 0 ≤ simpleV c ∧ escK c = some (4, 16, 1, 1114111) := by
    subst hc
    all_goals exact ⟨by decide, by decide⟩
  have her := escR_num (r := r) hkey.1 hkey.2
  have hnum := number_any K a b (s.extract 1 s.size) 4 16 w hE (by omega) (by omega) (by rw [ByteArray.size_extract]; omega)
  rw [extract_data, List.take_of_length_le (by rw [hs, List.length_cons]; omega), hs] at hnum
  rw [hs]
  obtain ⟨N, hN⟩ : ∃ N, numR 4 16 ((c :: r).drop 1) 0 = N := ⟨_, rfl⟩
  rw [hN] at hnum her
  have HN := Lib.hid (show _ ∧ _ from ⟨hnum, her⟩)
  clear hnum her hN hkey hs hsz hE
  obtain ⟨L, hL⟩ : ∃ L, c :: r = L := ⟨_, rfl⟩
  rw [hL] at HN ⊢
  clear hL
  subst hc
  all_goals
    go_enter Tryz.func187, Tryz.ntmps187
    go_wp2_with fail
    refine HN.out.1.mono ?_
    rintro e w1 ⟨⟨n, hNn, h32, rfl⟩ | ⟨hNn, v, hv, rfl⟩, q, rfl⟩
    · have her := HN.out.2
      rw [hNn] at her
      have her2 : escR L = match outR 1114111 n with | none => none | some x => some (x, 5) := her
      clear her
      by_cases hm : 1114111 < n
      · have hout : escR L = none := by rw [her2]; unfold outR; rw [if_pos (Or.inl hm)]
        have j1 : (1114111 : Int) < (n : Int) := by omega
        have HO := Lib.hid hout
        clear hout her2
        go_wp2_with (go_quiet (fail))
        exact bodyPost_ret (v := .tuple #[.slice none 0 0, .int .i64 0, .iface 341 (.pointer (some b))]) (by simp [results, Tryz.results187, go_sem]) rfl ⟨.inr ⟨HO.out, _, .inr rfl, rfl⟩, by first | exact below_drewN (Below.refl _ _) _ | exact below_drewN (below_drewN (Below.refl _ _) _) _⟩
      · have j1 : ¬ (1114111 : Int) < (n : Int) := by omega
        have j2 : IntKind.i32.wrap (n : Int) = (n : Int) := i32_nat n (by omega)
        have hvr := fun W => Any.utf8_ValidRune Tryz.lValid n W
        have hap := fun W hW => Any.utf8_AppendRune_plain Tryz.lRuneOut Tryz.infoByte w.heap.size (.slice none 0 0) 0 [] n (by omega) (by omega) W (World.ownsRow_nil _ _ _ _) (by decide) hW
        cases hvd : Lib.validRune n with
        | false =>
          have hout : escR L = none := by rw [her2]; unfold outR; rw [if_pos (Or.inr ⟨rfl, hvd⟩)]
          rw [hvd] at hvr
          have HO := Lib.hid hout
          have HV := Lib.hid hvr
          clear hout hvr hap hvd her2
          go_wp2_with (first | (go_at_call 185; refine (HV.out _).mono ?_; rintro e w2 ⟨rfl, hw2⟩; obtain rfl := hw2.symm) | go_quiet (fail))
          exact bodyPost_ret (v := .tuple #[.slice none 0 0, .int .i64 0, .iface 341 (.pointer (some b))]) (by simp [results, Tryz.results187, go_sem]) rfl ⟨.inr ⟨HO.out, _, .inr rfl, rfl⟩, by first | exact below_drewN (Below.refl _ _) _ | exact below_drewN (below_drewN (Below.refl _ _) _) _⟩
        | true =>
          have hout : escR L = some (Lib.encodeRune n, 5) := by
            rw [her2]
            have h : outR 1114111 n = some (Lib.encodeRune n) := by unfold outR; rw [if_neg (fun h => h.elim (by omega) (fun h => by rw [hvd] at h; cases h.2)), if_pos rfl]
            rw [h]
          rw [hvd] at hvr
          have HO := Lib.hid hout
          have HV := Lib.hid (show _ ∧ _ from ⟨hvr, hap⟩)
          clear hout hvr hap hvd her2
          go_wp2_with (first | (go_at_call 185; refine (HV.out.1 _).mono ?_; rintro e w2 ⟨rfl, hw2⟩; obtain rfl := hw2.symm) | (go_at_call 192; refine (HV.out.2 (w.drewN q) (Nat.le_refl _)).mono ?_; rintro e w3 ⟨v3, rfl, ho3, o3, hg3⟩; rw [runeCells_bytes, bytesV_length, Nat.zero_add] at ho3; have H3 := Lib.hid (show _ ∧ Below w.heap.size w w3 from ⟨ho3, ((below_drewN (Below.refl _ w) q).alloc (Nat.le_refl _) o3).grown hg3 (by simp) (fun j hj => by cases hj)⟩); clear ho3 hg3))
          exact bodyPost_ret (v := .tuple #[v3, .int .i64 5, .nilIface]) (by simp [results, Tryz.results187, go_sem]) rfl ⟨.inl ⟨_, 5, _, HO.out, rfl, H3.out.1⟩, H3.out.2⟩
    · have her := HN.out.2
      rw [hNn] at her
      have HV := Lib.hid (show _ ∧ escR L = none from ⟨hv, her⟩)
      clear her
      rcases hv with rfl | rfl
      · go_wp2
        exact bodyPost_ret (v := .tuple #[.slice none 0 0, .int .i64 0, .iface 341 (.pointer (some a))]) (by simp [results, Tryz.results187, go_sem]) rfl ⟨.inr ⟨HV.out.2, _, .inl rfl, rfl⟩, below_drewN (Below.refl _ _) q⟩
      · go_wp2
        exact bodyPost_ret (v := .tuple #[.slice none 0 0, .int .i64 0, .iface 341 (.pointer (some b))]) (by simp [results, Tryz.results187, go_sem]) rfl ⟨.inr ⟨HV.out.2, _, .inr rfl, rfl⟩, below_drewN (Below.refl _ _) q⟩
end Go.Proofs.YtchggapclmdpaaaGreatDoor
