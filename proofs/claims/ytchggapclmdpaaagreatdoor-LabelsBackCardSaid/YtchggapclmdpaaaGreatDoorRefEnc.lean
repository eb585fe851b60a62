/- The document's Encode: as bytes. -/
import Derived.Test.YtchggapclmdpaaaGreatDoorEnc7
import Derived.Test.YtchggapclmdpaaaGreatDoorRefCheck
namespace Go.Proofs.YtchggapclmdpaaaGreatDoor
open Go.RowKit Go.Lib

set_option maxHeartbeats 2000000 in
set_option maxRecDepth 100000 in
theorem refText_any (B : Nat) (v : Value) (n : Nat) (l : List UInt8) (s : ByteArray) (w : World) (ho : w.ownsRow B 5 1 v n (bytesV l)) (hB : B ≤ w.heap.size) (hn : n ≤ 1000000) (hs : s.size ≤ 65535) :
    Calls Tryz.prog 103 #[v, .string s] w fun e w' => ∃ v', e = .returned v' ∧ w'.ownsRow B 5 1 v' (n + 2 + s.size) (bytesV (l ++ putB s.data.toList)) ∧ Below B w w' := by
  obtain ⟨i0, hi, hz0, hz1, hz2⟩ := info_parts Tryz.infoByte
  have hsz : s.size = s.data.toList.length := (Array.length_toList).symm
  have HO := Lib.hid ho
  have hlt := fun j hj => ho.lt j hj
  have HI := Lib.hid (show _ ∧ _ from ⟨hsz, hlt⟩)
  clear ho hsz hlt
  go_enter Tryz.func103, Tryz.ntmps103
  go_wp2_with (first
    | (at_builtin; refine wpList_append_own_string _ rfl _ _ 75 9 rfl B 5 i0 Tryz.underlying75 Tryz.underlying9 hi hz0 hz1 hz2 _ (n + 2) _ rfl ho1 s rfl (by unfold maxLen; omega) (by omega) (by have := hg1.size; simp at this; omega) ?_; intro v2 w2 ho2 hg2 _)
    | (at_builtin; refine wpList_append_own _ rfl _ _ 75 rfl B 5 i0 _ 1 1 Tryz.underlying75 hi hz0 hz1 hz2 rfl (by omega) _ n (bytesV l) rfl (HO.out.alloc _) ⟨w.heap.size, 0, none⟩ 2 2 _ rfl rfl (cells_newL w _ _) (by simp [Value.oneCell']) (by unfold maxLen; omega) (by omega) (by simp; omega) ?_; intro v1 w1 ho1 hg1 _))
  go_ret
  have hb1 := (((Below.refl B w).alloc hB _).grown hg1 (by simp; omega) (fun j hj => (HI.out.2 j hj).1))
  have hb2 := hb1.grown hg2 (by have := hg1.size; simp at this; omega) (fun j hj => (ho1.lt j hj).1)
  refine ⟨v2, rfl, ?_, hb2⟩
  have e : bytesV (l ++ putB s.data.toList) = bytesV l ++ [.int .u8 ((s.size : Int) % 256), .int .u8 ((s.size : Int) / 256)] ++ strCells s := by
    rw [bytesV_append, strCells_bytes, List.append_assoc]
    unfold putB lenB
    rw [bytesV_append, ← HI.out.1]
    congr 2
    unfold bytesV
    simp [UInt8.toNat_ofNat']
    omega
  rw [e]
  exact ho2
set_option maxHeartbeats 2000000 in
set_option maxRecDepth 100000 in
theorem refEncode_any (A : Option Addr) (n c : Nat) (l : List Lb) (w : World) (hL : Lst Lb.cells 2 w w.heap.size A n l) (hbig : n ≤ 1000000) :
    Calls Tryz.prog 30 #[.slice A n c] w (EncPost l w) := by
  have hc1 := refCheck_any A n c l w hL hbig
  obtain ⟨r, hr⟩ : ∃ r, checkE l = r := ⟨_, rfl⟩
  rw [hr] at hc1
  unfold EncPost
  rw [hr]
  have HC := Lib.hid hc1
  by_cases h0 : r = 0
  · subst h0
    obtain ⟨hn64, hsz⟩ := checkE_ok hr
    rw [hL.1] at hn64
    obtain ⟨i0, hi, hz0, hz1, hz2⟩ := info_parts Tryz.infoByte
    have HL := Lib.hid (show _ ∧ _ from ⟨hL, hsz⟩)
    clear hL hsz hc1 hr
    have h8 : [Value.int .u8 (n : Int)] = bytesV (UInt8.ofNat n :: ([] : List Lb).flatMap labB) := by
      have h8 : ((UInt8.ofNat n).toNat : Int) = n := by simp [UInt8.toNat_ofNat']; omega
      show _ = [Value.int .u8 ((UInt8.ofNat n).toNat : Int)]
      rw [h8]
    have H8 := Lib.hid h8
    clear h8
    go_enter Tryz.func30, Tryz.ntmps30
    go_wp2_with (first
      | (at_builtin; refine wpList_append_own _ rfl _ _ 75 rfl w.heap.size 5 i0 _ 1 1 Tryz.underlying75 hi hz0 hz1 hz2 rfl (by omega) _ 0 [] rfl (World.ownsRow_nil _ _ _ _) ⟨w1.heap.size, 0, none⟩ 1 1 [.int .u8 (n : Int)] rfl rfl (cells_newL w1 [.int .u8 (n : Int)] _) (by simp [Value.oneCell']) (by unfold maxLen; omega) (by omega) (by have := H1.out.size; simp; omega) ?_; intro v2 w2 ho2 hg2 _; have H2 := Lib.hid (show w2.ownsRow w.heap.size 5 1 v2 (UInt8.ofNat n :: ([] : List Lb).flatMap labB).length (bytesV (UInt8.ofNat n :: ([] : List Lb).flatMap labB)) ∧ Below w.heap.size w w2 from ⟨by (rw [← H8.out]; exact ho2), (H1.out.alloc H1.out.size _).grown hg2 (by have := H1.out.size; simp; omega) (fun _ h => by cases h)⟩); clear ho2 hg2)
      | (go_at_call 26; refine HC.out.mono ?_; rintro e w1 ⟨rfl, hb1⟩; have H1 := Lib.hid hb1; clear hb1))
    clear hi hz0 hz1 hz2
    go_loopw [5, 6] (fun v iv wr => ∃ k : Nat, k ≤ n ∧ iv = .int .i64 k ∧ Hid (wr.ownsRow w.heap.size 5 1 v (UInt8.ofNat n :: (l.take k).flatMap labB).length (bytesV (UInt8.ofNat n :: (l.take k).flatMap labB)) ∧ Below w.heap.size w wr)) (fun _ iv _ => n - (intOf iv).toNat)
    case atStart => exact ⟨0, Nat.zero_le _, rfl, H2⟩
    case round =>
      obtain ⟨k, hk, rfl, HR⟩ := hrel
      have hlen : (UInt8.ofNat n :: (l.take k).flatMap labB).length ≤ 140000 := by
        have h1 := flat_labB_le (l := l.take k) fun x hx => HL.out.2 x (List.mem_of_mem_take hx)
        rw [List.length_take] at h1
        rw [List.length_cons]
        have : min k l.length ≤ 64 := by omega
        omega
      by_cases hlt : k < n
      · obtain ⟨b, off, x, rfl, hb, hx, hcl⟩ := HL.out.1.at hlt
        have hxs := HL.out.2 x (List.mem_of_getElem? hx)
        have hnext := encB_take n l k x hx
        obtain ⟨L, hLe⟩ : ∃ L, (UInt8.ofNat n :: (l.take k).flatMap labB : List UInt8) = L := ⟨_, rfl⟩
        rw [hLe] at HR hlen hnext
        have hcc : ∀ W, Below w.heap.size w W → W.cell? ⟨b, off + k * 2, none⟩ = some (.string x.nm) ∧ W.cell? ⟨b, off + k * 2 + 1, none⟩ = some (.string x.vl) := fun W hW =>
          ⟨(hW.cell (p := ⟨b, off + k * 2 + 0, none⟩) hb).trans (hcl 0 _ rfl), (hW.cell (p := ⟨b, off + k * 2 + 1, none⟩) hb).trans (hcl 1 _ rfl)⟩
        obtain ⟨c0, c1⟩ := hcc wr HR.out.2
        have i0 : (0 : Int) ≤ (k : Int) := by omega
        have HX := Lib.hid (show _ ∧ _ ∧ _ from ⟨hnext, hxs, hcc⟩)
        clear hcl hx hnext hxs hcc
        go_wp2_with (first
          | (go_at_call 103; refine (refText_any w.heap.size _ _ _ x.vl _ H2'.out.1 H2'.out.2.size (by have := HX.out.2.1.1; omega) (by have := HX.out.2.1.2; omega)).mono ?_; rintro e w3 ⟨v3, rfl, ho3, hb3⟩; have H3 := Lib.hid (show _ ∧ Below w.heap.size w w3 from ⟨ho3, H2'.out.2.trans hb3⟩); clear ho3 hb3)
          | (go_at_call 103; refine (refText_any w.heap.size _ _ _ x.nm _ HR.out.1 HR.out.2.size (by omega) (by have := HX.out.2.1.1; omega)).mono ?_; rintro e w2' ⟨v2', rfl, ho2, hb2⟩; have H2' := Lib.hid (show _ ∧ Below w.heap.size w w2' from ⟨ho2, HR.out.2.trans hb2⟩); obtain ⟨d0, d1⟩ := HX.out.2.2 w2' H2'.out.2; clear ho2 hb2))
        go_roundw
        case measure => simp [intOf]; omega
        case rel =>
          refine ⟨k + 1, hlt, by simp, Lib.hid ⟨?_, H3.out.2⟩⟩
          have h3 := H3.out.1
          rw [HX.out.1]
          have hl3 : (L ++ putB x.nm.data.toList ++ putB x.vl.data.toList).length = L.length + 2 + x.nm.size + 2 + x.vl.size := by
            have h1 : x.nm.size = x.nm.data.toList.length := (Array.length_toList).symm
            have h2 : x.vl.size = x.vl.data.toList.length := (Array.length_toList).symm
            rw [List.length_append, List.length_append, putB_length, putB_length, h1, h2]
            omega
          rw [hl3]
          exact h3
      · have he : encB l = UInt8.ofNat n :: (l.take k).flatMap labB := by
          unfold encB
          rw [List.take_of_length_le (by have := HL.out.1.1; omega), HL.out.1.1]
        have hR := HR.out
        rw [← he] at hR
        have HF := Lib.hid hR
        clear hR he hlen
        go_wp2
        exact bodyPost_ret (v := .tuple #[u5, .int .u16 0]) (by simp [results, Tryz.results30, go_sem]) rfl ⟨u5, rfl, HF.out.2, fun h => absurd rfl h, fun _ => HF.out.1⟩
  · have hne : (r != 0) = true := by rw [bne_iff_ne]; exact h0
    clear hL hc1 hr
    go_enter Tryz.func30, Tryz.ntmps30
    go_wp2_with (go_at_call 26; refine HC.out.mono ?_; rintro e w1 ⟨rfl, hb1⟩; have H1 := Lib.hid hb1; clear hb1)
    exact bodyPost_ret (v := .tuple #[.slice none 0 0, .int .u16 r]) (by simp [results, Tryz.results30, go_sem]) rfl ⟨.slice none 0 0, rfl, H1.out, fun _ => rfl, fun h => absurd h h0⟩
end Go.Proofs.YtchggapclmdpaaaGreatDoor
