/- The scanner of labels.Parse: sign, name. -/
import Derived.Test.YtchggapclmdpaaaGreatDoorScan7
namespace Go.Proofs.YtchggapclmdpaaaGreatDoor
open Go.RowKit Go.Lib

/-- Is the next byte that one? Where it then stands. -/
def signB (l : List UInt8) (k : Nat) (c : UInt8) : Bool := l[skipP l k]? == some c
def signK (l : List UInt8) (k : Nat) (c : UInt8) : Nat := if l[skipP l k]? == some c then skipP l (skipP l k + 1) else skipP l k
set_option maxHeartbeats 2000000 in
set_option maxRecDepth 100000 in
theorem sign_any (bk : Nat) (s : ByteArray) (k0 : Nat) (c : UInt8) (w : World) (hS : Scan w bk s k0) (hk : k0 ≤ s.size) (hbig : s.size ≤ 1099511627776) :
    Calls Tryz.prog 114 #[.pointer (some ⟨bk, 0, none⟩), .int .u8 c.toNat] w fun e w' => e = .returned (.bool (signB s.data.toList k0 c)) ∧ Scan w' bk s (signK s.data.toList k0 c) ∧ signK s.data.toList k0 c ≤ s.size ∧ GrownIn (fun b => b = bk) w w' := by
  have hsz : s.size = s.data.toList.length := (Array.length_toList).symm
  have hb1 := blanks_any bk s k0 w hS hk hbig
  have HS := Lib.hid hsz
  obtain ⟨k, hkk⟩ : ∃ k, skipP s.data.toList k0 = k := ⟨_, rfl⟩
  obtain ⟨rB, hB⟩ : ∃ r, signB s.data.toList k0 c = r := ⟨_, rfl⟩
  obtain ⟨rK, hK⟩ : ∃ r, signK s.data.toList k0 c = r := ⟨_, rfl⟩
  rw [hB, hK]
  unfold signB at hB
  unfold signK at hK
  rw [hkk] at hb1 hB hK
  have HQ := Lib.hid (show _ ∧ _ from ⟨hB, hK⟩)
  clear hsz hkk hB hK
  go_enter Tryz.func114, Tryz.ntmps114
  go_wp2_with fail
  refine hb1.mono ?_
  rintro e w1 ⟨rfl, hS1, hk1, hg1⟩
  have H1 := Lib.hid (show _ ∧ _ ∧ _ from ⟨hS1, hk1, hg1⟩)
  have c0 := hS1.c0
  have c1 := hS1.c1
  have f1 := hS1.f1
  clear hb1 hS1 hg1
  by_cases hlt : k < s.size
  · have i0 : (0 : Int) ≤ (k : Int) := by omega
    have i1 : (k : Int) < (s.size : Int) := by omega
    have i2 : ((k : Int) == (s.size : Int)) = false := by rw [beq_eq_false_iff_ne]; omega
    obtain ⟨b, hb⟩ : ∃ b, s[k]'hlt = b := ⟨_, rfl⟩
    have hl : s.data.toList[k]? = some b := by
      rw [← hb, List.getElem?_eq_getElem (by have := HS.out; omega)]
      rfl
    have HD := Lib.hid hl
    clear hl
    by_cases hbc : b = c
    · have hbi : ((b.toNat : Int) == (c.toNat : Int)) = true := by rw [hbc]; simp
      have hr : rB = true ∧ rK = skipP s.data.toList (k + 1) := by
        have h0 : (s.data.toList[k]? == some c) = true := by rw [HD.out, hbc]; simp
        exact ⟨HQ.out.1.symm.trans h0, HQ.out.2.symm.trans (if_pos h0)⟩
      have HR := Lib.hid hr
      clear hr
      have hb2 : ∀ q, Calls Tryz.prog 136 #[.pointer (some ⟨bk, 0, none⟩)] ((w1.drewN q).setCell ⟨bk, 1, none⟩ (.int .i64 ((k : Int) + 1))) _ := fun q => blanks_any bk s (k + 1) ((w1.drewN q).setCell ⟨bk, 1, none⟩ (.int .i64 ((k : Int) + 1))) (show Scan (w1.drewN q) bk s k from H1.out.1).next (by omega) hbig
      have HB := Lib.hid hb2
      clear hb2
      go_wp2_with (first | go_quiet (fail) | (go_at_call 136; refine (HB.out _).mono ?_; rintro e w2 ⟨rfl, hS2, hk2, hg2⟩; have H2 := Lib.hid (show _ ∧ _ ∧ _ from ⟨hS2, hk2, hg2⟩); clear hS2 hk2 hg2))
      go_ret
      refine ⟨by rw [HR.out.1]; rfl, by rw [HR.out.2]; exact H2.out.1, by rw [HR.out.2]; exact H2.out.2.1, ?_⟩
      exact (grownIn_set (H1.out.2.2.drewN _) rfl _).trans H2.out.2.2 (fun _ _ h => h)
    · have hbi : ((b.toNat : Int) == (c.toNat : Int)) = false := by
        rw [beq_eq_false_iff_ne]
        exact fun e => hbc (UInt8.toNat_inj.1 (by omega))
      have hr : rB = false ∧ rK = k := by
        have h0 : (s.data.toList[k]? == some c) = false := by rw [HD.out]; simpa using hbc
        exact ⟨HQ.out.1.symm.trans h0, HQ.out.2.symm.trans (if_neg (by rw [h0]; decide))⟩
      have HR := Lib.hid hr
      clear hr
      go_wp2_with (go_quiet (fail))
      go_ret
      exact ⟨by rw [HR.out.1]; rfl, by rw [HR.out.2]; exact H1.out.1, by rw [HR.out.2]; exact H1.out.2.1, H1.out.2.2.drewN _⟩
  · have hkn : k = s.size := by omega
    have i2 : ((k : Int) == (s.size : Int)) = true := by rw [hkn]; simp
    have hr : rB = false ∧ rK = k := by
      have h0 : (s.data.toList[k]? == some c) = false := by rw [List.getElem?_eq_none (by have := HS.out; omega)]; rfl
      exact ⟨HQ.out.1.symm.trans h0, HQ.out.2.symm.trans (if_neg (by rw [h0]; decide))⟩
    have HR := Lib.hid hr
    clear hr
    go_wp2_with (go_quiet (fail))
    go_ret
    exact ⟨by rw [HR.out.1]; rfl, by rw [HR.out.2]; exact H1.out.1, by rw [HR.out.2]; exact H1.out.2.1, H1.out.2.2.drewN _⟩
end Go.Proofs.YtchggapclmdpaaaGreatDoor
