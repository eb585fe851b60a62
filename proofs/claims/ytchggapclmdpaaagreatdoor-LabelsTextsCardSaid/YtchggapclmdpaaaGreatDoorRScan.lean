/- The scanner of the document's Parse: blanks, sign, name (turned from Scan7, Sign7, Nm7 by genrscan.py). -/
import Derived.Test.YtchggapclmdpaaaGreatDoorGd
import Derived.Test.YtchggapclmdpaaaGreatDoorGf
namespace Go.Proofs.YtchggapclmdpaaaGreatDoor
open Go.RowKit Go.Lib


/-- The scanner's block: the text, and where it stands. -/
def RScan (w : World) (bk : Nat) (s : ByteArray) (k : Nat) : Prop := w.heap[bk]? = some (.cells #[.string s, .int .i64 k] 102 (0, 0))
theorem RScan.c0 {w : World} {bk : Nat} {s : ByteArray} {k : Nat} (h : RScan w bk s k) : w.cell? ⟨bk, 0, none⟩ = some (.string s) := by rw [cell_of_row w bk 0 _ _ (0, 0) h]; rfl
theorem RScan.c1 {w : World} {bk : Nat} {s : ByteArray} {k : Nat} (h : RScan w bk s k) : w.cell? ⟨bk, 1, none⟩ = some (.int .i64 k) := by rw [cell_of_row w bk 1 _ _ (0, 0) h]; rfl
theorem RScan.f1 {w : World} {bk : Nat} {s : ByteArray} {k : Nat} (h : RScan w bk s k) : w.frozen? ⟨bk, 1, none⟩ = false := by
  unfold World.frozen?
  rw [show w.heap[bk]? = _ from h]
  rfl
theorem RScan.lt {w : World} {bk : Nat} {s : ByteArray} {k : Nat} (h : RScan w bk s k) : bk < w.heap.size := (Array.getElem?_eq_some_iff.1 h).1
theorem RScan.set {w : World} {bk : Nat} {s : ByteArray} {k k' : Nat} (h : RScan w bk s k) : RScan (w.setCell ⟨bk, 1, none⟩ (.int .i64 k')) bk s k' := heap_setCell_same w bk 1 _ _ _ h
theorem RScan.next {w : World} {bk : Nat} {s : ByteArray} {k : Nat} (h : RScan w bk s k) : RScan (w.setCell ⟨bk, 1, none⟩ (.int .i64 ((k : Int) + 1))) bk s (k + 1) := by
  have := h.set (k' := k + 1)
  rwa [Int.natCast_add] at this
theorem RScan.below {w w' : World} {bk : Nat} {s : ByteArray} {k : Nat} (h : RScan w bk s k) (hb : Below w.heap.size w w') : RScan w' bk s k := (hb.block bk h.lt).trans h
theorem RScan.at {w : World} {bk : Nat} {s : ByteArray} {k : Nat} (h : RScan w bk s k) : atOf w bk = k := by
  unfold atOf
  rw [h.c1]
  simp [intOf]
set_option maxHeartbeats 2000000 in
set_option maxRecDepth 100000 in
theorem rblanks_any (bk : Nat) (s : ByteArray) (k0 : Nat) (w : World) (hS : RScan w bk s k0) (hk : k0 ≤ s.size) (hbig : s.size ≤ 1099511627776) :
    Calls Tryz.prog 139 #[.pointer (some ⟨bk, 0, none⟩)] w fun e w' => e = .returned (.tuple #[]) ∧ RScan w' bk s (skipP s.data.toList k0) ∧ skipP s.data.toList k0 ≤ s.size ∧ GrownIn (fun b => b = bk) w w' := by
  have hsz : s.size = s.data.toList.length := (Array.length_toList).symm
  have HS := Lib.hid (show _ ∧ _ from ⟨hS, hsz⟩)
  clear hS hsz
  go_enter Tryz.func139, Tryz.ntmps139
  go_wp2_with fail
  go_loopw [] (fun wr => ∃ k : Nat, k ≤ s.size ∧ Hid (RScan wr bk s k ∧ skipP s.data.toList k = skipP s.data.toList k0 ∧ GrownIn (fun b => b = bk) w wr)) (fun wr => s.size - atOf wr bk)
  case atStart => exact ⟨k0, hk, Lib.hid ⟨HS.out.1, rfl, GrownIn.refl _ _⟩⟩
  case round =>
    obtain ⟨k, hk, HR⟩ := hrel
    have c0 := HR.out.1.c0
    have c1 := HR.out.1.c1
    have f1 := HR.out.1.f1
    by_cases hlt : k < s.size
    · have i0 : (0 : Int) ≤ (k : Int) := by omega
      have i1 : (k : Int) < (s.size : Int) := by omega
      obtain ⟨b, hb⟩ : ∃ b, s[k]'hlt = b := ⟨_, rfl⟩
      have hl : s.data.toList[k]? = some b := by
        rw [← hb, List.getElem?_eq_getElem (by have := HS.out.2; omega)]
        rfl
      have HD := Lib.hid hl
      clear hl
      by_cases h32 : b = 32
      · have hbi : ((b.toNat : Int) == 32) = true := by rw [h32]; rfl
        go_wp2_with (go_quiet (fail))
        go_roundw
        case measure =>
          rw [(show RScan (wr.drewN nq) bk s k from HR.out.1).next.at, HR.out.1.at]
          omega
        case rel =>
          refine ⟨k + 1, by omega, Lib.hid ⟨?_, ?_, ?_⟩⟩
          · exact (show RScan (wr.drewN nq) bk s k from HR.out.1).next
          · exact (skipP_step (by rw [HD.out, h32])).symm.trans HR.out.2.1
          · exact grownIn_set (HR.out.2.2.drewN nq) rfl _
      · have hbi : ((b.toNat : Int) == 32) = false := by
          rw [beq_eq_false_iff_ne]
          intro e
          exact h32 (UInt8.toNat_inj.1 (by have : b.toNat = 32 := by omega
                                           rw [this]; rfl))
        have hst : skipP s.data.toList k0 = k := by rw [← HR.out.2.1]; exact skipP_stop (by rw [HD.out]; exact fun e => h32 (Option.some.inj e))
        have HX := Lib.hid hst
        clear hst
        go_wp2_with (go_quiet (fail))
        exact bodyPost_end (v := .tuple #[]) (by simp [results, Tryz.results139, go_sem]) rfl ⟨rfl, by rw [HX.out]; exact HR.out.1, by rw [HX.out]; exact hk, HR.out.2.2.drewN nq⟩
    · have hst : skipP s.data.toList k0 = k := by rw [← HR.out.2.1]; exact skipP_stop (by rw [List.getElem?_eq_none (by have := HS.out.2; omega)]; simp)
      have HX := Lib.hid hst
      clear hst
      have i1 : ¬ (k : Int) < (s.size : Int) := by omega
      go_wp2_with (go_quiet (fail))
      exact bodyPost_end (v := .tuple #[]) (by simp [results, Tryz.results139, go_sem]) rfl ⟨rfl, by rw [HX.out]; exact HR.out.1, by rw [HX.out]; exact hk, HR.out.2.2.drewN nq⟩
theorem RScan.drewN {w : World} {bk : Nat} {s : ByteArray} {k : Nat} (h : RScan w bk s k) (n : Nat) : RScan (w.drewN n) bk s k := h
theorem RScan.drew {w : World} {bk : Nat} {s : ByteArray} {k : Nat} (h : RScan w bk s k) : RScan w.drew bk s k := h
theorem RScan.cs {w : World} {bk : Nat} {s : ByteArray} {k : Nat} (h : RScan w bk s k) : w.cell? ⟨bk, 0, none⟩ = some (.string s) ∧ w.cell? ⟨bk, 1, none⟩ = some (.int .i64 k) := ⟨h.c0, h.c1⟩
theorem RScan.alloc {w : World} {bk : Nat} {s : ByteArray} {k : Nat} (h : RScan w bk s k) (o : Obj) : RScan (w.alloc o) bk s k := (heap_alloc_old w o h.lt).trans h
theorem RScan.other {w : World} {bk : Nat} {s : ByteArray} {k : Nat} (h : RScan w bk s k) {p : Addr} (hp : bk ≠ p.block) (v : Value) : RScan (w.setCell p v) bk s k := (heap_setCell_other w p bk v hp).trans h
set_option maxHeartbeats 2000000 in
set_option maxRecDepth 100000 in
theorem rsign_any (bk : Nat) (s : ByteArray) (k0 : Nat) (c : UInt8) (w : World) (hS : RScan w bk s k0) (hk : k0 ≤ s.size) (hbig : s.size ≤ 1099511627776) :
    Calls Tryz.prog 116 #[.pointer (some ⟨bk, 0, none⟩), .int .u8 c.toNat] w fun e w' => e = .returned (.bool (signB s.data.toList k0 c)) ∧ RScan w' bk s (signK s.data.toList k0 c) ∧ signK s.data.toList k0 c ≤ s.size ∧ GrownIn (fun b => b = bk) w w' := by
  have hsz : s.size = s.data.toList.length := (Array.length_toList).symm
  have hb1 := rblanks_any bk s k0 w hS hk hbig
  have HS := Lib.hid hsz
  obtain ⟨k, hkk⟩ : ∃ k, skipP s.data.toList k0 = k := ⟨_, rfl⟩
  obtain ⟨rB, hB⟩ : ∃ r, signB s.data.toList k0 c = r := ⟨_, rfl⟩
  obtain ⟨rK, hK⟩ : ∃ r, signK s.data.toList k0 c = r := ⟨_, rfl⟩
  rw [hB, hK]
  unfold signB at hB
  unfold signK at hK
  rw [hkk] at hb1 hB hK
  have HQ := Lib.hid (show _ ∧ _ from ⟨hB, hK⟩)
  clear hsz hkk hB hK
  go_enter Tryz.func116, Tryz.ntmps116
  go_wp2_with fail
  refine hb1.mono ?_
  rintro e w1 ⟨rfl, hS1, hk1, hg1⟩
  have H1 := Lib.hid (show _ ∧ _ ∧ _ from ⟨hS1, hk1, hg1⟩)
  have c0 := hS1.c0
  have c1 := hS1.c1
  have f1 := hS1.f1
  clear hb1 hS1 hg1
  by_cases hlt : k < s.size
  · have i0 : (0 : Int) ≤ (k : Int) := by omega
    have i1 : (k : Int) < (s.size : Int) := by omega
    have i2 : ¬ s.size ≤ k := by omega
    have i3 : decide (s.size ≤ k) = false := by simpa using i2
    obtain ⟨b, hb⟩ : ∃ b, s[k]'hlt = b := ⟨_, rfl⟩
    have hl : s.data.toList[k]? = some b := by
      rw [← hb, List.getElem?_eq_getElem (by have := HS.out; omega)]
      rfl
    have HD := Lib.hid hl
    clear hl
    by_cases hbc : b = c
    · have hbi : ((b.toNat : Int) != (c.toNat : Int)) = false := by rw [hbc]; simp
      have hr : rB = true ∧ rK = skipP s.data.toList (k + 1) := by
        have h0 : (s.data.toList[k]? == some c) = true := by rw [HD.out, hbc]; simp
        exact ⟨HQ.out.1.symm.trans h0, HQ.out.2.symm.trans (if_pos h0)⟩
      have HR := Lib.hid hr
      clear hr
      have hb2 : ∀ q, Calls Tryz.prog 139 #[.pointer (some ⟨bk, 0, none⟩)] ((w1.drewN q).setCell ⟨bk, 1, none⟩ (.int .i64 ((k : Int) + 1))) _ := fun q => rblanks_any bk s (k + 1) ((w1.drewN q).setCell ⟨bk, 1, none⟩ (.int .i64 ((k : Int) + 1))) (show RScan (w1.drewN q) bk s k from H1.out.1).next (by omega) hbig
      have HB := Lib.hid hb2
      clear hb2
      go_wp2_with (first | go_quiet (fail) | (go_at_call 139; refine (HB.out _).mono ?_; rintro e w2 ⟨rfl, hS2, hk2, hg2⟩; have H2 := Lib.hid (show _ ∧ _ ∧ _ from ⟨hS2, hk2, hg2⟩); clear hS2 hk2 hg2))
      go_ret
      refine ⟨by rw [HR.out.1]; rfl, by rw [HR.out.2]; exact H2.out.1, by rw [HR.out.2]; exact H2.out.2.1, ?_⟩
      exact (grownIn_set (H1.out.2.2.drewN _) rfl _).trans H2.out.2.2 (fun _ _ h => h)
    · have hbi : ((b.toNat : Int) == (c.toNat : Int)) = false := by
        rw [beq_eq_false_iff_ne]
        exact fun e => hbc (UInt8.toNat_inj.1 (by omega))
      have hr : rB = false ∧ rK = k := by
        have h0 : (s.data.toList[k]? == some c) = false := by rw [HD.out]; simpa using hbc
        exact ⟨HQ.out.1.symm.trans h0, HQ.out.2.symm.trans (if_neg (by rw [h0]; decide))⟩
      have HR := Lib.hid hr
      clear hr
      go_wp2_with (go_quiet (fail))
      go_ret
      exact ⟨by rw [HR.out.1]; rfl, by rw [HR.out.2]; exact H1.out.1, by rw [HR.out.2]; exact H1.out.2.1, H1.out.2.2.drewN _⟩
  · have hkn : k = s.size := by omega
    have i2 : s.size ≤ k := by omega
    have i3 : decide (s.size ≤ k) = true := by simpa using i2
    have hr : rB = false ∧ rK = k := by
      have h0 : (s.data.toList[k]? == some c) = false := by rw [List.getElem?_eq_none (by have := HS.out; omega)]; rfl
      exact ⟨HQ.out.1.symm.trans h0, HQ.out.2.symm.trans (if_neg (by rw [h0]; decide))⟩
    have HR := Lib.hid hr
    clear hr
    go_wp2_with (go_quiet (fail))
    go_ret
    exact ⟨by rw [HR.out.1]; rfl, by rw [HR.out.2]; exact H1.out.1, by rw [HR.out.2]; exact H1.out.2.1, H1.out.2.2.drewN _⟩
set_option maxHeartbeats 2000000 in
set_option maxRecDepth 100000 in
theorem rname_any (bk : Nat) (s : ByteArray) (k0 : Nat) (w : World) (hS : RScan w bk s k0) (hk : k0 ≤ s.size) (hbig : s.size ≤ 1099511627776) :
    Calls Tryz.prog 117 #[.pointer (some ⟨bk, 0, none⟩)] w fun e w' => e = .returned (.string (s.extract k0 (nameK s.data.toList k0))) ∧ RScan w' bk s (nameK s.data.toList k0) ∧ k0 ≤ nameK s.data.toList k0 ∧ nameK s.data.toList k0 ≤ s.size ∧ GrownIn (fun b => b = bk) w w' := by
  have hsz : s.size = s.data.toList.length := (Array.length_toList).symm
  obtain ⟨K, hK⟩ : ∃ K, nameK s.data.toList k0 = K := ⟨_, rfl⟩
  rw [hK]
  have HS := Lib.hid (show _ ∧ _ ∧ _ from ⟨hS, hsz, hK⟩)
  have d1 := hS.c1
  clear hS hsz hK
  go_enter Tryz.func117, Tryz.ntmps117
  go_wp2
  clear d1
  go_loopw [] (fun wr => ∃ k : Nat, k0 ≤ k ∧ k ≤ s.size ∧ Hid (RScan wr bk s k ∧ nameEnd s.data.toList k0 (s.size - k) k = K ∧ GrownIn (fun b => b = bk) w wr)) (fun wr => s.size - atOf wr bk)
  case atStart => exact ⟨k0, Nat.le_refl _, hk, Lib.hid ⟨HS.out.1, by rw [← HS.out.2.2, HS.out.2.1]; rfl, GrownIn.refl _ _⟩⟩
  case round =>
    obtain ⟨k, hk0, hk, HR⟩ := hrel
    have c0 := HR.out.1.c0
    have c1 := HR.out.1.c1
    by_cases hlt : k < s.size
    · have i0 : (0 : Int) ≤ (k : Int) := by omega
      have i1 : (k : Int) < (s.size : Int) := by omega
      have i2 : (0 : Int) ≤ (k0 : Int) := by omega
      have i3 : (k0 : Int) ≤ (k : Int) + 1 := by omega
      have i4 : (k : Int) + 1 ≤ (s.size : Int) := by omega
      have i5 : IntKind.i64.wrap ((k : Int) + 1) = (k : Int) + 1 := IntWalk.i64_in _ (by omega)
      have hc : ∀ W, Calls Tryz.prog 14 #[.string (s.extract k0 (k + 1))] W fun e w' => e = .returned (.bool (nameB (s.extract k0 (k + 1)).data.toList)) ∧ Below W.heap.size W w' := fun W => (refName_any (s.extract k0 (k + 1)) W).mono fun e w' h => ⟨h.1, by rw [h.2]; exact Below.refl _ _⟩
      rw [extract_data] at hc
      have hend : nameEnd s.data.toList k0 (s.size - k) k = if nameB ((s.data.toList.take (k + 1)).drop k0) then nameEnd s.data.toList k0 (s.size - (k + 1)) (k + 1) else k := by
        rw [show s.size - k = (s.size - (k + 1)) + 1 by omega]; rfl
      generalize nameB ((s.data.toList.take (k + 1)).drop k0) = r at hc hend
      have HD := Lib.hid hend
      clear hend
      go_wp2_with (go_quiet (fail))
      go_region_held3 (fun w' => w'.cell? ⟨bk, 0, none⟩ = some (.string s) ∧ w'.cell? ⟨bk, 1, none⟩ = some (.int .i64 k)) (first | exact k6 | exact RScan.cs (RScan.drew (RScan.drewN HR.out.1 _)))
        (first | (go_at_call 14; refine (hc _).mono ?_; rintro e w' ⟨rfl, hbw⟩; have k6 := cell_seen2 hbw (by assumption); have HB1 := Lib.hid (show RScan w' bk s k ∧ GrownIn (fun b => b = bk) w w' from ⟨(RScan.drew (RScan.drewN HR.out.1 _)).below hbw, grownIn_below ((HR.out.2.2.drewN _).drewN 1) hbw⟩); clear hbw))
      cases r with
      | true =>
        obtain ⟨k7, k8⟩ := k6
        have f1 := HB1.out.1.f1
        go_wp2
        go_roundw
        case measure => rw [HB1.out.1.next.at, HR.out.1.at]; omega
        case rel => exact ⟨k + 1, by omega, by omega, Lib.hid ⟨HB1.out.1.next, HD.out.symm.trans HR.out.2.1, grownIn_set HB1.out.2 rfl _⟩⟩
      | false =>
        have hKk : K = k := HR.out.2.1.symm.trans HD.out
        subst hKk
        obtain ⟨k7, k8⟩ := k6
        go_wp2_with (go_quiet (fail))
        go_ret
        exact ⟨rfl, HB1.out.1, hk0, hk, HB1.out.2.drewN _⟩
    · have hKk : K = k := by
        have h1 : s.size - k = 0 := by omega
        have := HR.out.2.1
        rw [h1] at this
        exact this.symm
      have i1 : ¬ (k : Int) < (s.size : Int) := by omega
      have i2 : (0 : Int) ≤ (k0 : Int) := by omega
      have i3 : (k0 : Int) ≤ (k : Int) := by omega
      have i4 : (k : Int) ≤ (s.size : Int) := by omega
      subst hKk
      go_wp2_with (go_quiet (fail))
      go_ret
      first | exact ⟨rfl, HR.out.1, hk0, hk, HR.out.2.2.drewN _⟩ | exact ⟨rfl, HR.out.1, HR.out.2.2.drewN _⟩
end Go.Proofs.YtchggapclmdpaaaGreatDoor
