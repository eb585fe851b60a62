/- The scanner of labels.Parse: blanks, sign, name. The scanner of labels.Parse: sign, name. The scanner of labels.Parse: name. -/
import Derived.Test.YtchggapclmdpaaaGreatDoorName
import Derived.Test.YtchggapclmdpaaaGreatDoorGb
import Derived.Deep.RegionHeld3
import Derived.BigQuiet
import Derived.LoopN
namespace Go.Proofs.YtchggapclmdpaaaGreatDoor
open Go.RowKit Go.Lib

/-- The scanner's block: the text, and where it stands. -/
def Scan (w : World) (bk : Nat) (s : ByteArray) (k : Nat) : Prop := w.heap[bk]? = some (.cells #[.string s, .int .i64 k] 97 (0, 0))
theorem Scan.c0 {w : World} {bk : Nat} {s : ByteArray} {k : Nat} (h : Scan w bk s k) : w.cell? ⟨bk, 0, none⟩ = some (.string s) := by rw [cell_of_row w bk 0 _ _ (0, 0) h]; rfl
theorem Scan.c1 {w : World} {bk : Nat} {s : ByteArray} {k : Nat} (h : Scan w bk s k) : w.cell? ⟨bk, 1, none⟩ = some (.int .i64 k) := by rw [cell_of_row w bk 1 _ _ (0, 0) h]; rfl
theorem Scan.f1 {w : World} {bk : Nat} {s : ByteArray} {k : Nat} (h : Scan w bk s k) : w.frozen? ⟨bk, 1, none⟩ = false := by
  unfold World.frozen?
  rw [show w.heap[bk]? = _ from h]
  rfl
theorem Scan.lt {w : World} {bk : Nat} {s : ByteArray} {k : Nat} (h : Scan w bk s k) : bk < w.heap.size := (Array.getElem?_eq_some_iff.1 h).1
theorem Scan.set {w : World} {bk : Nat} {s : ByteArray} {k k' : Nat} (h : Scan w bk s k) : Scan (w.setCell ⟨bk, 1, none⟩ (.int .i64 k')) bk s k' := heap_setCell_same w bk 1 _ _ _ h
theorem Scan.next {w : World} {bk : Nat} {s : ByteArray} {k : Nat} (h : Scan w bk s k) : Scan (w.setCell ⟨bk, 1, none⟩ (.int .i64 ((k : Int) + 1))) bk s (k + 1) := by
  have := h.set (k' := k + 1)
  rwa [Int.natCast_add] at this
theorem Scan.below {w w' : World} {bk : Nat} {s : ByteArray} {k : Nat} (h : Scan w bk s k) (hb : Below w.heap.size w w') : Scan w' bk s k := (hb.block bk h.lt).trans h
/-- Where it stands, read off. -/
def atOf (w : World) (bk : Nat) : Nat := match w.cell? ⟨bk, 1, none⟩ with
  | some v => (intOf v).toNat
  | none => 0
theorem Scan.at {w : World} {bk : Nat} {s : ByteArray} {k : Nat} (h : Scan w bk s k) : atOf w bk = k := by
  unfold atOf
  rw [h.c1]
  simp [intOf]
/-- Where the blanks end. -/
def skipP (l : List UInt8) (k : Nat) : Nat := k + ((l.drop k).takeWhile (· == 32)).length
theorem skipP_step {l : List UInt8} {k : Nat} (h : l[k]? = some 32) : skipP l k = skipP l (k + 1) := by
  obtain ⟨h1, h2⟩ := List.getElem?_eq_some_iff.1 h
  unfold skipP
  rw [List.drop_eq_getElem_cons h1, h2]
  simp
  omega
theorem skipP_stop {l : List UInt8} {k : Nat} (h : l[k]? ≠ some 32) : skipP l k = k := by
  unfold skipP
  rcases Nat.lt_or_ge k l.length with h1 | h1
  · rw [List.drop_eq_getElem_cons h1]
    have : ¬ l[k] = 32 := fun e => h (by rw [List.getElem?_eq_getElem h1, e])
    have h2 : (l[k] == 32) = false := by simpa using this
    rw [List.takeWhile_cons, h2]
    rfl
  · rw [List.drop_eq_nil_of_le h1]; rfl
set_option maxHeartbeats 2000000 in
set_option maxRecDepth 100000 in
theorem blanks_any (bk : Nat) (s : ByteArray) (k0 : Nat) (w : World) (hS : Scan w bk s k0) (hk : k0 ≤ s.size) (hbig : s.size ≤ 1099511627776) :
    Calls Tryz.prog 136 #[.pointer (some ⟨bk, 0, none⟩)] w fun e w' => e = .returned (.tuple #[]) ∧ Scan w' bk s (skipP s.data.toList k0) ∧ skipP s.data.toList k0 ≤ s.size ∧ GrownIn (fun b => b = bk) w w' := by
  have hsz : s.size = s.data.toList.length := (Array.length_toList).symm
  have HS := Lib.hid (show _ ∧ _ from ⟨hS, hsz⟩)
  clear hS hsz
  go_enter Tryz.func136, Tryz.ntmps136
  go_wp2_with fail
  go_loopw [] (fun wr => ∃ k : Nat, k ≤ s.size ∧ Hid (Scan wr bk s k ∧ skipP s.data.toList k = skipP s.data.toList k0 ∧ GrownIn (fun b => b = bk) w wr)) (fun wr => s.size - atOf wr bk)
  case atStart => exact ⟨k0, hk, Lib.hid ⟨HS.out.1, rfl, GrownIn.refl _ _⟩⟩
  case round =>
    obtain ⟨k, hk, HR⟩ := hrel
    have c0 := HR.out.1.c0
    have c1 := HR.out.1.c1
    have f1 := HR.out.1.f1
    by_cases hlt : k < s.size
    · have i0 : (0 : Int) ≤ (k : Int) := by omega
      have i1 : (k : Int) < (s.size : Int) := by omega
      obtain ⟨b, hb⟩ : ∃ b, s[k]'hlt = b := ⟨_, rfl⟩
      have hl : s.data.toList[k]? = some b := by
        rw [← hb, List.getElem?_eq_getElem (by have := HS.out.2; omega)]
        rfl
      have HD := Lib.hid hl
      clear hl
      by_cases h32 : b = 32
      · have hbi : ((b.toNat : Int) == 32) = true := by rw [h32]; rfl
        go_wp2_with (go_quiet (fail))
        go_roundw
        case measure =>
          rw [(show Scan (wr.drewN nq) bk s k from HR.out.1).next.at, HR.out.1.at]
          omega
        case rel =>
          refine ⟨k + 1, by omega, Lib.hid ⟨?_, ?_, ?_⟩⟩
          · exact (show Scan (wr.drewN nq) bk s k from HR.out.1).next
          · exact (skipP_step (by rw [HD.out, h32])).symm.trans HR.out.2.1
          · exact grownIn_set (HR.out.2.2.drewN nq) rfl _
      · have hbi : ((b.toNat : Int) == 32) = false := by
          rw [beq_eq_false_iff_ne]
          intro e
          exact h32 (UInt8.toNat_inj.1 (by have : b.toNat = 32 := by omega
                                           rw [this]; rfl))
        have hst : skipP s.data.toList k0 = k := by rw [← HR.out.2.1]; exact skipP_stop (by rw [HD.out]; exact fun e => h32 (Option.some.inj e))
        have HX := Lib.hid hst
        clear hst
        go_wp2_with (go_quiet (fail))
        exact bodyPost_end (v := .tuple #[]) (by simp [results, Tryz.results136, go_sem]) rfl ⟨rfl, by rw [HX.out]; exact HR.out.1, by rw [HX.out]; exact hk, HR.out.2.2.drewN nq⟩
    · have hst : skipP s.data.toList k0 = k := by rw [← HR.out.2.1]; exact skipP_stop (by rw [List.getElem?_eq_none (by have := HS.out.2; omega)]; simp)
      have HX := Lib.hid hst
      clear hst
      have i1 : ¬ (k : Int) < (s.size : Int) := by omega
      go_wp2_with (go_quiet (fail))
      exact bodyPost_end (v := .tuple #[]) (by simp [results, Tryz.results136, go_sem]) rfl ⟨rfl, by rw [HX.out]; exact HR.out.1, by rw [HX.out]; exact hk, HR.out.2.2.drewN nq⟩
end Go.Proofs.YtchggapclmdpaaaGreatDoor
namespace Go.Proofs.YtchggapclmdpaaaGreatDoor
open Go.RowKit Go.Lib

/-- Is the next byte that one? Where it then stands. -/
def signB (l : List UInt8) (k : Nat) (c : UInt8) : Bool := l[skipP l k]? == some c
def signK (l : List UInt8) (k : Nat) (c : UInt8) : Nat := if l[skipP l k]? == some c then skipP l (skipP l k + 1) else skipP l k
set_option maxHeartbeats 2000000 in
set_option maxRecDepth 100000 in
theorem sign_any (bk : Nat) (s : ByteArray) (k0 : Nat) (c : UInt8) (w : World) (hS : Scan w bk s k0) (hk : k0 ≤ s.size) (hbig : s.size ≤ 1099511627776) :
    Calls Tryz.prog 114 #[.pointer (some ⟨bk, 0, none⟩), .int .u8 c.toNat] w fun e w' => e = .returned (.bool (signB s.data.toList k0 c)) ∧ Scan w' bk s (signK s.data.toList k0 c) ∧ signK s.data.toList k0 c ≤ s.size ∧ GrownIn (fun b => b = bk) w w' := by
  have hsz : s.size = s.data.toList.length := (Array.length_toList).symm
  have hb1 := blanks_any bk s k0 w hS hk hbig
  have HS := Lib.hid hsz
  obtain ⟨k, hkk⟩ : ∃ k, skipP s.data.toList k0 = k := ⟨_, rfl⟩
  obtain ⟨rB, hB⟩ : ∃ r, signB s.data.toList k0 c = r := ⟨_, rfl⟩
  obtain ⟨rK, hK⟩ : ∃ r, signK s.data.toList k0 c = r := ⟨_, rfl⟩
  rw [hB, hK]
  unfold signB at hB
  unfold signK at hK
  rw [hkk] at hb1 hB hK
  have HQ := Lib.hid (show _ ∧ _ from ⟨hB, hK⟩)
  clear hsz hkk hB hK
  go_enter Tryz.func114, Tryz.ntmps114
  go_wp2_with fail
  refine hb1.mono ?_
  rintro e w1 ⟨rfl, hS1, hk1, hg1⟩
  have H1 := Lib.hid (show _ ∧ _ ∧ _ from ⟨hS1, hk1, hg1⟩)
  have c0 := hS1.c0
  have c1 := hS1.c1
  have f1 := hS1.f1
  clear hb1 hS1 hg1
  by_cases hlt : k < s.size
  · have i0 : (0 : Int) ≤ (k : Int) := by omega
    have i1 : (k : Int) < (s.size : Int) := by omega
    have i2 : ((k : Int) == (s.size : Int)) = false := by rw [beq_eq_false_iff_ne]; omega
    obtain ⟨b, hb⟩ : ∃ b, s[k]'hlt = b := ⟨_, rfl⟩
    have hl : s.data.toList[k]? = some b := by
      rw [← hb, List.getElem?_eq_getElem (by have := HS.out; omega)]
      rfl
    have HD := Lib.hid hl
    clear hl
    by_cases hbc : b = c
    · have hbi : ((b.toNat : Int) == (c.toNat : Int)) = true := by rw [hbc]; simp
      have hr : rB = true ∧ rK = skipP s.data.toList (k + 1) := by
        have h0 : (s.data.toList[k]? == some c) = true := by rw [HD.out, hbc]; simp
        exact ⟨HQ.out.1.symm.trans h0, HQ.out.2.symm.trans (if_pos h0)⟩
      have HR := Lib.hid hr
      clear hr
      have hb2 : ∀ q, Calls Tryz.prog 136 #[.pointer (some ⟨bk, 0, none⟩)] ((w1.drewN q).setCell ⟨bk, 1, none⟩ (.int .i64 ((k : Int) + 1))) _ := fun q => blanks_any bk s (k + 1) ((w1.drewN q).setCell ⟨bk, 1, none⟩ (.int .i64 ((k : Int) + 1))) (show Scan (w1.drewN q) bk s k from H1.out.1).next (by omega) hbig
      have HB := Lib.hid hb2
      clear hb2
      go_wp2_with (first | go_quiet (fail) | (go_at_call 136; refine (HB.out _).mono ?_; rintro e w2 ⟨rfl, hS2, hk2, hg2⟩; have H2 := Lib.hid (show _ ∧ _ ∧ _ from ⟨hS2, hk2, hg2⟩); clear hS2 hk2 hg2))
      go_ret
      refine ⟨by rw [HR.out.1]; rfl, by rw [HR.out.2]; exact H2.out.1, by rw [HR.out.2]; exact H2.out.2.1, ?_⟩
      exact (grownIn_set (H1.out.2.2.drewN _) rfl _).trans H2.out.2.2 (fun _ _ h => h)
    · have hbi : ((b.toNat : Int) == (c.toNat : Int)) = false := by
        rw [beq_eq_false_iff_ne]
        exact fun e => hbc (UInt8.toNat_inj.1 (by omega))
      have hr : rB = false ∧ rK = k := by
        have h0 : (s.data.toList[k]? == some c) = false := by rw [HD.out]; simpa using hbc
        exact ⟨HQ.out.1.symm.trans h0, HQ.out.2.symm.trans (if_neg (by rw [h0]; decide))⟩
      have HR := Lib.hid hr
      clear hr
      go_wp2_with (go_quiet (fail))
      go_ret
      exact ⟨by rw [HR.out.1]; rfl, by rw [HR.out.2]; exact H1.out.1, by rw [HR.out.2]; exact H1.out.2.1, H1.out.2.2.drewN _⟩
  · have hkn : k = s.size := by omega
    have i2 : ((k : Int) == (s.size : Int)) = true := by rw [hkn]; simp
    have hr : rB = false ∧ rK = k := by
      have h0 : (s.data.toList[k]? == some c) = false := by rw [List.getElem?_eq_none (by have := HS.out; omega)]; rfl
      exact ⟨HQ.out.1.symm.trans h0, HQ.out.2.symm.trans (if_neg (by rw [h0]; decide))⟩
    have HR := Lib.hid hr
    clear hr
    go_wp2_with (go_quiet (fail))
    go_ret
    exact ⟨by rw [HR.out.1]; rfl, by rw [HR.out.2]; exact H1.out.1, by rw [HR.out.2]; exact H1.out.2.1, H1.out.2.2.drewN _⟩
end Go.Proofs.YtchggapclmdpaaaGreatDoor
namespace Go.Proofs.YtchggapclmdpaaaGreatDoor
open Go.RowKit Go.Lib

/-- Where a name that begins at k ends, from j on. -/
def nameEnd (l : List UInt8) (k : Nat) : Nat → Nat → Nat
  | 0, j => j
  | f + 1, j => if nameB ((l.take (j + 1)).drop k) then nameEnd l k f (j + 1) else j
def nameK (l : List UInt8) (k : Nat) : Nat := nameEnd l k (l.length - k) k
theorem extract_data (s : ByteArray) (i j : Nat) : (s.extract i j).data.toList = (s.data.toList.take j).drop i := by
  simp [ByteArray.data_extract, List.extract_eq_take_drop]
  rw [List.drop_take]
theorem cell_seen2 {w w' : World} (hb : Below w.heap.size w w') {p1 p2 : Addr} {v1 v2 : Value} (h : w.cell? p1 = some v1 ∧ w.cell? p2 = some v2) :
    w'.cell? p1 = some v1 ∧ w'.cell? p2 = some v2 := ⟨(hb.cell (World.block_lt_of_cell? w _ h.1)).trans h.1, (hb.cell (World.block_lt_of_cell? w _ h.2)).trans h.2⟩
/-- As GrownIn, blocks that are new aside. -/
theorem grownIn_below {S : Nat → Prop} {a w w' : World} (h : GrownIn S a w) (hb : Below w.heap.size w w') : GrownIn S a w' :=
  ⟨hb.os.trans h.os, hb.tape.trans h.tape, hb.output.trans h.output, Nat.le_trans h.size hb.size, fun k hk hn => (hb.block k (Nat.lt_of_lt_of_le hk h.size)).trans (h.block k hk hn)⟩
set_option maxHeartbeats 2000000 in
set_option maxRecDepth 100000 in
theorem sname_any (bk : Nat) (s : ByteArray) (k0 : Nat) (w : World) (hS : Scan w bk s k0) (hk : k0 ≤ s.size) (hbig : s.size ≤ 1099511627776) :
    Calls Tryz.prog 137 #[.pointer (some ⟨bk, 0, none⟩)] w fun e w' => e = .returned (.string (s.extract k0 (nameK s.data.toList k0))) ∧ Scan w' bk s (nameK s.data.toList k0) ∧ k0 ≤ nameK s.data.toList k0 ∧ nameK s.data.toList k0 ≤ s.size ∧ GrownIn (fun b => b = bk) w w' := by
  have hsz : s.size = s.data.toList.length := (Array.length_toList).symm
  obtain ⟨K, hK⟩ : ∃ K, nameK s.data.toList k0 = K := ⟨_, rfl⟩
  rw [hK]
  have HS := Lib.hid (show _ ∧ _ ∧ _ from ⟨hS, hsz, hK⟩)
  have d1 := hS.c1
  clear hS hsz hK
  go_enter Tryz.func137, Tryz.ntmps137
  go_wp2
  clear d1
  go_loopw [] (fun wr => ∃ k : Nat, k0 ≤ k ∧ k ≤ s.size ∧ Hid (Scan wr bk s k ∧ nameEnd s.data.toList k0 (s.size - k) k = K ∧ GrownIn (fun b => b = bk) w wr)) (fun wr => s.size - atOf wr bk)
  case atStart => exact ⟨k0, Nat.le_refl _, hk, Lib.hid ⟨HS.out.1, by rw [← HS.out.2.2, HS.out.2.1]; rfl, GrownIn.refl _ _⟩⟩
  case round =>
    obtain ⟨k, hk0, hk, HR⟩ := hrel
    have c0 := HR.out.1.c0
    have c1 := HR.out.1.c1
    by_cases hlt : k < s.size
    · have i0 : (0 : Int) ≤ (k : Int) := by omega
      have i1 : (k : Int) < (s.size : Int) := by omega
      have i2 : (0 : Int) ≤ (k0 : Int) := by omega
      have i3 : (k0 : Int) ≤ (k : Int) + 1 := by omega
      have i4 : (k : Int) + 1 ≤ (s.size : Int) := by omega
      have i5 : IntKind.i64.wrap ((k : Int) + 1) = (k : Int) + 1 := IntWalk.i64_in _ (by omega)
      have hc := fun W => name_any (s.extract k0 (k + 1)) W
      rw [extract_data] at hc
      have hend : nameEnd s.data.toList k0 (s.size - k) k = if nameB ((s.data.toList.take (k + 1)).drop k0) then nameEnd s.data.toList k0 (s.size - (k + 1)) (k + 1) else k := by
        rw [show s.size - k = (s.size - (k + 1)) + 1 by omega]; rfl
      generalize nameB ((s.data.toList.take (k + 1)).drop k0) = r at hc hend
      have HD := Lib.hid hend
      clear hend
      go_wp2_with fail
      go_region_held3 (fun w' => w'.cell? ⟨bk, 0, none⟩ = some (.string s) ∧ w'.cell? ⟨bk, 1, none⟩ = some (.int .i64 k)) (first | exact k6 | exact ⟨c0, c1⟩)
        (first | (go_at_call 13; refine (hc _).mono ?_; rintro e w' ⟨rfl, hbw⟩; have k6 := cell_seen2 hbw (by assumption); have HB1 := Lib.hid (show Scan w' bk s k ∧ GrownIn (fun b => b = bk) w w' from ⟨(show Scan wr.drew bk s k from HR.out.1).below hbw, grownIn_below (HR.out.2.2.drewN 1) hbw⟩); clear hbw))
      cases r with
      | true =>
        obtain ⟨k7, k8⟩ := k6
        have f1 := HB1.out.1.f1
        go_wp2
        go_roundw
        case measure => rw [HB1.out.1.next.at, HR.out.1.at]; omega
        case rel => exact ⟨k + 1, by omega, by omega, Lib.hid ⟨HB1.out.1.next, HD.out.symm.trans HR.out.2.1, grownIn_set HB1.out.2 rfl _⟩⟩
      | false =>
        have hKk : K = k := HR.out.2.1.symm.trans HD.out
        subst hKk
        obtain ⟨k7, k8⟩ := k6
        go_wp2_with (go_quiet (fail))
        go_ret
        exact ⟨rfl, HB1.out.1, hk0, hk, HB1.out.2.drewN _⟩
    · have hKk : K = k := by
        have h1 : s.size - k = 0 := by omega
        have := HR.out.2.1
        rw [h1] at this
        exact this.symm
      have i1 : ¬ (k : Int) < (s.size : Int) := by omega
      have i2 : (0 : Int) ≤ (k0 : Int) := by omega
      have i3 : (k0 : Int) ≤ (k : Int) := by omega
      have i4 : (k : Int) ≤ (s.size : Int) := by omega
      subst hKk
      go_wp2_with (go_quiet (fail))
      go_ret
      first | exact ⟨rfl, HR.out.1, hk0, hk, HR.out.2.2.drewN _⟩ | exact ⟨rfl, HR.out.1, HR.out.2.2.drewN _⟩
end Go.Proofs.YtchggapclmdpaaaGreatDoor
