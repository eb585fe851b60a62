/- The scanner of labels.Parse: name. -/
import Derived.Test.YtchggapclmdpaaaGreatDoorSign7
namespace Go.Proofs.YtchggapclmdpaaaGreatDoor
open Go.RowKit Go.Lib

/-- Where a name that begins at k ends, from j on. -/
def nameEnd (l : List UInt8) (k : Nat) : Nat → Nat → Nat
  | 0, j => j
  | f + 1, j => if nameB ((l.take (j + 1)).drop k) then nameEnd l k f (j + 1) else j
def nameK (l : List UInt8) (k : Nat) : Nat := nameEnd l k (l.length - k) k
theorem extract_data (s : ByteArray) (i j : Nat) : (s.extract i j).data.toList = (s.data.toList.take j).drop i := by
  simp [ByteArray.data_extract, List.extract_eq_take_drop]
  rw [List.drop_take]
theorem cell_seen2 {w w' : World} (hb : Below w.heap.size w w') {p1 p2 : Addr} {v1 v2 : Value} (h : w.cell? p1 = some v1 ∧ w.cell? p2 = some v2) :
    w'.cell? p1 = some v1 ∧ w'.cell? p2 = some v2 := ⟨(hb.cell (World.block_lt_of_cell? w _ h.1)).trans h.1, (hb.cell (World.block_lt_of_cell? w _ h.2)).trans h.2⟩
/-- As GrownIn, blocks that are new aside. -/
theorem grownIn_below {S : Nat → Prop} {a w w' : World} (h : GrownIn S a w) (hb : Below w.heap.size w w') : GrownIn S a w' :=
  ⟨hb.os.trans h.os, hb.tape.trans h.tape, hb.output.trans h.output, Nat.le_trans h.size hb.size, fun k hk hn => (hb.block k (Nat.lt_of_lt_of_le hk h.size)).trans (h.block k hk hn)⟩
set_option maxHeartbeats 2000000 in
set_option maxRecDepth 100000 in
theorem sname_any (bk : Nat) (s : ByteArray) (k0 : Nat) (w : World) (hS : Scan w bk s k0) (hk : k0 ≤ s.size) (hbig : s.size ≤ 1099511627776) :
    Calls Tryz.prog 137 #[.pointer (some ⟨bk, 0, none⟩)] w fun e w' => e = .returned (.string (s.extract k0 (nameK s.data.toList k0))) ∧ Scan w' bk s (nameK s.data.toList k0) ∧ k0 ≤ nameK s.data.toList k0 ∧ nameK s.data.toList k0 ≤ s.size ∧ GrownIn (fun b => b = bk) w w' := by
  have hsz : s.size = s.data.toList.length := (Array.length_toList).symm
  obtain ⟨K, hK⟩ : ∃ K, nameK s.data.toList k0 = K := ⟨_, rfl⟩
  rw [hK]
  have HS := Lib.hid (show _ ∧ _ ∧ _ from ⟨hS, hsz, hK⟩)
  have d1 := hS.c1
  clear hS hsz hK
  go_enter Tryz.func137, Tryz.ntmps137
  go_wp2
  clear d1
  go_loopw [] (fun wr => ∃ k : Nat, k0 ≤ k ∧ k ≤ s.size ∧ Hid (Scan wr bk s k ∧ nameEnd s.data.toList k0 (s.size - k) k = K ∧ GrownIn (fun b => b = bk) w wr)) (fun wr => s.size - atOf wr bk)
  case atStart => exact ⟨k0, Nat.le_refl _, hk, Lib.hid ⟨HS.out.1, by rw [← HS.out.2.2, HS.out.2.1]; rfl, GrownIn.refl _ _⟩⟩
  case round =>
    obtain ⟨k, hk0, hk, HR⟩ := hrel
    have c0 := HR.out.1.c0
    have c1 := HR.out.1.c1
    by_cases hlt : k < s.size
    · have i0 : (0 : Int) ≤ (k : Int) := by omega
      have i1 : (k : Int) < (s.size : Int) := by omega
      have i2 : (0 : Int) ≤ (k0 : Int) := by omega
      have i3 : (k0 : Int) ≤ (k : Int) + 1 := by omega
      have i4 : (k : Int) + 1 ≤ (s.size : Int) := by omega
      have i5 : IntKind.i64.wrap ((k : Int) + 1) = (k : Int) + 1 := IntWalk.i64_in _ (by omega)
      have hc := fun W => name_any (s.extract k0 (k + 1)) W
      rw [extract_data] at hc
      have hend : nameEnd s.data.toList k0 (s.size - k) k = if nameB ((s.data.toList.take (k + 1)).drop k0) then nameEnd s.data.toList k0 (s.size - (k + 1)) (k + 1) else k := by
        rw [show s.size - k = (s.size - (k + 1)) + 1 by omega]; rfl
      generalize nameB ((s.data.toList.take (k + 1)).drop k0) = r at hc hend
      have HD := Lib.hid hend
      clear hend
      go_wp2_with fail
      go_region_held3 (fun w' => w'.cell? ⟨bk, 0, none⟩ = some (.string s) ∧ w'.cell? ⟨bk, 1, none⟩ = some (.int .i64 k)) (first | exact k6 | exact ⟨c0, c1⟩)
        (first | (go_at_call 13; refine (hc _).mono ?_; rintro e w' ⟨rfl, hbw⟩; have k6 := cell_seen2 hbw (by assumption); have HB1 := Lib.hid (show Scan w' bk s k ∧ GrownIn (fun b => b = bk) w w' from ⟨(show Scan wr.drew bk s k from HR.out.1).below hbw, grownIn_below (HR.out.2.2.drewN 1) hbw⟩); clear hbw))
      cases r with
      | true =>
        obtain ⟨k7, k8⟩ := k6
        have f1 := HB1.out.1.f1
        go_wp2
        go_roundw
        case measure => rw [HB1.out.1.next.at, HR.out.1.at]; omega
        case rel => exact ⟨k + 1, by omega, by omega, Lib.hid ⟨HB1.out.1.next, HD.out.symm.trans HR.out.2.1, grownIn_set HB1.out.2 rfl _⟩⟩
      | false =>
        have hKk : K = k := HR.out.2.1.symm.trans HD.out
        subst hKk
        obtain ⟨k7, k8⟩ := k6
        go_wp2_with (go_quiet (fail))
        go_ret
        exact ⟨rfl, HB1.out.1, hk0, hk, HB1.out.2.drewN _⟩
    · have hKk : K = k := by
        have h1 : s.size - k = 0 := by omega
        have := HR.out.2.1
        rw [h1] at this
        exact this.symm
      have i1 : ¬ (k : Int) < (s.size : Int) := by omega
      have i2 : (0 : Int) ≤ (k0 : Int) := by omega
      have i3 : (k0 : Int) ≤ (k : Int) := by omega
      have i4 : (k : Int) ≤ (s.size : Int) := by omega
      subst hKk
      go_wp2_with (go_quiet (fail))
      go_ret
      first | exact ⟨rfl, HR.out.1, hk0, hk, HR.out.2.2.drewN _⟩ | exact ⟨rfl, HR.out.1, HR.out.2.2.drewN _⟩
end Go.Proofs.YtchggapclmdpaaaGreatDoor
