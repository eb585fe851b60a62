/- The scanner of labels.Parse: blanks, sign, name. -/
import Derived.Test.YtchggapclmdpaaaGreatDoorName
import Derived.Test.YtchggapclmdpaaaGreatDoorBookKit
import Derived.Deep.RegionHeld3
import Derived.BigQuiet
import Derived.LoopN
namespace Go.Proofs.YtchggapclmdpaaaGreatDoor
open Go.RowKit Go.Lib

/-- The scanner's block: the text, and where it stands. -/
def Scan (w : World) (bk : Nat) (s : ByteArray) (k : Nat) : Prop := w.heap[bk]? = some (.cells #[.string s, .int .i64 k] 97 (0, 0))
theorem Scan.c0 {w : World} {bk : Nat} {s : ByteArray} {k : Nat} (h : Scan w bk s k) : w.cell? ⟨bk, 0, none⟩ = some (.string s) := by rw [cell_of_row w bk 0 _ _ (0, 0) h]; rfl
theorem Scan.c1 {w : World} {bk : Nat} {s : ByteArray} {k : Nat} (h : Scan w bk s k) : w.cell? ⟨bk, 1, none⟩ = some (.int .i64 k) := by rw [cell_of_row w bk 1 _ _ (0, 0) h]; rfl
theorem Scan.f1 {w : World} {bk : Nat} {s : ByteArray} {k : Nat} (h : Scan w bk s k) : w.frozen? ⟨bk, 1, none⟩ = false := by
  unfold World.frozen?
  rw [show w.heap[bk]? = _ from h]
  rfl
theorem Scan.lt {w : World} {bk : Nat} {s : ByteArray} {k : Nat} (h : Scan w bk s k) : bk < w.heap.size := (Array.getElem?_eq_some_iff.1 h).1
theorem Scan.set {w : World} {bk : Nat} {s : ByteArray} {k k' : Nat} (h : Scan w bk s k) : Scan (w.setCell ⟨bk, 1, none⟩ (.int .i64 k')) bk s k' := heap_setCell_same w bk 1 _ _ _ h
theorem Scan.next {w : World} {bk : Nat} {s : ByteArray} {k : Nat} (h : Scan w bk s k) : Scan (w.setCell ⟨bk, 1, none⟩ (.int .i64 ((k : Int) + 1))) bk s (k + 1) := by
  have := h.set (k' := k + 1)
  rwa [Int.natCast_add] at this
theorem Scan.below {w w' : World} {bk : Nat} {s : ByteArray} {k : Nat} (h : Scan w bk s k) (hb : Below w.heap.size w w') : Scan w' bk s k := (hb.block bk h.lt).trans h
/-- Where it stands, read off. -/
def atOf (w : World) (bk : Nat) : Nat := match w.cell? ⟨bk, 1, none⟩ with
  | some v => (intOf v).toNat
  | none => 0
theorem Scan.at {w : World} {bk : Nat} {s : ByteArray} {k : Nat} (h : Scan w bk s k) : atOf w bk = k := by
  unfold atOf
  rw [h.c1]
  simp [intOf]
/-- Where the blanks end. -/
def skipP (l : List UInt8) (k : Nat) : Nat := k + ((l.drop k).takeWhile (· == 32)).length
theorem skipP_step {l : List UInt8} {k : Nat} (h : l[k]? = some 32) : skipP l k = skipP l (k + 1) := by
  obtain ⟨h1, h2⟩ := List.getElem?_eq_some_iff.1 h
  unfold skipP
  rw [List.drop_eq_getElem_cons h1, h2]
  simp
  omega
theorem skipP_stop {l : List UInt8} {k : Nat} (h : l[k]? ≠ some 32) : skipP l k = k := by
  unfold skipP
  rcases Nat.lt_or_ge k l.length with h1 | h1
  · rw [List.drop_eq_getElem_cons h1]
    have : ¬ l[k] = 32 := fun e => h (by rw [List.getElem?_eq_getElem h1, e])
    have h2 : (l[k] == 32) = false := by simpa using this
    rw [List.takeWhile_cons, h2]
    rfl
  · rw [List.drop_eq_nil_of_le h1]; rfl
set_option maxHeartbeats 2000000 in
set_option maxRecDepth 100000 in
theorem blanks_any (bk : Nat) (s : ByteArray) (k0 : Nat) (w : World) (hS : Scan w bk s k0) (hk : k0 ≤ s.size) (hbig : s.size ≤ 1099511627776) :
    Calls Tryz.prog 136 #[.pointer (some ⟨bk, 0, none⟩)] w fun e w' => e = .returned (.tuple #[]) ∧ Scan w' bk s (skipP s.data.toList k0) ∧ skipP s.data.toList k0 ≤ s.size ∧ GrownIn (fun b => b = bk) w w' := by
  have hsz : s.size = s.data.toList.length := (Array.length_toList).symm
  have HS := Lib.hid (show _ ∧ _ from ⟨hS, hsz⟩)
  clear hS hsz
  go_enter Tryz.func136, Tryz.ntmps136
  go_wp2_with fail
  go_loopw [] (fun wr => ∃ k : Nat, k ≤ s.size ∧ Hid (Scan wr bk s k ∧ skipP s.data.toList k = skipP s.data.toList k0 ∧ GrownIn (fun b => b = bk) w wr)) (fun wr => s.size - atOf wr bk)
  case atStart => exact ⟨k0, hk, Lib.hid ⟨HS.out.1, rfl, GrownIn.refl _ _⟩⟩
  case round =>
    obtain ⟨k, hk, HR⟩ := hrel
    have c0 := HR.out.1.c0
    have c1 := HR.out.1.c1
    have f1 := HR.out.1.f1
    by_cases hlt : k < s.size
    · have i0 : (0 : Int) ≤ (k : Int) := by omega
      have i1 : (k : Int) < (s.size : Int) := by omega
      obtain ⟨b, hb⟩ : ∃ b, s[k]'hlt = b := ⟨_, rfl⟩
      have hl : s.data.toList[k]? = some b := by
        rw [← hb, List.getElem?_eq_getElem (by have := HS.out.2; omega)]
        rfl
      have HD := Lib.hid hl
      clear hl
      by_cases h32 : b = 32
      · have hbi : ((b.toNat : Int) == 32) = true := by rw [h32]; rfl
        go_wp2_with (go_quiet (fail))
        go_roundw
        case measure =>
          rw [(show Scan (wr.drewN nq) bk s k from HR.out.1).next.at, HR.out.1.at]
          omega
        case rel =>
          refine ⟨k + 1, by omega, Lib.hid ⟨?_, ?_, ?_⟩⟩
          · exact (show Scan (wr.drewN nq) bk s k from HR.out.1).next
          · exact (skipP_step (by rw [HD.out, h32])).symm.trans HR.out.2.1
          · exact grownIn_set (HR.out.2.2.drewN nq) rfl _
      · have hbi : ((b.toNat : Int) == 32) = false := by
          rw [beq_eq_false_iff_ne]
          intro e
          exact h32 (UInt8.toNat_inj.1 (by have : b.toNat = 32 := by omega
                                           rw [this]; rfl))
        have hst : skipP s.data.toList k0 = k := by rw [← HR.out.2.1]; exact skipP_stop (by rw [HD.out]; exact fun e => h32 (Option.some.inj e))
        have HX := Lib.hid hst
        clear hst
        go_wp2_with (go_quiet (fail))
        exact bodyPost_end (v := .tuple #[]) (by simp [results, Tryz.results136, go_sem]) rfl ⟨rfl, by rw [HX.out]; exact HR.out.1, by rw [HX.out]; exact hk, HR.out.2.2.drewN nq⟩
    · have hst : skipP s.data.toList k0 = k := by rw [← HR.out.2.1]; exact skipP_stop (by rw [List.getElem?_eq_none (by have := HS.out.2; omega)]; simp)
      have HX := Lib.hid hst
      clear hst
      have i1 : ¬ (k : Int) < (s.size : Int) := by omega
      go_wp2_with (go_quiet (fail))
      exact bodyPost_end (v := .tuple #[]) (by simp [results, Tryz.results136, go_sem]) rfl ⟨rfl, by rw [HX.out]; exact HR.out.1, by rw [HX.out]; exact hk, HR.out.2.2.drewN nq⟩
end Go.Proofs.YtchggapclmdpaaaGreatDoor
