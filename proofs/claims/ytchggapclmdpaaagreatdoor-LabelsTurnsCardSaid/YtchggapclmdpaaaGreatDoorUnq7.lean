/- text.Unquote of plain bytes between quotes. -/
import Derived.Test.YtchggapclmdpaaaGreatDoorGd
import Derived.Test.YtchggapclmdpaaaGreatDoorShelf8
import Derived.Test.YtchggapclmdpaaaGreatDoorGe
import Derived.Shelf.Strings.Runes
import Derived.Laws.BytesArg
import Derived.OwnWalk
namespace Go.Proofs.YtchggapclmdpaaaGreatDoor
open Go.RowKit Go.Lib

/-- A byte that stands for itself between quotes. -/
def plainB (b : UInt8) : Prop := b ≠ 34 ∧ b ≠ 92 ∧ b ≠ 10
set_option maxHeartbeats 2000000 in
set_option maxRecDepth 100000 in
theorem unquote_plain (s : ByteArray) (t : List UInt8) (hs : s.data.toList = 34 :: (t ++ [34])) (hp : ∀ b ∈ t, plainB b) (hbig : t.length ≤ 1000000) (w : World) :
    Calls Tryz.prog 176 #[.string s] w fun e w' => e = .returned (.tuple #[.string ⟨t.toArray⟩, .int .i64 ((t.length : Int) + 2), .nilIface]) ∧ Below w.heap.size w w' := by
  have hsz : s.size = t.length + 2 := by
    have : s.size = s.data.toList.length := (Array.length_toList).symm
    rw [this, hs]; simp
  obtain ⟨i0, hi, hz0, hz1, hz2⟩ := info_parts Tryz.infoByte
  have HI := Lib.hid (show _ ∧ _ ∧ _ ∧ _ from ⟨hi, hz0, hz1, hz2⟩)
  have hne : (s.toList == []) = false := by rw [ByteArray.toList_eq, hs]; rfl
  have hpos : 0 < s.size := by omega
  have h0 : s[0]'hpos = 34 := by
    have h1 : s.data.toList[0]? = some 34 := by rw [hs]; rfl
    obtain ⟨h2, h3⟩ := List.getElem?_eq_some_iff.1 h1
    exact h3
  have hat : ∀ k b (hk : k < s.size), s.data.toList[k]? = some b → s[k]'hk = b := by
    intro k b hk h
    obtain ⟨h2, h3⟩ := List.getElem?_eq_some_iff.1 h
    exact h3
  have hru : ∀ w', Calls Tryz.prog 144 #[.string ⟨#[34, 39, 96]⟩, .int .i32 34] w' fun e w'' => e = .returned (.bool true) ∧ w'' = w' := fun w' => Any.strings_ContainsRune_ascii Tryz.lRune ⟨#[34, 39, 96]⟩ 34 w' (by decide) (by decide)
  have i0' : (0 : Int) < (s.size : Int) := by omega
  have HS := Lib.hid (show _ ∧ _ ∧ _ ∧ _ from ⟨hs, hp, hsz, hat⟩)
  clear hs hp hsz hat hi hz0 hz1 hz2
  go_enter Tryz.func176, Tryz.ntmps176
  go_wp2_with (go_at_call 144; refine (hru _).mono ?_; rintro e w' ⟨rfl, hw⟩; obtain rfl := hw.symm)
  go_loopw [7, 8] (fun v i wr => ∃ k : Nat, k ≤ t.length ∧ i = .int .i64 ((k : Int) + 1) ∧ Hid (wr.ownsRow w.heap.size 5 1 v k (bytesV (t.take k)) ∧ Below w.heap.size w wr)) (fun _ i _ => t.length + 1 - (intOf i).toNat)
  case atStart => exact ⟨0, Nat.zero_le _, rfl, Lib.hid ⟨World.ownsRow_nil _ _ _ _, Below.refl _ _⟩⟩
  case round =>
    obtain ⟨k, hk, rfl, HR⟩ := hrel
    have hks : k + 1 < s.size := by have := HS.out.2.2.1; omega
    obtain ⟨b, hb⟩ : ∃ b, s[k + 1]'hks = b := ⟨_, rfl⟩
    have hbl : s.data.toList[k + 1]? = some b := by
      rw [← hb, List.getElem?_eq_getElem (by rw [Array.length_toList]; exact hks)]
      rfl
    have j0 : (0 : Int) ≤ (k : Int) + 1 := by omega
    have j1 : (k : Int) + 1 < (s.size : Int) := by omega
    have j2 : ((k : Int) + 1).toNat = k + 1 := by omega
    have HBL := Lib.hid hbl
    clear hbl
    by_cases hlt : k < t.length
    · have htk : t[k]? = some b := by
        have := HBL.out
        rw [HS.out.1, List.getElem?_cons_succ, List.getElem?_append_left hlt] at this
        exact this
      obtain ⟨p1, p2, p3⟩ := HS.out.2.1 b (List.mem_of_getElem? htk)
      have q1 : ((b.toNat : Int) == 34) = false := byte_ne p1
      have q2 : ((b.toNat : Int) == 92) = false := byte_ne p2
      have q3 : ((b.toNat : Int) == 10) = false := byte_ne p3
      have HT := Lib.hid htk
      clear htk p1 p2 p3
      obtain ⟨hi, hz0, hz1, hz2⟩ := HI.out
      have hsw := HR.out.2.size
      go_wp2_with (at_builtin; refine wpList_append_own _ rfl _ _ 75 rfl w.heap.size 5 i0 _ 1 1 Tryz.underlying75 hi hz0 hz1 hz2 rfl (by omega) _ k (bytesV (t.take k)) rfl (HR.out.1.alloc _) ⟨wr.heap.size, 0, none⟩ 1 1 [.int .u8 b.toNat] rfl rfl (cells_newL wr [.int .u8 b.toNat] _) (by simp [Value.oneCell']) (by unfold maxLen; omega) (by omega) (by simp; omega) ?_)
      intro v' w5 hown5 hg5 _
      have hb5 := (HR.out.2.alloc HR.out.2.size (.cells #[.int .u8 b.toNat] 5)).grown hg5 (by simp; omega) (fun j hj => (HR.out.1.lt j hj).1)
      have hbt : bytesV (t.take (k + 1)) = bytesV (t.take k) ++ [.int .u8 b.toNat] := by
        obtain ⟨g1, g2⟩ := List.getElem?_eq_some_iff.1 HT.out
        unfold bytesV
        rw [List.take_succ_eq_append_getElem g1, g2, List.map_append]
        rfl
      have H5 := Lib.hid (show w5.ownsRow w.heap.size 5 1 v' (k + 1) (bytesV (t.take (k + 1))) ∧ _ from ⟨by rw [hbt]; exact hown5, hb5⟩)
      clear hown5 hg5 hb5 hbt hi hz0 hz1 hz2
      go_wp2
      go_roundw
      case measure => simp [intOf]; omega
      case rel => exact ⟨k + 1, hlt, by simp, H5⟩
    · obtain rfl : k = t.length := by omega
      have hb34 : b = 34 := by
        have := HBL.out
        rw [HS.out.1, List.getElem?_cons_succ, List.getElem?_append_right (Nat.le_refl _), Nat.sub_self] at this
        exact (Option.some.inj this).symm
      have hR1 := HR.out.1
      rw [List.take_length] at hR1
      have hconv := own_text hR1
      subst hb34
      have HC := Lib.hid hR1
      clear hR1
      go_wp2
      exact bodyPost_ret (v := .tuple #[.string ⟨t.toArray⟩, .int .i64 ((t.length : Int) + 2), .nilIface]) (by simp [results, Tryz.results176, go_sem]; omega) rfl ⟨rfl, HR.out.2⟩
end Go.Proofs.YtchggapclmdpaaaGreatDoor
