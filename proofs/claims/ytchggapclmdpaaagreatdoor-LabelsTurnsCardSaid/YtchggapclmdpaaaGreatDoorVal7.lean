/- The scanner of labels.Parse: a value of plain bytes between quotes; a label. -/
import Derived.Test.YtchggapclmdpaaaGreatDoorUnq7
namespace Go.Proofs.YtchggapclmdpaaaGreatDoor
open Go.RowKit Go.Lib

set_option maxHeartbeats 2000000 in
set_option maxRecDepth 100000 in
theorem unquote2_plain (s : ByteArray) (t : List UInt8) (hs : s.data.toList = 34 :: (t ++ [34])) (hp : ∀ b ∈ t, plainB b) (hbig : t.length ≤ 1000000) (w : World) :
    Calls Tryz.prog 159 #[.string s] w fun e w' => e = .returned (.tuple #[.string ⟨t.toArray⟩, .int .u16 0, .int .i64 ((t.length : Int) + 2)]) ∧ Below w.heap.size w w' := by
  have hc := unquote_plain s t hs hp hbig w
  have HC := Lib.hid hc
  clear hc hs hp
  go_enter Tryz.func159, Tryz.ntmps159
  go_wp2_with fail
  refine HC.out.mono ?_
  rintro e w' ⟨rfl, hb⟩
  have HB := Lib.hid hb
  clear hb
  go_wp2
  exact bodyPost_ret (v := .tuple #[.string ⟨t.toArray⟩, .int .u16 0, .int .i64 ((t.length : Int) + 2)]) (by simp [results, Tryz.results159, go_sem]) rfl ⟨rfl, HB.out⟩
theorem Scan.drewN {w : World} {bk : Nat} {s : ByteArray} {k : Nat} (h : Scan w bk s k) (n : Nat) : Scan (w.drewN n) bk s k := h
theorem Scan.drew {w : World} {bk : Nat} {s : ByteArray} {k : Nat} (h : Scan w bk s k) : Scan w.drew bk s k := h
theorem Scan.cs {w : World} {bk : Nat} {s : ByteArray} {k : Nat} (h : Scan w bk s k) : w.cell? ⟨bk, 0, none⟩ = some (.string s) ∧ w.cell? ⟨bk, 1, none⟩ = some (.int .i64 k) := ⟨h.c0, h.c1⟩
set_option maxHeartbeats 2000000 in
set_option maxRecDepth 100000 in
/-- At k0 stands a quote, then plain bytes t, then a quote. -/
theorem svalue_plain (bk : Nat) (s : ByteArray) (k0 : Nat) (t r : List UInt8) (w : World) (hS : Scan w bk s k0) (hd : s.data.toList.drop k0 = 34 :: (t ++ 34 :: r)) (hp : ∀ b ∈ t, plainB b) (hbig : s.size ≤ 1000000) :
    Calls Tryz.prog 138 #[.pointer (some ⟨bk, 0, none⟩)] w fun e w' => e = .returned (.tuple #[.string ⟨t.toArray⟩, .bool true]) ∧ Scan w' bk s (k0 + t.length + 2) ∧ GrownIn (fun b => b = bk) w w' := by
  have hsz : s.size = s.data.toList.length := (Array.length_toList).symm
  have hlen : k0 + t.length + 2 ≤ s.size := by
    have := congrArg List.length hd
    simp at this
    omega
  have hat : ∀ k b (hk : k < s.size), (34 :: (t ++ 34 :: r))[k - k0]? = some b → k0 ≤ k → s[k]'hk = b := by
    intro k b hk h h0
    rw [← hd, List.getElem?_drop, show k0 + (k - k0) = k by omega] at h
    obtain ⟨h2, h3⟩ := List.getElem?_eq_some_iff.1 h
    exact h3
  have hl0 : k0 < s.size := by omega
  have h34 : s[k0]'hl0 = 34 := hat k0 34 hl0 (by simp) (Nat.le_refl _)
  have hun := fun w' => unquote2_plain (s.extract k0 (k0 + t.length + 2)) t (by
    rw [extract_data, List.drop_take, hd, show k0 + t.length + 2 - k0 = (34 :: (t ++ [34])).length by simp; omega]
    rw [show 34 :: (t ++ 34 :: r) = (34 :: (t ++ [34])) ++ r by simp]
    exact List.take_left) hp (by omega) w'
  have c0 := hS.c0
  have c1 := hS.c1
  have f1 := hS.f1
  have i0 : (0 : Int) ≤ (k0 : Int) := by omega
  have i1 : (k0 : Int) < (s.size : Int) := by omega
  have i2 : ((k0 : Int) == (s.size : Int)) = false := by rw [beq_eq_false_iff_ne]; omega
  have HS := Lib.hid (show _ ∧ _ ∧ _ ∧ _ from ⟨hS, hlen, hat, hun⟩)
  have HP := Lib.hid (show _ ∧ _ from ⟨hp, hd⟩)
  clear hS hlen hat hun hp hd hsz
  go_enter Tryz.func138, Tryz.ntmps138
  go_wp2_with (go_quiet (fail))
  clear c0 c1 f1
  go_loopw [] (fun wr => ∃ j : Nat, j ≤ t.length ∧ Hid (Scan wr bk s (k0 + 1 + j) ∧ GrownIn (fun b => b = bk) w wr)) (fun wr => s.size - atOf wr bk)
  case atStart =>
    exact ⟨0, Nat.zero_le _, Lib.hid ⟨(show Scan (w.drewN _) bk s k0 from HS.out.1).next, grownIn_set (S := fun b => b = bk) ((GrownIn.refl (fun b => b = bk) w).drewN _) rfl _⟩⟩
  case round =>
    obtain ⟨j, hj, HR⟩ := hrel
    obtain ⟨q, hq⟩ : ∃ q, q = k0 + 1 + j := ⟨_, rfl⟩
    rw [← hq] at HR
    have hlt : q < s.size := by have := HS.out.2.1; omega
    obtain ⟨b, hb⟩ : ∃ b, (34 :: (t ++ 34 :: r))[q - k0]? = some b := ⟨_, List.getElem?_eq_getElem (by simp; omega)⟩
    have hsb : s[q]'hlt = b := HS.out.2.2.1 q b hlt hb (by omega)
    have HB := Lib.hid hb
    have HQ := Lib.hid hq
    have c0 := HR.out.1.c0
    have c1 := HR.out.1.c1
    have f1 := HR.out.1.f1
    have i3 : (0 : Int) ≤ (q : Int) := by omega
    have i4 : (q : Int) < (s.size : Int) := by omega
    clear hb hq
    by_cases hjt : j < t.length
    · have htj : t[j]? = some b := by
        have := HB.out
        rw [show q - k0 = j + 1 by have := HQ.out; omega, List.getElem?_cons_succ, List.getElem?_append_left hjt] at this
        exact this
      obtain ⟨p1, p2, p3⟩ := HP.out.1 b (List.mem_of_getElem? htj)
      have q1 : ((b.toNat : Int) == 34) = false := byte_ne p1
      have q2 : ((b.toNat : Int) == 92) = false := byte_ne p2
      clear htj p1 p2 p3
      go_wp2_with (go_quiet (fail))
      go_roundw
      case measure => rw [(show Scan (wr.drewN _) bk s q from HR.out.1).next.at, HR.out.1.at]; omega
      case rel => exact ⟨j + 1, hjt, Lib.hid ⟨by rw [show k0 + 1 + (j + 1) = q + 1 by have := HQ.out; omega]; exact (show Scan (wr.drewN _) bk s q from HR.out.1).next, grownIn_set (HR.out.2.drewN _) rfl _⟩⟩
    · have hjl : j = t.length := by omega
      have hb34 : b = 34 := by
        have := HB.out
        rw [show q - k0 = j + 1 by have := HQ.out; omega, List.getElem?_cons_succ, hjl, List.getElem?_append_right (Nat.le_refl _), Nat.sub_self] at this
        exact (Option.some.inj this).symm
      have q1 : ((b.toNat : Int) == 34) = true := by rw [hb34]; rfl
      have hun : ∀ w', Calls Tryz.prog 159 #[.string (s.extract k0 (q + 1))] w' fun e w'' => e = .returned (.tuple #[.string ⟨t.toArray⟩, .int .u16 0, .int .i64 ((t.length : Int) + 2)]) ∧ Below w'.heap.size w' w'' := by
        intro w'
        rw [show q + 1 = k0 + t.length + 2 by have := HQ.out; omega]
        exact HS.out.2.2.2 w'
      have i5 : ¬ (s.size : Int) ≤ (q : Int) := by omega
      have HUN := Lib.hid hun
      clear hun hb34
      go_wp2_with (go_quiet (fail))
      have i6 : (0 : Int) ≤ (q : Int) + 1 := by omega
      have i7 : (k0 : Int) ≤ (q : Int) + 1 := by have := HQ.out; omega
      have i8 : (q : Int) + 1 ≤ (s.size : Int) := by omega
      go_region_held3 (fun w' => w'.cell? ⟨bk, 0, none⟩ = some (.string s) ∧ w'.cell? ⟨bk, 1, none⟩ = some (.int .i64 ((q : Int) + 1))) (first | exact k6 | exact Scan.cs (Scan.drew (Scan.next (Scan.drewN HR.out.1 _))) | go_keep)
        (first | (go_at_call 159; refine (HUN.out _).mono ?_; rintro e w' ⟨rfl, hbw⟩; have k6 := cell_seen2 hbw (by assumption); have HB1 := Lib.hid (show Scan w' bk s (q + 1) ∧ GrownIn (fun b => b = bk) w w' from ⟨(((HR.out.1.drewN _).next).drew).below hbw, grownIn_below ((grownIn_set (HR.out.2.drewN _) (by exact rfl) _).drewN 1) hbw⟩); clear hbw))
      go_wp2
      exact bodyPost_ret (v := .tuple #[.string ⟨t.toArray⟩, .bool true]) (by simp [results, Tryz.results138, go_sem]) rfl ⟨rfl, by rw [show k0 + t.length + 2 = q + 1 by have := HQ.out; omega]; exact HB1.out.1, HB1.out.2⟩
end Go.Proofs.YtchggapclmdpaaaGreatDoor
