/- much: more than is looked at. -/
import Derived.Test.YtchggapclmdpaaaGreatDoorGa
namespace Go.Proofs.YtchggapclmdpaaaGreatDoor
open Go.RowKit Go.Lib

/-- What much counts. -/
def muchS (s : Int) : List Lb → Int
  | [] => s
  | x :: t => if s ≤ 20000 then muchS (wrap64 (s + wrap64 ((x.nm.size : Int) + (x.vl.size : Int)))) t else s
def muchB (l : List Lb) : Bool := decide ((20000 : Int) < muchS l.length l) || decide (300 < l.length)
theorem muchB_len {l : List Lb} (h : muchB l = false) : l.length ≤ 300 := by
  unfold muchB at h
  rw [Bool.or_eq_false_iff] at h
  have := of_decide_eq_false h.2
  omega
set_option maxHeartbeats 2000000 in
set_option maxRecDepth 100000 in
theorem much_any (A : Option Addr) (n c : Nat) (l : List Lb) (w : World) (hL : Lst Lb.cells 2 w w.heap.size A n l) (hbig : n ≤ 9223372036854775807) :
    Calls Tryz.prog 9 #[.slice A n c] w fun e w' => e = .returned (.bool (muchB l)) ∧ ∃ q, w' = w.drewN q := by
  obtain ⟨r, hr⟩ : ∃ r, muchB l = r := ⟨_, rfl⟩
  have hln := hL.1
  unfold muchB at hr
  rw [hln] at hr
  rw [show muchB l = r by unfold muchB; rw [hln]; exact hr]
  obtain ⟨S, hS⟩ : ∃ S, muchS n l = S := ⟨_, rfl⟩
  rw [hS] at hr
  have HL := Lib.hid (show _ ∧ _ ∧ _ from ⟨hL, hr, hS⟩)
  clear hL hr hS hln
  go_enter Tryz.func9, Tryz.ntmps9
  go_wp2
  go_loopw [3, 4] (fun nv iv wr => ∃ (k q : Nat) (s : Int), k ≤ n ∧ nv = .int .i64 s ∧ iv = .int .i64 k ∧ wr = w.drewN q ∧ Hid (muchS s (l.drop k) = S)) (fun _ iv _ => n - (intOf iv).toNat)
  case atStart => exact ⟨0, 0, _, Nat.zero_le _, rfl, rfl, rfl, Lib.hid HL.out.2.2⟩
  case round =>
    obtain ⟨k, q, s, hk, rfl, rfl, rfl, HE⟩ := hrel
    by_cases hlt : k < n
    · have i1 : (k : Int) < (n : Int) := by omega
      obtain ⟨b, off, x, rfl, hb, hx, hc⟩ := HL.out.1.at hlt
      obtain ⟨h1, e1⟩ := List.getElem?_eq_some_iff.1 hx
      have hdr : l.drop k = x :: l.drop (k + 1) := by rw [List.drop_eq_getElem_cons h1, e1]
      have hE := HE.out
      rw [hdr, muchS] at hE
      by_cases hs : s ≤ 20000
      · rw [if_pos hs] at hE
        have HX := Lib.hid hE
        have c0 := hc 0 _ rfl
        have c1 := hc 1 _ rfl
        simp only [Nat.add_zero] at c0
        have i0 : (0 : Int) ≤ (k : Int) := by omega
        clear hc hE hdr hx e1 HE
        go_wp2_with (go_quiet (fail))
        go_roundw
        case measure => simp [intOf]; omega
        case rel => exact ⟨k + 1, _, _, hlt, rfl, by simp, by first | rfl | exact World.drewN_drewN _ _ _, HX⟩
      · rw [if_neg hs] at hE
        have hs' : (20000 : Int) < s := by omega
        have hr : r = true := by rw [← HL.out.2.1, ← hE, decide_eq_true hs']; rfl
        clear hc hE hdr hx e1 HE
        go_wp2_with (go_quiet (fail))
        go_ret
        exact ⟨by first | rfl | (rw [hr]; rfl), _, by first | rfl | exact World.drewN_drewN _ _ _⟩
    · have i1 : ¬ (k : Int) < (n : Int) := by omega
      have hE := HE.out
      rw [List.drop_eq_nil_of_le (by have := HL.out.1.1; omega), muchS] at hE
      by_cases hs : (20000 : Int) < s
      · have hr : r = true := by rw [← HL.out.2.1, ← hE, decide_eq_true hs]; rfl
        clear hE HE
        go_wp2_with (go_quiet (fail))
        go_ret
        exact ⟨by first | rfl | (rw [hr]; rfl), _, by first | rfl | exact World.drewN_drewN _ _ _⟩
      · by_cases h3 : (300 : Int) < (n : Int)
        · have hr : r = true := by rw [← HL.out.2.1, decide_eq_true (show 300 < n by omega), Bool.or_true]
          clear hE HE
          go_wp2_with (go_quiet (fail))
          go_ret
          exact ⟨by first | rfl | (rw [hr]; rfl), _, by first | rfl | exact World.drewN_drewN _ _ _⟩
        · have hr : r = false := by rw [← HL.out.2.1, ← hE, decide_eq_false hs, decide_eq_false (show ¬ 300 < n by omega)]; rfl
          clear hE HE
          go_wp2_with (go_quiet (fail))
          go_ret
          exact ⟨by first | rfl | (rw [hr]; rfl), _, by first | rfl | exact World.drewN_drewN _ _ _⟩
end Go.Proofs.YtchggapclmdpaaaGreatDoor
