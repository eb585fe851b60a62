/- LabelsTexts' walk: Name and Parse say of any text what the chapter says; Print says any labels so. -/
import Derived.Test.YtchggapclmdpaaaGreatDoorGt
import Derived.Test.YtchggapclmdpaaaGreatDoorGu
import Derived.Test.YtchggapclmdpaaaGreatDoorKnown7
import Derived.Test.YtchggapclmdpaaaGreatDoorMuch7
import Derived.Test.YtchggapclmdpaaaGreatDoorSets7
import Derived.IntWalk
namespace Go.Proofs.YtchggapclmdpaaaGreatDoor
open Go.RowKit Go.Lib

theorem much_step {s a b : Int} (h0 : 0 ≤ s) (h1 : s ≤ 20000) (ha : 0 ≤ a) (hb : 0 ≤ b) (ha' : a ≤ 140737488351232) (hb' : b ≤ 140737488351232) : wrap64 (s + wrap64 (a + b)) = s + (a + b) := by
  rw [IntWalk.wrap64_in (a + b) (by omega), IntWalk.wrap64_in _ (by omega)]
theorem muchS_ge : ∀ (l : List Lb) (s : Int), 0 ≤ s → (∀ x ∈ l, x.nm.size ≤ 140737488351232 ∧ x.vl.size ≤ 140737488351232) → s ≤ muchS s l
  | [], s, _, _ => by rw [muchS]; omega
  | x :: t, s, h0, h => by
    have hx := h x (by simp)
    rw [muchS]
    split
    · rename_i h1
      rw [much_step h0 h1 (by omega) (by omega) (by omega) (by omega)]
      exact Int.le_trans (by omega) (muchS_ge t _ (by omega) (fun y hy => h y (List.mem_cons_of_mem _ hy)))
    · omega
theorem muchS_sizes : ∀ (l : List Lb) (s : Int), 0 ≤ s → (∀ x ∈ l, x.nm.size ≤ 140737488351232 ∧ x.vl.size ≤ 140737488351232) → muchS s l ≤ 20000 → ∀ x ∈ l, x.nm.size + x.vl.size ≤ 20000
  | [], s, _, _, _ => by simp
  | x :: t, s, h0, h, hm => by
    have hx := h x (by simp)
    have ht := fun y hy => h y (List.mem_cons_of_mem x hy)
    rw [muchS] at hm
    split at hm
    · rename_i h1
      rw [much_step h0 h1 (by omega) (by omega) (by omega) (by omega)] at hm
      have h2 := muchS_ge t (s + ((x.nm.size : Int) + (x.vl.size : Int))) (by omega) ht
      intro y hy
      rcases List.mem_cons.1 hy with rfl | hy
      · omega
      · exact muchS_sizes t _ (by omega) ht hm y hy
    · omega
theorem muchB_sizes {l : List Lb} (h : muchB l = false) (hsz : ∀ x ∈ l, x.nm.size ≤ 140737488351232 ∧ x.vl.size ≤ 140737488351232) : ∀ x ∈ l, x.nm.size + x.vl.size ≤ 20000 := by
  unfold muchB at h
  rw [Bool.or_eq_false_iff] at h
  have := of_decide_eq_false h.1
  exact muchS_sizes l (l.length : Int) (by omega) hsz (by omega)
theorem parR_len (l : List UInt8) : (parR l).1.length ≤ l.length + 1 := by
  unfold parR
  split
  · simp
  · rename_i x k hx
    have h1 := lsTop_len hx
    split
    · have h2 := setL_length x
      have h3 := List.length_filter_le fullV x
      show (setL x).length ≤ _
      omega
    · simp
set_option maxHeartbeats 8000000 in
set_option maxRecDepth 100000 in
theorem texts_few (K : Nat) (a b : Addr) (s : ByteArray) (A : Option Addr) (n c : Nat) (l : List Lb) (w : World) (hE : LaidE K a b w) (hL : Lst Lb.cells 2 w w.heap.size A n l) (hl : muchB l = false) (hs : s.size ≤ 20000) (hsz : ∀ x ∈ l, x.nm.size + x.vl.size ≤ 20000) :
    Calls Tryz.prog 3 #[.string s, .slice A n c] w fun e w' => e = .returned (.bool true) ∧ Below w.heap.size w w' := by
  have hn : n ≤ 300 := by rw [← hL.1]; exact muchB_len hl
  have q0 : ¬ (20000 : Int) < (s.size : Int) := by omega
  have hrl := parR_len s.data.toList
  rw [show s.data.toList.length = s.size from Array.length_toList] at hrl
  have HL := Lib.hid (show _ ∧ _ ∧ _ from ⟨hL, hE, hsz⟩)
  have HB := Lib.hid hl
  clear hL hl hE hsz
  obtain ⟨R, hR⟩ : ∃ R, parR s.data.toList = R := ⟨_, rfl⟩
  rw [hR] at hrl
  obtain ⟨rl, re, rp⟩ := R
  simp only at hrl
  have HR := Lib.hid hR
  clear hR
  go_enter Tryz.func3, Tryz.ntmps3
  go_wp2_with fail
  refine (much_any A n c l w HL.out.1 (by omega)).mono ?_
  rw [HB.out]
  rintro e w0 ⟨rfl, q1', hq1⟩
  have B0 : Hid (Below w.heap.size w w0) := Lib.hid (hq1 ▸ below_drewN (Below.refl _ _) q1')
  clear hq1
  go_wp2_with fail
  refine (parse_any K a b s w0 (HL.out.2.1.below B0.out HL.out.2.1.size) (by omega)).mono ?_
  rw [HR.out]
  rintro e w1 ⟨v1, rfl, ho1, hb1⟩
  have H1 := Lib.hid (show w1.ownsRow w.heap.size 94 2 v1 rl.length (rl.flatMap Lb.cells) ∧ Below w.heap.size w w1 from ⟨owns_base ho1 B0.out.size, B0.out.trans (hb1.mono B0.out.size)⟩)
  clear ho1 hb1
  go_wp2_with fail
  refine (rparse_any s w1 (by omega)).mono ?_
  rw [HR.out]
  rintro e w2 ⟨v2, rfl, ho2, hb2⟩
  have H2 := Lib.hid (show w2.ownsRow w.heap.size 94 2 v1 rl.length (rl.flatMap Lb.cells) ∧ w2.ownsRow w.heap.size 94 2 v2 rl.length (rl.flatMap Lb.cells) ∧ Below w.heap.size w w2 from ⟨owns_below H1.out.1 hb2, owns_base ho2 H1.out.2.size, H1.out.2.trans (hb2.mono H1.out.2.size)⟩)
  clear ho2 hb2
  go_wp2_with fail
  refine (known7 _).mono ?_
  rintro e w3 ⟨rfl, hb3⟩
  have H3 := Lib.hid (show w3.ownsRow w.heap.size 94 2 v1 rl.length (rl.flatMap Lb.cells) ∧ w3.ownsRow w.heap.size 94 2 v2 rl.length (rl.flatMap Lb.cells) ∧ Below w.heap.size w w3 from ⟨owns_below H2.out.1 hb3, owns_below H2.out.2.1 hb3, H2.out.2.2.trans (hb3.mono H2.out.2.2.size)⟩)
  clear hb3
  obtain ⟨nb, hnb⟩ : ∃ nb, nameB s.data.toList = nb := ⟨_, rfl⟩
  have HN := Lib.hid hnb
  clear hnb
  go_wp2_with fail
  refine (name_any s _).mono ?_
  rw [HN.out]
  rintro e w4 ⟨rfl, hb4⟩
  have H4 := Lib.hid (show w4.ownsRow w.heap.size 94 2 v1 rl.length (rl.flatMap Lb.cells) ∧ w4.ownsRow w.heap.size 94 2 v2 rl.length (rl.flatMap Lb.cells) ∧ Below w.heap.size w w4 from ⟨owns_below H3.out.1 hb4, owns_below H3.out.2.1 hb4, H3.out.2.2.trans (hb4.mono H3.out.2.2.size)⟩)
  clear hb4
  go_wp2_with fail
  refine (refName_any s _).mono ?_
  rw [HN.out]
  rintro e w5 ⟨rfl, hw5⟩
  obtain rfl := hw5.symm
  go_wp2_with fail
  refine (sameL_own H4.out.1 H4.out.2.1 (by omega)).mono ?_
  rintro e w6 ⟨rfl, hb6⟩
  have H6 := Lib.hid (H4.out.2.2.trans (hb6.mono H4.out.2.2.size))
  clear hb6
  go_wp2_with fail
  refine (print_any A n c l w6 (HL.out.1.on H6.out) (by omega) (fun x hx => by have := HL.out.2.2 x hx; omega)).mono ?_
  rintro e w7 ⟨rfl, hb7⟩
  have H7 := Lib.hid (H6.out.trans (hb7.mono H6.out.size))
  clear hb7
  go_wp2_with fail
  refine (rprint_any A n c l w7 (HL.out.1.on H7.out) (by omega) (fun x hx => by have := HL.out.2.2 x hx; omega)).mono ?_
  rintro e w8 ⟨rfl, hb8⟩
  have H8 := Lib.hid (H7.out.trans (hb8.mono H7.out.size))
  clear hb8
  go_wp2
  go_ret
  exact ⟨rfl, H8.out⟩
set_option maxHeartbeats 2000000 in
set_option maxRecDepth 100000 in
theorem texts_any (K : Nat) (a b : Addr) (s : ByteArray) (A : Option Addr) (n c : Nat) (l : List Lb) (w : World) (hE : LaidE K a b w) (hs : s.size ≤ maxLen) (hL : Lst Lb.cells 2 w w.heap.size A n l) (hn : n ≤ 9223372036854775807) (hsz : ∀ x ∈ l, x.nm.size ≤ 140737488351232 ∧ x.vl.size ≤ 140737488351232) :
    Calls Tryz.prog 3 #[.string s, .slice A n c] w fun e w' => e = .returned (.bool true) ∧ Below w.heap.size w w' := by
  unfold maxLen at hs
  by_cases hb : 20000 < s.size
  · have q0 : (20000 : Int) < (s.size : Int) := by omega
    clear hL hE hsz
    go_enter Tryz.func3, Tryz.ntmps3
    go_wp2
    go_ret
    exact ⟨rfl, Below.refl _ _⟩
  · have hm := much_any A n c l w hL hn
    cases hl : muchB l with
    | true =>
      rw [hl] at hm
      have HM := Lib.hid hm
      have q0 : ¬ (20000 : Int) < (s.size : Int) := by omega
      clear hm hL hl hE hsz
      go_enter Tryz.func3, Tryz.ntmps3
      go_wp2_with (go_at_call 9; refine HM.out.mono ?_; rintro e w1 ⟨rfl, q, hq⟩; have B1 : Hid (Below w.heap.size w w1) := Lib.hid (hq ▸ below_drewN (Below.refl _ _) q); clear hq)
      go_ret
      exact ⟨rfl, B1.out⟩
    | false => exact texts_few K a b s A n c l w hE hL hl (by omega) (muchB_sizes hl hsz)
end Go.Proofs.YtchggapclmdpaaaGreatDoor
