/- The document's into: a label at its place among rising names. -/
import Derived.Test.YtchggapclmdpaaaGreatDoorGq
import Derived.Laws.AppendOwnNone
import Derived.BigQuiet
import Derived.LoopN
namespace Go.Proofs.YtchggapclmdpaaaGreatDoor
open Go.RowKit Go.Lib

theorem intoL_le {x y : Lb} {t : List Lb} (h : ¬ nameC x y < 0) : intoL (y :: t) x = y :: intoL t x := by rw [intoL, if_neg h]
theorem intoL_gt {x y : Lb} {t : List Lb} (h : nameC x y < 0) : intoL (y :: t) x = x :: y :: t := by rw [intoL, if_pos h]
theorem intoL_length (x : Lb) (l : List Lb) : (intoL l x).length = l.length + 1 := by rw [(intoL_perm x l).length_eq]; rfl
theorem Lst.drop_ {α : Type} {enc : α → List Value} {size : Nat} {w : World} {B : Nat} {b off n : Nat} {l : List α} (h : Lst enc size w B (some ⟨b, off, none⟩) n l) {k : Nat} (hk : k ≤ n) : Lst enc size w B (some ⟨b, off + k * size, none⟩) (n - k) (l.drop k) :=
  ⟨by rw [List.length_drop, h.1], fun h0 => by
    obtain ⟨b', off', e, hb, hc⟩ := h.2 (by omega)
    cases e
    refine ⟨b, off + k * size, rfl, hb, fun j x hx i u hu => ?_⟩
    have := hc (k + j) x (by rw [← hx, List.getElem?_drop]) i u hu
    rw [show off + k * size + j * size + i = off + (k + j) * size + i by rw [Nat.add_mul]; omega]
    exact this⟩
theorem nameC_cases (x y : Lb) : (nameC x y < 0 ∧ Op.bytesLess y.nm.toList x.nm.toList = false ∧ (y.nm.toList == x.nm.toList) = false) ∨ (¬ nameC x y < 0 ∧ Op.bytesLess y.nm.toList x.nm.toList = true ∧ (y.nm.toList == x.nm.toList) = false) ∨
    (¬ nameC x y < 0 ∧ Op.bytesLess y.nm.toList x.nm.toList = false ∧ (y.nm.toList == x.nm.toList) = true) := by
  unfold nameC textC
  cases h1 : Op.bytesLess x.nm.toList y.nm.toList with
  | true =>
    have h2 : (y.nm.toList == x.nm.toList) = false := by rw [Bool.beq_comm]; exact less_ne h1
    have h3 : Op.bytesLess y.nm.toList x.nm.toList = false := by
      cases h : Op.bytesLess y.nm.toList x.nm.toList with
      | false => rfl
      | true =>
        rw [bytesLess_lex] at h h1
        have e1 := of_decide_eq_true h
        have e2 := of_decide_eq_true h1
        have e3 := lexC_swap byteC_cmp3 x.nm.toList y.nm.toList
        omega
    exact .inl ⟨by rw [if_pos rfl]; decide, h3, h2⟩
  | false =>
    cases h2 : Op.bytesLess y.nm.toList x.nm.toList with
    | true => exact .inr (.inl ⟨by simp, rfl, less_ne h2⟩)
    | false => exact .inr (.inr ⟨by simp, rfl, less_eq h2 h1⟩)
set_option maxHeartbeats 4000000 in
set_option maxRecDepth 100000 in
theorem refInto_any (A : Option Addr) (n c : Nat) (l : List Lb) (x : Lb) (w : World) (hL : Lst Lb.cells 2 w w.heap.size A n l) (hnil : A = none → n = 0 ∧ c = 0) (hnc : n ≤ c) (hc : c ≤ maxLen) (hbig : n ≤ 1000000) :
    Calls Tryz.prog 69 #[.slice A n c, .agg #[.string x.nm, .string x.vl]] w fun e w' => ∃ v, e = .returned v ∧ w'.ownsRow w.heap.size 94 2 v (n + 1) ((intoL l x).flatMap Lb.cells) ∧ Below w.heap.size w w' := by
  obtain ⟨i0, hi, hz0, hz1, hz2⟩ := info_parts Tryz.infoLabel
  have HI := Lib.hid (show _ ∧ _ ∧ _ ∧ _ from ⟨hi, hz0, hz1, hz2⟩)
  have HL := Lib.hid (show _ ∧ _ from ⟨hL, hnil⟩)
  clear hi hz0 hz1 hz2 hL hnil
  go_enter Tryz.func69, Tryz.ntmps69
  go_wp2
  have hb0 : Below w.heap.size w (w.alloc (.cells #[.string x.nm, .string x.vl] 94)) := (Below.refl _ _).alloc (Nat.le_refl _) _
  have hx0 : (w.alloc (.cells #[.string x.nm, .string x.vl] 94)).cell? ⟨w.heap.size, 0, none⟩ = some (.string x.nm) ∧ (w.alloc (.cells #[.string x.nm, .string x.vl] 94)).cell? ⟨w.heap.size, 1, none⟩ = some (.string x.vl) := ⟨by simp, by simp⟩
  have hs0 : (w.alloc (.cells #[.string x.nm, .string x.vl] 94)).heap.size = w.heap.size + 1 := by simp
  generalize w.alloc (.cells #[.string x.nm, .string x.vl] 94) = w0 at hb0 hx0 hs0 ⊢
  have HB := Lib.hid (show _ ∧ _ ∧ _ from ⟨hb0, hx0, hs0⟩)
  clear hb0 hx0 hs0
  go_loopw [5, 6] (fun v iv wr => ∃ k : Nat, k ≤ n ∧ iv = .int .i64 k ∧ Hid (wr.ownsRow (w.heap.size + 1) 94 2 v k ((l.take k).flatMap Lb.cells) ∧ Below (w.heap.size + 1) w0 wr ∧ intoL l x = l.take k ++ intoL (l.drop k) x)) (fun _ iv _ => n - (intOf iv).toNat)
  case atStart => exact ⟨0, Nat.zero_le _, rfl, Lib.hid ⟨World.ownsRow_nil _ _ _ _, Below.refl _ _, rfl⟩⟩
  case round =>
    obtain ⟨k, hk, rfl, HR⟩ := hrel
    have i0' : (0 : Int) ≤ (k : Int) := by omega
    have hsw := HR.out.2.1.size
    have hs0 := HB.out.2.2
    have hbw : Below w.heap.size w wr := HB.out.1.trans (HR.out.2.1.mono (by omega))
    have x0 := (HR.out.2.1.cell (p := ⟨w.heap.size, 0, none⟩) (Nat.lt_succ_self _)).trans HB.out.2.1.1
    have x1 := (HR.out.2.1.cell (p := ⟨w.heap.size, 1, none⟩) (Nat.lt_succ_self _)).trans HB.out.2.1.2
    have HW := Lib.hid hbw
    clear hbw
    by_cases hlt : k < n
    · have i1 : (k : Int) < (n : Int) := by omega
      obtain ⟨b, off, y, rfl, hb, hy, hcl⟩ := HL.out.1.at hlt
      have c0 := (HW.out.cell (p := ⟨b, off + k * 2 + 0, none⟩) hb).trans (hcl 0 _ rfl)
      have c1 := (HW.out.cell (p := ⟨b, off + k * 2 + 1, none⟩) hb).trans (hcl 1 _ rfl)
      simp only [Nat.add_zero] at c0
      obtain ⟨g1, g2⟩ := List.getElem?_eq_some_iff.1 hy
      have hdr : l.drop k = y :: l.drop (k + 1) := by rw [List.drop_eq_getElem_cons g1, g2]
      have htk : l.take (k + 1) = l.take k ++ [y] := by rw [List.take_succ_eq_append_getElem g1, g2]
      have HY := Lib.hid (show _ ∧ _ from ⟨hdr, htk⟩)
      clear hcl hy g2 hdr htk
      obtain ⟨hi, hz0, hz1, hz2⟩ := HI.out
      rcases nameC_cases x y with ⟨hn, p1, p2⟩ | ⟨hn, p1, p2⟩ | ⟨hn, p1, p2⟩
      · have hin : intoL l x = l.take k ++ [x] ++ l.drop k := by rw [HR.out.2.2, HY.out.1, intoL_gt hn]; simp
        have HN := Lib.hid hin
        have hc3 : (k : Int) ≤ (n : Int) ∧ (n : Int) ≤ (c : Int) := by omega
        clear hin hn
        go_wp2_with (first | go_quiet (fail) | (at_builtin; refine wpList_append_own _ rfl _ _ 22 rfl (w.heap.size + 1) 94 i0 _ 2 32 Tryz.underlying22 hi hz0 hz1 hz2 rfl (by omega) _ k ((l.take k).flatMap Lb.cells) rfl ((show (wr.drewN nq).ownsRow _ _ _ _ _ _ from HR.out.1).alloc _) ⟨wr.heap.size, 0, none⟩ 1 1 x.cells rfl rfl (cells_newL (wr.drewN nq) x.cells _) (by simp [Lb.cells, Value.oneCell']) (by unfold maxLen; omega) (by omega) (by simp; omega) ?_))
        intro v5 w5 ho5 hg5 _
        have hb5 : Below (w.heap.size + 1) w0 w5 := ((HR.out.2.1.trans (below_drewN (Below.refl _ _) nq)).alloc (by simp; omega) _).grown hg5 (by simp; omega) (fun j hj => (HR.out.1.lt j hj).1)
        have hbw5 : Below w.heap.size w w5 := HB.out.1.trans (hb5.mono (by omega))
        have hLd := ((HL.out.1.drop_ hk).below hbw5)
        have hs5 := hb5.size
        have H5 := Lib.hid (show _ ∧ _ ∧ _ from ⟨ho5, hbw5, hLd⟩)
        have hck : ¬ c = k := by omega
        clear ho5 hg5 hb5 hbw5 hLd
        go_wp2_with (first | go_quiet (fail) | (at_builtin; refine wpList_append_own _ rfl _ _ 22 rfl (w.heap.size + 1) 94 i0 _ 2 32 Tryz.underlying22 hi hz0 hz1 hz2 rfl (by omega) _ (k + 1) ((l.take k).flatMap Lb.cells ++ x.cells) rfl H5.out.1 ⟨b, off + k * 2, none⟩ (n - k) (c - k) ((l.drop k).flatMap Lb.cells) rfl (by rw [flatMap_length Lb.len, List.length_drop, HL.out.1.1]) (H5.out.2.2.flat Lb.len) (oneLabel _) (by unfold maxLen; omega) (by omega) (by omega) ?_; intro v6 w6 ho6 hg6 _; have H6 := Lib.hid (show w6.ownsRow (w.heap.size + 1) 94 2 v6 (n + 1) ((intoL l x).flatMap Lb.cells) ∧ Below w.heap.size w w6 from ⟨by (rw [HN.out, List.flatMap_append, List.flatMap_append, List.flatMap_singleton, show n + 1 = k + 1 + (n - k) by omega]; exact ho6), H5.out.2.1.grown hg6 H5.out.2.1.size (fun j hj => by have := (H5.out.1.lt j hj).1; omega)⟩); clear ho6 hg6))
        go_ret
        exact ⟨v6, rfl, owns_base H6.out.1 (Nat.le_succ _), H6.out.2⟩
      all_goals
        have hin : intoL l x = l.take (k + 1) ++ intoL (l.drop (k + 1)) x := by rw [HR.out.2.2, HY.out.1, intoL_le hn, HY.out.2]; simp
        have HN := Lib.hid hin
        clear hin hn
        go_wp2_with (first | go_quiet (fail) | (at_builtin; refine wpList_append_own _ rfl _ _ 22 rfl (w.heap.size + 1) 94 i0 _ 2 32 Tryz.underlying22 hi hz0 hz1 hz2 rfl (by omega) _ k ((l.take k).flatMap Lb.cells) rfl ((show (wr.drewN nq).ownsRow _ _ _ _ _ _ from HR.out.1).alloc _) ⟨wr.heap.size, 0, none⟩ 1 1 y.cells rfl rfl (cells_newL (wr.drewN nq) y.cells _) (by simp [Lb.cells, Value.oneCell']) (by unfold maxLen; omega) (by omega) (by simp; omega) ?_; intro v5 w5 ho5 hg5 _; have H5 := Lib.hid (show w5.ownsRow (w.heap.size + 1) 94 2 v5 (k + 1) ((l.take (k + 1)).flatMap Lb.cells) ∧ Below (w.heap.size + 1) w0 w5 from ⟨by (rw [HY.out.2, List.flatMap_append, List.flatMap_singleton]; exact ho5), (((HR.out.2.1.trans (below_drewN (Below.refl _ _) nq)).alloc (by simp; omega) _).grown hg5 (by simp; omega) (fun j hj => (HR.out.1.lt j hj).1))⟩); clear ho5 hg5))
        go_roundw
        case measure => simp [intOf]; omega
        case rel => exact ⟨k + 1, hlt, by simp, Lib.hid ⟨H5.out.1, H5.out.2, HN.out⟩⟩
    · obtain rfl : k = n := by omega
      have hin : intoL l x = l ++ [x] := by
        rw [HR.out.2.2, List.take_of_length_le (by have := HL.out.1.1; omega), List.drop_eq_nil_of_le (by have := HL.out.1.1; omega)]
        rfl
      have hR := HR.out.1
      rw [List.take_of_length_le (by have := HL.out.1.1; omega)] at hR
      have HN := Lib.hid (show _ ∧ _ from ⟨hin, hR⟩)
      have hc3 : (k : Int) ≤ (c : Int) := by omega
      clear hin hR
      obtain ⟨hi, hz0, hz1, hz2⟩ := HI.out
      cases A with
      | none =>
        obtain ⟨rfl, rfl⟩ := HL.out.2 rfl
        go_wp2_with (first
          | go_quiet (fail)
          | (at_builtin; refine wpList_append_own_none rfl _ _ 22 rfl (w.heap.size + 1) 94 i0 2 Tryz.underlying22 hi _ 1 (l.flatMap Lb.cells ++ x.cells) rfl H5.out.1 rfl ?_)
          | (at_builtin; refine wpList_append_own _ rfl _ _ 22 rfl (w.heap.size + 1) 94 i0 _ 2 32 Tryz.underlying22 hi hz0 hz1 hz2 rfl (by omega) _ 0 (l.flatMap Lb.cells) rfl ((show (wr.drewN nq).ownsRow _ _ _ _ _ _ from HN.out.2).alloc _) ⟨wr.heap.size, 0, none⟩ 1 1 x.cells rfl rfl (cells_newL (wr.drewN nq) x.cells _) (by simp [Lb.cells, Value.oneCell']) (by unfold maxLen; omega) (by omega) (by simp; omega) ?_; intro v5 w5 ho5 hg5 _; have H5 := Lib.hid (show _ ∧ Below w.heap.size w w5 from ⟨ho5, HB.out.1.trans ((((HR.out.2.1.trans (below_drewN (Below.refl _ _) nq)).alloc (by simp; omega) _).grown hg5 (by simp; omega) (fun j hj => (HR.out.1.lt j hj).1)).mono (by omega))⟩); clear ho5 hg5))
        go_ret
        exact ⟨_, rfl, owns_base (by rw [HN.out.1, List.flatMap_append, List.flatMap_singleton]; exact H5.out.1) (Nat.le_succ _), H5.out.2⟩
      | some ad =>
        by_cases hck : c = k
        · subst hck
          go_wp2_with (first
            | go_quiet (fail)
            | (at_builtin; refine wpList_append_own _ rfl _ _ 22 rfl (w.heap.size + 1) 94 i0 _ 2 32 Tryz.underlying22 hi hz0 hz1 hz2 rfl (by omega) _ (c + 1) (l.flatMap Lb.cells ++ x.cells) rfl H5.out.1 _ 0 _ [] rfl rfl (fun j u h => by simp at h) (fun u h => by simp at h) (by unfold maxLen; omega) (by omega) (by have := H5.out.2.1; omega) ?_; intro v6 w6 ho6 hg6 _; have H6 := Lib.hid (show w6.ownsRow (w.heap.size + 1) 94 2 v6 (c + 1) ((intoL l x).flatMap Lb.cells) ∧ Below w.heap.size w w6 from ⟨by (rw [HN.out.1, List.flatMap_append, List.flatMap_singleton]; simpa using ho6), H5.out.2.2.grown hg6 H5.out.2.2.size (fun j hj => by have := (H5.out.1.lt j hj).1; omega)⟩); clear ho6 hg6)
            | (at_builtin; refine wpList_append_own _ rfl _ _ 22 rfl (w.heap.size + 1) 94 i0 _ 2 32 Tryz.underlying22 hi hz0 hz1 hz2 rfl (by omega) _ c (l.flatMap Lb.cells) rfl ((show (wr.drewN nq).ownsRow _ _ _ _ _ _ from HN.out.2).alloc _) ⟨wr.heap.size, 0, none⟩ 1 1 x.cells rfl rfl (cells_newL (wr.drewN nq) x.cells _) (by simp [Lb.cells, Value.oneCell']) (by unfold maxLen; omega) (by omega) (by simp; omega) ?_; intro v5 w5 ho5 hg5 _; have H5 := Lib.hid (show _ ∧ w.heap.size + 1 ≤ w5.heap.size ∧ Below w.heap.size w w5 from ⟨ho5, by (have := hg5.size; simp at this; omega), HB.out.1.trans ((((HR.out.2.1.trans (below_drewN (Below.refl _ _) nq)).alloc (by simp; omega) _).grown hg5 (by simp; omega) (fun j hj => (HR.out.1.lt j hj).1)).mono (by omega))⟩); clear ho5 hg5))
          go_ret
          exact ⟨v6, rfl, owns_base H6.out.1 (Nat.le_succ _), H6.out.2⟩
        · go_wp2_with (first
            | go_quiet (fail)
            | (at_builtin; refine wpList_append_own _ rfl _ _ 22 rfl (w.heap.size + 1) 94 i0 _ 2 32 Tryz.underlying22 hi hz0 hz1 hz2 rfl (by omega) _ (k + 1) (l.flatMap Lb.cells ++ x.cells) rfl H5.out.1 _ 0 _ [] rfl rfl (fun j u h => by simp at h) (fun u h => by simp at h) (by unfold maxLen; omega) (by omega) (by have := H5.out.2.1; omega) ?_; intro v6 w6 ho6 hg6 _; have H6 := Lib.hid (show w6.ownsRow (w.heap.size + 1) 94 2 v6 (k + 1) ((intoL l x).flatMap Lb.cells) ∧ Below w.heap.size w w6 from ⟨by (rw [HN.out.1, List.flatMap_append, List.flatMap_singleton]; simpa using ho6), H5.out.2.2.grown hg6 H5.out.2.2.size (fun j hj => by have := (H5.out.1.lt j hj).1; omega)⟩); clear ho6 hg6)
            | (at_builtin; refine wpList_append_own _ rfl _ _ 22 rfl (w.heap.size + 1) 94 i0 _ 2 32 Tryz.underlying22 hi hz0 hz1 hz2 rfl (by omega) _ k (l.flatMap Lb.cells) rfl ((show (wr.drewN nq).ownsRow _ _ _ _ _ _ from HN.out.2).alloc _) ⟨wr.heap.size, 0, none⟩ 1 1 x.cells rfl rfl (cells_newL (wr.drewN nq) x.cells _) (by simp [Lb.cells, Value.oneCell']) (by unfold maxLen; omega) (by omega) (by simp; omega) ?_; intro v5 w5 ho5 hg5 _; have H5 := Lib.hid (show _ ∧ w.heap.size + 1 ≤ w5.heap.size ∧ Below w.heap.size w w5 from ⟨ho5, by (have := hg5.size; simp at this; omega), HB.out.1.trans ((((HR.out.2.1.trans (below_drewN (Below.refl _ _) nq)).alloc (by simp; omega) _).grown hg5 (by simp; omega) (fun j hj => (HR.out.1.lt j hj).1)).mono (by omega))⟩); clear ho5 hg5))
          go_ret
          exact ⟨v6, rfl, owns_base H6.out.1 (Nat.le_succ _), H6.out.2⟩
end Go.Proofs.YtchggapclmdpaaaGreatDoor
