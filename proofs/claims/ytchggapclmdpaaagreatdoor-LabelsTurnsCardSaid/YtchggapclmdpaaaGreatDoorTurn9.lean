/- The document's With. -/
import Derived.Test.YtchggapclmdpaaaGreatDoorTurn8
namespace Go.Proofs.YtchggapclmdpaaaGreatDoor
open Go.RowKit Go.Lib

set_option maxHeartbeats 4000000 in
set_option maxRecDepth 100000 in
theorem refWith_any (A : Option Addr) (n c : Nat) (l : List Lb) (nm vl : ByteArray) (w : World) (hL : Lst Lb.cells 2 w w.heap.size A n l) (hn : n ≤ 100000) :
    Calls Tryz.prog 44 #[.slice A n c, .string nm, .string vl] w (OwnedL (withL l nm vl) w) := by
  obtain ⟨i0, hi, hz0, hz1, hz2⟩ := info_parts Tryz.infoLabel
  have HI := Lib.hid (show _ ∧ _ ∧ _ ∧ _ from ⟨hi, hz0, hz1, hz2⟩)
  have HL := Lib.hid hL
  clear hi hz0 hz1 hz2 hL
  go_enter Tryz.func44, Tryz.ntmps44
  go_wp2_with fail
  have hb2 : Below w.heap.size w (w.alloc (.cells #[.string nm] 9)) := (Below.refl _ _).alloc (Nat.le_refl _) _
  have hn2 : Lst encTx 1 (w.alloc (.cells #[.string nm] 9)) (w.alloc (.cells #[.string nm] 9)).heap.size (some ⟨w.heap.size, 0, none⟩) 1 [nm] :=
    lst_block (heap_alloc_new w (.cells #[.string nm] 9)) rfl rfl encTx_len
  change Calls _ _ _ (w.alloc (.cells #[.string nm] 9)) _
  generalize w.alloc (.cells #[.string nm] 9) = w2 at hb2 hn2 ⊢
  refine (refWithout_any A (some ⟨w.heap.size, 0, none⟩) n c 1 1 l [nm] w2 (HL.out.on hb2) hn2 (by omega) (by omega)).mono ?_
  rintro e w3 ⟨v3, rfl, ho3, hb3⟩
  have hs3 := hb3.size
  have hs2 := hb2.size
  have hll := lessL_len l [nm]
  obtain ⟨R, hR⟩ : ∃ R, lessL l [nm] = R := ⟨_, rfl⟩
  have hwR : withL l nm vl = if (vl.toList == []) = true then R else intoL R ⟨nm, vl⟩ := by unfold withL; rw [hR]
  rw [hR] at ho3 hll
  obtain ⟨m, hm⟩ : ∃ m, R.length = m := ⟨_, rfl⟩
  rw [hm] at ho3 hll
  have hmn : m ≤ 100000 := by have := HL.out.1; omega
  have hbw : Below w.heap.size w w3 := hb2.trans (hb3.mono hb2.size)
  obtain ⟨A3, c3, rfl, hL3, hnil3, hnc, hc⟩ := own_arg ho3 hm
  have HN0 := Lib.hid (show _ ∧ _ from ⟨hnil3, hm⟩)
  have H3 := Lib.hid (show _ ∧ _ ∧ _ from ⟨owns_base ho3 hb2.size, hbw, hL3⟩)
  have hc' : c3 ≤ 9223372036854775807 := hc
  have HW := Lib.hid hwR
  clear ho3 hb3 hb2 hn2 hbw hL3 hwR hnil3 hm hc hR
  cases he : (vl.toList == []) with
  | true =>
    go_wp2
    go_ret
    refine ⟨_, rfl, ?_, H3.out.2.1⟩
    rw [HW.out, he, if_pos rfl, HN0.out.2]
    exact H3.out.1
  | false =>
    obtain ⟨x, hx⟩ : ∃ x : Lb, x = ⟨nm, vl⟩ := ⟨_, rfl⟩
    have hwI : withL l nm vl = intoL R x := by rw [HW.out, he, if_neg (by decide), hx]
    have hxc : x.cells = [Value.string nm, Value.string vl] := by rw [hx]; rfl
    have hxn : x.nm = nm := by rw [hx]
    have hlen := intoL_length x R
    have HX := Lib.hid (show _ ∧ _ ∧ _ ∧ _ from ⟨hwI, hxc, hxn, hlen⟩)
    clear hwI hxc hxn hlen hx HW
    go_wp2
    go_loopw [8, 9] (fun v iv wr => ∃ k : Nat, k ≤ m ∧ iv = .int .i64 k ∧ Hid (wr.ownsRow w3.heap.size 94 2 v k ((R.take k).flatMap Lb.cells) ∧ Below w3.heap.size w3 wr ∧ intoL R x = R.take k ++ intoL (R.drop k) x)) (fun _ iv _ => m - (intOf iv).toNat)
    case atStart => exact ⟨0, Nat.zero_le _, rfl, Lib.hid ⟨World.ownsRow_nil _ _ _ _, Below.refl _ _, rfl⟩⟩
    case round =>
      obtain ⟨k, hk, rfl, HR⟩ := hrel
      have i0' : (0 : Int) ≤ (k : Int) := by omega
      have hsw := HR.out.2.1.size
      have hbw : Below w.heap.size w wr := H3.out.2.1.trans (HR.out.2.1.mono (by omega))
      have HB := Lib.hid hbw
      clear hbw
      by_cases hlt : k < m
      · have i1 : (k : Int) < (m : Int) := by omega
        obtain ⟨b, off, y, rfl, hb, hy, hcl⟩ := H3.out.2.2.at hlt
        have c0 := (HR.out.2.1.cell (p := ⟨b, off + k * 2 + 0, none⟩) hb).trans (hcl 0 _ rfl)
        have c1 := (HR.out.2.1.cell (p := ⟨b, off + k * 2 + 1, none⟩) hb).trans (hcl 1 _ rfl)
        simp only [Nat.add_zero] at c0
        obtain ⟨g1, g2⟩ := List.getElem?_eq_some_iff.1 hy
        have hdr : R.drop k = y :: R.drop (k + 1) := by rw [List.drop_eq_getElem_cons g1, g2]
        have htk : R.take (k + 1) = R.take k ++ [y] := by rw [List.take_succ_eq_append_getElem g1, g2]
        have HY := Lib.hid (show _ ∧ _ from ⟨hdr, htk⟩)
        clear hcl hy g2 hdr htk
        obtain ⟨hi, hz0, hz1, hz2⟩ := HI.out
        rcases nameC_cases x y with ⟨hn, p1, p2⟩ | ⟨hn, p1, p2⟩ | ⟨hn, p1, p2⟩
        · rw [HX.out.2.2.1] at p1 p2
          have hin : intoL R x = R.take k ++ [x] ++ R.drop k := by rw [HR.out.2.2, HY.out.1, intoL_gt hn]; simp
          have HN := Lib.hid hin
          have hc3 : (k : Int) ≤ (m : Int) ∧ (m : Int) ≤ (c3 : Int) := by omega
          clear hin hn
          go_wp2_with (first | go_quiet (fail) | (at_builtin; refine wpList_append_own _ rfl _ _ 22 rfl w3.heap.size 94 i0 _ 2 32 Tryz.underlying22 hi hz0 hz1 hz2 rfl (by omega) _ k ((R.take k).flatMap Lb.cells) rfl (HR.out.1.alloc _) ⟨wr.heap.size, 0, none⟩ 1 1 [Value.string nm, Value.string vl] rfl rfl (cells_newL wr [Value.string nm, Value.string vl] _) (by simp [Value.oneCell']) (by unfold maxLen; omega) (by omega) (by simp; omega) ?_))
          intro v5 w5 ho5 hg5 _
          have hb5 : Below w3.heap.size w3 w5 := (HR.out.2.1.alloc hsw _).grown hg5 (by simp; omega) (fun j hj => (HR.out.1.lt j hj).1)
          have hbw5 : Below w.heap.size w w5 := H3.out.2.1.trans (hb5.mono (by omega))
          have hLd := ((H3.out.2.2.drop_ hk).below hb5)
          have hs5 := hb5.size
          have H5 := Lib.hid (show _ ∧ _ ∧ _ from ⟨ho5, hbw5, hLd⟩)
          have hck : ¬ c3 = k := by omega
          clear ho5 hg5 hb5 hbw5 hLd
          go_wp2_with (first | go_quiet (fail) | (at_builtin; refine wpList_append_own _ rfl _ _ 22 rfl w3.heap.size 94 i0 _ 2 32 Tryz.underlying22 hi hz0 hz1 hz2 rfl (by omega) _ (k + 1) ((R.take k).flatMap Lb.cells ++ [Value.string nm, Value.string vl]) rfl H5.out.1 ⟨b, off + k * 2, none⟩ (m - k) (c3 - k) ((R.drop k).flatMap Lb.cells) rfl (by rw [flatMap_length Lb.len, List.length_drop, H3.out.2.2.1]) (H5.out.2.2.flat Lb.len) (oneLabel _) (by unfold maxLen; omega) (by omega) (by omega) ?_; intro v6 w6 ho6 hg6 _; have H6 := Lib.hid (show w6.ownsRow w3.heap.size 94 2 v6 (m + 1) ((intoL R x).flatMap Lb.cells) ∧ Below w.heap.size w w6 from ⟨by (rw [HN.out, List.flatMap_append, List.flatMap_append, List.flatMap_singleton, HX.out.2.1, show m + 1 = k + 1 + (m - k) by omega]; exact ho6), H5.out.2.1.grown hg6 H5.out.2.1.size (fun j hj => by have := (H5.out.1.lt j hj).1; omega)⟩); clear ho6 hg6))
          go_ret
          exact ⟨v6, rfl, by rw [HX.out.1, HX.out.2.2.2, HN0.out.2]; exact owns_base H6.out.1 (by omega), H6.out.2⟩
        all_goals
          rw [HX.out.2.2.1] at p1 p2
          have hin : intoL R x = R.take (k + 1) ++ intoL (R.drop (k + 1)) x := by rw [HR.out.2.2, HY.out.1, intoL_le hn, HY.out.2]; simp
          have HN := Lib.hid hin
          clear hin hn
          go_wp2_with (first | go_quiet (fail) | (at_builtin; refine wpList_append_own _ rfl _ _ 22 rfl w3.heap.size 94 i0 _ 2 32 Tryz.underlying22 hi hz0 hz1 hz2 rfl (by omega) _ k ((R.take k).flatMap Lb.cells) rfl (HR.out.1.alloc _) ⟨wr.heap.size, 0, none⟩ 1 1 y.cells rfl rfl (cells_newL wr y.cells _) (by simp [Lb.cells, Value.oneCell']) (by unfold maxLen; omega) (by omega) (by simp; omega) ?_; intro v5 w5 ho5 hg5 _; have H5 := Lib.hid (show w5.ownsRow w3.heap.size 94 2 v5 (k + 1) ((R.take (k + 1)).flatMap Lb.cells) ∧ Below w3.heap.size w3 w5 from ⟨by (rw [HY.out.2, List.flatMap_append, List.flatMap_singleton]; exact ho5), ((HR.out.2.1.alloc hsw _).grown hg5 (by simp; omega) (fun j hj => (HR.out.1.lt j hj).1))⟩); clear ho5 hg5))
          go_roundw
          case measure => simp [intOf]; omega
          case rel => exact ⟨k + 1, hlt, by simp, Lib.hid ⟨H5.out.1, H5.out.2, HN.out⟩⟩
      · obtain rfl : k = m := by omega
        have hin : intoL R x = R ++ [x] := by
          rw [HR.out.2.2, List.take_of_length_le (by have := HN0.out.2; omega), List.drop_eq_nil_of_le (by have := HN0.out.2; omega)]
          rfl
        have hR := HR.out.1
        rw [List.take_of_length_le (by have := HN0.out.2; omega)] at hR
        have HN := Lib.hid (show _ ∧ _ from ⟨hin, hR⟩)
        have hc3 : (k : Int) ≤ (c3 : Int) := by omega
        clear hin hR
        obtain ⟨hi, hz0, hz1, hz2⟩ := HI.out
        have hend : ∀ (v : Value) (W : World), W.ownsRow w3.heap.size 94 2 v (k + 1) (R.flatMap Lb.cells ++ [Value.string nm, Value.string vl]) → W.ownsRow w.heap.size 94 2 v (withL l nm vl).length ((withL l nm vl).flatMap Lb.cells) := fun v W h => by
          rw [HX.out.1, HX.out.2.2.2, HN0.out.2, HN.out.1, List.flatMap_append, List.flatMap_singleton, HX.out.2.1]
          exact owns_base h (by omega)
        have HE := Lib.hid hend
        clear hend
        cases A3 with
        | none =>
          obtain ⟨rfl, rfl⟩ := HN0.out.1 rfl
          go_wp2_with (first
            | go_quiet (fail)
            | (at_builtin; refine wpList_append_own_none rfl _ _ 22 rfl w3.heap.size 94 i0 2 Tryz.underlying22 hi _ 1 (R.flatMap Lb.cells ++ [Value.string nm, Value.string vl]) rfl H5.out.1 rfl ?_)
            | (at_builtin; refine wpList_append_own _ rfl _ _ 22 rfl w3.heap.size 94 i0 _ 2 32 Tryz.underlying22 hi hz0 hz1 hz2 rfl (by omega) _ 0 (R.flatMap Lb.cells) rfl (HN.out.2.alloc _) ⟨wr.heap.size, 0, none⟩ 1 1 [Value.string nm, Value.string vl] rfl rfl (cells_newL wr [Value.string nm, Value.string vl] _) (by simp [Value.oneCell']) (by unfold maxLen; omega) (by omega) (by simp; omega) ?_; intro v5 w5 ho5 hg5 _; have H5 := Lib.hid (show _ ∧ Below w.heap.size w w5 from ⟨ho5, H3.out.2.1.trans (((HR.out.2.1.alloc hsw _).grown hg5 (by simp; omega) (fun j hj => (HR.out.1.lt j hj).1)).mono (by omega))⟩); clear ho5 hg5))
          go_ret
          exact ⟨_, rfl, HE.out _ _ H5.out.1, H5.out.2⟩
        | some ad =>
          by_cases hck : c3 = k
          · subst hck
            go_wp2_with (first
              | go_quiet (fail)
              | (at_builtin; refine wpList_append_own _ rfl _ _ 22 rfl w3.heap.size 94 i0 _ 2 32 Tryz.underlying22 hi hz0 hz1 hz2 rfl (by omega) _ (c3 + 1) (R.flatMap Lb.cells ++ [Value.string nm, Value.string vl]) rfl H5.out.1 _ 0 _ [] rfl rfl (fun j u h => by simp at h) (fun u h => by simp at h) (by unfold maxLen; omega) (by omega) (by have := H5.out.2.1; omega) ?_; intro v6 w6 ho6 hg6 _; have H6 := Lib.hid (show w6.ownsRow w3.heap.size 94 2 v6 (c3 + 1) (R.flatMap Lb.cells ++ [Value.string nm, Value.string vl]) ∧ Below w.heap.size w w6 from ⟨by simpa using ho6, H5.out.2.2.grown hg6 H5.out.2.2.size (fun j hj => by have := (H5.out.1.lt j hj).1; omega)⟩); clear ho6 hg6)
              | (at_builtin; refine wpList_append_own _ rfl _ _ 22 rfl w3.heap.size 94 i0 _ 2 32 Tryz.underlying22 hi hz0 hz1 hz2 rfl (by omega) _ c3 (R.flatMap Lb.cells) rfl (HN.out.2.alloc _) ⟨wr.heap.size, 0, none⟩ 1 1 [Value.string nm, Value.string vl] rfl rfl (cells_newL wr [Value.string nm, Value.string vl] _) (by simp [Value.oneCell']) (by unfold maxLen; omega) (by omega) (by simp; omega) ?_; intro v5 w5 ho5 hg5 _; have H5 := Lib.hid (show _ ∧ w3.heap.size ≤ w5.heap.size ∧ Below w.heap.size w w5 from ⟨ho5, by (have := hg5.size; simp at this; omega), H3.out.2.1.trans (((HR.out.2.1.alloc hsw _).grown hg5 (by simp; omega) (fun j hj => (HR.out.1.lt j hj).1)).mono (by omega))⟩); clear ho5 hg5))
            go_ret
            exact ⟨v6, rfl, HE.out _ _ H6.out.1, H6.out.2⟩
          · go_wp2_with (first
              | go_quiet (fail)
              | (at_builtin; refine wpList_append_own _ rfl _ _ 22 rfl w3.heap.size 94 i0 _ 2 32 Tryz.underlying22 hi hz0 hz1 hz2 rfl (by omega) _ (k + 1) (R.flatMap Lb.cells ++ [Value.string nm, Value.string vl]) rfl H5.out.1 _ 0 _ [] rfl rfl (fun j u h => by simp at h) (fun u h => by simp at h) (by unfold maxLen; omega) (by omega) (by have := H5.out.2.1; omega) ?_; intro v6 w6 ho6 hg6 _; have H6 := Lib.hid (show w6.ownsRow w3.heap.size 94 2 v6 (k + 1) (R.flatMap Lb.cells ++ [Value.string nm, Value.string vl]) ∧ Below w.heap.size w w6 from ⟨by simpa using ho6, H5.out.2.2.grown hg6 H5.out.2.2.size (fun j hj => by have := (H5.out.1.lt j hj).1; omega)⟩); clear ho6 hg6)
              | (at_builtin; refine wpList_append_own _ rfl _ _ 22 rfl w3.heap.size 94 i0 _ 2 32 Tryz.underlying22 hi hz0 hz1 hz2 rfl (by omega) _ k (R.flatMap Lb.cells) rfl (HN.out.2.alloc _) ⟨wr.heap.size, 0, none⟩ 1 1 [Value.string nm, Value.string vl] rfl rfl (cells_newL wr [Value.string nm, Value.string vl] _) (by simp [Value.oneCell']) (by unfold maxLen; omega) (by omega) (by simp; omega) ?_; intro v5 w5 ho5 hg5 _; have H5 := Lib.hid (show _ ∧ w3.heap.size ≤ w5.heap.size ∧ Below w.heap.size w w5 from ⟨ho5, by (have := hg5.size; simp at this; omega), H3.out.2.1.trans (((HR.out.2.1.alloc hsw _).grown hg5 (by simp; omega) (fun j hj => (HR.out.1.lt j hj).1)).mono (by omega))⟩); clear ho5 hg5))
            go_ret
            exact ⟨v6, rfl, HE.out _ _ H6.out.1, H6.out.2⟩
end Go.Proofs.YtchggapclmdpaaaGreatDoor
