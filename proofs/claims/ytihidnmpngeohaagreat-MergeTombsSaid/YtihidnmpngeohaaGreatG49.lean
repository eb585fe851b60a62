/- SameIntervals at two lists that are one. Written off a master by mk2.py. Chapter 17's known round. -/
import Derived.Test.YtihidnmpngeohaaGreatG05
import Derived.BigQuiet
import Derived.Test.YtihidnmpngeohaaGreatStabS
import Derived.Test.YtihidnmpngeohaaGreatSamLaw
import Derived.Test.YtihidnmpngeohaaGreatG11
import Derived.Test.YtihidnmpngeohaaGreatG36
namespace Go.Proofs.YtihidnmpngeohaaGreat
open Go.RowKit Go.Lib

theorem below_drewInterval {w w' : World} (h : ∃ q, w' = w.drewN q) : Below w.heap.size w w' := by
  obtain ⟨q, rfl⟩ := h
  exact below_drewN (Below.refl _ _) q
set_option maxHeartbeats 2000000 in
theorem sameInterval_q (A B : Option Addr) (n ca cb : Nat) (l : List (Int × Int)) (w : World) (ha : Lst encI 2 w w.heap.size A n l) (hb : Lst encI 2 w w.heap.size B n l) (hbig : n ≤ 1000000000) :
    Calls Tryz.prog 41 #[.slice A n ca, .slice B n cb] w fun e w' => e = .returned (.bool true) ∧ ∃ q, w' = w.drewN q := by
  have HA := Lib.hid ha
  have HB := Lib.hid hb
  clear ha hb
  go_enter Tryz.func41, Tryz.ntmps41
  go_wp2
  go_loopw [5] (fun i wr => ∃ k q : Nat, k ≤ n ∧ i = .int .i64 k ∧ wr = w.drewN q) (fun i _ => n - (intOf i).toNat)
  case atStart => exact ⟨0, 0, Nat.zero_le _, rfl, rfl⟩
  case round =>
    obtain ⟨k, q, hk, rfl, rfl⟩ := hrel
    by_cases hlt : k < n
    · obtain ⟨b, off, m, rfl, hbb, hm, hc⟩ := HA.out.at hlt
      obtain ⟨b2, off2, m2, rfl, hbb2, hm2, hc2⟩ := HB.out.at hlt
      obtain rfl : m = m2 := by rw [hm] at hm2; exact Option.some.inj hm2
      have c0 := hc 0 _ rfl
      have c1 := hc 1 _ rfl
      have d0 := hc2 0 _ rfl
      have d1 := hc2 1 _ rfl
      simp only [Nat.add_zero] at c0 d0
      clear hm hm2 hc hc2
      go_wp2_with (go_quiet (fail))
      go_roundw
      case measure => simp [intOf]; omega
      case rel => exact ⟨k + 1, _, hlt, by simp, by first | rfl | exact World.drewN_drewN _ _ _⟩
    · go_wp2
      go_ret
      exact ⟨rfl, q, rfl⟩
theorem sameInterval_eq (A B : Option Addr) (n ca cb : Nat) (l : List (Int × Int)) (w : World) (ha : Lst encI 2 w w.heap.size A n l) (hb : Lst encI 2 w w.heap.size B n l) (hbig : n ≤ 1000000000) :
    Calls Tryz.prog 41 #[.slice A n ca, .slice B n cb] w fun e w' => e = .returned (.bool true) ∧ Below w.heap.size w w' :=
  (sameInterval_q A B n ca cb l w ha hb hbig).mono fun _ _ ⟨h1, h2⟩ => ⟨h1, below_drewInterval h2⟩
end Go.Proofs.YtihidnmpngeohaaGreat
namespace Go.Proofs.YtihidnmpngeohaaGreat
open Go.RowKit Go.Lib

theorem sam_known : collapse (sortT (tagAll 0 [[(1, 1), (3, 2)], [(2, 3), (3, 4)]])) = [(1, 1), (2, 3), (3, 4)] := by
  rw [samples_law]; decide
theorem iv_known {d : List (Int × Int)} (hp : d.Perm ([(5, 6), (1, 2), (3, 4), (9, 8)].filter fun x : Int × Int => !decide (x.2 < x.1))) (hs : d.Pairwise (fun x y => x.1 ≤ y.1)) : ivMerge d = [(1, 6)] := by
  rw [ivs_ref hp hs]; decide
theorem iv_known_ok : ∀ x ∈ [((5 : Int), (6 : Int)), (1, 2), (3, 4), (9, 8)], -9223372036854775808 ≤ x.1 ∧ x.1 ≤ 9223372036854775807 ∧ -9223372036854775808 ≤ x.2 ∧ x.2 ≤ 9223372036854775807 := by
  intro x hx
  simp only [List.mem_cons, List.not_mem_nil, or_false] at hx
  rcases hx with rfl | rfl | rfl | rfl <;> decide
theorem sam_known_len : ∀ xs ∈ [[((1 : Int), (1 : Int)), (3, 2)], [(2, 3), (3, 4)]], xs.length ≤ 100000 := by
  intro x hx
  simp only [List.mem_cons, List.not_mem_nil, or_false] at hx
  rcases hx with rfl | rfl <;> decide
theorem lls_two {W : World} {g0 g1 g2 : Nat} {xs ys : List (Int × Int)} {c0 c1 : Nat} (h0 : W.heap[g0]? = some (.cells (xs.flatMap encS).toArray 95 (0, 0))) (h1 : W.heap[g1]? = some (.cells (ys.flatMap encS).toArray 95 (0, 0)))
    (h2 : W.heap[g2]? = some (.cells #[.slice (some ⟨g0, 0, none⟩) xs.length c0, .slice (some ⟨g1, 0, none⟩) ys.length c1] 90 (0, 0))) : Lls W W.heap.size (some ⟨g2, 0, none⟩) 2 [xs, ys] := by
  refine ⟨rfl, fun _ => ⟨g2, 0, rfl, (Array.getElem?_eq_some_iff.1 h2).1, fun k zs hz => ?_⟩⟩
  rcases k with _ | _ | k
  · obtain rfl : xs = zs := by simpa using hz
    exact ⟨_, c0, by rw [cell_of_row W g2 _ _ _ _ h2]; rfl, lst_block h0 rfl rfl encS_len, fun h => by cases h⟩
  · obtain rfl : ys = zs := by simpa using hz
    exact ⟨_, c1, by rw [cell_of_row W g2 _ _ _ _ h2]; rfl, lst_block h1 rfl rfl encS_len, fun h => by cases h⟩
  · simp at hz
theorem heap_two (w : World) (o0 o1 o2 : Obj) : (((w.alloc o0).alloc o1).alloc o2).heap[w.heap.size]? = some o0 ∧ (((w.alloc o0).alloc o1).alloc o2).heap[w.heap.size + 1]? = some o1 ∧ (((w.alloc o0).alloc o1).alloc o2).heap[w.heap.size + 1 + 1]? = some o2 := by
  have e1 : w.heap.size + 1 = (w.alloc o0).heap.size := by simp
  have e2 : w.heap.size + 1 + 1 = ((w.alloc o0).alloc o1).heap.size := by simp
  refine ⟨?_, ?_, by rw [e2]; exact heap_alloc_new _ _⟩
  · rw [heap_alloc_old _ _ (by simp; omega), heap_alloc_old _ _ (by simp)]; exact heap_alloc_new w _
  · rw [heap_alloc_old _ _ (by simp), e1]; exact heap_alloc_new _ _
theorem iv_ok4 : (4 : Nat) ≤ 1099511627776 := by decide
set_option maxHeartbeats 1000000 in
theorem known17 (w : World) :
    Calls Tryz.prog 11 #[] w fun e w' => e = .returned (.bool true) ∧ Below w.heap.size w w' := by
  go_enter Tryz.func11, Tryz.ntmps11
  go_wp2_with fail
  have hh := heap_two w (.cells ([((1 : Int), (1 : Int)), (3, 2)].flatMap encS).toArray 95) (.cells ([((2 : Int), (3 : Int)), (3, 4)].flatMap encS).toArray 95) (.cells #[.slice (some ⟨w.heap.size, 0, none⟩) 2 2, .slice (some ⟨w.heap.size + 1, 0, none⟩) 2 2] 90)
  have hL := lls_two (c0 := 2) (c1 := 2) hh.1 hh.2.1 hh.2.2
  have hb : Below w.heap.size w (((w.alloc (.cells ([((1 : Int), (1 : Int)), (3, 2)].flatMap encS).toArray 95)).alloc (.cells ([((2 : Int), (3 : Int)), (3, 4)].flatMap encS).toArray 95)).alloc (.cells #[.slice (some ⟨w.heap.size, 0, none⟩) 2 2, .slice (some ⟨w.heap.size + 1, 0, none⟩) 2 2] 90)) :=
    (((Below.refl _ _).alloc (Nat.le_refl _) _).alloc (by simp) _).alloc (by simp; omega) _
  change Calls _ _ _ (((w.alloc (.cells ([((1 : Int), (1 : Int)), (3, 2)].flatMap encS).toArray 95)).alloc (.cells ([((2 : Int), (3 : Int)), (3, 4)].flatMap encS).toArray 95)).alloc (.cells #[.slice (some ⟨w.heap.size, 0, none⟩) 2 2, .slice (some ⟨w.heap.size + 1, 0, none⟩) 2 2] 90)) _
  generalize (((w.alloc (.cells ([((1 : Int), (1 : Int)), (3, 2)].flatMap encS).toArray 95)).alloc (.cells ([((2 : Int), (3 : Int)), (3, 4)].flatMap encS).toArray 95)).alloc (.cells #[.slice (some ⟨w.heap.size, 0, none⟩) 2 2, .slice (some ⟨w.heap.size + 1, 0, none⟩) 2 2] 90)) = w1 at hL hb ⊢
  have H1 := Lib.hid hb
  refine (samples_any 100000 (sortsStable 100000 (by omega)) _ 2 2 _ w1 hL sam_known_len (Nat.le_refl _) (by decide) (by simp [tagAll, tags_length, sortS_length])).mono ?_
  clear hh hL hb
  rintro e w2 ⟨v, rfl, ho, hb⟩
  rw [sam_known] at ho
  obtain ⟨A2, c2, rfl, _, hL2⟩ := ownsRow_lst ho rfl encS_len
  have H2 := Lib.hid (show _ ∧ _ from ⟨hL2, H1.out.trans (hb.mono H1.out.size)⟩)
  clear ho hb hL2 H1
  go_wp2_with fail
  have hg := heap_alloc_new w2 (.cells ([((5 : Int), (6 : Int)), (1, 2), (3, 4), (9, 8)].flatMap encI).toArray 25)
  have hL := lst_block (enc := encI) (size := 2) hg (by simp) (show [((5 : Int), (6 : Int)), (1, 2), (3, 4), (9, 8)].length = 4 from rfl) encI_len
  have hb : Below w2.heap.size w2 (w2.alloc (.cells ([((5 : Int), (6 : Int)), (1, 2), (3, 4), (9, 8)].flatMap encI).toArray 25)) := (Below.refl _ _).alloc (Nat.le_refl _) _
  change Calls _ _ _ (w2.alloc (.cells ([((5 : Int), (6 : Int)), (1, 2), (3, 4), (9, 8)].flatMap encI).toArray 25)) _
  generalize w2.alloc (.cells ([((5 : Int), (6 : Int)), (1, 2), (3, 4), (9, 8)].flatMap encI).toArray 25) = w3 at hL hb ⊢
  have H3 := Lib.hid hb
  refine (ivs_any _ _ _ _ w3 hL (fun h => by cases h) iv_ok4 iv_known_ok).mono ?_
  clear hg hL hb
  rintro e w4 ⟨v, d, rfl, hp, hs, ho, hb⟩
  rw [iv_known hp hs] at ho
  obtain ⟨A4, c4, rfl, _, hL4⟩ := ownsRow_lst ho rfl encI_len
  have hb24 : Below w2.heap.size w2 w4 := H3.out.trans (hb.mono H3.out.size)
  have H4 := Lib.hid (show _ ∧ _ ∧ _ from ⟨hL4, (H2.out.1.below hb24).more hb24.size, H2.out.2.trans (hb24.mono H2.out.2.size)⟩)
  clear ho hb hL4 hb24 hp hs H3 H2 d
  go_wp2_with fail
  have hg := heap_alloc_new w4 (.cells ([((1 : Int), (1 : Int)), (2, 3), (3, 4)].flatMap encS).toArray 95)
  have hL := lst_block (enc := encS) (size := 2) hg (by simp) (show [((1 : Int), (1 : Int)), (2, 3), (3, 4)].length = 3 from rfl) encS_len
  have hb : Below w4.heap.size w4 (w4.alloc (.cells ([((1 : Int), (1 : Int)), (2, 3), (3, 4)].flatMap encS).toArray 95)) := (Below.refl _ _).alloc (Nat.le_refl _) _
  change Calls _ _ _ (w4.alloc (.cells ([((1 : Int), (1 : Int)), (2, 3), (3, 4)].flatMap encS).toArray 95)) _
  generalize w4.alloc (.cells ([((1 : Int), (1 : Int)), (2, 3), (3, 4)].flatMap encS).toArray 95) = w5 at hL hb ⊢
  have H5 := Lib.hid hb
  refine (sameSample_eq _ _ 3 _ _ _ w5 ((H4.out.2.1.below H5.out).more H5.out.size) hL (by decide)).mono ?_
  clear hg hL hb
  rintro e w6 ⟨rfl, hb⟩
  have hb46 : Below w4.heap.size w4 w6 := H5.out.trans (hb.mono H5.out.size)
  have H6 := Lib.hid (show _ ∧ _ from ⟨(H4.out.1.below hb46).more hb46.size, H4.out.2.2.trans (hb46.mono H4.out.2.2.size)⟩)
  clear hb hb46 H5 H4
  go_wp2_with fail
  have hg := heap_alloc_new w6 (.cells ([((1 : Int), (6 : Int))].flatMap encI).toArray 25)
  have hL := lst_block (enc := encI) (size := 2) hg (by simp) (show [((1 : Int), (6 : Int))].length = 1 from rfl) encI_len
  have hb : Below w6.heap.size w6 (w6.alloc (.cells ([((1 : Int), (6 : Int))].flatMap encI).toArray 25)) := (Below.refl _ _).alloc (Nat.le_refl _) _
  change Calls _ _ _ (w6.alloc (.cells ([((1 : Int), (6 : Int))].flatMap encI).toArray 25)) _
  generalize w6.alloc (.cells ([((1 : Int), (6 : Int))].flatMap encI).toArray 25) = w7 at hL hb ⊢
  have H7 := Lib.hid hb
  refine (sameInterval_eq _ _ 1 _ _ _ w7 ((H6.out.1.below H7.out).more H7.out.size) hL (by decide)).mono ?_
  clear hg hL hb
  rintro e w8 ⟨rfl, hb⟩
  have hb68 : Below w6.heap.size w6 w8 := H7.out.trans (hb.mono H7.out.size)
  have H8 := Lib.hid (H6.out.2.trans (hb68.mono H6.out.2.size))
  clear hb hb68 H7 H6
  go_wp2
  go_ret
  exact ⟨rfl, H8.out⟩
end Go.Proofs.YtihidnmpngeohaaGreat
