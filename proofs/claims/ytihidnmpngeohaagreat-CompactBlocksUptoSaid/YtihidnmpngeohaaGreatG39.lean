/- SameIntervals at two lists that are one. Written off a master by mk2.py. Chapter 17's known round. MergeSeries' walk. -/
import Derived.Test.YtihidnmpngeohaaGreatG02
import Derived.BigQuiet
import Derived.Test.YtihidnmpngeohaaGreatG28
import Derived.Test.YtihidnmpngeohaaGreatG07
import Derived.Test.YtihidnmpngeohaaGreatG05
import Derived.Test.YtihidnmpngeohaaGreatG18
import Derived.Test.YtihidnmpngeohaaGreatG25
import Derived.Test.YtihidnmpngeohaaGreatSerWalk
import Derived.Test.YtihidnmpngeohaaGreatG32
import Derived.Test.YtihidnmpngeohaaGreatG38
namespace Go.Proofs.YtihidnmpngeohaaGreat
open Go.RowKit Go.Lib

theorem below_drewInterval {w w' : World} (h : ∃ q, w' = w.drewN q) : Below w.heap.size w w' := by
  obtain ⟨q, rfl⟩ := h
  exact below_drewN (Below.refl _ _) q
set_option maxHeartbeats 2000000 in
theorem sameInterval_q (A B : Option Addr) (n ca cb : Nat) (l : List (Int × Int)) (w : World) (ha : Lst encI 2 w w.heap.size A n l) (hb : Lst encI 2 w w.heap.size B n l) (hbig : n ≤ 1000000000) :
    Calls Tryz.prog 41 #[.slice A n ca, .slice B n cb] w fun e w' => e = .returned (.bool true) ∧ ∃ q, w' = w.drewN q := by
  have HA := Lib.hid ha
  have HB := Lib.hid hb
  clear ha hb
  go_enter Tryz.func41, Tryz.ntmps41
  go_wp2
  go_loopw [5] (fun i wr => ∃ k q : Nat, k ≤ n ∧ i = .int .i64 k ∧ wr = w.drewN q) (fun i _ => n - (intOf i).toNat)
  case atStart => exact ⟨0, 0, Nat.zero_le _, rfl, rfl⟩
  case round =>
    obtain ⟨k, q, hk, rfl, rfl⟩ := hrel
    by_cases hlt : k < n
    · obtain ⟨b, off, m, rfl, hbb, hm, hc⟩ := HA.out.at hlt
      obtain ⟨b2, off2, m2, rfl, hbb2, hm2, hc2⟩ := HB.out.at hlt
      obtain rfl : m = m2 := by rw [hm] at hm2; exact Option.some.inj hm2
      have c0 := hc 0 _ rfl
      have c1 := hc 1 _ rfl
      have d0 := hc2 0 _ rfl
      have d1 := hc2 1 _ rfl
      simp only [Nat.add_zero] at c0 d0
      clear hm hm2 hc hc2
      go_wp2_with (go_quiet (fail))
      go_roundw
      case measure => simp [intOf]; omega
      case rel => exact ⟨k + 1, _, hlt, by simp, by first | rfl | exact World.drewN_drewN _ _ _⟩
    · go_wp2
      go_ret
      exact ⟨rfl, q, rfl⟩
theorem sameInterval_eq (A B : Option Addr) (n ca cb : Nat) (l : List (Int × Int)) (w : World) (ha : Lst encI 2 w w.heap.size A n l) (hb : Lst encI 2 w w.heap.size B n l) (hbig : n ≤ 1000000000) :
    Calls Tryz.prog 41 #[.slice A n ca, .slice B n cb] w fun e w' => e = .returned (.bool true) ∧ Below w.heap.size w w' :=
  (sameInterval_q A B n ca cb l w ha hb hbig).mono fun _ _ ⟨h1, h2⟩ => ⟨h1, below_drewInterval h2⟩
end Go.Proofs.YtihidnmpngeohaaGreat
namespace Go.Proofs.YtihidnmpngeohaaGreat
open Go.RowKit Go.Lib

theorem sam_known : collapse (sortT (tagAll 0 [[(1, 1), (3, 2)], [(2, 3), (3, 4)]])) = [(1, 1), (2, 3), (3, 4)] := by
  rw [samples_law]; decide
theorem iv_known {d : List (Int × Int)} (hp : d.Perm ([(5, 6), (1, 2), (3, 4), (9, 8)].filter fun x : Int × Int => !decide (x.2 < x.1))) (hs : d.Pairwise (fun x y => x.1 ≤ y.1)) : ivMerge d = [(1, 6)] := by
  rw [ivs_ref hp hs]; decide
theorem iv_known_ok : ∀ x ∈ [((5 : Int), (6 : Int)), (1, 2), (3, 4), (9, 8)], -9223372036854775808 ≤ x.1 ∧ x.1 ≤ 9223372036854775807 ∧ -9223372036854775808 ≤ x.2 ∧ x.2 ≤ 9223372036854775807 := by
  intro x hx
  simp only [List.mem_cons, List.not_mem_nil, or_false] at hx
  rcases hx with rfl | rfl | rfl | rfl <;> decide
theorem sam_known_len : ∀ xs ∈ [[((1 : Int), (1 : Int)), (3, 2)], [(2, 3), (3, 4)]], xs.length ≤ 100000 := by
  intro x hx
  simp only [List.mem_cons, List.not_mem_nil, or_false] at hx
  rcases hx with rfl | rfl <;> decide
theorem lls_two {W : World} {g0 g1 g2 : Nat} {xs ys : List (Int × Int)} {c0 c1 : Nat} (h0 : W.heap[g0]? = some (.cells (xs.flatMap encS).toArray 95 (0, 0))) (h1 : W.heap[g1]? = some (.cells (ys.flatMap encS).toArray 95 (0, 0)))
    (h2 : W.heap[g2]? = some (.cells #[.slice (some ⟨g0, 0, none⟩) xs.length c0, .slice (some ⟨g1, 0, none⟩) ys.length c1] 90 (0, 0))) : Lls W W.heap.size (some ⟨g2, 0, none⟩) 2 [xs, ys] := by
  refine ⟨rfl, fun _ => ⟨g2, 0, rfl, (Array.getElem?_eq_some_iff.1 h2).1, fun k zs hz => ?_⟩⟩
  rcases k with _ | _ | k
  · obtain rfl : xs = zs := by simpa using hz
    exact ⟨_, c0, by rw [cell_of_row W g2 _ _ _ _ h2]; rfl, lst_block h0 rfl rfl encS_len, fun h => by cases h⟩
  · obtain rfl : ys = zs := by simpa using hz
    exact ⟨_, c1, by rw [cell_of_row W g2 _ _ _ _ h2]; rfl, lst_block h1 rfl rfl encS_len, fun h => by cases h⟩
  · simp at hz
theorem heap_two (w : World) (o0 o1 o2 : Obj) : (((w.alloc o0).alloc o1).alloc o2).heap[w.heap.size]? = some o0 ∧ (((w.alloc o0).alloc o1).alloc o2).heap[w.heap.size + 1]? = some o1 ∧ (((w.alloc o0).alloc o1).alloc o2).heap[w.heap.size + 1 + 1]? = some o2 := by
  have e1 : w.heap.size + 1 = (w.alloc o0).heap.size := by simp
  have e2 : w.heap.size + 1 + 1 = ((w.alloc o0).alloc o1).heap.size := by simp
  refine ⟨?_, ?_, by rw [e2]; exact heap_alloc_new _ _⟩
  · rw [heap_alloc_old _ _ (by simp; omega), heap_alloc_old _ _ (by simp)]; exact heap_alloc_new w _
  · rw [heap_alloc_old _ _ (by simp), e1]; exact heap_alloc_new _ _
theorem iv_ok4 : (4 : Nat) ≤ 1099511627776 := by decide
set_option maxHeartbeats 1000000 in
theorem known17 (w : World) :
    Calls Tryz.prog 11 #[] w fun e w' => e = .returned (.bool true) ∧ Below w.heap.size w w' := by
  go_enter Tryz.func11, Tryz.ntmps11
  go_wp2_with fail
  have hh := heap_two w (.cells ([((1 : Int), (1 : Int)), (3, 2)].flatMap encS).toArray 95) (.cells ([((2 : Int), (3 : Int)), (3, 4)].flatMap encS).toArray 95) (.cells #[.slice (some ⟨w.heap.size, 0, none⟩) 2 2, .slice (some ⟨w.heap.size + 1, 0, none⟩) 2 2] 90)
  have hL := lls_two (c0 := 2) (c1 := 2) hh.1 hh.2.1 hh.2.2
  have hb : Below w.heap.size w (((w.alloc (.cells ([((1 : Int), (1 : Int)), (3, 2)].flatMap encS).toArray 95)).alloc (.cells ([((2 : Int), (3 : Int)), (3, 4)].flatMap encS).toArray 95)).alloc (.cells #[.slice (some ⟨w.heap.size, 0, none⟩) 2 2, .slice (some ⟨w.heap.size + 1, 0, none⟩) 2 2] 90)) :=
    (((Below.refl _ _).alloc (Nat.le_refl _) _).alloc (by simp) _).alloc (by simp; omega) _
  change Calls _ _ _ (((w.alloc (.cells ([((1 : Int), (1 : Int)), (3, 2)].flatMap encS).toArray 95)).alloc (.cells ([((2 : Int), (3 : Int)), (3, 4)].flatMap encS).toArray 95)).alloc (.cells #[.slice (some ⟨w.heap.size, 0, none⟩) 2 2, .slice (some ⟨w.heap.size + 1, 0, none⟩) 2 2] 90)) _
  generalize (((w.alloc (.cells ([((1 : Int), (1 : Int)), (3, 2)].flatMap encS).toArray 95)).alloc (.cells ([((2 : Int), (3 : Int)), (3, 4)].flatMap encS).toArray 95)).alloc (.cells #[.slice (some ⟨w.heap.size, 0, none⟩) 2 2, .slice (some ⟨w.heap.size + 1, 0, none⟩) 2 2] 90)) = w1 at hL hb ⊢
  have H1 := Lib.hid hb
  refine (samples_any 100000 (sortsStable 100000 (by omega)) _ 2 2 _ w1 hL sam_known_len (Nat.le_refl _) (by decide) (by simp [tagAll, tags_length, sortS_length])).mono ?_
  clear hh hL hb
  rintro e w2 ⟨v, rfl, ho, hb⟩
  rw [sam_known] at ho
  obtain ⟨A2, c2, rfl, _, hL2⟩ := ownsRow_lst ho rfl encS_len
  have H2 := Lib.hid (show _ ∧ _ from ⟨hL2, H1.out.trans (hb.mono H1.out.size)⟩)
  clear ho hb hL2 H1
  go_wp2_with fail
  have hg := heap_alloc_new w2 (.cells ([((5 : Int), (6 : Int)), (1, 2), (3, 4), (9, 8)].flatMap encI).toArray 25)
  have hL := lst_block (enc := encI) (size := 2) hg (by simp) (show [((5 : Int), (6 : Int)), (1, 2), (3, 4), (9, 8)].length = 4 from rfl) encI_len
  have hb : Below w2.heap.size w2 (w2.alloc (.cells ([((5 : Int), (6 : Int)), (1, 2), (3, 4), (9, 8)].flatMap encI).toArray 25)) := (Below.refl _ _).alloc (Nat.le_refl _) _
  change Calls _ _ _ (w2.alloc (.cells ([((5 : Int), (6 : Int)), (1, 2), (3, 4), (9, 8)].flatMap encI).toArray 25)) _
  generalize w2.alloc (.cells ([((5 : Int), (6 : Int)), (1, 2), (3, 4), (9, 8)].flatMap encI).toArray 25) = w3 at hL hb ⊢
  have H3 := Lib.hid hb
  refine (ivs_any _ _ _ _ w3 hL (fun h => by cases h) iv_ok4 iv_known_ok).mono ?_
  clear hg hL hb
  rintro e w4 ⟨v, d, rfl, hp, hs, ho, hb⟩
  rw [iv_known hp hs] at ho
  obtain ⟨A4, c4, rfl, _, hL4⟩ := ownsRow_lst ho rfl encI_len
  have hb24 : Below w2.heap.size w2 w4 := H3.out.trans (hb.mono H3.out.size)
  have H4 := Lib.hid (show _ ∧ _ ∧ _ from ⟨hL4, (H2.out.1.below hb24).more hb24.size, H2.out.2.trans (hb24.mono H2.out.2.size)⟩)
  clear ho hb hL4 hb24 hp hs H3 H2 d
  go_wp2_with fail
  have hg := heap_alloc_new w4 (.cells ([((1 : Int), (1 : Int)), (2, 3), (3, 4)].flatMap encS).toArray 95)
  have hL := lst_block (enc := encS) (size := 2) hg (by simp) (show [((1 : Int), (1 : Int)), (2, 3), (3, 4)].length = 3 from rfl) encS_len
  have hb : Below w4.heap.size w4 (w4.alloc (.cells ([((1 : Int), (1 : Int)), (2, 3), (3, 4)].flatMap encS).toArray 95)) := (Below.refl _ _).alloc (Nat.le_refl _) _
  change Calls _ _ _ (w4.alloc (.cells ([((1 : Int), (1 : Int)), (2, 3), (3, 4)].flatMap encS).toArray 95)) _
  generalize w4.alloc (.cells ([((1 : Int), (1 : Int)), (2, 3), (3, 4)].flatMap encS).toArray 95) = w5 at hL hb ⊢
  have H5 := Lib.hid hb
  refine (sameSample_eq _ _ 3 _ _ _ w5 ((H4.out.2.1.below H5.out).more H5.out.size) hL (by decide)).mono ?_
  clear hg hL hb
  rintro e w6 ⟨rfl, hb⟩
  have hb46 : Below w4.heap.size w4 w6 := H5.out.trans (hb.mono H5.out.size)
  have H6 := Lib.hid (show _ ∧ _ from ⟨(H4.out.1.below hb46).more hb46.size, H4.out.2.2.trans (hb46.mono H4.out.2.2.size)⟩)
  clear hb hb46 H5 H4
  go_wp2_with fail
  have hg := heap_alloc_new w6 (.cells ([((1 : Int), (6 : Int))].flatMap encI).toArray 25)
  have hL := lst_block (enc := encI) (size := 2) hg (by simp) (show [((1 : Int), (6 : Int))].length = 1 from rfl) encI_len
  have hb : Below w6.heap.size w6 (w6.alloc (.cells ([((1 : Int), (6 : Int))].flatMap encI).toArray 25)) := (Below.refl _ _).alloc (Nat.le_refl _) _
  change Calls _ _ _ (w6.alloc (.cells ([((1 : Int), (6 : Int))].flatMap encI).toArray 25)) _
  generalize w6.alloc (.cells ([((1 : Int), (6 : Int))].flatMap encI).toArray 25) = w7 at hL hb ⊢
  have H7 := Lib.hid hb
  refine (sameInterval_eq _ _ 1 _ _ _ w7 ((H6.out.1.below H7.out).more H7.out.size) hL (by decide)).mono ?_
  clear hg hL hb
  rintro e w8 ⟨rfl, hb⟩
  have hb68 : Below w6.heap.size w6 w8 := H7.out.trans (hb.mono H7.out.size)
  have H8 := Lib.hid (H6.out.2.trans (hb68.mono H6.out.2.size))
  clear hb hb68 H7 H6
  go_wp2
  go_ret
  exact ⟨rfl, H8.out⟩
end Go.Proofs.YtihidnmpngeohaaGreat
namespace Go.Proofs.YtihidnmpngeohaaGreat
open Go.RowKit Go.Lib

/-- What is known of a list of series that came in. -/
structure ArgS (w : World) (A : Option Addr) (n : Nat) (ys : List Sv) : Prop where
  lst : Lst encSv 2 w w.heap.size A n ys
  few : n ≤ 140737488355328
  big : ∀ y ∈ ys, SBig w y
theorem ArgS.on {w W : World} {A : Option Addr} {n : Nat} {ys : List Sv} (h : ArgS w A n ys) (hb : Below w.heap.size w W) : ArgS W A n ys :=
  ⟨(h.lst.below hb).more hb.size, h.few, fun y hy => by
    have := h.big y hy
    exact ⟨(this.lst.below hb).more hb.size, this.nil, this.few, (this.sst.below hb).more hb.size, this.snil, this.sfew, this.txt⟩⟩
/-- .. no more than is looked at. -/
structure FewS (w : World) (A : Option Addr) (n : Nat) (ys : List Sv) : Prop where
  arg : ArgS w A n ys
  few : SFew n ys
theorem FewS.sat {w : World} {A : Option Addr} {n : Nat} {ys : List Sv} (h : FewS w A n ys) : ∀ y ∈ ys, Sat w w.heap.size y ∧ y.n ≤ 3000 ∧ y.m ≤ 3000 ∧ (keyL y.l).length ≤ 1000000 := fun y hy => by
  have h1 := serW_mem hy
  have h2 := h.few.all
  have h3 := h.arg.big y hy
  have h4 := keyL_len y.l
  have h5 := h3.lst.1
  exact ⟨⟨h3.lst, h3.nil, by omega, h3.sst, h3.snil, by omega⟩, by omega, by omega, by omega⟩
theorem FewS.flat {w : World} {A : Option Addr} {n : Nat} {ys : List Sv} (h : FewS w A n ys) : ys.length = n ∧ n ≤ 60 ∧ (ys.flatMap (·.s)).length ≤ 3000 := by
  refine ⟨h.arg.lst.1, h.few.len, ?_⟩
  have h1 := serW_flat fun y hy => (h.arg.big y hy).sst.1
  have h2 := h.few.all
  omega
theorem FewS.on {w W : World} {A : Option Addr} {n : Nat} {ys : List Sv} (h : FewS w A n ys) (hb : Below w.heap.size w W) : FewS W A n ys := ⟨h.arg.on hb, h.few⟩
theorem FewS.lent {w W : World} {A : Option Addr} {n c : Nat} {ys : List Sv} (h : FewS w A n ys) (hb : Below w.heap.size w W) : Calls Tryz.prog 16 #[.slice A n c] W (LentSerPost W ys n) :=
  lentSer_any A n c ys W (h.on hb).arg.lst (by have := h.few.len; omega) (fun y hy => ((h.on hb).sat y hy).1)
/-- Lent out. -/
structure LentL (w : World) (B g n c : Nat) (ys zs : List Sv) (bo co : Nat) : Prop where
  lent : LentSs w B ys (.slice (some ⟨g, 0, none⟩) n c) n zs
  row : w.ownsRow B 132 2 (.slice (some ⟨g, 0, none⟩) (n + 1) c) (n + 1) ((zs ++ [mS bo co]).flatMap encSv)
  mark : w.ownsRow B 29 2 (.slice (some ⟨bo, 0, none⟩) 1 co) 1 mALabel.cells
theorem LentL.below {w w' : World} {B g n c bo co : Nat} {ys zs : List Sv} (h : LentL w B g n c ys zs bo co) (hb : Below w.heap.size w w') : LentL w' B g n c ys zs bo co :=
  ⟨h.lent.below hb, owns_below h.row hb, owns_below h.mark hb⟩
theorem LentSs.kept {S : Nat → Prop} {w w' : World} {B k : Nat} {v : Value} {ys zs : List Sv} (h : LentSs w B ys v k zs) (hl : ys.length = k) (hg : GrownIn S w w') (hS : ∀ b, S b → b < B) : LentSs w' B ys v k zs := by
  refine ⟨hg.owns h.row (fun b hb hs => by have := (h.row.lt b hb).1; have := hS b hs; omega), h.len, fun j y z h1 h2 => ?_, h.apart, h.sapart⟩
  have hz := h.each j y z h1 h2
  refine hz.kept hg (fun b hb hs => ?_) (fun b hb hs => ?_)
  · obtain ⟨b2, q1, q2, _⟩ := hz.blk
    rw [q1] at hb; injection hb with hb
    have := hS b hs; omega
  · obtain ⟨b2, q1, q2, _⟩ := hz.sblk
    rw [q1] at hb; injection hb with hb
    have := hS b hs; omega
theorem LentL.kept {S : Nat → Prop} {w w' : World} {B g n c bo co : Nat} {ys zs : List Sv} (h : LentL w B g n c ys zs bo co) (hl : ys.length = n) (hg : GrownIn S w w') (hS : ∀ b, S b → b < B) : LentL w' B g n c ys zs bo co :=
  ⟨h.lent.kept hl hg hS, hg.owns h.row (fun b hb hs => by have := (h.row.lt b hb).1; have := hS b hs; omega), hg.owns h.mark (fun b hb hs => by have := (h.mark.lt b hb).1; have := hS b hs; omega)⟩
/-- What is known of series that are lent out. -/
theorem LentL.facts {w w0 : World} {A : Option Addr} {B g n c bo co : Nat} {ys zs : List Sv} (h : LentL w B g n c ys zs bo co) (hF : FewS w0 A n ys) :
    (∀ z ∈ zs, SerIn w z) ∧ zs.map Sv.sr = ys.map Sv.sr ∧ Lst encSv 2 w w.heap.size (some ⟨g, 0, none⟩) n zs := by
  have hl := hF.flat.1
  have hp : ∀ (j : Nat) z, zs[j]? = some z → ∃ y, ys[j]? = some y ∧ LentSv w B y z := fun j z hz => by
    obtain ⟨hj, _⟩ := List.getElem?_eq_some_iff.1 hz
    have hy : ys[j]? = some (ys[j]'(by have := h.lent.len; omega)) := List.getElem?_eq_getElem _
    exact ⟨_, hy, h.lent.each j _ z hy hz⟩
  refine ⟨fun z hz => ?_, ?_, ?_⟩
  · obtain ⟨j, hj, e⟩ := List.getElem_of_mem hz
    obtain ⟨y, hy, hl⟩ := hp j z (by rw [← e]; exact List.getElem?_eq_getElem hj)
    obtain ⟨h1, h2, h3, h4⟩ := hF.sat y (List.mem_of_getElem? hy)
    exact ⟨hl.sat h1.lst.1 h1.sst.1 (by omega) (by omega), by rw [hl.lab]; exact Nat.le_trans h4 (by omega)⟩
  · apply List.ext_getElem?
    intro j
    rw [List.getElem?_map, List.getElem?_map]
    cases hz : zs[j]? with
    | none =>
      have := List.getElem?_eq_none_iff.1 hz
      rw [List.getElem?_eq_none (by have := h.lent.len; omega)]
    | some z =>
      obtain ⟨y, hy, hl⟩ := hp j z hz
      rw [hy]
      show some (z.l, z.s) = some (y.l, y.s)
      rw [hl.lab, hl.sam]
  · exact (owns_lst h.lent.row encSv_len (by omega)).1
theorem LentL.whole {w w0 : World} {A : Option Addr} {B g n c ca bo co : Nat} {ys zs : List Sv} (h : LentL w B g n c ys zs bo co) (hF : FewS w0 A n ys) (hb : Below w0.heap.size w0 w) :
    Calls Tryz.prog 18 #[.slice (some ⟨g, 0, none⟩) n c, .slice A n ca] w fun e w' => e = .returned (.bool true) ∧ ∃ q, w' = w.drewN q :=
  wholeSer_q g c A n ca bo co ys zs w B (owns_lst h.row encSv_len (by omega)).1 h.lent.len (by have := owns_cap h.row; omega) (hF.on hb).arg.lst (fun y hy => ((hF.on hb).sat y hy).1) h.lent.each h.mark (by have := hF.few.len; omega)
theorem LentL.lt {w : World} {B g n c bo co : Nat} {ys zs : List Sv} (h : LentL w B g n c ys zs bo co) (hl : ys.length = n) : (∀ (j : Nat) z b, zs[j]? = some z → ((valL z).ownBlock = some b ∨ (valD z).ownBlock = some b) → b < w.heap.size) ∧ g < w.heap.size := by
  refine ⟨fun j z b hz hb => ?_, (h.lent.row.lt g rfl).2⟩
  obtain ⟨hj, _⟩ := List.getElem?_eq_some_iff.1 hz
  have hy : ys[j]? = some (ys[j]'(by have := h.lent.len; omega)) := List.getElem?_eq_getElem _
  have hz2 := h.lent.each j _ z hy hz
  rcases hb with hb | hb
  · obtain ⟨b2, q1, _, q3⟩ := hz2.blk
    rw [q1] at hb; injection hb with hb; omega
  · obtain ⟨b2, q1, _, q3⟩ := hz2.sblk
    rw [q1] at hb; injection hb with hb; omega
theorem LentL.spoil {w wl w0 : World} {A : Option Addr} {B g n c bo co : Nat} {ys zs : List Sv} (h : LentL w B g n c ys zs bo co) (hF : FewS w0 A n ys) (hl : LentL wl B g n c ys zs bo co) (hB : B ≤ w.heap.size) :
    Calls Tryz.prog 19 #[.slice (some ⟨g, 0, none⟩) n c] w fun e w' => e = .returned (.tuple #[]) ∧ GrownIn (fun b => B ≤ b ∧ b < wl.heap.size) w w' :=
  spoilSer_any g n c bo co ys zs w B h.lent h.row hF.flat.1 (fun y hy => by have := (hF.sat y hy).1; exact ⟨this.lst.1, this.sst.1⟩) (by have := hF.few.len; omega) hB wl.heap.size (hl.lt hF.flat.1).1 (hl.lt hF.flat.1).2
/-- Lists of lists that lie in one block. -/
theorem sls_of {w : World} {b : Nat} {n : Nat} {ls : List (List Sv)} (hb : b < w.heap.size) (hl : ls.length = n) (hc : ∀ (k : Nat) xs, ls[k]? = some xs → ∃ A' c', w.cell? ⟨b, k, none⟩ = some (.slice A' xs.length c') ∧ Lst encSv 2 w w.heap.size A' xs.length xs) : Sls w w.heap.size (some ⟨b, 0, none⟩) n ls :=
  ⟨hl, fun _ => ⟨b, 0, rfl, hb, fun k xs hxs => by rw [Nat.zero_add]; exact hc k xs hxs⟩⟩
theorem out_ser {w : World} {B : Nat} {A : Option Addr} {n c : Nat} {os : List Sv} (h : OutSv w B (.slice A n c) os) (hn : os.length = n) : Lst encSv 2 w w.heap.size A n os := by
  have hr := h.row
  rw [hn] at hr
  exact (owns_lst hr encSv_len (by omega)).1
/-- How much a result has. -/
theorem ser_few {os all : List Sv} (h : os.map Sv.sr = serU labelsC (all.map Sv.sr)) (ha : all.length ≤ 200) (hs : (all.flatMap (·.s)).length ≤ 20000) (hl : ∀ y ∈ all, y.l.length ≤ 3000) : os.length ≤ 200 ∧ ∀ z ∈ os, z.l.length ≤ 20000 ∧ z.s.length ≤ 20000 := by
  refine ⟨?_, fun z hz => ?_⟩
  · have h1 := congrArg List.length h
    have h2 := serU_len (c := labelsC) (all.map Sv.sr)
    rw [List.length_map] at h1 h2
    omega
  · have h1 : z.sr ∈ serU labelsC (all.map Sv.sr) := by rw [← h]; exact List.mem_map.2 ⟨z, hz, rfl⟩
    obtain ⟨⟨x, hx, e⟩, h2⟩ := serU_mem labelsC_cmp3 h1
    obtain ⟨y, hy, rfl⟩ := List.mem_map.1 hx
    have e2 : y.l = z.l := e
    have h3 := hl y hy
    rw [flat_sr] at h2
    exact ⟨by rw [← e2]; omega, by have : z.sr.2 = z.s := rfl; rw [this] at h2; omega⟩
end Go.Proofs.YtihidnmpngeohaaGreat
