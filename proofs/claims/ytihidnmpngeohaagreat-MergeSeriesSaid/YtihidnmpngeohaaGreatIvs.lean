/- merge.Intervals: the intervals that are none struck, sorted by their beginnings, put together one by one. -/
import Derived.Test.YtihidnmpngeohaaGreatG02
import Derived.Test.YtihidnmpngeohaaGreatG04
import Derived.Shelf.SlSortCmp.NoneTotal
import Derived.RegionTactic
import Derived.ChangeAlike
import Derived.BigRegion
namespace Go.Proofs.YtihidnmpngeohaaGreat
open Go.RowKit Go.Lib Go.Sort

theorem compare_i64 (x y : Int) (w : World) : Calls Tryz.prog 101 #[.int .i64 x, .int .i64 y] w fun e w' => e = .returned (.int .i64 (Lib.compareInt x y)) ∧ w' = w := by
  have nx : (x != x) = false := by simp
  have ny : (y != y) = false := by simp
  unfold Lib.compareInt
  by_cases h1 : x < y
  · rw [if_pos h1]
    go_enter Tryz.func101, Tryz.ntmps101
    go_wp2
    go_ret
    exact ⟨rfl, rfl⟩
  · rw [if_neg h1]
    by_cases h2 : y < x
    · rw [if_pos h2]
      go_enter Tryz.func101, Tryz.ntmps101
      go_wp2
      go_ret
      exact ⟨rfl, rfl⟩
    · rw [if_neg h2]
      go_enter Tryz.func101, Tryz.ntmps101
      go_wp2
      go_ret
      exact ⟨rfl, rfl⟩
def firstC (x y : Int × Int) : Int := Lib.compareInt x.1 y.1
theorem firstC_lt (x y : Int × Int) : ltOf firstC x y = decide (x.1 < y.1) := by
  unfold ltOf firstC Lib.compareInt
  by_cases h1 : x.1 < y.1
  · simp [h1]
  · by_cases h2 : y.1 < x.1 <;> simp [h1, h2]
theorem firstC_swo : SWO (ltOf firstC) where
  irrefl x := by rw [firstC_lt]; simp
  trans x y z h1 h2 := by rw [firstC_lt] at *; simp at *; omega
  ntrans x y z h1 h2 := by rw [firstC_lt] at *; simp at *; omega
set_option maxHeartbeats 1000000 in
theorem ivsCmp (x y : Int × Int) (W : World) : Calls Tryz.prog 100 #[.agg #[.int .i64 x.1, .int .i64 x.2], .agg #[.int .i64 y.1, .int .i64 y.2]] W fun e w' => e = .returned (.int .i64 (firstC x y)) ∧ ∃ q os', w' = grow (W.drewN q) os' := by
  have hcon := fun W' => compare_i64 x.1 y.1 W'
  change ∀ W', Calls _ _ _ _ (fun e w' => e = .returned (.int .i64 (firstC x y)) ∧ w' = W') at hcon
  generalize firstC x y = r at hcon ⊢
  go_enter Tryz.func100, Tryz.ntmps100
  go_wp2_with (go_at_call 101; refine (hcon _).mono ?_; rintro e w' ⟨rfl, rfl⟩)
  go_ret
  exact ⟨rfl, 0, _, by rw [alloc_eq_grow, alloc_eq_grow, grow_grow]; rfl⟩
theorem ivsDel (W : World) : PredInterval 98 #[] (fun x => decide (x.2 < x.1)) W := by
  intro x
  show Calls _ _ #[.agg #[.int .i64 x.1, .int .i64 x.2]] W (fun e w' => e = .returned (.bool (decide (x.2 < x.1))) ∧ RowKit.Below W.heap.size W w')
  by_cases h : x.2 < x.1
  · rw [decide_eq_true h]
    go_enter Tryz.func98, Tryz.ntmps98
    go_wp2
    go_ret
    exact ⟨by simp, (Below.refl _ _).alloc (Nat.le_refl _) _⟩
  · rw [decide_eq_false h]
    go_enter Tryz.func98, Tryz.ntmps98
    go_wp2
    go_ret
    exact ⟨by simp, (Below.refl _ _).alloc (Nat.le_refl _) _⟩
/-- slices.SortFunc by the beginnings, at a row of the call's own. -/
theorem ivsSort (A : Option Addr) (n c : Nat) (l : List (Int × Int)) (w : World) (B : Nat) (ho : w.ownsRow B 25 2 (.slice A n c) n (l.flatMap encI)) (hn : n ≤ 1099511627776) :
    Calls Tryz.prog 99 #[.slice A n c, .func (.func 100) #[] #[]] w fun e w' => e = .returned (.tuple #[]) ∧ ∃ l' : List (Int × Int), l'.Perm l ∧ l'.Pairwise (fun x y => x.1 ≤ y.1) ∧
      w'.ownsRow B 25 2 (.slice A n c) n (l'.flatMap encI) ∧ w.grownBy w' (Value.slice A n c).ownBlock := by
  have hll := owns_len ho encI_len (by omega)
  have eg : ∀ args w, (callFunc 100 args).run Tryz.prog w = .ok (.enter 100 args) w := enters_of Tryz.func100 (by kernel_rfl) rfl
  by_cases h0 : n = 0
  · subst h0
    refine (AnyF.slices_SortFunc_none { Tryz.sortInterval with } A c _ w).mono ?_
    rintro e w' ⟨rfl, rfl⟩
    have hl0 : l = [] := List.length_eq_zero_iff.1 hll
    subst hl0
    exact ⟨rfl, [], List.Perm.refl _, List.Pairwise.nil, ho, grownBy_refl _ _⟩
  · obtain ⟨g, rfl, hg⟩ := owns_some' ho (by omega)
    have hcmp : CmpLays Tryz.prog 100 #[] encI 2 firstC g 0 l.toArray.size w := fun _ _ _ _ x y => ivsCmp x y _
    have hcon := AnyQ.slices_SortFunc Tryz.sortInterval 2 Tryz.isAgg25 Tryz.sizeOf25 encI encI_len (fun x v hv => by simp [encI] at hv; rcases hv with rfl | rfl <;> rfl) firstC firstC_swo 100 #[] g 0 c l.toArray w eg hcmp (holdsK_own encI_len ho) hg (by simp; omega)
    rw [show l.toArray.size = n by simpa using hll] at hcon
    refine hcon.mono ?_
    rintro e w' ⟨rfl, d', m, os, hp, hs, rfl⟩
    have hsz : d'.size = l.length := by have := hp.1; simpa using this
    obtain ⟨h1, h2⟩ := ownsK_sorted encI_len ho m os d' hsz hll
    refine ⟨rfl, d'.toList, ?_, ?_, h1, h2⟩
    · have := hp.2.2
      rw [show (l.toArray.extract 0 n).toList = l by rw [← hll]; simp, show (d'.extract 0 n).toList = d'.toList by rw [← hll, ← hsz]; simp] at this
      exact this
    · rw [List.pairwise_iff_getElem]
      intro i j hi hj hij
      rw [Array.length_toList] at hi hj
      have := hs i j (Nat.zero_le _) hij (by omega)
      rw [firstC_lt, getElem!_pos d' j hj, getElem!_pos d' i hi] at this
      simp only [decide_eq_false_iff_not, Int.not_lt] at this
      simpa using this
/-- One interval is put to those that are there. -/
def ivStep (o : List (Int × Int)) (x : Int × Int) : List (Int × Int) :=
  match o.getLast? with
  | some y => if x.1 ≤ y.2 ∨ x.1 - 1 = y.2 then o.dropLast ++ [(y.1, max y.2 x.2)] else o ++ [x]
  | none => [x]
def ivMerge (l : List (Int × Int)) : List (Int × Int) := l.foldl ivStep []
theorem ivMerge_succ {l : List (Int × Int)} {k : Nat} {x : Int × Int} (hx : l[k]? = some x) : ivMerge (l.take (k + 1)) = ivStep (ivMerge (l.take k)) x := by
  obtain ⟨hk, e⟩ := List.getElem?_eq_some_iff.1 hx
  unfold ivMerge
  rw [List.take_succ_eq_append_getElem hk, List.foldl_append, e]
  rfl
theorem ivStep_len (o : List (Int × Int)) (x : Int × Int) : (ivStep o x).length ≤ o.length + 1 := by
  unfold ivStep
  split
  · rename_i y hy
    have : o ≠ [] := by rintro rfl; simp at hy
    have := List.length_pos_iff.2 this
    split
    · simp; try omega
    · simp
  · simp
theorem ivMerge_len (l : List (Int × Int)) (k : Nat) : (ivMerge (l.take k)).length ≤ k := by
  induction k with
  | zero => simp [ivMerge]
  | succ k ih =>
    cases hx : l[k]? with
    | none =>
      have : l.length ≤ k := by simpa using hx
      rw [List.take_of_length_le (by omega)]
      rw [List.take_of_length_le this] at ih
      exact Nat.le_succ_of_le ih
    | some x =>
      rw [ivMerge_succ hx]
      have := ivStep_len (ivMerge (l.take k)) x
      omega
theorem ivStep_lo {b : Int} {o : List (Int × Int)} {x : Int × Int} (ho : ∀ y ∈ o, b ≤ y.2) (hx : b ≤ x.2) : ∀ y ∈ ivStep o x, b ≤ y.2 := by
  intro y hy
  unfold ivStep at hy
  split at hy
  · rename_i z hz
    split at hy
    · rcases List.mem_append.1 hy with h | h
      · exact ho y (List.dropLast_subset _ h)
      · rw [List.mem_singleton.1 h]; show b ≤ max z.2 x.2; omega
    · rcases List.mem_append.1 hy with h | h
      · exact ho y h
      · rw [List.mem_singleton.1 h]; exact hx
  · rw [List.mem_singleton.1 hy]; exact hx
theorem ivMerge_lo {b : Int} {l : List (Int × Int)} (h : ∀ x ∈ l, b ≤ x.2) : ∀ y ∈ ivMerge l, b ≤ y.2 := by
  suffices ∀ o : List (Int × Int), (∀ y ∈ o, b ≤ y.2) → ∀ y ∈ l.foldl ivStep o, b ≤ y.2 from this [] (by simp)
  induction l with
  | nil => intro o ho; exact ho
  | cons x l ih => intro o ho; exact ih (fun z hz => h z (List.mem_cons_of_mem _ hz)) _ (ivStep_lo ho (h x List.mem_cons_self))
theorem ivStep_nil (x : Int × Int) : ivStep [] x = [x] := rfl
theorem ivStep_in (o : List (Int × Int)) (y x : Int × Int) (h : x.1 ≤ y.2 ∨ x.1 - 1 = y.2) : ivStep (o ++ [y]) x = o ++ [(y.1, max y.2 x.2)] := by
  unfold ivStep
  rw [List.getLast?_concat]
  simp only []
  rw [if_pos h, List.dropLast_concat]
theorem ivStep_out (o : List (Int × Int)) (y x : Int × Int) (h : ¬ (x.1 ≤ y.2 ∨ x.1 - 1 = y.2)) : ivStep (o ++ [y]) x = o ++ [y] ++ [x] := by
  unfold ivStep
  rw [List.getLast?_concat]
  simp only []
  rw [if_neg h]
theorem set_last (o : List (Int × Int)) (y : Int × Int) (u : Int) : ((o ++ [y]).flatMap encI).set (o.length * 2 + 1) (.int .i64 u) = (o ++ [(y.1, u)]).flatMap encI := by
  have hl := flatMap_length (enc := encI) encI_len o
  rw [List.flatMap_append, List.flatMap_append, List.set_append_right _ _ (by rw [hl]; omega), hl, Nat.add_sub_cancel_left]
  rfl
/-- What merge.Intervals hands back. -/
def IvsPost (l : List (Int × Int)) (w : World) (e : Ending) (w' : World) : Prop :=
  ∃ (v : Value) (d : List (Int × Int)), e = .returned v ∧ d.Perm (l.filter fun x => !decide (x.2 < x.1)) ∧ d.Pairwise (fun x y => x.1 ≤ y.1) ∧ w'.ownsRow w.heap.size 25 2 v (ivMerge d).length ((ivMerge d).flatMap encI) ∧ RowKit.Below w.heap.size w w'
set_option maxHeartbeats 4000000 in
set_option maxRecDepth 100000 in
theorem ivs_any (A : Option Addr) (n c : Nat) (l : List (Int × Int)) (w : World) (hL : Lst encI 2 w w.heap.size A n l) (hnil : A = none → n = 0 ∧ c = 0) (hn : n ≤ 1099511627776) (hw : ∀ x ∈ l, -9223372036854775808 ≤ x.1 ∧ x.1 ≤ 9223372036854775807 ∧ -9223372036854775808 ≤ x.2 ∧ x.2 ≤ 9223372036854775807) :
    Calls Tryz.prog 34 #[.slice A n c] w (IvsPost l w) := by
  obtain ⟨i0, hi, hz0, hz1, hz2⟩ := info_parts Tryz.infoInterval
  have HI := Lib.hid (show _ ∧ _ ∧ _ ∧ _ from ⟨hi, hz0, hz1, hz2⟩)
  have eg : ∀ args w, (callFunc 98 args).run Tryz.prog w = .ok (.enter 98 args) w := enters_of Tryz.func98 (by kernel_rfl) rfl
  have HC := Lib.hid (cloneInterval A n c l w hL hnil hn)
  have HEG := Lib.hid eg
  have HW := Lib.hid hw
  clear hi hz0 hz1 hz2 hL hnil eg hw
  go_enter Tryz.func34, Tryz.ntmps34
  go_wp2_with fail
  refine HC.out.mono ?_
  rintro e w1 ⟨v1, rfl, ho1, hb1⟩
  obtain ⟨A1, c1, rfl, hnc1, _⟩ := owns_slice ho1
  have H1 := Lib.hid (show _ ∧ _ from ⟨ho1, hb1⟩)
  clear ho1 hb1 HC
  go_wp2_with fail
  refine (deleteFuncInterval 98 #[] HEG.out (fun x => decide (x.2 < x.1)) A1 n c1 l w1 w.heap.size H1.out.1 hn (fun W _ => ivsDel W)).mono ?_
  rintro e w2 ⟨rfl, ho2, hg2⟩
  obtain ⟨l2, hl2⟩ : ∃ l2, l.filter (fun x => !decide (x.2 < x.1)) = l2 := ⟨_, rfl⟩
  rw [hl2] at ho2
  rw [hl2]
  have hn2 : l2.length ≤ n := by rw [← hl2]; have := List.length_filter_le (fun x : Int × Int => !decide (x.2 < x.1)) l; have h3 := owns_len H1.out.1 encI_len (by omega); omega
  have H2 := Lib.hid (show _ ∧ _ ∧ _ from ⟨ho2, H1.out.2.grown hg2 H1.out.2.size (fun k hk => (H1.out.1.lt k hk).1), hl2⟩)
  clear ho2 hg2 hl2
  go_wp2_with fail
  refine (ivsSort A1 l2.length c1 l2 w2 w.heap.size H2.out.1 (by omega)).mono ?_
  rintro e w3 ⟨rfl, d, hp, hs, ho3, hg3⟩
  have hdl : d.length = l2.length := hp.length_eq
  have H3 := Lib.hid (show _ ∧ _ ∧ _ ∧ _ from ⟨ho3, H2.out.2.1.grown hg3 H2.out.2.1.size (fun k hk => (H2.out.1.lt k hk).1), hp, hs⟩)
  have HDL := Lib.hid hdl
  obtain ⟨m, hm⟩ : ∃ m, l2.length = m := ⟨_, rfl⟩
  rw [hm]
  rw [hm] at hn2
  have HM := Lib.hid hm
  clear hp hs ho3 hg3 hdl hm
  go_wp2
  go_loopw [4, 6, 15] (fun v _ i wr => ∃ k : Nat, k ≤ m ∧ i = .int .i64 k ∧ Hid (wr.ownsRow w3.heap.size 25 2 v (ivMerge (d.take k)).length ((ivMerge (d.take k)).flatMap encI) ∧ RowKit.Below w3.heap.size w3 wr)) (fun _ _ i _ => m - (intOf i).toNat)
  case atStart => exact ⟨0, Nat.zero_le _, rfl, Lib.hid ⟨World.ownsRow_nil _ _ _ _, Below.refl _ _⟩⟩
  case round =>
    obtain ⟨k, hk, rfl, HR⟩ := hrel
    by_cases hlt : k < m
    · obtain ⟨x, hx⟩ : ∃ x, d[k]? = some x := ⟨_, List.getElem?_eq_getElem (by have := HDL.out; have := HM.out; omega)⟩
      obtain ⟨g1, rfl, hg1⟩ := owns_some' H3.out.1 (by have := HM.out; omega)
      have hcx0 := (HR.out.2.cell (p := ⟨g1, k * 2 + 0, none⟩) hg1).trans (owns_at H3.out.1 encI_len hx (j := 0) rfl)
      have hcx1 := (HR.out.2.cell (p := ⟨g1, k * 2 + 1, none⟩) hg1).trans (owns_at H3.out.1 encI_len hx (j := 1) rfl)
      simp only [Nat.add_zero] at hcx0
      have hst := ivMerge_succ hx
      have hml := ivMerge_len d k
      have hxm : x ∈ l := by
        have h1 := H3.out.2.2.1.mem_iff.1 (List.mem_of_getElem? hx)
        rw [← H2.out.2.2] at h1
        exact (List.mem_filter.1 h1).1
      have hxw := HW.out x hxm
      have hlo : ∀ y ∈ ivMerge (d.take k), -9223372036854775808 ≤ y.2 := ivMerge_lo fun y hy => by
        have h1 := H3.out.2.2.1.mem_iff.1 (List.mem_of_mem_take hy)
        rw [← H2.out.2.2] at h1
        exact (HW.out y (List.mem_filter.1 h1).1).2.2.1
      have hoR := HR.out.1
      have hbR := HR.out.2
      generalize ivMerge (d.take k) = o at hst hml hlo hoR
      have HST := Lib.hid hst
      have HO := Lib.hid hoR
      have HB := Lib.hid hbR
      clear hx hst hxm hoR hbR HR
      rcases (show o = [] ∨ ∃ o' y, o = o' ++ [y] by
        rcases List.eq_nil_or_concat o with h | ⟨o', y, h⟩
        · exact .inl h
        · exact .inr ⟨o', y, by rw [h, List.concat_eq_append]⟩) with rfl | ⟨o', y, rfl⟩
      · obtain ⟨Av, cv, rfl, _, _⟩ := owns_slice HO.out
        obtain ⟨hi, hz0, hz1, hz2⟩ := HI.out
        go_wp2_with (first | go_quiet (fail) | (at_builtin; refine wpList_append_own _ rfl _ _ 86 rfl w3.heap.size 25 i0 _ 2 16 Tryz.underlying86 hi hz0 hz1 hz2 rfl (by omega) _ 0 [] rfl (by exact (HO.out.alloc _).alloc _) ⟨wr.heap.size + 1, 0, none⟩ 1 1 (encI x) rfl rfl ?c1 ?c2 (by unfold maxLen; omega) (by omega) ?c3 ?_))
        case c1 => first | exact cells_at _ (by simp) (encI x) _ | exact fun j u h => h
        case c2 => exact fun u hu => by simp only [encI, List.mem_cons, List.not_mem_nil, or_false] at hu; rcases hu with rfl | rfl <;> rfl
        case c3 => (have := HB.out.size; first | (simp; omega) | omega)
        intro v' w5 hown5 hg5 _
        have hb5 : RowKit.Below w3.heap.size w3 w5 := by
          have h1 := (HB.out.alloc HB.out.size (.cells #[.int .i64 x.1, .int .i64 x.2] 25))
          have h2 := (below_drewN h1 nq).alloc (by simp; have := HB.out.size; omega) (.cells #[.int .i64 x.1, .int .i64 x.2] 25)
          exact h2.grown hg5 (by simp; have := HB.out.size; omega) (fun b hb => (HO.out.lt b hb).1)
        have H5 := Lib.hid (show _ ∧ _ from ⟨hown5, hb5⟩)
        clear hi hz0 hz1 hz2 hown5 hb5 hg5
        go_wp2
        go_roundw
        case measure => simp [intOf]; omega
        case rel => exact ⟨k + 1, hlt, by simp, Lib.hid ⟨by rw [HST.out, ivStep_nil]; simpa using H5.out.1, H5.out.2⟩⟩
      · obtain ⟨gv, cv, rfl, _, hgv⟩ := HO.out.form (by simp)
        have hol : (o' ++ [y]).length = o'.length + 1 := by simp
        rw [hol] at hml
        have hlo' := hlo y (by simp)
        have cy0 := owns_at HO.out encI_len (i := o'.length) (x := y) (by simp) (j := 0) rfl
        have cy1 := owns_at HO.out encI_len (i := o'.length) (x := y) (by simp) (j := 1) rfl
        simp only [Nat.add_zero] at cy0
        have fy1 := HO.out.frozenAt (o'.length * 2 + 1)
        obtain ⟨q, hq⟩ : ∃ q, o'.length = q := ⟨_, rfl⟩
        rw [hol] at HO
        rw [hol]
        rw [hq] at HO hml cy0 cy1 fy1
        rw [hq]
        have HQ := Lib.hid hq
        have hwr := HB.out.size
        clear hlo hq hol
        have hq0 : (0 : Int) ≤ (q : Int) := by omega
        have hw1 : IntKind.i64.wrap ((q : Int) + 1 - 1) = q := by rw [show (q : Int) + 1 - 1 = q by omega]; exact IntWalk.i64_in _ (by omega)
        by_cases h1 : x.1 ≤ y.2
        · have h1' : decide (x.1 ≤ y.2) = true := by simpa using h1
          have hin : ivMerge (d.take (k + 1)) = o' ++ [(y.1, max y.2 x.2)] := by rw [HST.out]; exact ivStep_in o' y x (.inl h1)
          have hst5 : ∀ z : Nat, (((wr.alloc (.cells #[.int .i64 x.1, .int .i64 x.2] 25)).drewN z).setCell ⟨gv, q * 2 + 1, none⟩ (.int .i64 (max y.2 x.2))).ownsRow w3.heap.size 25 2 (.slice (some ⟨gv, 0, none⟩) (q + 1) cv) (ivMerge (d.take (k + 1))).length ((ivMerge (d.take (k + 1))).flatMap encI) ∧
              RowKit.Below w3.heap.size w3 (((wr.alloc (.cells #[.int .i64 x.1, .int .i64 x.2] 25)).drewN z).setCell ⟨gv, q * 2 + 1, none⟩ (.int .i64 (max y.2 x.2))) := by
            intro z
            have h5 : ((wr.alloc (.cells #[.int .i64 x.1, .int .i64 x.2] 25)).drewN z).ownsRow w3.heap.size 25 2 (.slice (some ⟨gv, 0, none⟩) (q + 1) cv) (q + 1) ((o' ++ [y]).flatMap encI) := HO.out.alloc _
            have h6 := (h5.stored (q * 2 + 1) (.int .i64 (max y.2 x.2))).1
            have h7 := set_last o' y (max y.2 x.2)
            rw [HQ.out] at h7
            rw [h7] at h6
            refine ⟨by rw [hin, show (o' ++ [(y.1, max y.2 x.2)]).length = q + 1 by simp [HQ.out]]; exact h6, ?_⟩
            exact (below_drewN (HB.out.alloc HB.out.size _) z).setCell (p := ⟨gv, q * 2 + 1, none⟩) (HO.out.lt gv rfl).1 _
          have HF := Lib.hid hst5
          clear hin hst5
          go_wp2_with (go_quiet (fail))
          go_region
          all_goals
            go_wp2
            go_roundw
            case measure => simp [intOf]; omega
            case rel => exact ⟨k + 1, hlt, by simp, Lib.hid (HF.out _)⟩
        · have hxm1 : IntKind.i64.wrap (x.1 - 1) = x.1 - 1 := IntWalk.i64_in _ (by omega)
          by_cases h2 : x.1 - 1 = y.2
          · have h2b : (x.1 - 1 == y.2) = true := by simpa using h2
            have hin : ivMerge (d.take (k + 1)) = o' ++ [(y.1, max y.2 x.2)] := by rw [HST.out]; exact ivStep_in o' y x (.inr h2)
            have hst5 : ∀ z : Nat, (((wr.alloc (.cells #[.int .i64 x.1, .int .i64 x.2] 25)).drewN z).setCell ⟨gv, q * 2 + 1, none⟩ (.int .i64 (max y.2 x.2))).ownsRow w3.heap.size 25 2 (.slice (some ⟨gv, 0, none⟩) (q + 1) cv) (ivMerge (d.take (k + 1))).length ((ivMerge (d.take (k + 1))).flatMap encI) ∧
                RowKit.Below w3.heap.size w3 (((wr.alloc (.cells #[.int .i64 x.1, .int .i64 x.2] 25)).drewN z).setCell ⟨gv, q * 2 + 1, none⟩ (.int .i64 (max y.2 x.2))) := by
              intro z
              have h5 : ((wr.alloc (.cells #[.int .i64 x.1, .int .i64 x.2] 25)).drewN z).ownsRow w3.heap.size 25 2 (.slice (some ⟨gv, 0, none⟩) (q + 1) cv) (q + 1) ((o' ++ [y]).flatMap encI) := HO.out.alloc _
              have h6 := (h5.stored (q * 2 + 1) (.int .i64 (max y.2 x.2))).1
              have h7 := set_last o' y (max y.2 x.2)
              rw [HQ.out] at h7
              rw [h7] at h6
              refine ⟨by rw [hin, show (o' ++ [(y.1, max y.2 x.2)]).length = q + 1 by simp [HQ.out]]; exact h6, ?_⟩
              exact (below_drewN (HB.out.alloc HB.out.size _) z).setCell (p := ⟨gv, q * 2 + 1, none⟩) (HO.out.lt gv rfl).1 _
            have HF := Lib.hid hst5
            clear hin hst5
            go_wp2_with (go_quiet (fail))
            go_region
            all_goals
              go_wp2
              go_roundw
              case measure => simp [intOf]; omega
              case rel => exact ⟨k + 1, hlt, by simp, Lib.hid (HF.out _)⟩
          · have h2b : (x.1 - 1 == y.2) = false := by simpa using h2
            have hout : ivMerge (d.take (k + 1)) = o' ++ [y] ++ [x] := by rw [HST.out]; exact ivStep_out o' y x (fun h => h.elim h1 h2)
            have HF := Lib.hid hout
            clear hout
            obtain ⟨hi, hz0, hz1, hz2⟩ := HI.out
            go_wp2_with (first | go_quiet (fail) | (at_builtin; refine wpList_append_own _ rfl _ _ 86 rfl w3.heap.size 25 i0 _ 2 16 Tryz.underlying86 hi hz0 hz1 hz2 rfl (by omega) _ (q + 1) ((o' ++ [y]).flatMap encI) rfl (by exact (HO.out.alloc _).alloc _) ⟨wr.heap.size + 1, 0, none⟩ 1 1 (encI x) rfl rfl ?c1 ?c2 (by unfold maxLen; omega) (by omega) ?c3 ?_))
            case c1 => first | exact cells_at _ (by simp) (encI x) _ | exact fun j u h => h
            case c2 => exact fun u hu => by simp only [encI, List.mem_cons, List.not_mem_nil, or_false] at hu; rcases hu with rfl | rfl <;> rfl
            case c3 => (have := HB.out.size; first | (simp; omega) | omega)
            intro v' w5 hown5 hg5 _
            have hb5 : RowKit.Below w3.heap.size w3 w5 := by
              have h1 := (HB.out.alloc HB.out.size (.cells #[.int .i64 x.1, .int .i64 x.2] 25))
              have h2 := (below_drewN h1 nq).alloc (by simp; have := HB.out.size; omega) (.cells #[.int .i64 x.1, .int .i64 x.2] 25)
              exact h2.grown hg5 (by simp; have := HB.out.size; omega) (fun b hb => (HO.out.lt b hb).1)
            have H5 := Lib.hid (show _ ∧ _ from ⟨hown5, hb5⟩)
            clear hi hz0 hz1 hz2 hown5 hb5 hg5
            go_wp2
            go_roundw
            case measure => simp [intOf]; omega
            case rel => exact ⟨k + 1, hlt, by simp, Lib.hid ⟨by rw [HF.out, show (o' ++ [y] ++ [x]).length = q + 1 + 1 by simp [HQ.out]]; simpa using H5.out.1, H5.out.2⟩⟩
    · obtain rfl : k = m := by omega
      have hdk : d.take k = d := List.take_of_length_le (by rw [HDL.out, HM.out]; omega)
      have hF := HR.out.1
      rw [hdk] at hF
      have HF := Lib.hid hF
      clear hdk hF
      go_wp2
      go_ret
      refine ⟨_, d, rfl, by rw [H2.out.2.2]; exact H3.out.2.2.1, H3.out.2.2.2, owns_base HF.out H3.out.2.1.size, H3.out.2.1.trans (HR.out.2.mono H3.out.2.1.size)⟩
end Go.Proofs.YtihidnmpngeohaaGreat
