/- labels.Set and labels.Check. labels.Check. -/
import Derived.Test.YtajaijidecomdaaGreatDoorByName
namespace Go.Proofs.YtajaijidecomdaaGreatDoor
open Go.RowKit Go.Lib Go.Sort

/-- A label at its place among those by rising names. -/
def intoL (l : List Lb) (x : Lb) : List Lb := match l with
  | [] => [x]
  | y :: t => if nameC x y < 0 then x :: y :: t else y :: intoL t x
/-- The set of labels in any order. -/
def setL (l : List Lb) : List Lb := (l.filter fullV).foldl intoL []
def setE (l : List Lb) : Int := if l.any badS then 70 else if twiceN [] l then 71 else if 64 < (l.filter fullV).length then 72 else 0
def checkE (l : List Lb) : Int := if 64 < l.length then 72 else if l.any badC then 70 else if twiceN [] l then 71 else if upB l then 0 else 70
theorem intoL_perm (x : Lb) : ∀ l, (intoL l x).Perm (x :: l)
  | [] => List.Perm.refl _
  | y :: t => by
    unfold intoL
    split
    · exact List.Perm.refl _
    · exact ((intoL_perm x t).cons y).trans (List.Perm.swap x y t)
theorem intoL_up (x : Lb) : ∀ l, l.Pairwise (fun a b => ¬ nameC b a < 0) → (intoL l x).Pairwise (fun a b => ¬ nameC b a < 0)
  | [], _ => by simp [intoL]
  | y :: t, h => by
    unfold intoL
    obtain ⟨h1, h2⟩ := List.pairwise_cons.1 h
    split
    · rename_i hx
      refine List.pairwise_cons.2 ⟨fun z hz => ?_, h⟩
      have e1 := textC_cmp3.swap x.nm y.nm
      rcases List.mem_cons.1 hz with rfl | hz
      · unfold nameC at hx ⊢; omega
      · have h3 := h1 z hz
        have e2 := textC_cmp3.swap y.nm z.nm
        have e3 := textC_cmp3.swap x.nm z.nm
        unfold nameC at hx h3 ⊢
        have := textC_cmp3.le_trans (x := x.nm) (y := y.nm) (z := z.nm) (by omega) (by omega)
        omega
    · rename_i hx
      refine List.pairwise_cons.2 ⟨fun z hz => ?_, intoL_up x t h2⟩
      rcases List.mem_cons.1 ((intoL_perm x t).mem_iff.1 hz) with rfl | hz
      · exact hx
      · exact h1 z hz
theorem foldl_into (l : List Lb) : ∀ o : List Lb, o.Pairwise (fun a b => ¬ nameC b a < 0) → (l.foldl intoL o).Perm (o ++ l) ∧ (l.foldl intoL o).Pairwise (fun a b => ¬ nameC b a < 0) := by
  induction l with
  | nil => intro o ho; simpa using ho
  | cons x l ih =>
    intro o ho
    obtain ⟨h1, h2⟩ := ih (intoL o x) (intoL_up x o ho)
    refine ⟨h1.trans ?_, h2⟩
    have := ((intoL_perm x o).append_right l).trans (List.perm_middle (l₁ := o) (l₂ := l) (a := x)).symm
    exact this
/-- All names differ. -/
def Apart (l : List Lb) : Prop := l.Pairwise fun x y => x.nm.data.toList ≠ y.nm.data.toList
theorem twiceN_apart (l : List Lb) : ∀ seen, twiceN seen l = false → l.Pairwise (fun x y => x.nm.data.toList ≠ y.nm.data.toList) ∧ ∀ x ∈ l, x.nm.data.toList ∉ seen := by
  induction l with
  | nil => intro seen _; simp
  | cons x l ih =>
    intro seen h
    unfold twiceN at h
    split at h
    · cases h
    · rename_i hx
      obtain ⟨h1, h2⟩ := ih _ h
      refine ⟨List.pairwise_cons.2 ⟨fun y hy e => h2 y hy (by rw [← e]; simp), h1⟩, fun y hy => ?_⟩
      rcases List.mem_cons.1 hy with rfl | hy
      · exact hx
      · exact fun hm => h2 y hy (List.mem_cons_of_mem _ hm)
theorem setL_of {l l' : List Lb} (hp : l'.Perm (l.filter fullV)) (hu : l'.Pairwise fun x y => ¬ nameC y x < 0) (ha : twiceN [] l = false) : l' = setL l := by
  have hA := (twiceN_apart l [] ha).1
  obtain ⟨h1, h2⟩ := foldl_into (l.filter fullV) [] List.Pairwise.nil
  rw [List.nil_append] at h1
  refine List.Perm.eq_of_pairwise (le := fun x y => ¬ nameC y x < 0) (fun a b h3 h4 h5 h6 => ?_) hu h2 (hp.trans h1.symm)
  have e := textC_cmp3.swap a.nm b.nm
  have hz : textC a.nm b.nm = 0 := by unfold nameC at h5 h6; omega
  have hn := (textC_cmp3.zero _ _).1 hz
  have ma := (List.mem_filter.1 (hp.mem_iff.1 h3)).1
  have mb := (List.mem_filter.1 (h1.mem_iff.1 h4)).1
  rcases Classical.em (a = b) with h | h
  · exact h
  · exfalso
    rcases List.getElem_of_mem ma with ⟨i, hi, rfl⟩
    rcases List.getElem_of_mem mb with ⟨j, hj, rfl⟩
    have hij : i ≠ j := fun e => h (by subst e; rfl)
    rw [List.pairwise_iff_getElem] at hA
    rcases Nat.lt_or_gt_of_ne hij with h7 | h7
    · exact hA i j hi hj h7 (by rw [hn])
    · exact hA j i hj hi h7 (by rw [hn])
theorem badS_size {l : List Lb} (h : l.any badS = false) : ∀ x ∈ l, x.nm.size ≤ maxLen := by
  intro x hx
  have h1 := List.any_eq_false.1 h x hx
  unfold badS at h1
  have h2 : nameB x.nm.data.toList = true := by
    cases hn : nameB x.nm.data.toList with
    | true => rfl
    | false => rw [hn] at h1; exact absurd rfl h1
  have h3 : x.nm.data.toList.length ≤ 1024 := by
    unfold nameB at h2
    split at h2
    · cases h2
    · rename_i b t e
      rw [e]
      exact of_decide_eq_true (Bool.and_eq_true_iff.1 (Bool.and_eq_true_iff.1 h2).1).1
  have : x.nm.size = x.nm.data.toList.length := (Array.length_toList).symm
  unfold maxLen
  omega
theorem badC_size {l : List Lb} (h : l.any badC = false) : ∀ x ∈ l, x.nm.size ≤ maxLen := by
  refine badS_size (List.any_eq_false.2 fun x hx => ?_)
  have h1 := List.any_eq_false.1 h x hx
  unfold badC at h1
  unfold badS
  intro h2
  apply h1
  rcases Bool.or_eq_true_iff.1 h2 with h3 | h3 <;> rw [h3] <;> simp
theorem Tryz.enterCheck1 : ∀ args w, (callFunc 237 args).run Tryz.prog w = .ok (.enter 237 args) w := enters_of Tryz.func237 (by kernel_rfl) rfl
/-- What labels.Set leaves. -/
def SetPost (l : List Lb) (w : World) (e : Ending) (w' : World) : Prop :=
  ∃ v, e = .returned (.tuple #[v, .int .u16 (setE l)]) ∧ Below w.heap.size w w' ∧ (setE l ≠ 0 → v = .slice none 0 0) ∧ (setE l = 0 → w'.ownsRow w.heap.size 104 2 v (setL l).length ((setL l).flatMap Lb.cells))
end Go.Proofs.YtajaijidecomdaaGreatDoor
namespace Go.Proofs.YtajaijidecomdaaGreatDoor
open Go.RowKit Go.Lib Go.Sort

set_option maxHeartbeats 2000000 in
set_option maxRecDepth 100000 in
theorem check_any (A : Option Addr) (n c : Nat) (l : List Lb) (w : World) (hL : Lst Lb.cells 2 w w.heap.size A n l) (hbig : n ≤ 1099511627776) :
    Calls Tryz.prog 197 #[.slice A n c] w fun e w' => e = .returned (.int .u16 (checkE l)) ∧ Below w.heap.size w w' := by
  have hln := hL.1
  by_cases h64 : 64 < n
  · have he : checkE l = 72 := by unfold checkE; rw [hln, if_pos h64]
    have h64' : (64 : Int) < (n : Int) := by omega
    rw [he]
    clear hL
    go_enter Tryz.func197, Tryz.ntmps197
    go_wp2
    go_ret
    exact ⟨rfl, Below.refl _ _⟩
  · have h64' : ¬ (64 : Int) < (n : Int) := by omega
    have hc1 := containsLabel 237 Tryz.enterCheck1 badC checkBad A n c l w hL hbig
    have HL := Lib.hid hL
    cases hb : l.any badC with
    | true =>
      have he : checkE l = 70 := by unfold checkE; rw [hln, if_neg h64, hb]; rfl
      rw [hb] at hc1
      rw [he]
      clear hL
      go_enter Tryz.func197, Tryz.ntmps197
      go_wp2_with (go_at_call 239; refine hc1.mono ?_; rintro e w1 ⟨rfl, hb1⟩)
      go_ret
      exact ⟨rfl, hb1⟩
    | false =>
      rw [hb] at hc1
      have hc2 : ∀ w1, Below w.heap.size w w1 → Calls Tryz.prog 240 #[.slice A n c] w1 fun e w' => e = .returned (.bool (twiceN [] l)) ∧ Below w1.heap.size w1 w' := fun w1 h1 => twice_any A n c l w1 ((HL.out.below h1).more h1.size) hbig (badC_size hb)
      have hc3 : ∀ w1, Below w.heap.size w w1 → Calls Tryz.prog 241 #[.slice A n c, .func (.func 242) #[] #[]] w1 fun e w' => e = .returned (.bool (upB l)) ∧ Below w1.heap.size w1 w' := fun w1 h1 => isUp A n c l w1 ((HL.out.below h1).more h1.size) hbig
      have HC := Lib.hid (show _ ∧ _ from ⟨hc2, hc3⟩)
      clear hc2 hc3
      cases ht : twiceN [] l with
      | true =>
        have he : checkE l = 71 := by unfold checkE; rw [hln, if_neg h64, hb, ht]; rfl
        have HE := Lib.hid he
        clear he hb hL
        go_enter Tryz.func197, Tryz.ntmps197
        go_wp2_with (first
          | (go_at_call 239; refine hc1.mono ?_; rintro e w1 ⟨rfl, hb1⟩; have H1 := Lib.hid hb1; clear hb1)
          | (go_at_call 240; refine (HC.out.1 w1 H1.out).mono ?_; rw [ht]; rintro e w2 ⟨rfl, hb2⟩; have H2 := Lib.hid (H1.out.trans (hb2.mono H1.out.size)); clear hb2))
        go_ret
        exact ⟨by rw [HE.out]; rfl, H2.out⟩
      | false =>
        cases hu : upB l with
        | true =>
          have he : checkE l = 0 := by unfold checkE; rw [hln, if_neg h64, hb, ht, hu]; rfl
          have HE := Lib.hid he
          clear he hb hL
          go_enter Tryz.func197, Tryz.ntmps197
          go_wp2_with (first
            | (go_at_call 239; refine hc1.mono ?_; rintro e w1 ⟨rfl, hb1⟩; have H1 := Lib.hid hb1; clear hb1)
            | (go_at_call 240; refine (HC.out.1 w1 H1.out).mono ?_; rw [ht]; rintro e w2 ⟨rfl, hb2⟩; have H2 := Lib.hid (H1.out.trans (hb2.mono H1.out.size)); clear hb2)
            | (go_at_call 241; refine (HC.out.2 w2 H2.out).mono ?_; rw [hu]; rintro e w3 ⟨rfl, hb3⟩; have H3 := Lib.hid (H2.out.trans (hb3.mono H2.out.size)); clear hb3))
          go_ret
          exact ⟨by rw [HE.out]; rfl, H3.out⟩
        | false =>
          have he : checkE l = 70 := by unfold checkE; rw [hln, if_neg h64, hb, ht, hu]; rfl
          have HE := Lib.hid he
          clear he hb hL
          go_enter Tryz.func197, Tryz.ntmps197
          go_wp2_with (first
            | (go_at_call 239; refine hc1.mono ?_; rintro e w1 ⟨rfl, hb1⟩; have H1 := Lib.hid hb1; clear hb1)
            | (go_at_call 240; refine (HC.out.1 w1 H1.out).mono ?_; rw [ht]; rintro e w2 ⟨rfl, hb2⟩; have H2 := Lib.hid (H1.out.trans (hb2.mono H1.out.size)); clear hb2)
            | (go_at_call 241; refine (HC.out.2 w2 H2.out).mono ?_; rw [hu]; rintro e w3 ⟨rfl, hb3⟩; have H3 := Lib.hid (H2.out.trans (hb3.mono H2.out.size)); clear hb3))
          go_ret
          exact ⟨by rw [HE.out]; rfl, H3.out⟩
end Go.Proofs.YtajaijidecomdaaGreatDoor
