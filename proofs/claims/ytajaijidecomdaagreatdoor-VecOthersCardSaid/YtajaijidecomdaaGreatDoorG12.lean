/- slices.SortFunc and slices.IsSortedFunc of labels by their names. labels.Set and labels.Check. labels.Check. Bytes of the call's own; bytes as a text. Lists of texts: what the walks over them ask. Written by mk1.py. -/
import Derived.Test.YtajaijidecomdaaGreatDoorG11
import Derived.Test.YtajaijidecomdaaGreatDoorG09
import Derived.Shelf.SlSortCmp.NoneTotal
import Derived.Deep.RegionHeld3
import Derived.Test.YtajaijidecomdaaGreatDoorG03
import Derived.Lib.AppendStr
import Derived.Laws.BytesArg
import Derived.OwnWalk
import Derived.BigQuiet
import Derived.LoopN
import Derived.Test.YtajaijidecomdaaGreatDoorG02
namespace Go.Proofs.YtajaijidecomdaaGreatDoor
open Go.RowKit Go.Lib Go.Sort

theorem byName_any (x y : Lb) (W : World) : Calls Tryz.prog 242 #[.agg #[.string x.nm, .string x.vl], .agg #[.string y.nm, .string y.vl]] W fun e w' => e = .returned (.int .i64 (nameC x y)) ∧ Below W.heap.size W w' := by
  have hcon := fun W' => compare_str x.nm y.nm W'
  change ∀ W', Calls _ _ _ _ (fun e w' => e = .returned (.int .i64 (nameC x y)) ∧ w' = W') at hcon
  generalize nameC x y = r at hcon ⊢
  go_enter Tryz.func242, Tryz.ntmps242
  go_wp2_with (go_at_call 217; refine (hcon _).mono ?_; rintro e w' ⟨rfl, rfl⟩)
  go_ret
  exact ⟨rfl, ((Below.refl _ _).alloc (Nat.le_refl _) _).alloc (by simp) _⟩
theorem nameC_lt (x y : Lb) : ltOf nameC x y = decide (nameC x y < 0) := rfl
theorem nameC_swo : SWO (ltOf nameC) where
  irrefl x := by
    rw [nameC_lt]
    have := textC_cmp3.self x.nm
    exact decide_eq_false (by unfold nameC; omega)
  trans x y z h1 h2 := by
    rw [nameC_lt] at *
    exact decide_eq_true (textC_cmp3.trans _ _ _ (of_decide_eq_true h1) (of_decide_eq_true h2))
  ntrans x y z h1 h2 := by
    rw [nameC_lt] at *
    have h3 := of_decide_eq_false h1
    have h4 := of_decide_eq_false h2
    unfold nameC at h3 h4
    have e1 := textC_cmp3.swap x.nm y.nm
    have e2 := textC_cmp3.swap y.nm z.nm
    have e3 := textC_cmp3.swap x.nm z.nm
    have h5 := textC_cmp3.le_trans (x := z.nm) (y := y.nm) (z := x.nm) (by omega) (by omega)
    exact decide_eq_false (by unfold nameC; omega)
/-- Does each stand not ahead of the one before? -/
def upB (l : List Lb) : Bool := decide (∀ j, j < l.length - 1 → ¬ nameC (l[j + 1]!) (l[j]!) < 0)
theorem cell_seen {w w' : World} (hb : Below w.heap.size w w') {p : Addr} {v : Value} (h : w.cell? p = some v) : w'.cell? p = some v := (hb.cell (World.block_lt_of_cell? w _ h)).trans h
theorem cell_seen4 {w w' : World} (hb : Below w.heap.size w w') {p1 p2 p3 p4 : Addr} {v1 v2 v3 v4 : Value} (h : w.cell? p1 = some v1 ∧ w.cell? p2 = some v2 ∧ w.cell? p3 = some v3 ∧ w.cell? p4 = some v4) :
    w'.cell? p1 = some v1 ∧ w'.cell? p2 = some v2 ∧ w'.cell? p3 = some v3 ∧ w'.cell? p4 = some v4 :=
  ⟨cell_seen hb h.1, cell_seen hb h.2.1, cell_seen hb h.2.2.1, cell_seen hb h.2.2.2⟩
set_option maxHeartbeats 2000000 in
set_option maxRecDepth 100000 in
theorem isUp (A : Option Addr) (n c : Nat) (l : List Lb) (w : World) (hL : Lst Lb.cells 2 w w.heap.size A n l) (hbig : n ≤ 1099511627776) :
    Calls Tryz.prog 241 #[.slice A n c, .func (.func 242) #[] #[]] w fun e w' => e = .returned (.bool (upB l)) ∧ Below w.heap.size w w' := by
  have eg : ∀ args w, (callFunc 242 args).run Tryz.prog w = .ok (.enter 242 args) w := enters_of Tryz.func242 (by kernel_rfl) rfl
  have HL := Lib.hid (show _ ∧ _ from ⟨hL, eg⟩)
  have hln := hL.1
  clear hL eg
  by_cases h0 : n = 0
  · have hu : upB l = true := decide_eq_true (fun j hj => absurd hj (by omega))
    rw [hu]
    subst h0
    clear HL hln hu
    go_enter Tryz.func241, Tryz.ntmps241
    go_wp2
    refine wp_loop_rounds 1 ?_
    rw [rounds_succ]
    go_wp2
    go_ret
    exact ⟨rfl, Below.refl _ _⟩
  have HN := Lib.hid hln
  clear hln
  go_enter Tryz.func241, Tryz.ntmps241
  go_wp2
  go_loopw [5] (fun i wr => ∃ k : Nat, k ≤ n - 1 ∧ i = .int .i64 k ∧ Hid (∀ j, k ≤ j → j < n - 1 → ¬ nameC (l[j + 1]!) (l[j]!) < 0) ∧ Below w.heap.size w wr) (fun i _ => (intOf i).toNat)
  case atStart => exact ⟨n - 1, Nat.le_refl _, by congr 1; omega, Lib.hid (fun j h1 h2 => absurd h2 (by omega)), Below.refl _ _⟩
  case round =>
    obtain ⟨k, hk, rfl, HR, hbl⟩ := hrel
    by_cases hk0 : k = 0
    · subst hk0
      have hu : upB l = true := decide_eq_true (fun j hj => HR.out j (Nat.zero_le _) (by rw [← HN.out]; exact hj))
      have HX := Lib.hid hu
      clear hu
      go_wp2
      go_ret
      exact ⟨by rw [HX.out]; rfl, hbl⟩
    · obtain ⟨m, hm⟩ : ∃ m, k = m + 1 := ⟨k - 1, by omega⟩
      obtain ⟨b, off, x, rfl, hb, hx, hcl⟩ := HL.out.1.at (k := k) (by omega)
      obtain ⟨b', off', y, hA, _, hy, hcm⟩ := HL.out.1.at (k := m) (by omega)
      cases hA
      have c0 := (hbl.cell (p := ⟨b, off + k * 2 + 0, none⟩) hb).trans (hcl 0 _ rfl)
      have c1 := (hbl.cell (p := ⟨b, off + k * 2 + 1, none⟩) hb).trans (hcl 1 _ rfl)
      have d0 := (hbl.cell (p := ⟨b, off + m * 2 + 0, none⟩) hb).trans (hcm 0 _ rfl)
      have d1 := (hbl.cell (p := ⟨b, off + m * 2 + 1, none⟩) hb).trans (hcm 1 _ rfl)
      simp only [Nat.add_zero] at c0 d0
      have hw1 : IntKind.i64.wrap ((k : Int) - 1) = (m : Int) := by rw [show (k : Int) - 1 = m by omega]; exact IntWalk.i64_in _ (by omega)
      have i0 : (0 : Int) < (k : Int) := by omega
      have i1 : (0 : Int) ≤ (k : Int) := by omega
      have i2 : (k : Int) < (n : Int) := by omega
      have i3 : (0 : Int) ≤ (m : Int) := by omega
      have i4 : (m : Int) < (n : Int) := by omega
      have ex : l[m + 1]! = x := by rw [← hm]; obtain ⟨h1, h2⟩ := List.getElem?_eq_some_iff.1 hx; rw [getElem!_pos l k h1, h2]
      have ey : l[m]! = y := by obtain ⟨h1, h2⟩ := List.getElem?_eq_some_iff.1 hy; rw [getElem!_pos l m h1, h2]
      have hc := fun W => byName_any x y W
      have hstep : (∀ j, m ≤ j → j < n - 1 → ¬ nameC (l[j + 1]!) (l[j]!) < 0) ↔ ¬ nameC x y < 0 := by
        constructor
        · intro h; have := h m (Nat.le_refl _) (by omega); rwa [ex, ey] at this
        · intro h j h1 h2
          by_cases e : j = m
          · rw [e, ex, ey]; exact h
          · exact HR.out j (by omega) h2
      have hfalse : nameC x y < 0 → upB l = false := fun h => decide_eq_false (fun g => by have := g m (by rw [HN.out]; omega); rw [ex, ey] at this; exact this h)
      generalize nameC x y = r at hc hstep hfalse
      have HM := Lib.hid (show _ ∧ _ ∧ _ ∧ _ from ⟨hm, hstep, hfalse, hbl⟩)
      clear hm hstep hfalse hx hy hcl hcm ex ey hbl hk0
      obtain ⟨z, hz⟩ : ∃ z, decide (r < 0) = z := ⟨_, rfl⟩
      have HZ := Lib.hid hz
      go_wp2_with fail
      go_region_held3 (fun w' => w'.cell? ⟨b, off + k * 2, none⟩ = some (.string x.nm) ∧ w'.cell? ⟨b, off + k * 2 + 1, none⟩ = some (.string x.vl) ∧ w'.cell? ⟨b, off + m * 2, none⟩ = some (.string y.nm) ∧ w'.cell? ⟨b, off + m * 2 + 1, none⟩ = some (.string y.vl)) (first | exact k6 | exact ⟨c0, c1, d0, d1⟩)
        (first | (go_at_call 242; refine (hc _).mono ?_; rintro e w' ⟨rfl, hbw⟩; have HB1 := Lib.hid ((below_drewN HM.out.2.2.2 1).trans (hbw.mono (below_drewN HM.out.2.2.2 1).size)); have k6 := cell_seen4 hbw (by assumption); clear hbw))
      cases z with
      | true =>
        go_wp2
        go_ret
        exact ⟨by rw [HM.out.2.2.1 (of_decide_eq_true HZ.out)]; rfl, HB1.out⟩
      | false =>
        go_wp2
        go_roundw
        case measure => have := HM.out.1; simp [intOf]; omega
        case rel => exact ⟨m, by have := HM.out.1; omega, rfl, Lib.hid (fun j h1 h2 => by have := (HM.out.2.1.2 (by have := of_decide_eq_false HZ.out; omega)) j h1 h2; omega), HB1.out⟩
end Go.Proofs.YtajaijidecomdaaGreatDoor
namespace Go.Proofs.YtajaijidecomdaaGreatDoor
open Go.RowKit Go.Lib Go.Sort

/-- A label at its place among those by rising names. -/
def intoL (l : List Lb) (x : Lb) : List Lb := match l with
  | [] => [x]
  | y :: t => if nameC x y < 0 then x :: y :: t else y :: intoL t x
/-- The set of labels in any order. -/
def setL (l : List Lb) : List Lb := (l.filter fullV).foldl intoL []
def setE (l : List Lb) : Int := if l.any badS then 70 else if twiceN [] l then 71 else if 64 < (l.filter fullV).length then 72 else 0
def checkE (l : List Lb) : Int := if 64 < l.length then 72 else if l.any badC then 70 else if twiceN [] l then 71 else if upB l then 0 else 70
theorem intoL_perm (x : Lb) : ∀ l, (intoL l x).Perm (x :: l)
  | [] => List.Perm.refl _
  | y :: t => by
    unfold intoL
    split
    · exact List.Perm.refl _
    · exact ((intoL_perm x t).cons y).trans (List.Perm.swap x y t)
theorem intoL_up (x : Lb) : ∀ l, l.Pairwise (fun a b => ¬ nameC b a < 0) → (intoL l x).Pairwise (fun a b => ¬ nameC b a < 0)
  | [], _ => by simp [intoL]
  | y :: t, h => by
    unfold intoL
    obtain ⟨h1, h2⟩ := List.pairwise_cons.1 h
    split
    · rename_i hx
      refine List.pairwise_cons.2 ⟨fun z hz => ?_, h⟩
      have e1 := textC_cmp3.swap x.nm y.nm
      rcases List.mem_cons.1 hz with rfl | hz
      · unfold nameC at hx ⊢; omega
      · have h3 := h1 z hz
        have e2 := textC_cmp3.swap y.nm z.nm
        have e3 := textC_cmp3.swap x.nm z.nm
        unfold nameC at hx h3 ⊢
        have := textC_cmp3.le_trans (x := x.nm) (y := y.nm) (z := z.nm) (by omega) (by omega)
        omega
    · rename_i hx
      refine List.pairwise_cons.2 ⟨fun z hz => ?_, intoL_up x t h2⟩
      rcases List.mem_cons.1 ((intoL_perm x t).mem_iff.1 hz) with rfl | hz
      · exact hx
      · exact h1 z hz
theorem foldl_into (l : List Lb) : ∀ o : List Lb, o.Pairwise (fun a b => ¬ nameC b a < 0) → (l.foldl intoL o).Perm (o ++ l) ∧ (l.foldl intoL o).Pairwise (fun a b => ¬ nameC b a < 0) := by
  induction l with
  | nil => intro o ho; simpa using ho
  | cons x l ih =>
    intro o ho
    obtain ⟨h1, h2⟩ := ih (intoL o x) (intoL_up x o ho)
    refine ⟨h1.trans ?_, h2⟩
    have := ((intoL_perm x o).append_right l).trans (List.perm_middle (l₁ := o) (l₂ := l) (a := x)).symm
    exact this
/-- All names differ. -/
def Apart (l : List Lb) : Prop := l.Pairwise fun x y => x.nm.data.toList ≠ y.nm.data.toList
theorem twiceN_apart (l : List Lb) : ∀ seen, twiceN seen l = false → l.Pairwise (fun x y => x.nm.data.toList ≠ y.nm.data.toList) ∧ ∀ x ∈ l, x.nm.data.toList ∉ seen := by
  induction l with
  | nil => intro seen _; simp
  | cons x l ih =>
    intro seen h
    unfold twiceN at h
    split at h
    · cases h
    · rename_i hx
      obtain ⟨h1, h2⟩ := ih _ h
      refine ⟨List.pairwise_cons.2 ⟨fun y hy e => h2 y hy (by rw [← e]; simp), h1⟩, fun y hy => ?_⟩
      rcases List.mem_cons.1 hy with rfl | hy
      · exact hx
      · exact fun hm => h2 y hy (List.mem_cons_of_mem _ hm)
theorem setL_of {l l' : List Lb} (hp : l'.Perm (l.filter fullV)) (hu : l'.Pairwise fun x y => ¬ nameC y x < 0) (ha : twiceN [] l = false) : l' = setL l := by
  have hA := (twiceN_apart l [] ha).1
  obtain ⟨h1, h2⟩ := foldl_into (l.filter fullV) [] List.Pairwise.nil
  rw [List.nil_append] at h1
  refine List.Perm.eq_of_pairwise (le := fun x y => ¬ nameC y x < 0) (fun a b h3 h4 h5 h6 => ?_) hu h2 (hp.trans h1.symm)
  have e := textC_cmp3.swap a.nm b.nm
  have hz : textC a.nm b.nm = 0 := by unfold nameC at h5 h6; omega
  have hn := (textC_cmp3.zero _ _).1 hz
  have ma := (List.mem_filter.1 (hp.mem_iff.1 h3)).1
  have mb := (List.mem_filter.1 (h1.mem_iff.1 h4)).1
  rcases Classical.em (a = b) with h | h
  · exact h
  · exfalso
    rcases List.getElem_of_mem ma with ⟨i, hi, rfl⟩
    rcases List.getElem_of_mem mb with ⟨j, hj, rfl⟩
    have hij : i ≠ j := fun e => h (by subst e; rfl)
    rw [List.pairwise_iff_getElem] at hA
    rcases Nat.lt_or_gt_of_ne hij with h7 | h7
    · exact hA i j hi hj h7 (by rw [hn])
    · exact hA j i hj hi h7 (by rw [hn])
theorem badS_size {l : List Lb} (h : l.any badS = false) : ∀ x ∈ l, x.nm.size ≤ maxLen := by
  intro x hx
  have h1 := List.any_eq_false.1 h x hx
  unfold badS at h1
  have h2 : nameB x.nm.data.toList = true := by
    cases hn : nameB x.nm.data.toList with
    | true => rfl
    | false => rw [hn] at h1; exact absurd rfl h1
  have h3 : x.nm.data.toList.length ≤ 1024 := by
    unfold nameB at h2
    split at h2
    · cases h2
    · rename_i b t e
      rw [e]
      exact of_decide_eq_true (Bool.and_eq_true_iff.1 (Bool.and_eq_true_iff.1 h2).1).1
  have : x.nm.size = x.nm.data.toList.length := (Array.length_toList).symm
  unfold maxLen
  omega
theorem badC_size {l : List Lb} (h : l.any badC = false) : ∀ x ∈ l, x.nm.size ≤ maxLen := by
  refine badS_size (List.any_eq_false.2 fun x hx => ?_)
  have h1 := List.any_eq_false.1 h x hx
  unfold badC at h1
  unfold badS
  intro h2
  apply h1
  rcases Bool.or_eq_true_iff.1 h2 with h3 | h3 <;> rw [h3] <;> simp
theorem Tryz.enterCheck1 : ∀ args w, (callFunc 237 args).run Tryz.prog w = .ok (.enter 237 args) w := enters_of Tryz.func237 (by kernel_rfl) rfl
/-- What labels.Set leaves. -/
def SetPost (l : List Lb) (w : World) (e : Ending) (w' : World) : Prop :=
  ∃ v, e = .returned (.tuple #[v, .int .u16 (setE l)]) ∧ Below w.heap.size w w' ∧ (setE l ≠ 0 → v = .slice none 0 0) ∧ (setE l = 0 → w'.ownsRow w.heap.size 104 2 v (setL l).length ((setL l).flatMap Lb.cells))
end Go.Proofs.YtajaijidecomdaaGreatDoor
namespace Go.Proofs.YtajaijidecomdaaGreatDoor
open Go.RowKit Go.Lib Go.Sort

set_option maxHeartbeats 2000000 in
set_option maxRecDepth 100000 in
theorem check_any (A : Option Addr) (n c : Nat) (l : List Lb) (w : World) (hL : Lst Lb.cells 2 w w.heap.size A n l) (hbig : n ≤ 1099511627776) :
    Calls Tryz.prog 197 #[.slice A n c] w fun e w' => e = .returned (.int .u16 (checkE l)) ∧ Below w.heap.size w w' := by
  have hln := hL.1
  by_cases h64 : 64 < n
  · have he : checkE l = 72 := by unfold checkE; rw [hln, if_pos h64]
    have h64' : (64 : Int) < (n : Int) := by omega
    rw [he]
    clear hL
    go_enter Tryz.func197, Tryz.ntmps197
    go_wp2
    go_ret
    exact ⟨rfl, Below.refl _ _⟩
  · have h64' : ¬ (64 : Int) < (n : Int) := by omega
    have hc1 := containsLabel 237 Tryz.enterCheck1 badC checkBad A n c l w hL hbig
    have HL := Lib.hid hL
    cases hb : l.any badC with
    | true =>
      have he : checkE l = 70 := by unfold checkE; rw [hln, if_neg h64, hb]; rfl
      rw [hb] at hc1
      rw [he]
      clear hL
      go_enter Tryz.func197, Tryz.ntmps197
      go_wp2_with (go_at_call 239; refine hc1.mono ?_; rintro e w1 ⟨rfl, hb1⟩)
      go_ret
      exact ⟨rfl, hb1⟩
    | false =>
      rw [hb] at hc1
      have hc2 : ∀ w1, Below w.heap.size w w1 → Calls Tryz.prog 240 #[.slice A n c] w1 fun e w' => e = .returned (.bool (twiceN [] l)) ∧ Below w1.heap.size w1 w' := fun w1 h1 => twice_any A n c l w1 ((HL.out.below h1).more h1.size) hbig (badC_size hb)
      have hc3 : ∀ w1, Below w.heap.size w w1 → Calls Tryz.prog 241 #[.slice A n c, .func (.func 242) #[] #[]] w1 fun e w' => e = .returned (.bool (upB l)) ∧ Below w1.heap.size w1 w' := fun w1 h1 => isUp A n c l w1 ((HL.out.below h1).more h1.size) hbig
      have HC := Lib.hid (show _ ∧ _ from ⟨hc2, hc3⟩)
      clear hc2 hc3
      cases ht : twiceN [] l with
      | true =>
        have he : checkE l = 71 := by unfold checkE; rw [hln, if_neg h64, hb, ht]; rfl
        have HE := Lib.hid he
        clear he hb hL
        go_enter Tryz.func197, Tryz.ntmps197
        go_wp2_with (first
          | (go_at_call 239; refine hc1.mono ?_; rintro e w1 ⟨rfl, hb1⟩; have H1 := Lib.hid hb1; clear hb1)
          | (go_at_call 240; refine (HC.out.1 w1 H1.out).mono ?_; rw [ht]; rintro e w2 ⟨rfl, hb2⟩; have H2 := Lib.hid (H1.out.trans (hb2.mono H1.out.size)); clear hb2))
        go_ret
        exact ⟨by rw [HE.out]; rfl, H2.out⟩
      | false =>
        cases hu : upB l with
        | true =>
          have he : checkE l = 0 := by unfold checkE; rw [hln, if_neg h64, hb, ht, hu]; rfl
          have HE := Lib.hid he
          clear he hb hL
          go_enter Tryz.func197, Tryz.ntmps197
          go_wp2_with (first
            | (go_at_call 239; refine hc1.mono ?_; rintro e w1 ⟨rfl, hb1⟩; have H1 := Lib.hid hb1; clear hb1)
            | (go_at_call 240; refine (HC.out.1 w1 H1.out).mono ?_; rw [ht]; rintro e w2 ⟨rfl, hb2⟩; have H2 := Lib.hid (H1.out.trans (hb2.mono H1.out.size)); clear hb2)
            | (go_at_call 241; refine (HC.out.2 w2 H2.out).mono ?_; rw [hu]; rintro e w3 ⟨rfl, hb3⟩; have H3 := Lib.hid (H2.out.trans (hb3.mono H2.out.size)); clear hb3))
          go_ret
          exact ⟨by rw [HE.out]; rfl, H3.out⟩
        | false =>
          have he : checkE l = 70 := by unfold checkE; rw [hln, if_neg h64, hb, ht, hu]; rfl
          have HE := Lib.hid he
          clear he hb hL
          go_enter Tryz.func197, Tryz.ntmps197
          go_wp2_with (first
            | (go_at_call 239; refine hc1.mono ?_; rintro e w1 ⟨rfl, hb1⟩; have H1 := Lib.hid hb1; clear hb1)
            | (go_at_call 240; refine (HC.out.1 w1 H1.out).mono ?_; rw [ht]; rintro e w2 ⟨rfl, hb2⟩; have H2 := Lib.hid (H1.out.trans (hb2.mono H1.out.size)); clear hb2)
            | (go_at_call 241; refine (HC.out.2 w2 H2.out).mono ?_; rw [hu]; rintro e w3 ⟨rfl, hb3⟩; have H3 := Lib.hid (H2.out.trans (hb3.mono H2.out.size)); clear hb3))
          go_ret
          exact ⟨by rw [HE.out]; rfl, H3.out⟩
end Go.Proofs.YtajaijidecomdaaGreatDoor
namespace Go.Proofs.YtajaijidecomdaaGreatDoor
open Go.RowKit Go.Lib

theorem Tryz.infoByte : (Tryz.prog.info? 5).map (fun i => (i.zero, i.size, i.bytes)) = some (some (.int .u8 0), 1, 1) := by kernel_rfl
def bytesV (l : List UInt8) : List Value := l.map fun b => Value.int .u8 b.toNat
theorem byte_ne {b c : UInt8} (h : b ≠ c) : ((b.toNat : Int) == (c.toNat : Int)) = false := by
  rw [beq_eq_false_iff_ne]
  exact fun e => h (UInt8.toNat_inj.1 (by omega))
theorem strOfNums_bytes (l : List UInt8) : strOfNums (l.map fun b => (b.toNat : Int)) = ⟨l.toArray⟩ := by
  unfold strOfNums
  congr 2
  rw [List.map_map]
  conv => rhs; rw [← List.map_id l]
  apply List.map_congr_left
  intro b _
  simp
/-- Bytes of the call's own as a text. -/
theorem own_text {w : World} {B n : Nat} {v : Value} {l : List UInt8} (h : w.ownsRow B 5 1 v n (bytesV l)) : (convert 176 9 v).run Tryz.prog w = .ok (.string ⟨l.toArray⟩) w := by
  have hlen : l.length = n := by have := h.1; unfold bytesV at this; simpa using this
  rcases h.2 with ⟨rfl, rfl⟩ | ⟨g, cap, cur, rfl, _, _, _, _, _, _⟩
  · obtain rfl := List.length_eq_zero_iff.1 hlen
    exact run_convert_bytes_nil w 176 5 (by kernel_rfl) (by kernel_rfl) 0 0 9 (by kernel_rfl)
  · rw [← strOfNums_bytes]
    refine run_convert_bytes_arg w 176 5 (by kernel_rfl) (by kernel_rfl) g 0 n cap _ (by simpa using hlen) (fun i hi => ?_) 9 (by kernel_rfl)
    have hi' : i < l.length := by omega
    rw [Nat.zero_add]
    refine owns_cell h rfl ?_
    unfold bytesV
    simp [List.getElem?_eq_getElem hi']
theorem bytesV_append (a b : List UInt8) : bytesV (a ++ b) = bytesV a ++ bytesV b := by unfold bytesV; rw [List.map_append]
theorem bytesV_length (a : List UInt8) : (bytesV a).length = a.length := by unfold bytesV; rw [List.length_map]
theorem strCells_bytes (s : ByteArray) : strCells s = bytesV s.data.toList := rfl
theorem wrap_u8 (n : Nat) : IntKind.u8.wrap (n : Int) = ((UInt8.ofNat n).toNat : Int) := by
  unfold IntKind.wrap
  simp [UInt8.toNat_ofNat', IntKind.signed, IntKind.bits]
/-- A fresh row of one's own. -/
theorem owns_fresh {w : World} {B : Nat} (hB : B ≤ w.heap.size) (e : TypeId) (cs : List Value) (hm : cs.length ≤ maxLen) : (w.alloc (.cells cs.toArray e)).ownsRow B e 1 (.slice (some ⟨w.heap.size, 0, none⟩) cs.length cs.length) cs.length cs :=
  ⟨by simp, .inr ⟨w.heap.size, cs.length, cs.toArray, rfl, hB, heap_alloc_new w _, Nat.le_refl _, hm, by simp, by simp⟩⟩
end Go.Proofs.YtajaijidecomdaaGreatDoor
namespace Go.Proofs.YtajaijidecomdaaGreatDoor
open Go.RowKit Go.Lib

abbrev encTx (x : ByteArray) : List Value := [.string x]
theorem encTx_len (x : ByteArray) : (encTx x).length = 1 := rfl
theorem Tryz.infoText1 : (Tryz.prog.info? 9).map (fun i => (i.zero, i.size, i.bytes)) = some (some (.string ByteArray.empty), 1, 16) := by kernel_rfl
theorem oneTx (l : List ByteArray) : ∀ u ∈ l.flatMap encTx, u.oneCell' = true := by
  intro u hu
  obtain ⟨m, _, h⟩ := List.mem_flatMap.1 hu
  simp only [encTx, List.mem_cons, List.not_mem_nil, or_false] at h
  subst h
  rfl
theorem below_drewTx {w w' : World} (h : ∃ q, w' = w.drewN q) : Below w.heap.size w w' := by
  obtain ⟨q, rfl⟩ := h
  exact below_drewN (Below.refl _ _) q
set_option maxHeartbeats 2000000 in
theorem sameTx_q (A B : Option Addr) (n ca cb : Nat) (l : List (ByteArray)) (w : World) (ha : Lst encTx 1 w w.heap.size A n l) (hb : Lst encTx 1 w w.heap.size B n l) (hbig : n ≤ 1000000000) :
    Calls Tryz.prog 95 #[.slice A n ca, .slice B n cb] w fun e w' => e = .returned (.bool true) ∧ ∃ q, w' = w.drewN q := by
  have HA := Lib.hid ha
  have HB := Lib.hid hb
  clear ha hb
  go_enter Tryz.func95, Tryz.ntmps95
  go_wp2
  go_loopw [5] (fun i wr => ∃ k q : Nat, k ≤ n ∧ i = .int .i64 k ∧ wr = w.drewN q) (fun i _ => n - (intOf i).toNat)
  case atStart => exact ⟨0, 0, Nat.zero_le _, rfl, rfl⟩
  case round =>
    obtain ⟨k, q, hk, rfl, rfl⟩ := hrel
    by_cases hlt : k < n
    · obtain ⟨b, off, m, rfl, hbb, hm, hc⟩ := HA.out.at hlt
      obtain ⟨b2, off2, m2, rfl, hbb2, hm2, hc2⟩ := HB.out.at hlt
      obtain rfl : m = m2 := by rw [hm] at hm2; exact Option.some.inj hm2
      have c0 := hc 0 _ rfl
      have d0 := hc2 0 _ rfl
      simp only [Nat.add_zero, Nat.mul_one] at c0 d0
      have e0 : (m.toList == m.toList) = true := by simp
      clear hm hm2 hc hc2
      go_wp2_with (go_quiet (fail))
      go_roundw
      case measure => simp [intOf]; omega
      case rel => exact ⟨k + 1, _, hlt, by simp, by first | rfl | exact World.drewN_drewN _ _ _⟩
    · go_wp2
      go_ret
      exact ⟨rfl, q, rfl⟩
theorem sameTx_eq (A B : Option Addr) (n ca cb : Nat) (l : List (ByteArray)) (w : World) (ha : Lst encTx 1 w w.heap.size A n l) (hb : Lst encTx 1 w w.heap.size B n l) (hbig : n ≤ 1000000000) :
    Calls Tryz.prog 95 #[.slice A n ca, .slice B n cb] w fun e w' => e = .returned (.bool true) ∧ Below w.heap.size w w' :=
  (sameTx_q A B n ca cb l w ha hb hbig).mono fun _ _ ⟨h1, h2⟩ => ⟨h1, below_drewTx h2⟩
end Go.Proofs.YtajaijidecomdaaGreatDoor
