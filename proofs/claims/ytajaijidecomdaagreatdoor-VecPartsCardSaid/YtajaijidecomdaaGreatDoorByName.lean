/- slices.SortFunc and slices.IsSortedFunc of labels by their names. -/
import Derived.Test.YtajaijidecomdaaGreatDoorG11
import Derived.Test.YtajaijidecomdaaGreatDoorShelf7
import Derived.Shelf.SlSortCmp.NoneTotal
import Derived.Deep.RegionHeld3
namespace Go.Proofs.YtajaijidecomdaaGreatDoor
open Go.RowKit Go.Lib Go.Sort

theorem byName_any (x y : Lb) (W : World) : Calls Tryz.prog 242 #[.agg #[.string x.nm, .string x.vl], .agg #[.string y.nm, .string y.vl]] W fun e w' => e = .returned (.int .i64 (nameC x y)) ∧ Below W.heap.size W w' := by
  have hcon := fun W' => compare_str x.nm y.nm W'
  change ∀ W', Calls _ _ _ _ (fun e w' => e = .returned (.int .i64 (nameC x y)) ∧ w' = W') at hcon
  generalize nameC x y = r at hcon ⊢
  go_enter Tryz.func242, Tryz.ntmps242
  go_wp2_with (go_at_call 217; refine (hcon _).mono ?_; rintro e w' ⟨rfl, rfl⟩)
  go_ret
  exact ⟨rfl, ((Below.refl _ _).alloc (Nat.le_refl _) _).alloc (by simp) _⟩
theorem nameC_lt (x y : Lb) : ltOf nameC x y = decide (nameC x y < 0) := rfl
theorem nameC_swo : SWO (ltOf nameC) where
  irrefl x := by
    rw [nameC_lt]
    have := textC_cmp3.self x.nm
    exact decide_eq_false (by unfold nameC; omega)
  trans x y z h1 h2 := by
    rw [nameC_lt] at *
    exact decide_eq_true (textC_cmp3.trans _ _ _ (of_decide_eq_true h1) (of_decide_eq_true h2))
  ntrans x y z h1 h2 := by
    rw [nameC_lt] at *
    have h3 := of_decide_eq_false h1
    have h4 := of_decide_eq_false h2
    unfold nameC at h3 h4
    have e1 := textC_cmp3.swap x.nm y.nm
    have e2 := textC_cmp3.swap y.nm z.nm
    have e3 := textC_cmp3.swap x.nm z.nm
    have h5 := textC_cmp3.le_trans (x := z.nm) (y := y.nm) (z := x.nm) (by omega) (by omega)
    exact decide_eq_false (by unfold nameC; omega)
/-- Does each stand not ahead of the one before? -/
def upB (l : List Lb) : Bool := decide (∀ j, j < l.length - 1 → ¬ nameC (l[j + 1]!) (l[j]!) < 0)
theorem cell_seen {w w' : World} (hb : Below w.heap.size w w') {p : Addr} {v : Value} (h : w.cell? p = some v) : w'.cell? p = some v := (hb.cell (World.block_lt_of_cell? w _ h)).trans h
theorem cell_seen4 {w w' : World} (hb : Below w.heap.size w w') {p1 p2 p3 p4 : Addr} {v1 v2 v3 v4 : Value} (h : w.cell? p1 = some v1 ∧ w.cell? p2 = some v2 ∧ w.cell? p3 = some v3 ∧ w.cell? p4 = some v4) :
    w'.cell? p1 = some v1 ∧ w'.cell? p2 = some v2 ∧ w'.cell? p3 = some v3 ∧ w'.cell? p4 = some v4 :=
  ⟨cell_seen hb h.1, cell_seen hb h.2.1, cell_seen hb h.2.2.1, cell_seen hb h.2.2.2⟩
set_option maxHeartbeats 2000000 in
set_option maxRecDepth 100000 in
theorem isUp (A : Option Addr) (n c : Nat) (l : List Lb) (w : World) (hL : Lst Lb.cells 2 w w.heap.size A n l) (hbig : n ≤ 1099511627776) :
    Calls Tryz.prog 241 #[.slice A n c, .func (.func 242) #[] #[]] w fun e w' => e = .returned (.bool (upB l)) ∧ Below w.heap.size w w' := by
  have eg : ∀ args w, (callFunc 242 args).run Tryz.prog w = .ok (.enter 242 args) w := enters_of Tryz.func242 (by kernel_rfl) rfl
  have HL := Lib.hid (show _ ∧ _ from ⟨hL, eg⟩)
  have hln := hL.1
  clear hL eg
  by_cases h0 : n = 0
  · have hu : upB l = true := decide_eq_true (fun j hj => absurd hj (by omega))
    rw [hu]
    subst h0
    clear HL hln hu
    go_enter Tryz.func241, Tryz.ntmps241
    go_wp2
    refine wp_loop_rounds 1 ?_
    rw [rounds_succ]
    go_wp2
    go_ret
    exact ⟨rfl, Below.refl _ _⟩
  have HN := Lib.hid hln
  clear hln
  go_enter Tryz.func241, Tryz.ntmps241
  go_wp2
  go_loopw [5] (fun i wr => ∃ k : Nat, k ≤ n - 1 ∧ i = .int .i64 k ∧ Hid (∀ j, k ≤ j → j < n - 1 → ¬ nameC (l[j + 1]!) (l[j]!) < 0) ∧ Below w.heap.size w wr) (fun i _ => (intOf i).toNat)
  case atStart => exact ⟨n - 1, Nat.le_refl _, by congr 1; omega, Lib.hid (fun j h1 h2 => absurd h2 (by omega)), Below.refl _ _⟩
  case round =>
    obtain ⟨k, hk, rfl, HR, hbl⟩ := hrel
    by_cases hk0 : k = 0
    · subst hk0
      have hu : upB l = true := decide_eq_true (fun j hj => HR.out j (Nat.zero_le _) (by rw [← HN.out]; exact hj))
      have HX := Lib.hid hu
      clear hu
      go_wp2
      go_ret
      exact ⟨by rw [HX.out]; rfl, hbl⟩
    · obtain ⟨m, hm⟩ : ∃ m, k = m + 1 := ⟨k - 1, by omega⟩
      obtain ⟨b, off, x, rfl, hb, hx, hcl⟩ := HL.out.1.at (k := k) (by omega)
      obtain ⟨b', off', y, hA, _, hy, hcm⟩ := HL.out.1.at (k := m) (by omega)
      cases hA
      have c0 := (hbl.cell (p := ⟨b, off + k * 2 + 0, none⟩) hb).trans (hcl 0 _ rfl)
      have c1 := (hbl.cell (p := ⟨b, off + k * 2 + 1, none⟩) hb).trans (hcl 1 _ rfl)
      have d0 := (hbl.cell (p := ⟨b, off + m * 2 + 0, none⟩) hb).trans (hcm 0 _ rfl)
      have d1 := (hbl.cell (p := ⟨b, off + m * 2 + 1, none⟩) hb).trans (hcm 1 _ rfl)
      simp only [Nat.add_zero] at c0 d0
      have hw1 : IntKind.i64.wrap ((k : Int) - 1) = (m : Int) := by rw [show (k : Int) - 1 = m by omega]; exact IntWalk.i64_in _ (by omega)
      have i0 : (0 : Int) < (k : Int) := by omega
      have i1 : (0 : Int) ≤ (k : Int) := by omega
      have i2 : (k : Int) < (n : Int) := by omega
      have i3 : (0 : Int) ≤ (m : Int) := by omega
      have i4 : (m : Int) < (n : Int) := by omega
      have ex : l[m + 1]! = x := by rw [← hm]; obtain ⟨h1, h2⟩ := List.getElem?_eq_some_iff.1 hx; rw [getElem!_pos l k h1, h2]
      have ey : l[m]! = y := by obtain ⟨h1, h2⟩ := List.getElem?_eq_some_iff.1 hy; rw [getElem!_pos l m h1, h2]
      have hc := fun W => byName_any x y W
      have hstep : (∀ j, m ≤ j → j < n - 1 → ¬ nameC (l[j + 1]!) (l[j]!) < 0) ↔ ¬ nameC x y < 0 := by
        constructor
        · intro h; have := h m (Nat.le_refl _) (by omega); rwa [ex, ey] at this
        · intro h j h1 h2
          by_cases e : j = m
          · rw [e, ex, ey]; exact h
          · exact HR.out j (by omega) h2
      have hfalse : nameC x y < 0 → upB l = false := fun h => decide_eq_false (fun g => by have := g m (by rw [HN.out]; omega); rw [ex, ey] at this; exact this h)
      generalize nameC x y = r at hc hstep hfalse
      have HM := Lib.hid (show _ ∧ _ ∧ _ ∧ _ from ⟨hm, hstep, hfalse, hbl⟩)
      clear hm hstep hfalse hx hy hcl hcm ex ey hbl hk0
      obtain ⟨z, hz⟩ : ∃ z, decide (r < 0) = z := ⟨_, rfl⟩
      have HZ := Lib.hid hz
      go_wp2_with fail
      go_region_held3 (fun w' => w'.cell? ⟨b, off + k * 2, none⟩ = some (.string x.nm) ∧ w'.cell? ⟨b, off + k * 2 + 1, none⟩ = some (.string x.vl) ∧ w'.cell? ⟨b, off + m * 2, none⟩ = some (.string y.nm) ∧ w'.cell? ⟨b, off + m * 2 + 1, none⟩ = some (.string y.vl)) (first | exact k6 | exact ⟨c0, c1, d0, d1⟩)
        (first | (go_at_call 242; refine (hc _).mono ?_; rintro e w' ⟨rfl, hbw⟩; have HB1 := Lib.hid ((below_drewN HM.out.2.2.2 1).trans (hbw.mono (below_drewN HM.out.2.2.2 1).size)); have k6 := cell_seen4 hbw (by assumption); clear hbw))
      cases z with
      | true =>
        go_wp2
        go_ret
        exact ⟨by rw [HM.out.2.2.1 (of_decide_eq_true HZ.out)]; rfl, HB1.out⟩
      | false =>
        go_wp2
        go_roundw
        case measure => have := HM.out.1; simp [intOf]; omega
        case rel => exact ⟨m, by have := HM.out.1; omega, rfl, Lib.hid (fun j h1 h2 => by have := (HM.out.2.1.2 (by have := of_decide_eq_false HZ.out; omega)) j h1 h2; omega), HB1.out⟩
end Go.Proofs.YtajaijidecomdaaGreatDoor
