/- The predicates of labels.Set and labels.Check; their ContainsFunc; labels by name. -/
import Derived.Test.YtchggapclmdpaaaGreatDoorName
import Derived.Test.YtchggapclmdpaaaGreatDoorGb
import Derived.Shelf.SlicesQ.IndexFunc
namespace Go.Proofs.YtchggapclmdpaaaGreatDoor
open Go.RowKit Go.Lib Go.Sort

/-- A label that a set can't hold: by its name, or its value is too long. -/
def badS (x : Lb) : Bool := !nameB x.nm.data.toList || decide (1024 < x.vl.size)
/-- .. its value empty, too. -/
def badC (x : Lb) : Bool := !nameB x.nm.data.toList || decide (x.vl.data.toList = []) || decide (1024 < x.vl.size)
def fullV (x : Lb) : Bool := !decide (x.vl.data.toList = [])
set_option maxHeartbeats 1000000 in
theorem setBad (W : World) (x : Lb) : Calls Tryz.prog 55 #[.agg #[.string x.nm, .string x.vl]] W fun e w' => e = .returned (.bool (badS x)) ∧ Below W.heap.size W w' := by
  unfold badS
  have hc := fun W' => name_any x.nm W'
  generalize nameB x.nm.data.toList = r at hc ⊢
  have hc0 : (W.alloc (.cells #[.string x.nm, .string x.vl] 94)).cell? ⟨W.heap.size, 1, none⟩ = some (.string x.vl) := by simp
  cases r with
  | false =>
    go_enter Tryz.func55, Tryz.ntmps55
    go_wp2_with (go_at_call 13; refine (hc _).mono ?_; rintro e w' ⟨rfl, hbw⟩)
    go_ret
    exact ⟨rfl, ((Below.refl _ _).alloc (Nat.le_refl _) _).trans (hbw.mono (by simp))⟩
  | true =>
    obtain ⟨y, hy⟩ : ∃ y, decide (1024 < x.vl.size) = y := ⟨_, rfl⟩
    have hyi : decide ((1024 : Int) < (x.vl.size : Int)) = y := by rw [← hy]; apply decide_eq_decide.2; omega
    rw [hy]
    clear hy
    go_enter Tryz.func55, Tryz.ntmps55
    go_wp2_with (go_at_call 13; refine (hc _).mono ?_; rintro e w' ⟨rfl, hbw⟩; have k1 := (hbw.cell (p := ⟨W.heap.size, 1, none⟩) (by simp)).trans hc0)
    go_ret
    exact ⟨rfl, ((Below.refl _ _).alloc (Nat.le_refl _) _).trans (hbw.mono (by simp))⟩
set_option maxHeartbeats 1000000 in
theorem checkBad (W : World) (x : Lb) : Calls Tryz.prog 62 #[.agg #[.string x.nm, .string x.vl]] W fun e w' => e = .returned (.bool (badC x)) ∧ Below W.heap.size W w' := by
  unfold badC
  have hc := fun W' => name_any x.nm W'
  generalize nameB x.nm.data.toList = r at hc ⊢
  have hc0 : (W.alloc (.cells #[.string x.nm, .string x.vl] 94)).cell? ⟨W.heap.size, 1, none⟩ = some (.string x.vl) := by simp
  cases r with
  | false =>
    go_enter Tryz.func62, Tryz.ntmps62
    go_wp2_with (go_at_call 13; refine (hc _).mono ?_; rintro e w' ⟨rfl, hbw⟩)
    go_ret
    exact ⟨rfl, ((Below.refl _ _).alloc (Nat.le_refl _) _).trans (hbw.mono (by simp))⟩
  | true =>
    obtain ⟨y, hy⟩ : ∃ y, decide (1024 < x.vl.size) = y := ⟨_, rfl⟩
    have hyi : decide ((1024 : Int) < (x.vl.size : Int)) = y := by rw [← hy]; apply decide_eq_decide.2; omega
    obtain ⟨z, hz⟩ : ∃ z, decide (x.vl.data.toList = []) = z := ⟨_, rfl⟩
    have hzi : (x.vl.toList == []) = z := by rw [← hz, ByteArray.toList_eq]; cases x.vl.data.toList <;> rfl
    rw [hy, hz]
    clear hy hz
    cases z with
    | false =>
      go_enter Tryz.func62, Tryz.ntmps62
      go_wp2_with (go_at_call 13; refine (hc _).mono ?_; rintro e w' ⟨rfl, hbw⟩; have k1 := (hbw.cell (p := ⟨W.heap.size, 1, none⟩) (by simp)).trans hc0)
      go_ret
      exact ⟨rfl, ((Below.refl _ _).alloc (Nat.le_refl _) _).trans (hbw.mono (by simp))⟩
    | true =>
      go_enter Tryz.func62, Tryz.ntmps62
      go_wp2_with (go_at_call 13; refine (hc _).mono ?_; rintro e w' ⟨rfl, hbw⟩; have k1 := (hbw.cell (p := ⟨W.heap.size, 1, none⟩) (by simp)).trans hc0)
      go_ret
      exact ⟨rfl, ((Below.refl _ _).alloc (Nat.le_refl _) _).trans (hbw.mono (by simp))⟩
theorem setFull (W : World) (x : Lb) : Calls Tryz.prog 59 #[.agg #[.string x.nm, .string x.vl]] W fun e w' => e = .returned (.bool (fullV x)) ∧ Below W.heap.size W w' := by
  obtain ⟨z, hz⟩ : ∃ z, decide (x.vl.data.toList = []) = z := ⟨_, rfl⟩
  have hzi : (x.vl.toList == []) = z := by rw [← hz, ByteArray.toList_eq]; cases x.vl.data.toList <;> rfl
  unfold fullV
  rw [hz]
  clear hz
  go_enter Tryz.func59, Tryz.ntmps59
  go_wp2
  go_ret
  exact ⟨rfl, (Below.refl _ _).alloc (Nat.le_refl _) _⟩
/-- The one before the other by name. -/
def nameC (x y : Lb) : Int := textC x.nm y.nm
theorem byName_grow (x y : Lb) (W : World) : Calls Tryz.prog 61 #[.agg #[.string x.nm, .string x.vl], .agg #[.string y.nm, .string y.vl]] W fun e w' => e = .returned (.int .i64 (nameC x y)) ∧ ∃ q os', w' = grow (W.drewN q) os' := by
  have hcon := fun W' => compare_str x.nm y.nm W'
  change ∀ W', Calls _ _ _ _ (fun e w' => e = .returned (.int .i64 (nameC x y)) ∧ w' = W') at hcon
  generalize nameC x y = r at hcon ⊢
  go_enter Tryz.func61, Tryz.ntmps61
  go_wp2_with (go_at_call 67; refine (hcon _).mono ?_; rintro e w' ⟨rfl, rfl⟩)
  go_ret
  exact ⟨rfl, 0, _, by rw [alloc_eq_grow, alloc_eq_grow, grow_grow]; rfl⟩
instance : Inhabited Lb := ⟨⟨ByteArray.empty, ByteArray.empty⟩⟩
/-- slices.ContainsFunc at labels, by a predicate that may lay blocks of its own. -/
theorem containsLabel (g : Nat) (eg : ∀ args w, (callFunc g args).run Tryz.prog w = .ok (.enter g args) w) (p : Lb → Bool) (hp : ∀ (W : World) (x : Lb), Calls Tryz.prog g #[.agg #[.string x.nm, .string x.vl]] W fun e w' => e = .returned (.bool (p x)) ∧ Below W.heap.size W w')
    (A : Option Addr) (n c : Nat) (l : List Lb) (w : World) (hL : Lst Lb.cells 2 w w.heap.size A n l) (hbig : n ≤ 1099511627776) :
    Calls Tryz.prog 56 #[.slice A n c, .func (.func g) #[] #[]] w fun e w' => e = .returned (.bool (l.any p)) ∧ Below w.heap.size w w' := by
  by_cases h0 : n = 0
  · subst h0
    have hl0 : l = [] := List.length_eq_zero_iff.1 hL.1
    rw [hl0]
    clear hL hp eg
    go_enter Tryz.func56, Tryz.ntmps56
    go_wp2
    refine wp_loop_rounds 1 ?_
    rw [rounds_succ]
    go_wp2
    go_ret
    exact ⟨rfl, Below.refl _ _⟩
  · obtain ⟨b, off, x, rfl, hb, _, _⟩ := hL.at (k := 0) (by omega)
    have hcon := AnyQ.slices_ContainsFunc { Tryz.hasLabel with } 2 Tryz.isAgg94 Tryz.sizeOf94 Lb.cells Lb.len p g #[] eg b off n c l w (fun W x hb => (hp W x).mono fun e w' h => ⟨h.1, hb.trans (h.2.mono hb.size)⟩) (by rw [hL.1]; exact Nat.le_refl _) (by omega) hb (fun j hj i v hv => by
      obtain ⟨b', off', y, hA, _, hy, hcl⟩ := hL.at (k := j) (by have := hL.1; omega)
      cases hA
      have h1 := List.getElem?_eq_some_iff.1 hy
      rw [getElem!_pos l j hj, h1.2] at hv
      exact hcl i v hv)
    rw [show l.take n = l by rw [← hL.1]; exact List.take_length] at hcon
    exact hcon
end Go.Proofs.YtchggapclmdpaaaGreatDoor
