/- Patterns' trees: states of branches and counts; at any tree. -/
import Derived.Test.YtamlnkmcbbeicaaDoorRgSts
namespace Go.Proofs.YtamlnkmcbbeicaaDoor
open Go.RowKit Go.Lib
open RX (PS Tr Pr)

theorem bdN (w : World) (n : Nat) : Below w.heap.size w (w.drewN n) := ⟨rfl, rfl, rfl, Nat.le_refl _, fun _ _ => rfl⟩
set_option maxHeartbeats 2000000 in
set_option maxRecDepth 100000 in
theorem sts_brs (l : List Tr) (vs : List Value) (a : Value) (w : World) (T : Nat → Prop) (ho : w.ownsRow 0 52 1 a vs.length vs) (hl : TreesV w T l vs) (hm : MetSs l vs) (hn : 1 ≤ vs.length ∧ vs.length ≤ 1000) :
    Calls Tryd.prog 107 #[.agg #[a]] w fun e w' => e = .returned (.int .i64 (cut (RX.sizes l + 2 * (l.length - 1)) : Nat)) ∧ Below w.heap.size w w' := by
  have hb := (Below.refl w.heap.size w).alloc (Nat.le_refl _) (.cells #[a] 93)
  obtain ⟨A, cp, rfl, _, _⟩ := owns_slice ho
  have hll := hl.length
  have z0 : (w.alloc (.cells #[.slice A vs.length cp] 93)).cell? ⟨w.heap.size, 0, none⟩ = some (.slice A vs.length cp) := by rw [cell_of_row _ w.heap.size 0 _ _ (0, 0) (heap_alloc_new _ _)]; rfl
  have HC := Lib.hid (show (∀ n, Calls Tryd.prog 104 #[.slice A vs.length cp] ((w.alloc (.cells #[.slice A vs.length cp] 93)).drewN n) fun e w' => e = .returned (.int .i64 (cut (RX.sizes l) : Nat)) ∧ Below (w.alloc (.cells #[.slice A vs.length cp] 93)).heap.size (w.alloc (.cells #[.slice A vs.length cp] 93)) w') ∧ _ ∧ z0 = z0 from
    ⟨fun n => (sum_any l vs _ _ T (owns_below (owns_below ho hb) (bdN _ n)) ((hl.below hb).below (bdN _ n)) hm hn.2).mono fun e w' ⟨h1, h2⟩ => ⟨h1, (bdN _ n).trans h2⟩, hb, rfl⟩)
  have q1 := cut_le (RX.sizes l)
  have hfin : (if ((cut (RX.sizes l) : Nat) : Int) + 2 * ((vs.length : Int) - 1) < 1048576 then ((cut (RX.sizes l) : Nat) : Int) + 2 * ((vs.length : Int) - 1) else 1048576) = ((cut (RX.sizes l + 2 * (l.length - 1)) : Nat) : Int) := by
    rw [cut_int (n := cut (RX.sizes l) + 2 * (l.length - 1)) (by omega), cut_add]
  obtain ⟨a1, ha1⟩ : ∃ a1, cut (RX.sizes l) = a1 := ⟨_, rfl⟩
  rw [ha1] at q1 hfin
  have k1 : IntKind.i64.wrap ((vs.length : Int) - 1) = (vs.length : Int) - 1 := IntWalk.i64_in _ (by omega)
  have k2 : IntKind.i64.wrap (2 * ((vs.length : Int) - 1)) = 2 * ((vs.length : Int) - 1) := IntWalk.i64_in _ (by omega)
  have k3 : IntKind.i64.wrap ((a1 : Int) + 2 * ((vs.length : Int) - 1)) = (a1 : Int) + 2 * ((vs.length : Int) - 1) := IntWalk.i64_in _ (by omega)
  have HA1 := Lib.hid ha1
  clear ho hl hm hb ha1 hll
  by_cases hh : (a1 : Int) + 2 * ((vs.length : Int) - 1) < 1048576
  · rw [if_pos hh] at hfin
    have HF := Lib.hid hfin
    clear hfin
    go_enter Tryd.func107, Tryd.ntmps107
    go_wp2_with fail
    go_region_held3 (fun w' => w'.cell? ⟨w.heap.size, 0, none⟩ = some (.slice A vs.length cp)) (first | exact z3 | exact z0 | go_keep)
      (first
        | (go_at_call 104; refine (HC.out.1 1).mono ?_; rintro e w3 ⟨rfl, hb3⟩; rw [HA1.out]; have z3 := seenB hb3 z0; have HB := Lib.hid hb3; clear hb3)
        | fail)
    all_goals
      go_wp2_with fail
      go_ret
      exact ⟨congrArg (fun z => Ending.returned (Value.int .i64 z)) HF.out, HC.out.2.1.trans (HB.out.mono HC.out.2.1.size)⟩
  · rw [if_neg hh] at hfin
    have HF := Lib.hid hfin
    clear hfin
    go_enter Tryd.func107, Tryd.ntmps107
    go_wp2_with fail
    go_region_held3 (fun w' => w'.cell? ⟨w.heap.size, 0, none⟩ = some (.slice A vs.length cp)) (first | exact z3 | exact z0 | go_keep)
      (first
        | (go_at_call 104; refine (HC.out.1 1).mono ?_; rintro e w3 ⟨rfl, hb3⟩; rw [HA1.out]; have z3 := seenB hb3 z0; have HB := Lib.hid hb3; clear hb3)
        | fail)
    all_goals
      go_wp2_with fail
      go_ret
      exact ⟨congrArg (fun z => Ending.returned (Value.int .i64 z)) HF.out, HC.out.2.1.trans (HB.out.mono HC.out.2.1.size)⟩
set_option maxHeartbeats 2000000 in
set_option maxRecDepth 100000 in
theorem sts_plus (least : Nat) (m : Int) (lazy : Bool) (t : Tr) (u : Value) (hm : MetS t u) (hl : least ≤ 1000) (w : World) (T : Nat → Prop) (ht : TreeV w T t u) : Calls Tryd.prog 109 #[.agg #[u, .int .i64 least, .int .i64 (m), .bool true, .bool lazy]] w fun e w' => e = .returned (.int .i64 (cut (t.size + 1) : Nat)) ∧ Below w.heap.size w w' := by
  obtain ⟨ty, x, f, rfl, hmet, heg, hc⟩ := hm
  have hb := (Below.refl w.heap.size w).alloc (Nat.le_refl _) (.cells #[.iface ty x, .int .i64 least, .int .i64 (m), .bool true, .bool lazy] 96)
  have z1 : (w.alloc (.cells #[.iface ty x, .int .i64 least, .int .i64 (m), .bool true, .bool lazy] 96)).cell? ⟨w.heap.size, 1, none⟩ = some (.int .i64 least) := by rw [cell_of_row _ w.heap.size 1 _ _ (0, 0) (heap_alloc_new _ _)]; rfl
  have z2 : (w.alloc (.cells #[.iface ty x, .int .i64 least, .int .i64 (m), .bool true, .bool lazy] 96)).cell? ⟨w.heap.size, 2, none⟩ = some (.int .i64 (m)) := by rw [cell_of_row _ w.heap.size 2 _ _ (0, 0) (heap_alloc_new _ _)]; rfl
  have z3 : (w.alloc (.cells #[.iface ty x, .int .i64 least, .int .i64 (m), .bool true, .bool lazy] 96)).cell? ⟨w.heap.size, 3, none⟩ = some (.bool true) := by rw [cell_of_row _ w.heap.size 3 _ _ (0, 0) (heap_alloc_new _ _)]; rfl
  have HC := Lib.hid (show _ ∧ _ ∧ _ from ⟨hc, ht, hb⟩)
  have hcl := cut_le t.size
  clear hc ht hb
  have hfin : (if ((cut t.size : Nat) : Int) + 1 < 1048576 then ((cut t.size : Nat) : Int) + 1 else 1048576) = ((cut (t.size + 1) : Nat) : Int) := by
    rw [cut_int (n := cut t.size + 1) (by omega), cut_add]
  obtain ⟨a1, ha1⟩ : ∃ a1, cut t.size = a1 := ⟨_, rfl⟩
  rw [ha1] at hcl hfin
  have HX := Lib.hid ha1
  clear ha1
  have k1 : IntKind.i64.wrap ((a1 : Int) + 1) = (a1 : Int) + 1 := IntWalk.i64_in _ (by omega)
  by_cases hh : (a1 : Int) + 1 < 1048576
  · rw [if_pos hh] at hfin
    have HF := Lib.hid hfin
    clear hfin
    go_enter Tryd.func109, Tryd.ntmps109
    go_wp2_with fail
    refine (HC.out.1 _ T (HC.out.2.1.below HC.out.2.2)).mono ?_
    rintro e w2 ⟨rfl, hb2⟩
    rw [HX.out]
    have y1 := seenB hb2 z1
    have y2 := seenB hb2 z2
    have y3 := seenB hb2 z3
    have HB := Lib.hid hb2
    clear hb2 z1 z2 z3
    go_wp2
    go_ret
    exact ⟨congrArg (fun z => Ending.returned (Value.int .i64 z)) HF.out, HC.out.2.2.trans (HB.out.mono (by have := HC.out.2.2.size; omega))⟩
  · rw [if_neg hh] at hfin
    have HF := Lib.hid hfin
    clear hfin
    go_enter Tryd.func109, Tryd.ntmps109
    go_wp2_with fail
    refine (HC.out.1 _ T (HC.out.2.1.below HC.out.2.2)).mono ?_
    rintro e w2 ⟨rfl, hb2⟩
    rw [HX.out]
    have y1 := seenB hb2 z1
    have y2 := seenB hb2 z2
    have y3 := seenB hb2 z3
    have HB := Lib.hid hb2
    clear hb2 z1 z2 z3
    go_wp2
    go_ret
    exact ⟨congrArg (fun z => Ending.returned (Value.int .i64 z)) HF.out, HC.out.2.2.trans (HB.out.mono (by have := HC.out.2.2.size; omega))⟩
set_option maxHeartbeats 2000000 in
set_option maxRecDepth 100000 in
theorem sts_star (least : Nat)  (lazy : Bool) (t : Tr) (u : Value) (hm : MetS t u) (hl : least ≤ 1000) (w : World) (T : Nat → Prop) (ht : TreeV w T t u) : Calls Tryd.prog 109 #[.agg #[u, .int .i64 least, .int .i64 (-1), .bool false, .bool lazy]] w fun e w' => e = .returned (.int .i64 (cut (least * t.size + t.size + 2) : Nat)) ∧ Below w.heap.size w w' := by
  obtain ⟨ty, x, f, rfl, hmet, heg, hc⟩ := hm
  have hb := (Below.refl w.heap.size w).alloc (Nat.le_refl _) (.cells #[.iface ty x, .int .i64 least, .int .i64 (-1), .bool false, .bool lazy] 96)
  have z1 : (w.alloc (.cells #[.iface ty x, .int .i64 least, .int .i64 (-1), .bool false, .bool lazy] 96)).cell? ⟨w.heap.size, 1, none⟩ = some (.int .i64 least) := by rw [cell_of_row _ w.heap.size 1 _ _ (0, 0) (heap_alloc_new _ _)]; rfl
  have z2 : (w.alloc (.cells #[.iface ty x, .int .i64 least, .int .i64 (-1), .bool false, .bool lazy] 96)).cell? ⟨w.heap.size, 2, none⟩ = some (.int .i64 (-1)) := by rw [cell_of_row _ w.heap.size 2 _ _ (0, 0) (heap_alloc_new _ _)]; rfl
  have z3 : (w.alloc (.cells #[.iface ty x, .int .i64 least, .int .i64 (-1), .bool false, .bool lazy] 96)).cell? ⟨w.heap.size, 3, none⟩ = some (.bool false) := by rw [cell_of_row _ w.heap.size 3 _ _ (0, 0) (heap_alloc_new _ _)]; rfl
  have HC := Lib.hid (show _ ∧ _ ∧ _ from ⟨hc, ht, hb⟩)
  have hcl := cut_le t.size
  clear hc ht hb
  have hfin : (if (least : Int) * ((cut t.size : Nat) : Int) + ((cut t.size : Nat) : Int) + 2 < 1048576 then (least : Int) * ((cut t.size : Nat) : Int) + ((cut t.size : Nat) : Int) + 2 else 1048576) = ((cut (least * t.size + t.size + 2) : Nat) : Int) := by
    have e1 := cut_mul (a := least + 1) (b := 0) (n := t.size) (k := 2)
    simp only [Nat.zero_mul, Nat.add_zero, Nat.succ_mul] at e1
    rw [cut_int (n := least * cut t.size + cut t.size + 2) (by simp), e1]
  obtain ⟨a1, ha1⟩ : ∃ a1, cut t.size = a1 := ⟨_, rfl⟩
  rw [ha1] at hcl hfin
  have HX := Lib.hid ha1
  clear ha1
  have hp0 : least * a1 ≤ 1000 * 1048576 := Nat.mul_le_mul hl hcl
  have hpe : (least : Int) * (a1 : Int) = ((least * a1 : Nat) : Int) := by simp
  have k1 : IntKind.i64.wrap ((least : Int) * (a1 : Int)) = (least : Int) * (a1 : Int) := IntWalk.i64_in _ (by rw [hpe]; omega)
  have k2 : IntKind.i64.wrap ((least : Int) * (a1 : Int) + (a1 : Int)) = (least : Int) * (a1 : Int) + (a1 : Int) := IntWalk.i64_in _ (by rw [hpe]; omega)
  have k3 : IntKind.i64.wrap ((least : Int) * (a1 : Int) + (a1 : Int) + 2) = (least : Int) * (a1 : Int) + (a1 : Int) + 2 := IntWalk.i64_in _ (by rw [hpe]; omega)
  clear hp0 hpe
  by_cases hh : (least : Int) * (a1 : Int) + (a1 : Int) + 2 < 1048576
  · rw [if_pos hh] at hfin
    have HF := Lib.hid hfin
    clear hfin
    go_enter Tryd.func109, Tryd.ntmps109
    go_wp2_with fail
    refine (HC.out.1 _ T (HC.out.2.1.below HC.out.2.2)).mono ?_
    rintro e w2 ⟨rfl, hb2⟩
    rw [HX.out]
    have y1 := seenB hb2 z1
    have y2 := seenB hb2 z2
    have y3 := seenB hb2 z3
    have HB := Lib.hid hb2
    clear hb2 z1 z2 z3
    go_wp2
    go_ret
    exact ⟨congrArg (fun z => Ending.returned (Value.int .i64 z)) HF.out, HC.out.2.2.trans (HB.out.mono (by have := HC.out.2.2.size; omega))⟩
  · rw [if_neg hh] at hfin
    have HF := Lib.hid hfin
    clear hfin
    go_enter Tryd.func109, Tryd.ntmps109
    go_wp2_with fail
    refine (HC.out.1 _ T (HC.out.2.1.below HC.out.2.2)).mono ?_
    rintro e w2 ⟨rfl, hb2⟩
    rw [HX.out]
    have y1 := seenB hb2 z1
    have y2 := seenB hb2 z2
    have y3 := seenB hb2 z3
    have HB := Lib.hid hb2
    clear hb2 z1 z2 z3
    go_wp2
    go_ret
    exact ⟨congrArg (fun z => Ending.returned (Value.int .i64 z)) HF.out, HC.out.2.2.trans (HB.out.mono (by have := HC.out.2.2.size; omega))⟩
set_option maxHeartbeats 2000000 in
set_option maxRecDepth 100000 in
theorem sts_most (least : Nat) (m : Nat) (hlm : least ≤ m ∧ m ≤ 1000) (lazy : Bool) (t : Tr) (u : Value) (hm : MetS t u) (hl : least ≤ 1000) (w : World) (T : Nat → Prop) (ht : TreeV w T t u) : Calls Tryd.prog 109 #[.agg #[u, .int .i64 least, .int .i64 ((m : Int)), .bool false, .bool lazy]] w fun e w' => e = .returned (.int .i64 (cut (least * t.size + (m - least) * (t.size + 1)) : Nat)) ∧ Below w.heap.size w w' := by
  obtain ⟨ty, x, f, rfl, hmet, heg, hc⟩ := hm
  have hb := (Below.refl w.heap.size w).alloc (Nat.le_refl _) (.cells #[.iface ty x, .int .i64 least, .int .i64 ((m : Int)), .bool false, .bool lazy] 96)
  have z1 : (w.alloc (.cells #[.iface ty x, .int .i64 least, .int .i64 ((m : Int)), .bool false, .bool lazy] 96)).cell? ⟨w.heap.size, 1, none⟩ = some (.int .i64 least) := by rw [cell_of_row _ w.heap.size 1 _ _ (0, 0) (heap_alloc_new _ _)]; rfl
  have z2 : (w.alloc (.cells #[.iface ty x, .int .i64 least, .int .i64 ((m : Int)), .bool false, .bool lazy] 96)).cell? ⟨w.heap.size, 2, none⟩ = some (.int .i64 ((m : Int))) := by rw [cell_of_row _ w.heap.size 2 _ _ (0, 0) (heap_alloc_new _ _)]; rfl
  have z3 : (w.alloc (.cells #[.iface ty x, .int .i64 least, .int .i64 ((m : Int)), .bool false, .bool lazy] 96)).cell? ⟨w.heap.size, 3, none⟩ = some (.bool false) := by rw [cell_of_row _ w.heap.size 3 _ _ (0, 0) (heap_alloc_new _ _)]; rfl
  have HC := Lib.hid (show _ ∧ _ ∧ _ from ⟨hc, ht, hb⟩)
  have hcl := cut_le t.size
  clear hc ht hb
  have hfin : (if (least : Int) * ((cut t.size : Nat) : Int) + ((m : Int) - (least : Int)) * (((cut t.size : Nat) : Int) + 1) < 1048576 then (least : Int) * ((cut t.size : Nat) : Int) + ((m : Int) - (least : Int)) * (((cut t.size : Nat) : Int) + 1) else 1048576) = ((cut (least * t.size + (m - least) * (t.size + 1)) : Nat) : Int) := by
    have e1 := cut_mul (a := least) (b := m - least) (n := t.size) (k := 0)
    simp only [Nat.add_zero] at e1
    have e2 : ((m : Int) - (least : Int)) = ((m - least : Nat) : Int) := by omega
    rw [cut_int (n := least * cut t.size + (m - least) * (cut t.size + 1)) (by rw [e2]; simp), e1]
  obtain ⟨a1, ha1⟩ : ∃ a1, cut t.size = a1 := ⟨_, rfl⟩
  rw [ha1] at hcl hfin
  have HX := Lib.hid ha1
  clear ha1
  have hp0 : least * a1 ≤ 1000 * 1048576 := Nat.mul_le_mul hl hcl
  have hpe : (least : Int) * (a1 : Int) = ((least * a1 : Nat) : Int) := by simp
  have k1 : IntKind.i64.wrap ((least : Int) * (a1 : Int)) = (least : Int) * (a1 : Int) := IntWalk.i64_in _ (by rw [hpe]; omega)
  have e2 : ((m : Int) - (least : Int)) = ((m - least : Nat) : Int) := by omega
  have hp1 : (m - least) * (a1 + 1) ≤ 1000 * (1048576 + 1) := Nat.mul_le_mul (by omega) (by omega)
  have hpe1 : ((m : Int) - (least : Int)) * ((a1 : Int) + 1) = (((m - least) * (a1 + 1) : Nat) : Int) := by rw [e2]; simp
  have k2 : IntKind.i64.wrap ((m : Int) - (least : Int)) = (m : Int) - (least : Int) := IntWalk.i64_in _ (by omega)
  have k3 : IntKind.i64.wrap ((a1 : Int) + 1) = (a1 : Int) + 1 := IntWalk.i64_in _ (by omega)
  have k4 : IntKind.i64.wrap (((m : Int) - (least : Int)) * ((a1 : Int) + 1)) = ((m : Int) - (least : Int)) * ((a1 : Int) + 1) := IntWalk.i64_in _ (by rw [hpe1]; omega)
  have k5 : IntKind.i64.wrap ((least : Int) * (a1 : Int) + ((m : Int) - (least : Int)) * ((a1 : Int) + 1)) = (least : Int) * (a1 : Int) + ((m : Int) - (least : Int)) * ((a1 : Int) + 1) := IntWalk.i64_in _ (by rw [hpe, hpe1]; omega)
  have km : ¬ (m : Int) < 0 := by omega
  clear hp0 hpe hp1 hpe1 e2
  by_cases hh : (least : Int) * (a1 : Int) + ((m : Int) - (least : Int)) * ((a1 : Int) + 1) < 1048576
  · rw [if_pos hh] at hfin
    have HF := Lib.hid hfin
    clear hfin
    go_enter Tryd.func109, Tryd.ntmps109
    go_wp2_with fail
    refine (HC.out.1 _ T (HC.out.2.1.below HC.out.2.2)).mono ?_
    rintro e w2 ⟨rfl, hb2⟩
    rw [HX.out]
    have y1 := seenB hb2 z1
    have y2 := seenB hb2 z2
    have y3 := seenB hb2 z3
    have HB := Lib.hid hb2
    clear hb2 z1 z2 z3
    go_wp2
    go_ret
    exact ⟨congrArg (fun z => Ending.returned (Value.int .i64 z)) HF.out, HC.out.2.2.trans (HB.out.mono (by have := HC.out.2.2.size; omega))⟩
  · rw [if_neg hh] at hfin
    have HF := Lib.hid hfin
    clear hfin
    go_enter Tryd.func109, Tryd.ntmps109
    go_wp2_with fail
    refine (HC.out.1 _ T (HC.out.2.1.below HC.out.2.2)).mono ?_
    rintro e w2 ⟨rfl, hb2⟩
    rw [HX.out]
    have y1 := seenB hb2 z1
    have y2 := seenB hb2 z2
    have y3 := seenB hb2 z3
    have HB := Lib.hid hb2
    clear hb2 z1 z2 z3
    go_wp2
    go_ret
    exact ⟨congrArg (fun z => Ending.returned (Value.int .i64 z)) HF.out, HC.out.2.2.trans (HB.out.mono (by have := HC.out.2.2.size; omega))⟩
mutual
theorem metS : ∀ (t : Tr) (v : Value) (w : World) (T : Nat → Prop), TreeV w T t v → MetS t v
  | .bytes p, v, w, T, h => by
    rw [TreeV] at h
    subst h
    exact ⟨_, _, _, rfl, fun W => mStsB _ W, enters_of Tryd.func95 (by kernel_rfl) rfl, fun W T _ => sts_bytes p W⟩
  | .edge e, v, w, T, h => by
    rw [TreeV] at h
    subst h
    exact ⟨_, _, _, rfl, fun W => mStsE _ W, enters_of Tryd.func97 (by kernel_rfl) rfl, fun W T _ => sts_edge e W⟩
  | .group n t, v, w, T, h => by
    rw [TreeV] at h
    obtain ⟨u, rfl, _, h2⟩ := h
    refine ⟨_, _, _, rfl, fun W => mStsG _ W, enters_of Tryd.func99 (by kernel_rfl) rfl, fun W T' hW => ?_⟩
    rw [TreeV] at hW
    obtain ⟨u', e, _, h3⟩ := hW
    obtain rfl : u' = u := by injection e with _ e; injection e with e; simp at e; exact e.symm
    rw [RX.Tr.size]
    exact sts_group n t u' (metS t u' W T' h3) W T' h3
  | .row l, v, w, T, h => by
    rw [TreeV] at h
    obtain ⟨a, vs, rfl, _, _, _, h2⟩ := h
    refine ⟨_, _, _, rfl, fun W => mStsR _ W, enters_of Tryd.func101 (by kernel_rfl) rfl, fun W T' hW => ?_⟩
    rw [TreeV] at hW
    obtain ⟨a', vs', e, ho, _, hn, h3⟩ := hW
    obtain rfl : a' = a := by injection e with _ e; injection e with e; simp at e; exact e.symm
    rw [RX.Tr.size]
    exact sts_row l vs' a' W T' ho h3 (metSs l vs' W T' h3) hn
  | .alts l, v, w, T, h => by
    rw [TreeV] at h
    obtain ⟨a, vs, rfl, _, _, _, h2⟩ := h
    refine ⟨_, _, _, rfl, fun W => mStsA _ W, enters_of Tryd.func107 (by kernel_rfl) rfl, fun W T' hW => ?_⟩
    rw [TreeV] at hW
    obtain ⟨a', vs', e, ho, _, hn, h3⟩ := hW
    obtain rfl : a' = a := by injection e with _ e; injection e with e; simp at e; exact e.symm
    rw [RX.Tr.size]
    exact sts_brs l vs' a' W T' ho h3 (metSs l vs' W T' h3) hn
  | .rep t least most plus lazy, v, w, T, h => by
    rw [TreeV] at h
    obtain ⟨u, rfl, _, _, h2⟩ := h
    refine ⟨_, _, _, rfl, fun W => mStsP _ W, enters_of Tryd.func109 (by kernel_rfl) rfl, fun W T' hW => ?_⟩
    rw [TreeV] at hW
    obtain ⟨u', e, hl, hm, h3⟩ := hW
    obtain rfl : u' = u := by injection e with _ e; injection e with e; simp at e; exact e.symm
    cases plus with
    | true =>
      have hs : (Tr.rep t least most true lazy).size = t.size + 1 := by simp [RX.Tr.size]
      rw [hs]
      exact sts_plus least (mostV most) lazy t u' (metS t u' W T' h3) hl W T' h3
    | false =>
      cases most with
      | none =>
        have hs : (Tr.rep t least none false lazy).size = least * t.size + t.size + 2 := by simp [RX.Tr.size]
        rw [hs]
        exact sts_star least lazy t u' (metS t u' W T' h3) hl W T' h3
      | some m =>
        have hs : (Tr.rep t least (some m) false lazy).size = least * t.size + (m - least) * (t.size + 1) := by simp [RX.Tr.size]
        rw [hs]
        exact sts_most least m (hm m rfl) lazy t u' (metS t u' W T' h3) hl W T' h3
theorem metSs : ∀ (l : List Tr) (vs : List Value) (w : World) (T : Nat → Prop), TreesV w T l vs → MetSs l vs
  | [], _, _, _, _ => fun i t v h _ => by simp at h
  | t :: l, vs, w, T, h => by
    rw [TreesV] at h
    obtain ⟨v, us, rfl, h1, h2⟩ := h
    have m1 := metS t v w T h1
    have m2 := metSs l us w T h2
    intro i t' v' e1 e2
    cases i with
    | zero =>
      obtain rfl := Option.some.inj e1
      obtain rfl := Option.some.inj e2
      exact m1
    | succ i => exact m2 i t' v' e1 e2
end
end Go.Proofs.YtamlnkmcbbeicaaDoor
