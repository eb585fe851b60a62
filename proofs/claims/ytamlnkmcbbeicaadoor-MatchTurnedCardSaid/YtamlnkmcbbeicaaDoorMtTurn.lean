/- Matchers: MatchTurned, walked at any texts. -/
import Derived.Test.YtamlnkmcbbeicaaDoorG48
import Derived.Deep.Cut
import Derived.Deep.CutRange
import Derived.Deep.RegionHeld3
import Derived.Outline
namespace Go.Proofs.YtamlnkmcbbeicaaDoor
open Go.RowKit Go.Lib

/-- The four matchers, in memory. -/
structure Four (w W : World) (B : Nat) (n v : ByteArray) : Prop where
  m1 : W.heap[B]? = some (.cells #[.int .u8 1, .string n, .string v] 24)
  m2 : W.heap[B + 1]? = some (.cells #[.int .u8 2, .string n, .string v] 24)
  m3 : W.heap[B + 1 + 1]? = some (.cells #[.int .u8 3, .string n, .string v] 24)
  m4 : W.heap[B + 1 + 1 + 1]? = some (.cells #[.int .u8 4, .string n, .string v] 24)
  bel : Below w.heap.size w W
theorem Four.go {w W W' : World} {B : Nat} {n v : ByteArray} (h : Four w W B n v) (hb : Below W.heap.size W W') : Four w W' B n v :=
  ⟨keepM hb h.m1, keepM hb h.m2, keepM hb h.m3, keepM hb h.m4, h.bel.trans (hb.mono h.bel.size)⟩
theorem Four.drew {w W : World} {B : Nat} {n v : ByteArray} (h : Four w W B n v) : Four w W.drew B n v := ⟨h.m1, h.m2, h.m3, h.m4, below_drewN h.bel 1⟩
theorem Four.cells {w W : World} {B : Nat} {n v : ByteArray} (h : Four w W B n v) : Hid (Four w W (B) n v) ∧ W.cell? ⟨B, 0, none⟩ = some (.int .u8 1) ∧ W.cell? ⟨B, 1, none⟩ = some (.string n) ∧ W.cell? ⟨B, 2, none⟩ = some (.string v) ∧ W.cell? ⟨B + 1, 0, none⟩ = some (.int .u8 2) ∧ W.cell? ⟨B + 1, 1, none⟩ = some (.string n) ∧ W.cell? ⟨B + 1, 2, none⟩ = some (.string v) ∧ W.cell? ⟨B + 1 + 1, 0, none⟩ = some (.int .u8 3) ∧ W.cell? ⟨B + 1 + 1, 1, none⟩ = some (.string n) ∧ W.cell? ⟨B + 1 + 1, 2, none⟩ = some (.string v) ∧ W.cell? ⟨B + 1 + 1 + 1, 0, none⟩ = some (.int .u8 4) ∧ W.cell? ⟨B + 1 + 1 + 1, 1, none⟩ = some (.string n) ∧ W.cell? ⟨B + 1 + 1 + 1, 2, none⟩ = some (.string v) :=
  ⟨Lib.hid h, cell0M h.m1 rfl, cell0M h.m1 rfl, cell0M h.m1 rfl, cell0M h.m2 rfl, cell0M h.m2 rfl, cell0M h.m2 rfl, cell0M h.m3 rfl, cell0M h.m3 rfl, cell0M h.m3 rfl, cell0M h.m4 rfl, cell0M h.m4 rfl, cell0M h.m4 rfl⟩
theorem Four.start {w w1 : World} {n v : ByteArray} (hb : Below w.heap.size w w1) :
    Four w ((((w1.alloc (.cells #[.int .u8 1, .string n, .string v] 24)).alloc (.cells #[.int .u8 2, .string n, .string v] 24)).alloc (.cells #[.int .u8 3, .string n, .string v] 24)).alloc (.cells #[.int .u8 4, .string n, .string v] 24)) w1.heap.size n v := by
  have s1 : ∀ (u : World) (o : Obj), (u.alloc o).heap.size = u.heap.size + 1 := fun u o => Array.size_push _
  have a1 := (MapKept.heap_alloc w1 (.cells #[.int .u8 1, .string n, .string v] 24)).1
  have a2 := (MapKept.heap_alloc (w1.alloc (.cells #[.int .u8 1, .string n, .string v] 24)) (.cells #[.int .u8 2, .string n, .string v] 24)).1
  have a3 := (MapKept.heap_alloc ((w1.alloc (.cells #[.int .u8 1, .string n, .string v] 24)).alloc (.cells #[.int .u8 2, .string n, .string v] 24)) (.cells #[.int .u8 3, .string n, .string v] 24)).1
  have a4 := (MapKept.heap_alloc (((w1.alloc (.cells #[.int .u8 1, .string n, .string v] 24)).alloc (.cells #[.int .u8 2, .string n, .string v] 24)).alloc (.cells #[.int .u8 3, .string n, .string v] 24)) (.cells #[.int .u8 4, .string n, .string v] 24)).1
  rw [s1] at a2
  rw [s1, s1] at a3
  rw [s1, s1, s1] at a4
  refine ⟨keepA (keepA (keepA a1)), keepA (keepA a2), keepA a3, a4, ?_⟩
  have := hb.size
  exact (((hb.alloc hb.size _).alloc (by rw [s1]; omega) _).alloc (by rw [s1, s1]; omega) _).alloc (by rw [s1, s1, s1]; omega) _
theorem eqT_self (v : ByteArray) : eqT v v = true := by unfold eqT; simp
set_option maxHeartbeats 8000000 in
set_option maxRecDepth 100000 in
theorem turned_bad (n v s : ByteArray) (w : World) (h1 : n.size ≤ 5000) (h2 : v.size ≤ 5000) (h3 : s.size ≤ 5000)
    (hC : (∀ w, Calls Tryd.prog 5 #[.agg #[.int .u8 1, .string n, .string v]] w fun e w' => e = .returned (.int .u16 90) ∧ Below w.heap.size w w') ∧ (∀ w, Calls Tryd.prog 5 #[.agg #[.int .u8 2, .string n, .string v]] w fun e w' => e = .returned (.int .u16 90) ∧ Below w.heap.size w w') ∧ (∀ w, Calls Tryd.prog 5 #[.agg #[.int .u8 3, .string n, .string v]] w fun e w' => e = .returned (.int .u16 90) ∧ Below w.heap.size w w') ∧ (∀ w, Calls Tryd.prog 5 #[.agg #[.int .u8 4, .string n, .string v]] w fun e w' => e = .returned (.int .u16 90) ∧ Below w.heap.size w w'))
    (hI : (∀ w, Calls Tryd.prog 6 #[.agg #[.int .u8 1, .string n, .string v], .string s] w fun e w' => e = .returned (.bool false) ∧ Below w.heap.size w w') ∧ (∀ w, Calls Tryd.prog 6 #[.agg #[.int .u8 2, .string n, .string v], .string s] w fun e w' => e = .returned (.bool false) ∧ Below w.heap.size w w') ∧ (∀ w, Calls Tryd.prog 6 #[.agg #[.int .u8 3, .string n, .string v], .string s] w fun e w' => e = .returned (.bool false) ∧ Below w.heap.size w w') ∧ (∀ w, Calls Tryd.prog 6 #[.agg #[.int .u8 4, .string n, .string v], .string s] w fun e w' => e = .returned (.bool false) ∧ Below w.heap.size w w') ∧ (∀ w, Calls Tryd.prog 6 #[.agg #[.int .u8 1, .string n, .string v], .string v] w fun e w' => e = .returned (.bool false) ∧ Below w.heap.size w w')) :
    Calls Tryd.prog 3 #[.string n, .string v, .string s] w fun e w' => e = .returned (.bool true) ∧ Below w.heap.size w w' := by
  have g1 : ¬ (5000 : Int) < (n.size : Int) := by omega
  have g2 : ¬ (5000 : Int) < (v.size : Int) := by omega
  have g3 : ¬ (5000 : Int) < (s.size : Int) := by omega
  have HC := Lib.hid hC
  have HI := Lib.hid hI
  clear hC hI h1 h2 h3
  go_enter Tryd.func3, Tryd.ntmps3
  go_wp2_with (first
    | (go_at_call 4; refine (known_any _).mono ?_; rintro e w1 ⟨rfl, hb1⟩; have H1 := Lib.hid (Four.start (n := n) (v := v) hb1); clear hb1 g1 g2 g3)
    | fail)
  have hkeep : ∀ W W', (Hid (Four w W (w1.heap.size) n v) ∧ W.cell? ⟨w1.heap.size, 0, none⟩ = some (.int .u8 1) ∧ W.cell? ⟨w1.heap.size, 1, none⟩ = some (.string n) ∧ W.cell? ⟨w1.heap.size, 2, none⟩ = some (.string v) ∧ W.cell? ⟨w1.heap.size + 1, 0, none⟩ = some (.int .u8 2) ∧ W.cell? ⟨w1.heap.size + 1, 1, none⟩ = some (.string n) ∧ W.cell? ⟨w1.heap.size + 1, 2, none⟩ = some (.string v) ∧ W.cell? ⟨w1.heap.size + 1 + 1, 0, none⟩ = some (.int .u8 3) ∧ W.cell? ⟨w1.heap.size + 1 + 1, 1, none⟩ = some (.string n) ∧ W.cell? ⟨w1.heap.size + 1 + 1, 2, none⟩ = some (.string v) ∧ W.cell? ⟨w1.heap.size + 1 + 1 + 1, 0, none⟩ = some (.int .u8 4) ∧ W.cell? ⟨w1.heap.size + 1 + 1 + 1, 1, none⟩ = some (.string n) ∧ W.cell? ⟨w1.heap.size + 1 + 1 + 1, 2, none⟩ = some (.string v)) → Below W.heap.size W W' → (Hid (Four w W' (w1.heap.size) n v) ∧ W'.cell? ⟨w1.heap.size, 0, none⟩ = some (.int .u8 1) ∧ W'.cell? ⟨w1.heap.size, 1, none⟩ = some (.string n) ∧ W'.cell? ⟨w1.heap.size, 2, none⟩ = some (.string v) ∧ W'.cell? ⟨w1.heap.size + 1, 0, none⟩ = some (.int .u8 2) ∧ W'.cell? ⟨w1.heap.size + 1, 1, none⟩ = some (.string n) ∧ W'.cell? ⟨w1.heap.size + 1, 2, none⟩ = some (.string v) ∧ W'.cell? ⟨w1.heap.size + 1 + 1, 0, none⟩ = some (.int .u8 3) ∧ W'.cell? ⟨w1.heap.size + 1 + 1, 1, none⟩ = some (.string n) ∧ W'.cell? ⟨w1.heap.size + 1 + 1, 2, none⟩ = some (.string v) ∧ W'.cell? ⟨w1.heap.size + 1 + 1 + 1, 0, none⟩ = some (.int .u8 4) ∧ W'.cell? ⟨w1.heap.size + 1 + 1 + 1, 1, none⟩ = some (.string n) ∧ W'.cell? ⟨w1.heap.size + 1 + 1 + 1, 2, none⟩ = some (.string v)) := fun W W' h hb => (h.1.out.go hb).cells
  have hst := H1.out.drew.cells
  clear H1
  go_upto_region 7 with (fail)
  go_cut [11] from 44 to 55 (fun sa wc => sa = .bool true ∧ Hid (Four w wc w1.heap.size n v))
  case first =>
    as_aux_lemma =>
      go_region_held3 (fun w' => Hid (Four w w' (w1.heap.size) n v) ∧ w'.cell? ⟨w1.heap.size, 0, none⟩ = some (.int .u8 1) ∧ w'.cell? ⟨w1.heap.size, 1, none⟩ = some (.string n) ∧ w'.cell? ⟨w1.heap.size, 2, none⟩ = some (.string v) ∧ w'.cell? ⟨w1.heap.size + 1, 0, none⟩ = some (.int .u8 2) ∧ w'.cell? ⟨w1.heap.size + 1, 1, none⟩ = some (.string n) ∧ w'.cell? ⟨w1.heap.size + 1, 2, none⟩ = some (.string v) ∧ w'.cell? ⟨w1.heap.size + 1 + 1, 0, none⟩ = some (.int .u8 3) ∧ w'.cell? ⟨w1.heap.size + 1 + 1, 1, none⟩ = some (.string n) ∧ w'.cell? ⟨w1.heap.size + 1 + 1, 2, none⟩ = some (.string v) ∧ w'.cell? ⟨w1.heap.size + 1 + 1 + 1, 0, none⟩ = some (.int .u8 4) ∧ w'.cell? ⟨w1.heap.size + 1 + 1 + 1, 1, none⟩ = some (.string n) ∧ w'.cell? ⟨w1.heap.size + 1 + 1 + 1, 2, none⟩ = some (.string v)) (first | assumption | fail)
        (first
        | (go_at_call_of 5 (Value.int IntKind.u8 1); refine (HC.out.1 _).mono ?_; rintro e v5 ⟨rfl, hb5⟩; have hS5 := hkeep _ v5 (by assumption) hb5; clear hb5)
        | (go_at_call_of 5 (Value.int IntKind.u8 2); refine (HC.out.2.1 _).mono ?_; rintro e v5 ⟨rfl, hb5⟩; have hS5 := hkeep _ v5 (by assumption) hb5; clear hb5)
        | (go_at_call_of 5 (Value.int IntKind.u8 3); refine (HC.out.2.2.1 _).mono ?_; rintro e v5 ⟨rfl, hb5⟩; have hS5 := hkeep _ v5 (by assumption) hb5; clear hb5)
        | (go_at_call_of 5 (Value.int IntKind.u8 4); refine (HC.out.2.2.2 _).mono ?_; rintro e v5 ⟨rfl, hb5⟩; have hS5 := hkeep _ v5 (by assumption) hb5; clear hb5)
        | fail)
      all_goals
        go_wp2_with fail
        go_meet
        case rel => exact ⟨rfl, hS5.1⟩
  case rest =>
    obtain ⟨rfl, HF⟩ := hcut
    rename World => W7
    have hS7 := HF.out.cells
    clear hst HF
    go_wp2_with (first
      | (go_at_call_of 5 (Value.int IntKind.u8 1); refine (HC.out.1 _).mono ?_; rintro e W8 ⟨rfl, hb8⟩; have hS8 := hkeep _ W8 (by assumption) hb8; clear hb8)
      | (go_at_call_of 6 (Value.int IntKind.u8 1); go_at_call_of 6 (Value.string s); refine (HI.out.1 _).mono ?_; rintro e W9 ⟨rfl, hb9⟩; have hS9 := hkeep _ W9 hS8 hb9; clear hb9)
      | (go_at_call_of 6 (Value.int IntKind.u8 2); go_at_call_of 6 (Value.string s); refine (HI.out.2.1 _).mono ?_; rintro e W10 ⟨rfl, hb10⟩; have hS10 := hkeep _ W10 hS9 hb10; clear hb10)
      | (go_at_call_of 6 (Value.int IntKind.u8 3); go_at_call_of 6 (Value.string s); refine (HI.out.2.2.1 _).mono ?_; rintro e W11 ⟨rfl, hb11⟩; have hS11 := hkeep _ W11 hS10 hb11; clear hb11)
      | (go_at_call_of 6 (Value.int IntKind.u8 4); go_at_call_of 6 (Value.string s); refine (HI.out.2.2.2.1 _).mono ?_; rintro e W12 ⟨rfl, hb12⟩; have hS12 := hkeep _ W12 hS11 hb12; clear hb12)
      | fail)
    exact bodyPost_ret (v := .bool true) (by simp [results, Tryd.results3, go_sem]) rfl ⟨rfl, hS12.1.out.bel⟩
set_option maxHeartbeats 8000000 in
set_option maxRecDepth 100000 in
theorem turned_good (n v s : ByteArray) (b c : Bool) (w : World) (h1 : n.size ≤ 5000) (h2 : v.size ≤ 5000) (h3 : s.size ≤ 5000)
    (hC : (∀ w, Calls Tryd.prog 5 #[.agg #[.int .u8 1, .string n, .string v]] w fun e w' => e = .returned (.int .u16 0) ∧ Below w.heap.size w w') ∧ (∀ w, Calls Tryd.prog 5 #[.agg #[.int .u8 2, .string n, .string v]] w fun e w' => e = .returned (.int .u16 0) ∧ Below w.heap.size w w') ∧ (∀ w, Calls Tryd.prog 5 #[.agg #[.int .u8 3, .string n, .string v]] w fun e w' => e = .returned (.int .u16 0) ∧ Below w.heap.size w w') ∧ (∀ w, Calls Tryd.prog 5 #[.agg #[.int .u8 4, .string n, .string v]] w fun e w' => e = .returned (.int .u16 0) ∧ Below w.heap.size w w'))
    (hI : (∀ w, Calls Tryd.prog 6 #[.agg #[.int .u8 1, .string n, .string v], .string s] w fun e w' => e = .returned (.bool b) ∧ Below w.heap.size w w') ∧ (∀ w, Calls Tryd.prog 6 #[.agg #[.int .u8 2, .string n, .string v], .string s] w fun e w' => e = .returned (.bool (!b)) ∧ Below w.heap.size w w') ∧ (∀ w, Calls Tryd.prog 6 #[.agg #[.int .u8 3, .string n, .string v], .string s] w fun e w' => e = .returned (.bool c) ∧ Below w.heap.size w w') ∧ (∀ w, Calls Tryd.prog 6 #[.agg #[.int .u8 4, .string n, .string v], .string s] w fun e w' => e = .returned (.bool (!c)) ∧ Below w.heap.size w w') ∧ (∀ w, Calls Tryd.prog 6 #[.agg #[.int .u8 1, .string n, .string v], .string v] w fun e w' => e = .returned (.bool true) ∧ Below w.heap.size w w')) :
    Calls Tryd.prog 3 #[.string n, .string v, .string s] w fun e w' => e = .returned (.bool true) ∧ Below w.heap.size w w' := by
  have g1 : ¬ (5000 : Int) < (n.size : Int) := by omega
  have g2 : ¬ (5000 : Int) < (v.size : Int) := by omega
  have g3 : ¬ (5000 : Int) < (s.size : Int) := by omega
  have HC := Lib.hid hC
  have HI := Lib.hid hI
  clear hC hI h1 h2 h3
  go_enter Tryd.func3, Tryd.ntmps3
  go_wp2_with (first
    | (go_at_call 4; refine (known_any _).mono ?_; rintro e w1 ⟨rfl, hb1⟩; have H1 := Lib.hid (Four.start (n := n) (v := v) hb1); clear hb1 g1 g2 g3)
    | fail)
  have hkeep : ∀ W W', (Hid (Four w W (w1.heap.size) n v) ∧ W.cell? ⟨w1.heap.size, 0, none⟩ = some (.int .u8 1) ∧ W.cell? ⟨w1.heap.size, 1, none⟩ = some (.string n) ∧ W.cell? ⟨w1.heap.size, 2, none⟩ = some (.string v) ∧ W.cell? ⟨w1.heap.size + 1, 0, none⟩ = some (.int .u8 2) ∧ W.cell? ⟨w1.heap.size + 1, 1, none⟩ = some (.string n) ∧ W.cell? ⟨w1.heap.size + 1, 2, none⟩ = some (.string v) ∧ W.cell? ⟨w1.heap.size + 1 + 1, 0, none⟩ = some (.int .u8 3) ∧ W.cell? ⟨w1.heap.size + 1 + 1, 1, none⟩ = some (.string n) ∧ W.cell? ⟨w1.heap.size + 1 + 1, 2, none⟩ = some (.string v) ∧ W.cell? ⟨w1.heap.size + 1 + 1 + 1, 0, none⟩ = some (.int .u8 4) ∧ W.cell? ⟨w1.heap.size + 1 + 1 + 1, 1, none⟩ = some (.string n) ∧ W.cell? ⟨w1.heap.size + 1 + 1 + 1, 2, none⟩ = some (.string v)) → Below W.heap.size W W' → (Hid (Four w W' (w1.heap.size) n v) ∧ W'.cell? ⟨w1.heap.size, 0, none⟩ = some (.int .u8 1) ∧ W'.cell? ⟨w1.heap.size, 1, none⟩ = some (.string n) ∧ W'.cell? ⟨w1.heap.size, 2, none⟩ = some (.string v) ∧ W'.cell? ⟨w1.heap.size + 1, 0, none⟩ = some (.int .u8 2) ∧ W'.cell? ⟨w1.heap.size + 1, 1, none⟩ = some (.string n) ∧ W'.cell? ⟨w1.heap.size + 1, 2, none⟩ = some (.string v) ∧ W'.cell? ⟨w1.heap.size + 1 + 1, 0, none⟩ = some (.int .u8 3) ∧ W'.cell? ⟨w1.heap.size + 1 + 1, 1, none⟩ = some (.string n) ∧ W'.cell? ⟨w1.heap.size + 1 + 1, 2, none⟩ = some (.string v) ∧ W'.cell? ⟨w1.heap.size + 1 + 1 + 1, 0, none⟩ = some (.int .u8 4) ∧ W'.cell? ⟨w1.heap.size + 1 + 1 + 1, 1, none⟩ = some (.string n) ∧ W'.cell? ⟨w1.heap.size + 1 + 1 + 1, 2, none⟩ = some (.string v)) := fun W W' h hb => (h.1.out.go hb).cells
  have hst := H1.out.drew.cells
  clear H1
  go_upto_region 7 with (fail)
  go_cut [11] from 44 to 55 (fun sa wc => sa = .bool true ∧ Hid (Four w wc w1.heap.size n v))
  case first =>
    as_aux_lemma =>
      go_region_held3 (fun w' => Hid (Four w w' (w1.heap.size) n v) ∧ w'.cell? ⟨w1.heap.size, 0, none⟩ = some (.int .u8 1) ∧ w'.cell? ⟨w1.heap.size, 1, none⟩ = some (.string n) ∧ w'.cell? ⟨w1.heap.size, 2, none⟩ = some (.string v) ∧ w'.cell? ⟨w1.heap.size + 1, 0, none⟩ = some (.int .u8 2) ∧ w'.cell? ⟨w1.heap.size + 1, 1, none⟩ = some (.string n) ∧ w'.cell? ⟨w1.heap.size + 1, 2, none⟩ = some (.string v) ∧ w'.cell? ⟨w1.heap.size + 1 + 1, 0, none⟩ = some (.int .u8 3) ∧ w'.cell? ⟨w1.heap.size + 1 + 1, 1, none⟩ = some (.string n) ∧ w'.cell? ⟨w1.heap.size + 1 + 1, 2, none⟩ = some (.string v) ∧ w'.cell? ⟨w1.heap.size + 1 + 1 + 1, 0, none⟩ = some (.int .u8 4) ∧ w'.cell? ⟨w1.heap.size + 1 + 1 + 1, 1, none⟩ = some (.string n) ∧ w'.cell? ⟨w1.heap.size + 1 + 1 + 1, 2, none⟩ = some (.string v)) (first | assumption | fail)
        (first
        | (go_at_call_of 5 (Value.int IntKind.u8 1); refine (HC.out.1 _).mono ?_; rintro e v5 ⟨rfl, hb5⟩; have hS5 := hkeep _ v5 (by assumption) hb5; clear hb5)
        | (go_at_call_of 5 (Value.int IntKind.u8 2); refine (HC.out.2.1 _).mono ?_; rintro e v5 ⟨rfl, hb5⟩; have hS5 := hkeep _ v5 (by assumption) hb5; clear hb5)
        | (go_at_call_of 5 (Value.int IntKind.u8 3); refine (HC.out.2.2.1 _).mono ?_; rintro e v5 ⟨rfl, hb5⟩; have hS5 := hkeep _ v5 (by assumption) hb5; clear hb5)
        | (go_at_call_of 5 (Value.int IntKind.u8 4); refine (HC.out.2.2.2 _).mono ?_; rintro e v5 ⟨rfl, hb5⟩; have hS5 := hkeep _ v5 (by assumption) hb5; clear hb5)
        | fail)
      all_goals
        go_wp2_with fail
        go_meet
        case rel => exact ⟨rfl, hS5.1⟩
  case rest =>
    obtain ⟨rfl, HF⟩ := hcut
    rename World => W7
    have hS7 := HF.out.cells
    clear hst HF
    go_upto_region 10 with (first
      | (go_at_call_of 5 (Value.int IntKind.u8 1); refine (HC.out.1 _).mono ?_; rintro e W8 ⟨rfl, hb8⟩; have hS8 := hkeep _ W8 (by assumption) hb8; clear hb8)
      | fail)
    have hst8 := hS8.1.out.drew.cells
    clear hS7
    go_cut [12] from 84 to 95 (fun sa wc => sa = .bool true ∧ Hid (Four w wc w1.heap.size n v))
    case first =>
      as_aux_lemma =>
        clear hS8
        cases b
        all_goals
          go_region_held3 (fun w' => Hid (Four w w' (w1.heap.size) n v) ∧ w'.cell? ⟨w1.heap.size, 0, none⟩ = some (.int .u8 1) ∧ w'.cell? ⟨w1.heap.size, 1, none⟩ = some (.string n) ∧ w'.cell? ⟨w1.heap.size, 2, none⟩ = some (.string v) ∧ w'.cell? ⟨w1.heap.size + 1, 0, none⟩ = some (.int .u8 2) ∧ w'.cell? ⟨w1.heap.size + 1, 1, none⟩ = some (.string n) ∧ w'.cell? ⟨w1.heap.size + 1, 2, none⟩ = some (.string v) ∧ w'.cell? ⟨w1.heap.size + 1 + 1, 0, none⟩ = some (.int .u8 3) ∧ w'.cell? ⟨w1.heap.size + 1 + 1, 1, none⟩ = some (.string n) ∧ w'.cell? ⟨w1.heap.size + 1 + 1, 2, none⟩ = some (.string v) ∧ w'.cell? ⟨w1.heap.size + 1 + 1 + 1, 0, none⟩ = some (.int .u8 4) ∧ w'.cell? ⟨w1.heap.size + 1 + 1 + 1, 1, none⟩ = some (.string n) ∧ w'.cell? ⟨w1.heap.size + 1 + 1 + 1, 2, none⟩ = some (.string v)) (first | assumption | fail)
            (first
            | (go_at_call_of 6 (Value.int IntKind.u8 1); go_at_call_of 6 (Value.string s); refine (HI.out.1 _).mono ?_; rintro e v5 ⟨rfl, hb5⟩; have hS5 := hkeep _ v5 (by assumption) hb5; clear hb5)
            | (go_at_call_of 6 (Value.int IntKind.u8 2); go_at_call_of 6 (Value.string s); refine (HI.out.2.1 _).mono ?_; rintro e v5 ⟨rfl, hb5⟩; have hS5 := hkeep _ v5 (by assumption) hb5; clear hb5)
            | (go_at_call 6; refine (HI.out.2.2.2.2 _).mono ?_; rintro e v5 ⟨rfl, hb5⟩; have hS5 := hkeep _ v5 (by assumption) hb5; clear hb5)
            | fail)
          all_goals
            go_wp2_with fail
            go_meet
            case rel => exact ⟨rfl, hS5.1⟩
    case rest =>
    obtain ⟨rfl, HF⟩ := hcut
    rename World => W10
    have hS10 := HF.out.cells
    have hst10 := HF.out.drew.cells
    clear hst8 hS8 HF
    go_upto_region 11 with (fail)
    go_cut [13] from 96 to 107 (fun sa wc => sa = .bool true ∧ Hid (Four w wc w1.heap.size n v))
    case first =>
      as_aux_lemma =>
        clear hS10
        cases c
        all_goals
          go_region_held3 (fun w' => Hid (Four w w' (w1.heap.size) n v) ∧ w'.cell? ⟨w1.heap.size, 0, none⟩ = some (.int .u8 1) ∧ w'.cell? ⟨w1.heap.size, 1, none⟩ = some (.string n) ∧ w'.cell? ⟨w1.heap.size, 2, none⟩ = some (.string v) ∧ w'.cell? ⟨w1.heap.size + 1, 0, none⟩ = some (.int .u8 2) ∧ w'.cell? ⟨w1.heap.size + 1, 1, none⟩ = some (.string n) ∧ w'.cell? ⟨w1.heap.size + 1, 2, none⟩ = some (.string v) ∧ w'.cell? ⟨w1.heap.size + 1 + 1, 0, none⟩ = some (.int .u8 3) ∧ w'.cell? ⟨w1.heap.size + 1 + 1, 1, none⟩ = some (.string n) ∧ w'.cell? ⟨w1.heap.size + 1 + 1, 2, none⟩ = some (.string v) ∧ w'.cell? ⟨w1.heap.size + 1 + 1 + 1, 0, none⟩ = some (.int .u8 4) ∧ w'.cell? ⟨w1.heap.size + 1 + 1 + 1, 1, none⟩ = some (.string n) ∧ w'.cell? ⟨w1.heap.size + 1 + 1 + 1, 2, none⟩ = some (.string v)) (first | assumption | fail)
            (first
            | (go_at_call_of 5 (Value.int IntKind.u8 3); refine (HC.out.2.2.1 _).mono ?_; rintro e v5 ⟨rfl, hb5⟩; have hS5 := hkeep _ v5 (by assumption) hb5; clear hb5)
            | (go_at_call_of 6 (Value.int IntKind.u8 3); go_at_call_of 6 (Value.string s); refine (HI.out.2.2.1 _).mono ?_; rintro e v5 ⟨rfl, hb5⟩; have hS5 := hkeep _ v5 (by assumption) hb5; clear hb5)
            | (go_at_call_of 6 (Value.int IntKind.u8 4); go_at_call_of 6 (Value.string s); refine (HI.out.2.2.2.1 _).mono ?_; rintro e v5 ⟨rfl, hb5⟩; have hS5 := hkeep _ v5 (by assumption) hb5; clear hb5)
            | fail)
          all_goals
            go_wp2_with fail
            go_meet
            case rel => exact ⟨rfl, hS5.1⟩
    case rest =>
    obtain ⟨rfl, HF⟩ := hcut
    clear hS10 hst10
    go_wp2_with fail
    exact bodyPost_ret (v := .bool true) (by simp [results, Tryd.results3, go_sem]) rfl ⟨rfl, HF.out.bel⟩
set_option maxHeartbeats 8000000 in
set_option maxRecDepth 100000 in
theorem turned_form (n v s : ByteArray) (b : Bool) (w : World) (h1 : n.size ≤ 5000) (h2 : v.size ≤ 5000) (h3 : s.size ≤ 5000)
    (hC : (∀ w, Calls Tryd.prog 5 #[.agg #[.int .u8 1, .string n, .string v]] w fun e w' => e = .returned (.int .u16 0) ∧ Below w.heap.size w w') ∧ (∀ w, Calls Tryd.prog 5 #[.agg #[.int .u8 2, .string n, .string v]] w fun e w' => e = .returned (.int .u16 0) ∧ Below w.heap.size w w') ∧ (∀ w, Calls Tryd.prog 5 #[.agg #[.int .u8 3, .string n, .string v]] w fun e w' => e = .returned (.int .u16 80) ∧ Below w.heap.size w w') ∧ (∀ w, Calls Tryd.prog 5 #[.agg #[.int .u8 4, .string n, .string v]] w fun e w' => e = .returned (.int .u16 80) ∧ Below w.heap.size w w'))
    (hI : (∀ w, Calls Tryd.prog 6 #[.agg #[.int .u8 1, .string n, .string v], .string s] w fun e w' => e = .returned (.bool b) ∧ Below w.heap.size w w') ∧ (∀ w, Calls Tryd.prog 6 #[.agg #[.int .u8 2, .string n, .string v], .string s] w fun e w' => e = .returned (.bool (!b)) ∧ Below w.heap.size w w') ∧ (∀ w, Calls Tryd.prog 6 #[.agg #[.int .u8 3, .string n, .string v], .string s] w fun e w' => e = .returned (.bool false) ∧ Below w.heap.size w w') ∧ (∀ w, Calls Tryd.prog 6 #[.agg #[.int .u8 4, .string n, .string v], .string s] w fun e w' => e = .returned (.bool false) ∧ Below w.heap.size w w') ∧ (∀ w, Calls Tryd.prog 6 #[.agg #[.int .u8 1, .string n, .string v], .string v] w fun e w' => e = .returned (.bool true) ∧ Below w.heap.size w w')) :
    Calls Tryd.prog 3 #[.string n, .string v, .string s] w fun e w' => e = .returned (.bool true) ∧ Below w.heap.size w w' := by
  have g1 : ¬ (5000 : Int) < (n.size : Int) := by omega
  have g2 : ¬ (5000 : Int) < (v.size : Int) := by omega
  have g3 : ¬ (5000 : Int) < (s.size : Int) := by omega
  have HC := Lib.hid hC
  have HI := Lib.hid hI
  clear hC hI h1 h2 h3
  go_enter Tryd.func3, Tryd.ntmps3
  go_wp2_with (first
    | (go_at_call 4; refine (known_any _).mono ?_; rintro e w1 ⟨rfl, hb1⟩; have H1 := Lib.hid (Four.start (n := n) (v := v) hb1); clear hb1 g1 g2 g3)
    | fail)
  have hkeep : ∀ W W', (Hid (Four w W (w1.heap.size) n v) ∧ W.cell? ⟨w1.heap.size, 0, none⟩ = some (.int .u8 1) ∧ W.cell? ⟨w1.heap.size, 1, none⟩ = some (.string n) ∧ W.cell? ⟨w1.heap.size, 2, none⟩ = some (.string v) ∧ W.cell? ⟨w1.heap.size + 1, 0, none⟩ = some (.int .u8 2) ∧ W.cell? ⟨w1.heap.size + 1, 1, none⟩ = some (.string n) ∧ W.cell? ⟨w1.heap.size + 1, 2, none⟩ = some (.string v) ∧ W.cell? ⟨w1.heap.size + 1 + 1, 0, none⟩ = some (.int .u8 3) ∧ W.cell? ⟨w1.heap.size + 1 + 1, 1, none⟩ = some (.string n) ∧ W.cell? ⟨w1.heap.size + 1 + 1, 2, none⟩ = some (.string v) ∧ W.cell? ⟨w1.heap.size + 1 + 1 + 1, 0, none⟩ = some (.int .u8 4) ∧ W.cell? ⟨w1.heap.size + 1 + 1 + 1, 1, none⟩ = some (.string n) ∧ W.cell? ⟨w1.heap.size + 1 + 1 + 1, 2, none⟩ = some (.string v)) → Below W.heap.size W W' → (Hid (Four w W' (w1.heap.size) n v) ∧ W'.cell? ⟨w1.heap.size, 0, none⟩ = some (.int .u8 1) ∧ W'.cell? ⟨w1.heap.size, 1, none⟩ = some (.string n) ∧ W'.cell? ⟨w1.heap.size, 2, none⟩ = some (.string v) ∧ W'.cell? ⟨w1.heap.size + 1, 0, none⟩ = some (.int .u8 2) ∧ W'.cell? ⟨w1.heap.size + 1, 1, none⟩ = some (.string n) ∧ W'.cell? ⟨w1.heap.size + 1, 2, none⟩ = some (.string v) ∧ W'.cell? ⟨w1.heap.size + 1 + 1, 0, none⟩ = some (.int .u8 3) ∧ W'.cell? ⟨w1.heap.size + 1 + 1, 1, none⟩ = some (.string n) ∧ W'.cell? ⟨w1.heap.size + 1 + 1, 2, none⟩ = some (.string v) ∧ W'.cell? ⟨w1.heap.size + 1 + 1 + 1, 0, none⟩ = some (.int .u8 4) ∧ W'.cell? ⟨w1.heap.size + 1 + 1 + 1, 1, none⟩ = some (.string n) ∧ W'.cell? ⟨w1.heap.size + 1 + 1 + 1, 2, none⟩ = some (.string v)) := fun W W' h hb => (h.1.out.go hb).cells
  have hst := H1.out.drew.cells
  clear H1
  go_upto_region 7 with (fail)
  go_cut [11] from 44 to 55 (fun sa wc => sa = .bool true ∧ Hid (Four w wc w1.heap.size n v))
  case first =>
    as_aux_lemma =>
      go_region_held3 (fun w' => Hid (Four w w' (w1.heap.size) n v) ∧ w'.cell? ⟨w1.heap.size, 0, none⟩ = some (.int .u8 1) ∧ w'.cell? ⟨w1.heap.size, 1, none⟩ = some (.string n) ∧ w'.cell? ⟨w1.heap.size, 2, none⟩ = some (.string v) ∧ w'.cell? ⟨w1.heap.size + 1, 0, none⟩ = some (.int .u8 2) ∧ w'.cell? ⟨w1.heap.size + 1, 1, none⟩ = some (.string n) ∧ w'.cell? ⟨w1.heap.size + 1, 2, none⟩ = some (.string v) ∧ w'.cell? ⟨w1.heap.size + 1 + 1, 0, none⟩ = some (.int .u8 3) ∧ w'.cell? ⟨w1.heap.size + 1 + 1, 1, none⟩ = some (.string n) ∧ w'.cell? ⟨w1.heap.size + 1 + 1, 2, none⟩ = some (.string v) ∧ w'.cell? ⟨w1.heap.size + 1 + 1 + 1, 0, none⟩ = some (.int .u8 4) ∧ w'.cell? ⟨w1.heap.size + 1 + 1 + 1, 1, none⟩ = some (.string n) ∧ w'.cell? ⟨w1.heap.size + 1 + 1 + 1, 2, none⟩ = some (.string v)) (first | assumption | fail)
        (first
        | (go_at_call_of 5 (Value.int IntKind.u8 1); refine (HC.out.1 _).mono ?_; rintro e v5 ⟨rfl, hb5⟩; have hS5 := hkeep _ v5 (by assumption) hb5; clear hb5)
        | (go_at_call_of 5 (Value.int IntKind.u8 2); refine (HC.out.2.1 _).mono ?_; rintro e v5 ⟨rfl, hb5⟩; have hS5 := hkeep _ v5 (by assumption) hb5; clear hb5)
        | (go_at_call_of 5 (Value.int IntKind.u8 3); refine (HC.out.2.2.1 _).mono ?_; rintro e v5 ⟨rfl, hb5⟩; have hS5 := hkeep _ v5 (by assumption) hb5; clear hb5)
        | (go_at_call_of 5 (Value.int IntKind.u8 4); refine (HC.out.2.2.2 _).mono ?_; rintro e v5 ⟨rfl, hb5⟩; have hS5 := hkeep _ v5 (by assumption) hb5; clear hb5)
        | fail)
      all_goals
        go_wp2_with fail
        go_meet
        case rel => exact ⟨rfl, hS5.1⟩
  case rest =>
    obtain ⟨rfl, HF⟩ := hcut
    rename World => W7
    have hS7 := HF.out.cells
    clear hst HF
    go_upto_region 10 with (first
      | (go_at_call_of 5 (Value.int IntKind.u8 1); refine (HC.out.1 _).mono ?_; rintro e W8 ⟨rfl, hb8⟩; have hS8 := hkeep _ W8 (by assumption) hb8; clear hb8)
      | fail)
    have hst8 := hS8.1.out.drew.cells
    clear hS7
    go_cut [12] from 84 to 95 (fun sa wc => sa = .bool true ∧ Hid (Four w wc w1.heap.size n v))
    case first =>
      as_aux_lemma =>
        clear hS8
        cases b
        all_goals
          go_region_held3 (fun w' => Hid (Four w w' (w1.heap.size) n v) ∧ w'.cell? ⟨w1.heap.size, 0, none⟩ = some (.int .u8 1) ∧ w'.cell? ⟨w1.heap.size, 1, none⟩ = some (.string n) ∧ w'.cell? ⟨w1.heap.size, 2, none⟩ = some (.string v) ∧ w'.cell? ⟨w1.heap.size + 1, 0, none⟩ = some (.int .u8 2) ∧ w'.cell? ⟨w1.heap.size + 1, 1, none⟩ = some (.string n) ∧ w'.cell? ⟨w1.heap.size + 1, 2, none⟩ = some (.string v) ∧ w'.cell? ⟨w1.heap.size + 1 + 1, 0, none⟩ = some (.int .u8 3) ∧ w'.cell? ⟨w1.heap.size + 1 + 1, 1, none⟩ = some (.string n) ∧ w'.cell? ⟨w1.heap.size + 1 + 1, 2, none⟩ = some (.string v) ∧ w'.cell? ⟨w1.heap.size + 1 + 1 + 1, 0, none⟩ = some (.int .u8 4) ∧ w'.cell? ⟨w1.heap.size + 1 + 1 + 1, 1, none⟩ = some (.string n) ∧ w'.cell? ⟨w1.heap.size + 1 + 1 + 1, 2, none⟩ = some (.string v)) (first | assumption | fail)
            (first
            | (go_at_call_of 6 (Value.int IntKind.u8 1); go_at_call_of 6 (Value.string s); refine (HI.out.1 _).mono ?_; rintro e v5 ⟨rfl, hb5⟩; have hS5 := hkeep _ v5 (by assumption) hb5; clear hb5)
            | (go_at_call_of 6 (Value.int IntKind.u8 2); go_at_call_of 6 (Value.string s); refine (HI.out.2.1 _).mono ?_; rintro e v5 ⟨rfl, hb5⟩; have hS5 := hkeep _ v5 (by assumption) hb5; clear hb5)
            | (go_at_call 6; refine (HI.out.2.2.2.2 _).mono ?_; rintro e v5 ⟨rfl, hb5⟩; have hS5 := hkeep _ v5 (by assumption) hb5; clear hb5)
            | fail)
          all_goals
            go_wp2_with fail
            go_meet
            case rel => exact ⟨rfl, hS5.1⟩
    case rest =>
    obtain ⟨rfl, HF⟩ := hcut
    rename World => W10
    have hS10 := HF.out.cells
    have hst10 := HF.out.drew.cells
    clear hst8 hS8 HF
    go_upto_region 11 with (fail)
    go_cut [13] from 96 to 107 (fun sa wc => sa = .bool true ∧ Hid (Four w wc w1.heap.size n v))
    case first =>
      as_aux_lemma =>
        clear hS10
        refine wp_region_any (by kernel_rfl) ?_
        change wpAny _ _ _ _ _ _ _ (World.drew _)
        refine wpAny_ready (rs := [0]) (by kernel_rfl) (by simp) ?_
        refine AllReady.cons rfl (fun K hK => ?_) AllReady.nil
        go_simp
        refine hK _ _ ?_
        clear hK K
        refine wpAny_ready (rs := [1]) (by kernel_rfl) (by simp) ?_
        refine AllReady.cons rfl (fun K hK => ?_) AllReady.nil
        go_simp
        (go_at_call_of 5 (Value.int IntKind.u8 3); refine (HC.out.2.2.1 _).mono ?_; rintro e v5 ⟨rfl, hb5⟩; have hS5 := hkeep _ v5 (by assumption) hb5; clear hb5)
        go_wp2_with fail
        refine wpAny_take (i := 2) (v := .bool true) rfl (by kernel_rfl) (by kernel_rfl) (by kernel_rfl) (fun _ _ _ h => h) (Or.inl ⟨by rfl, ?_⟩) ?_
        · intro w; go_simp; try with_reducible rfl
        simp only [Act.put, List.getElem_toArray, List.getElem_cons_zero, List.getElem_cons_succ, List.setIfInBounds_toArray, List.set_cons_zero, List.set_cons_succ]
        refine wpAny_take (i := 3) (v := .bool true) rfl (by kernel_rfl) (by kernel_rfl) (by kernel_rfl) (fun _ _ _ h => h) (Or.inl ⟨by rfl, ?_⟩) ?_
        · intro w; go_simp; try with_reducible rfl
        simp only [Act.put, List.getElem_toArray, List.getElem_cons_zero, List.getElem_cons_succ, List.setIfInBounds_toArray, List.set_cons_zero, List.set_cons_succ]
        refine wpAny_take (i := 4) (v := undef) rfl (by kernel_rfl) (by kernel_rfl) (by kernel_rfl) (fun _ _ _ h => h) (Or.inr ⟨by rfl, rfl⟩) ?_
        simp only [Act.put, List.getElem_toArray, List.getElem_cons_zero, List.getElem_cons_succ, List.setIfInBounds_toArray, List.set_cons_zero, List.set_cons_succ]
        refine wpAny_take (i := 5) (v := undef) rfl (by kernel_rfl) (by kernel_rfl) (by kernel_rfl) (fun _ _ _ h => h) (Or.inr ⟨by rfl, rfl⟩) ?_
        simp only [Act.put, List.getElem_toArray, List.getElem_cons_zero, List.getElem_cons_succ, List.setIfInBounds_toArray, List.set_cons_zero, List.set_cons_succ]
        refine wpAny_take (i := 6) (v := undef) rfl (by kernel_rfl) (by kernel_rfl) (by kernel_rfl) (fun _ _ _ h => h) (Or.inr ⟨by rfl, rfl⟩) ?_
        simp only [Act.put, List.getElem_toArray, List.getElem_cons_zero, List.getElem_cons_succ, List.setIfInBounds_toArray, List.set_cons_zero, List.set_cons_succ]
        refine wpAny_take (i := 7) (v := undef) rfl (by kernel_rfl) (by kernel_rfl) (by kernel_rfl) (fun _ _ _ h => h) (Or.inr ⟨by rfl, rfl⟩) ?_
        simp only [Act.put, List.getElem_toArray, List.getElem_cons_zero, List.getElem_cons_succ, List.setIfInBounds_toArray, List.set_cons_zero, List.set_cons_succ]
        refine wpAny_take (i := 8) (v := undef) rfl (by kernel_rfl) (by kernel_rfl) (by kernel_rfl) (fun _ _ _ h => h) (Or.inr ⟨by rfl, rfl⟩) ?_
        simp only [Act.put, List.getElem_toArray, List.getElem_cons_zero, List.getElem_cons_succ, List.setIfInBounds_toArray, List.set_cons_zero, List.set_cons_succ]
        refine wpAny_take (i := 9) (v := undef) rfl (by kernel_rfl) (by kernel_rfl) (by kernel_rfl) (fun _ _ _ h => h) (Or.inr ⟨by rfl, rfl⟩) ?_
        simp only [Act.put, List.getElem_toArray, List.getElem_cons_zero, List.getElem_cons_succ, List.setIfInBounds_toArray, List.set_cons_zero, List.set_cons_succ]
        refine wpAny_take (i := 10) (v := undef) rfl (by kernel_rfl) (by kernel_rfl) (by kernel_rfl) (fun _ _ _ h => h) (Or.inr ⟨by rfl, rfl⟩) ?_
        simp only [Act.put, List.getElem_toArray, List.getElem_cons_zero, List.getElem_cons_succ, List.setIfInBounds_toArray, List.set_cons_zero, List.set_cons_succ]
        refine wpAny_take (i := 11) (v := .bool true) rfl (by kernel_rfl) (by kernel_rfl) (by kernel_rfl) (fun _ _ _ h => h) (Or.inl ⟨by rfl, ?_⟩) ?_
        · intro w; go_simp; try with_reducible rfl
        simp only [Act.put, List.getElem_toArray, List.getElem_cons_zero, List.getElem_cons_succ, List.setIfInBounds_toArray, List.set_cons_zero, List.set_cons_succ]
        refine wpAny_take (i := 12) (v := .bool true) rfl (by kernel_rfl) (by kernel_rfl) (by kernel_rfl) (fun _ _ _ h => h) (Or.inl ⟨by rfl, ?_⟩) ?_
        · intro w; go_simp; try with_reducible rfl
        simp only [Act.put, List.getElem_toArray, List.getElem_cons_zero, List.getElem_cons_succ, List.setIfInBounds_toArray, List.set_cons_zero, List.set_cons_succ]
        refine wpAny_done (by kernel_rfl) ?_ _
        go_wp2_with fail
        go_meet
        case rel => exact ⟨rfl, hS5.1⟩
    case rest =>
    obtain ⟨rfl, HF⟩ := hcut
    clear hS10 hst10
    go_wp2_with fail
    exact bodyPost_ret (v := .bool true) (by simp [results, Tryd.results3, go_sem]) rfl ⟨rfl, HF.out.bel⟩
set_option maxHeartbeats 8000000 in
set_option maxRecDepth 100000 in
theorem turned_many (n v s : ByteArray) (b : Bool) (w : World) (h1 : n.size ≤ 5000) (h2 : v.size ≤ 5000) (h3 : s.size ≤ 5000)
    (hC : (∀ w, Calls Tryd.prog 5 #[.agg #[.int .u8 1, .string n, .string v]] w fun e w' => e = .returned (.int .u16 0) ∧ Below w.heap.size w w') ∧ (∀ w, Calls Tryd.prog 5 #[.agg #[.int .u8 2, .string n, .string v]] w fun e w' => e = .returned (.int .u16 0) ∧ Below w.heap.size w w') ∧ (∀ w, Calls Tryd.prog 5 #[.agg #[.int .u8 3, .string n, .string v]] w fun e w' => e = .returned (.int .u16 81) ∧ Below w.heap.size w w') ∧ (∀ w, Calls Tryd.prog 5 #[.agg #[.int .u8 4, .string n, .string v]] w fun e w' => e = .returned (.int .u16 81) ∧ Below w.heap.size w w'))
    (hI : (∀ w, Calls Tryd.prog 6 #[.agg #[.int .u8 1, .string n, .string v], .string s] w fun e w' => e = .returned (.bool b) ∧ Below w.heap.size w w') ∧ (∀ w, Calls Tryd.prog 6 #[.agg #[.int .u8 2, .string n, .string v], .string s] w fun e w' => e = .returned (.bool (!b)) ∧ Below w.heap.size w w') ∧ (∀ w, Calls Tryd.prog 6 #[.agg #[.int .u8 3, .string n, .string v], .string s] w fun e w' => e = .returned (.bool false) ∧ Below w.heap.size w w') ∧ (∀ w, Calls Tryd.prog 6 #[.agg #[.int .u8 4, .string n, .string v], .string s] w fun e w' => e = .returned (.bool false) ∧ Below w.heap.size w w') ∧ (∀ w, Calls Tryd.prog 6 #[.agg #[.int .u8 1, .string n, .string v], .string v] w fun e w' => e = .returned (.bool true) ∧ Below w.heap.size w w')) :
    Calls Tryd.prog 3 #[.string n, .string v, .string s] w fun e w' => e = .returned (.bool true) ∧ Below w.heap.size w w' := by
  have g1 : ¬ (5000 : Int) < (n.size : Int) := by omega
  have g2 : ¬ (5000 : Int) < (v.size : Int) := by omega
  have g3 : ¬ (5000 : Int) < (s.size : Int) := by omega
  have HC := Lib.hid hC
  have HI := Lib.hid hI
  clear hC hI h1 h2 h3
  go_enter Tryd.func3, Tryd.ntmps3
  go_wp2_with (first
    | (go_at_call 4; refine (known_any _).mono ?_; rintro e w1 ⟨rfl, hb1⟩; have H1 := Lib.hid (Four.start (n := n) (v := v) hb1); clear hb1 g1 g2 g3)
    | fail)
  have hkeep : ∀ W W', (Hid (Four w W (w1.heap.size) n v) ∧ W.cell? ⟨w1.heap.size, 0, none⟩ = some (.int .u8 1) ∧ W.cell? ⟨w1.heap.size, 1, none⟩ = some (.string n) ∧ W.cell? ⟨w1.heap.size, 2, none⟩ = some (.string v) ∧ W.cell? ⟨w1.heap.size + 1, 0, none⟩ = some (.int .u8 2) ∧ W.cell? ⟨w1.heap.size + 1, 1, none⟩ = some (.string n) ∧ W.cell? ⟨w1.heap.size + 1, 2, none⟩ = some (.string v) ∧ W.cell? ⟨w1.heap.size + 1 + 1, 0, none⟩ = some (.int .u8 3) ∧ W.cell? ⟨w1.heap.size + 1 + 1, 1, none⟩ = some (.string n) ∧ W.cell? ⟨w1.heap.size + 1 + 1, 2, none⟩ = some (.string v) ∧ W.cell? ⟨w1.heap.size + 1 + 1 + 1, 0, none⟩ = some (.int .u8 4) ∧ W.cell? ⟨w1.heap.size + 1 + 1 + 1, 1, none⟩ = some (.string n) ∧ W.cell? ⟨w1.heap.size + 1 + 1 + 1, 2, none⟩ = some (.string v)) → Below W.heap.size W W' → (Hid (Four w W' (w1.heap.size) n v) ∧ W'.cell? ⟨w1.heap.size, 0, none⟩ = some (.int .u8 1) ∧ W'.cell? ⟨w1.heap.size, 1, none⟩ = some (.string n) ∧ W'.cell? ⟨w1.heap.size, 2, none⟩ = some (.string v) ∧ W'.cell? ⟨w1.heap.size + 1, 0, none⟩ = some (.int .u8 2) ∧ W'.cell? ⟨w1.heap.size + 1, 1, none⟩ = some (.string n) ∧ W'.cell? ⟨w1.heap.size + 1, 2, none⟩ = some (.string v) ∧ W'.cell? ⟨w1.heap.size + 1 + 1, 0, none⟩ = some (.int .u8 3) ∧ W'.cell? ⟨w1.heap.size + 1 + 1, 1, none⟩ = some (.string n) ∧ W'.cell? ⟨w1.heap.size + 1 + 1, 2, none⟩ = some (.string v) ∧ W'.cell? ⟨w1.heap.size + 1 + 1 + 1, 0, none⟩ = some (.int .u8 4) ∧ W'.cell? ⟨w1.heap.size + 1 + 1 + 1, 1, none⟩ = some (.string n) ∧ W'.cell? ⟨w1.heap.size + 1 + 1 + 1, 2, none⟩ = some (.string v)) := fun W W' h hb => (h.1.out.go hb).cells
  have hst := H1.out.drew.cells
  clear H1
  go_upto_region 7 with (fail)
  go_cut [11] from 44 to 55 (fun sa wc => sa = .bool true ∧ Hid (Four w wc w1.heap.size n v))
  case first =>
    as_aux_lemma =>
      go_region_held3 (fun w' => Hid (Four w w' (w1.heap.size) n v) ∧ w'.cell? ⟨w1.heap.size, 0, none⟩ = some (.int .u8 1) ∧ w'.cell? ⟨w1.heap.size, 1, none⟩ = some (.string n) ∧ w'.cell? ⟨w1.heap.size, 2, none⟩ = some (.string v) ∧ w'.cell? ⟨w1.heap.size + 1, 0, none⟩ = some (.int .u8 2) ∧ w'.cell? ⟨w1.heap.size + 1, 1, none⟩ = some (.string n) ∧ w'.cell? ⟨w1.heap.size + 1, 2, none⟩ = some (.string v) ∧ w'.cell? ⟨w1.heap.size + 1 + 1, 0, none⟩ = some (.int .u8 3) ∧ w'.cell? ⟨w1.heap.size + 1 + 1, 1, none⟩ = some (.string n) ∧ w'.cell? ⟨w1.heap.size + 1 + 1, 2, none⟩ = some (.string v) ∧ w'.cell? ⟨w1.heap.size + 1 + 1 + 1, 0, none⟩ = some (.int .u8 4) ∧ w'.cell? ⟨w1.heap.size + 1 + 1 + 1, 1, none⟩ = some (.string n) ∧ w'.cell? ⟨w1.heap.size + 1 + 1 + 1, 2, none⟩ = some (.string v)) (first | assumption | fail)
        (first
        | (go_at_call_of 5 (Value.int IntKind.u8 1); refine (HC.out.1 _).mono ?_; rintro e v5 ⟨rfl, hb5⟩; have hS5 := hkeep _ v5 (by assumption) hb5; clear hb5)
        | (go_at_call_of 5 (Value.int IntKind.u8 2); refine (HC.out.2.1 _).mono ?_; rintro e v5 ⟨rfl, hb5⟩; have hS5 := hkeep _ v5 (by assumption) hb5; clear hb5)
        | (go_at_call_of 5 (Value.int IntKind.u8 3); refine (HC.out.2.2.1 _).mono ?_; rintro e v5 ⟨rfl, hb5⟩; have hS5 := hkeep _ v5 (by assumption) hb5; clear hb5)
        | (go_at_call_of 5 (Value.int IntKind.u8 4); refine (HC.out.2.2.2 _).mono ?_; rintro e v5 ⟨rfl, hb5⟩; have hS5 := hkeep _ v5 (by assumption) hb5; clear hb5)
        | fail)
      all_goals
        go_wp2_with fail
        go_meet
        case rel => exact ⟨rfl, hS5.1⟩
  case rest =>
    obtain ⟨rfl, HF⟩ := hcut
    rename World => W7
    have hS7 := HF.out.cells
    clear hst HF
    go_upto_region 10 with (first
      | (go_at_call_of 5 (Value.int IntKind.u8 1); refine (HC.out.1 _).mono ?_; rintro e W8 ⟨rfl, hb8⟩; have hS8 := hkeep _ W8 (by assumption) hb8; clear hb8)
      | fail)
    have hst8 := hS8.1.out.drew.cells
    clear hS7
    go_cut [12] from 84 to 95 (fun sa wc => sa = .bool true ∧ Hid (Four w wc w1.heap.size n v))
    case first =>
      as_aux_lemma =>
        clear hS8
        cases b
        all_goals
          go_region_held3 (fun w' => Hid (Four w w' (w1.heap.size) n v) ∧ w'.cell? ⟨w1.heap.size, 0, none⟩ = some (.int .u8 1) ∧ w'.cell? ⟨w1.heap.size, 1, none⟩ = some (.string n) ∧ w'.cell? ⟨w1.heap.size, 2, none⟩ = some (.string v) ∧ w'.cell? ⟨w1.heap.size + 1, 0, none⟩ = some (.int .u8 2) ∧ w'.cell? ⟨w1.heap.size + 1, 1, none⟩ = some (.string n) ∧ w'.cell? ⟨w1.heap.size + 1, 2, none⟩ = some (.string v) ∧ w'.cell? ⟨w1.heap.size + 1 + 1, 0, none⟩ = some (.int .u8 3) ∧ w'.cell? ⟨w1.heap.size + 1 + 1, 1, none⟩ = some (.string n) ∧ w'.cell? ⟨w1.heap.size + 1 + 1, 2, none⟩ = some (.string v) ∧ w'.cell? ⟨w1.heap.size + 1 + 1 + 1, 0, none⟩ = some (.int .u8 4) ∧ w'.cell? ⟨w1.heap.size + 1 + 1 + 1, 1, none⟩ = some (.string n) ∧ w'.cell? ⟨w1.heap.size + 1 + 1 + 1, 2, none⟩ = some (.string v)) (first | assumption | fail)
            (first
            | (go_at_call_of 6 (Value.int IntKind.u8 1); go_at_call_of 6 (Value.string s); refine (HI.out.1 _).mono ?_; rintro e v5 ⟨rfl, hb5⟩; have hS5 := hkeep _ v5 (by assumption) hb5; clear hb5)
            | (go_at_call_of 6 (Value.int IntKind.u8 2); go_at_call_of 6 (Value.string s); refine (HI.out.2.1 _).mono ?_; rintro e v5 ⟨rfl, hb5⟩; have hS5 := hkeep _ v5 (by assumption) hb5; clear hb5)
            | (go_at_call 6; refine (HI.out.2.2.2.2 _).mono ?_; rintro e v5 ⟨rfl, hb5⟩; have hS5 := hkeep _ v5 (by assumption) hb5; clear hb5)
            | fail)
          all_goals
            go_wp2_with fail
            go_meet
            case rel => exact ⟨rfl, hS5.1⟩
    case rest =>
    obtain ⟨rfl, HF⟩ := hcut
    rename World => W10
    have hS10 := HF.out.cells
    have hst10 := HF.out.drew.cells
    clear hst8 hS8 HF
    go_upto_region 11 with (fail)
    go_cut [13] from 96 to 107 (fun sa wc => sa = .bool true ∧ Hid (Four w wc w1.heap.size n v))
    case first =>
      as_aux_lemma =>
        clear hS10
        refine wp_region_any (by kernel_rfl) ?_
        change wpAny _ _ _ _ _ _ _ (World.drew _)
        refine wpAny_ready (rs := [0]) (by kernel_rfl) (by simp) ?_
        refine AllReady.cons rfl (fun K hK => ?_) AllReady.nil
        go_simp
        refine hK _ _ ?_
        clear hK K
        refine wpAny_ready (rs := [1]) (by kernel_rfl) (by simp) ?_
        refine AllReady.cons rfl (fun K hK => ?_) AllReady.nil
        go_simp
        (go_at_call_of 5 (Value.int IntKind.u8 3); refine (HC.out.2.2.1 _).mono ?_; rintro e v5 ⟨rfl, hb5⟩; have hS5 := hkeep _ v5 (by assumption) hb5; clear hb5)
        go_wp2_with fail
        refine wpAny_take (i := 2) (v := .bool true) rfl (by kernel_rfl) (by kernel_rfl) (by kernel_rfl) (fun _ _ _ h => h) (Or.inl ⟨by rfl, ?_⟩) ?_
        · intro w; go_simp; try with_reducible rfl
        simp only [Act.put, List.getElem_toArray, List.getElem_cons_zero, List.getElem_cons_succ, List.setIfInBounds_toArray, List.set_cons_zero, List.set_cons_succ]
        refine wpAny_take (i := 3) (v := .bool true) rfl (by kernel_rfl) (by kernel_rfl) (by kernel_rfl) (fun _ _ _ h => h) (Or.inl ⟨by rfl, ?_⟩) ?_
        · intro w; go_simp; try with_reducible rfl
        simp only [Act.put, List.getElem_toArray, List.getElem_cons_zero, List.getElem_cons_succ, List.setIfInBounds_toArray, List.set_cons_zero, List.set_cons_succ]
        refine wpAny_take (i := 4) (v := undef) rfl (by kernel_rfl) (by kernel_rfl) (by kernel_rfl) (fun _ _ _ h => h) (Or.inr ⟨by rfl, rfl⟩) ?_
        simp only [Act.put, List.getElem_toArray, List.getElem_cons_zero, List.getElem_cons_succ, List.setIfInBounds_toArray, List.set_cons_zero, List.set_cons_succ]
        refine wpAny_take (i := 5) (v := undef) rfl (by kernel_rfl) (by kernel_rfl) (by kernel_rfl) (fun _ _ _ h => h) (Or.inr ⟨by rfl, rfl⟩) ?_
        simp only [Act.put, List.getElem_toArray, List.getElem_cons_zero, List.getElem_cons_succ, List.setIfInBounds_toArray, List.set_cons_zero, List.set_cons_succ]
        refine wpAny_take (i := 6) (v := undef) rfl (by kernel_rfl) (by kernel_rfl) (by kernel_rfl) (fun _ _ _ h => h) (Or.inr ⟨by rfl, rfl⟩) ?_
        simp only [Act.put, List.getElem_toArray, List.getElem_cons_zero, List.getElem_cons_succ, List.setIfInBounds_toArray, List.set_cons_zero, List.set_cons_succ]
        refine wpAny_take (i := 7) (v := undef) rfl (by kernel_rfl) (by kernel_rfl) (by kernel_rfl) (fun _ _ _ h => h) (Or.inr ⟨by rfl, rfl⟩) ?_
        simp only [Act.put, List.getElem_toArray, List.getElem_cons_zero, List.getElem_cons_succ, List.setIfInBounds_toArray, List.set_cons_zero, List.set_cons_succ]
        refine wpAny_take (i := 8) (v := undef) rfl (by kernel_rfl) (by kernel_rfl) (by kernel_rfl) (fun _ _ _ h => h) (Or.inr ⟨by rfl, rfl⟩) ?_
        simp only [Act.put, List.getElem_toArray, List.getElem_cons_zero, List.getElem_cons_succ, List.setIfInBounds_toArray, List.set_cons_zero, List.set_cons_succ]
        refine wpAny_take (i := 9) (v := undef) rfl (by kernel_rfl) (by kernel_rfl) (by kernel_rfl) (fun _ _ _ h => h) (Or.inr ⟨by rfl, rfl⟩) ?_
        simp only [Act.put, List.getElem_toArray, List.getElem_cons_zero, List.getElem_cons_succ, List.setIfInBounds_toArray, List.set_cons_zero, List.set_cons_succ]
        refine wpAny_take (i := 10) (v := undef) rfl (by kernel_rfl) (by kernel_rfl) (by kernel_rfl) (fun _ _ _ h => h) (Or.inr ⟨by rfl, rfl⟩) ?_
        simp only [Act.put, List.getElem_toArray, List.getElem_cons_zero, List.getElem_cons_succ, List.setIfInBounds_toArray, List.set_cons_zero, List.set_cons_succ]
        refine wpAny_take (i := 11) (v := .bool true) rfl (by kernel_rfl) (by kernel_rfl) (by kernel_rfl) (fun _ _ _ h => h) (Or.inl ⟨by rfl, ?_⟩) ?_
        · intro w; go_simp; try with_reducible rfl
        simp only [Act.put, List.getElem_toArray, List.getElem_cons_zero, List.getElem_cons_succ, List.setIfInBounds_toArray, List.set_cons_zero, List.set_cons_succ]
        refine wpAny_take (i := 12) (v := .bool true) rfl (by kernel_rfl) (by kernel_rfl) (by kernel_rfl) (fun _ _ _ h => h) (Or.inl ⟨by rfl, ?_⟩) ?_
        · intro w; go_simp; try with_reducible rfl
        simp only [Act.put, List.getElem_toArray, List.getElem_cons_zero, List.getElem_cons_succ, List.setIfInBounds_toArray, List.set_cons_zero, List.set_cons_succ]
        refine wpAny_done (by kernel_rfl) ?_ _
        go_wp2_with fail
        go_meet
        case rel => exact ⟨rfl, hS5.1⟩
    case rest =>
    obtain ⟨rfl, HF⟩ := hcut
    clear hS10 hst10
    go_wp2_with fail
    exact bodyPost_ret (v := .bool true) (by simp [results, Tryd.results3, go_sem]) rfl ⟨rfl, HF.out.bel⟩
end Go.Proofs.YtamlnkmcbbeicaaDoor
