/- The queue of merge.Samples: its methods over a row of items. -/
import Derived.Test.YtihidnmpngeohaaGreatG02
import Derived.Deep.DeepCutAuto
import Derived.OwnWalk
import Derived.RegionTactic
import Derived.ChangeAlike
import Derived.BigRegion
import Derived.BigQuiet
import Derived.Deep.QuietTactic
import Derived.Laws.EntriesVeiled
import Derived.Deep.AppendLies
import Derived.Deep.RegionLaw
import Derived.Test.YtihidnmpngeohaaGreatG00
namespace Go.Proofs.YtihidnmpngeohaaGreat
open Go.RowKit Go.Lib

/-- An item: a sample, its list's rank, its cursor. -/
structure It where
  t : Int
  v : Int
  rank : Int
  cur : Nat
def It.fn (x : It) : Value := .func (.func 105) #[.pointer (some ⟨x.cur, 0, none⟩)] #[]
def It.cells (x : It) : List Value := [.int .i64 x.t, .int .u64 x.v, .int .i64 x.rank, .func (.func 105) #[.pointer (some ⟨x.cur, 0, none⟩)] #[]]
theorem It.len (x : It) : x.cells.length = 4 := rfl
def itLess (x y : It) : Bool := decide (x.t < y.t ∨ (x.t = y.t ∧ x.rank < y.rank))
set_option maxHeartbeats 2000000 in
set_option maxRecDepth 100000 in
theorem queueLess (B g n c i j : Nat) (l : List It) (x y : It) (w : World) (ho : w.ownsRow B 172 4 (.slice (some ⟨g, 0, none⟩) n c) n (l.flatMap It.cells)) (hi : l[i]? = some x) (hj : l[j]? = some y) :
    Calls Tryz.prog 212 #[.slice (some ⟨g, 0, none⟩) n c, .int .i64 i, .int .i64 j] w fun e w' => e = .returned (.bool (itLess x y)) ∧ ∃ q, w' = w.drewN q := by
  have hl := owns_len ho It.len (by omega)
  have hil : i < n := by have := (List.getElem?_eq_some_iff.1 hi).1; omega
  have hjl : j < n := by have := (List.getElem?_eq_some_iff.1 hj).1; omega
  have ci0 := owns_at ho It.len hi (j := 0) rfl
  have ci2 := owns_at ho It.len hi (j := 2) rfl
  have cj0 := owns_at ho It.len hj (j := 0) rfl
  have cj2 := owns_at ho It.len hj (j := 2) rfl
  simp only [Nat.add_zero] at ci0 cj0
  have i0 : (0 : Int) ≤ (i : Int) := by omega
  have i1 : (i : Int) < (n : Int) := by omega
  have j0 : (0 : Int) ≤ (j : Int) := by omega
  have j1 : (j : Int) < (n : Int) := by omega
  clear ho hl hi hj
  by_cases h1 : x.t < y.t
  · have hr : itLess x y = true := by unfold itLess; simp [h1]
    rw [hr]
    have h1' : decide (x.t < y.t) = true := by simpa using h1
    clear hr
    go_enter Tryz.func212, Tryz.ntmps212
    go_wp2_with (go_quiet (fail))
    go_ret
    exact ⟨rfl, _, rfl⟩
  · have h1' : decide (x.t < y.t) = false := by simpa using h1
    by_cases h2 : x.t = y.t
    · have h2' : (x.t == y.t) = true := by simpa using h2
      by_cases h3 : x.rank < y.rank
      · have hr : itLess x y = true := by unfold itLess; simp [h2, h3]
        rw [hr]
        have h3' : decide (x.rank < y.rank) = true := by simpa using h3
        clear hr h2
        go_enter Tryz.func212, Tryz.ntmps212
        go_wp2_with (go_quiet (fail))
        go_ret
        exact ⟨rfl, _, rfl⟩
      · have hr : itLess x y = false := by unfold itLess; simp [h1, h3]
        rw [hr]
        have h3' : decide (x.rank < y.rank) = false := by simpa using h3
        clear hr h2
        go_enter Tryz.func212, Tryz.ntmps212
        go_wp2_with (go_quiet (fail))
        go_ret
        exact ⟨rfl, _, rfl⟩
    · have hr : itLess x y = false := by unfold itLess; simp [h1, h2]
      rw [hr]
      have h2' : (x.t == y.t) = false := by simpa using h2
      clear hr
      go_enter Tryz.func212, Tryz.ntmps212
      go_wp2_with (go_quiet (fail))
      go_ret
      exact ⟨rfl, _, rfl⟩
theorem flatMap_set4 {α : Type} {enc : α → List Value} (hsz : ∀ x, (enc x).length = 4) (x : α) (a b c d : Value) (hx : enc x = [a, b, c, d]) : ∀ (l : List α) (i : Nat), i < l.length → ((((l.flatMap enc).set (i * 4) a).set (i * 4 + 1) b).set (i * 4 + 2) c).set (i * 4 + 3) d = (l.set i x).flatMap enc
  | [], i, h => by simp at h
  | y :: l, 0, _ => by
    have hy := hsz y
    match hq : enc y, hy with
    | [p, q, r, s], _ => simp [hq, hx]
  | y :: l, i + 1, h => by
    have ih := flatMap_set4 hsz x a b c d hx l i (by simpa using h)
    have hy := hsz y
    match hq : enc y, hy with
    | [p, q, r, s], _ =>
      simp only [List.flatMap_cons, hq, List.set_cons_succ, List.cons_append, List.nil_append]
      rw [show (i + 1) * 4 = i * 4 + 1 + 1 + 1 + 1 by omega, show i * 4 + 1 + 1 + 1 + 1 + 1 = (i * 4 + 1) + 1 + 1 + 1 + 1 by omega, show i * 4 + 1 + 1 + 1 + 1 + 2 = (i * 4 + 2) + 1 + 1 + 1 + 1 by omega, show i * 4 + 1 + 1 + 1 + 1 + 3 = (i * 4 + 3) + 1 + 1 + 1 + 1 by omega]
      simp only [List.set_cons_succ]
      rw [ih]
/-- One item is stored. -/
def put4 (w : World) (g i : Nat) (x : It) : World := (((w.setCell ⟨g, i * 4, none⟩ (.int .i64 x.t)).setCell ⟨g, i * 4 + 1, none⟩ (.int .u64 x.v)).setCell ⟨g, i * 4 + 2, none⟩ (.int .i64 x.rank)).setCell ⟨g, i * 4 + 3, none⟩ x.fn
theorem owns_put4 {w : World} {B g n c : Nat} {e : TypeId} {l : List It} (h : w.ownsRow B e 4 (.slice (some ⟨g, 0, none⟩) n c) n (l.flatMap It.cells)) {i : Nat} (hi : i < l.length) (x : It) :
    (put4 w g i x).ownsRow B e 4 (.slice (some ⟨g, 0, none⟩) n c) n ((l.set i x).flatMap It.cells) ∧ w.grownBy (put4 w g i x) (some g) := by
  obtain ⟨h1, g1⟩ := h.stored (i * 4) (.int .i64 x.t)
  obtain ⟨h2, g2⟩ := h1.stored (i * 4 + 1) (.int .u64 x.v)
  obtain ⟨h3, g3⟩ := h2.stored (i * 4 + 2) (.int .i64 x.rank)
  obtain ⟨h4, g4⟩ := h3.stored (i * 4 + 3) x.fn
  have hf := flatMap_set4 It.len x (.int .i64 x.t) (.int .u64 x.v) (.int .i64 x.rank) x.fn rfl l i hi
  rw [hf] at h4
  exact ⟨h4, grownBy_trans (grownBy_trans (grownBy_trans g1 g2) g3) g4⟩
def swapL (l : List It) (i j : Nat) (x y : It) : List It := (l.set i y).set j x
/-- What Swap leaves. -/
def SwapPost (w : World) (B g n c : Nat) (l : List It) (e : Ending) (w' : World) : Prop := e = .returned (.tuple #[]) ∧ w'.ownsRow B 172 4 (.slice (some ⟨g, 0, none⟩) n c) n (l.flatMap It.cells) ∧ w.grownBy w' (some g)
theorem grownBy_drew {a w : World} {r : Option Nat} (h : a.grownBy w r) : a.grownBy w.drew r := ⟨h.os, h.tape, h.output, h.size, h.block⟩
theorem swap_end {B g n c i j : Nat} {l : List It} (x y : It) {w : World} (ho : w.ownsRow B 172 4 (.slice (some ⟨g, 0, none⟩) n c) n (l.flatMap It.cells)) (hi : i < l.length) (hj : j < l.length) :
    SwapPost w B g n c (swapL l i j x y) (.returned (.tuple #[])) (put4 (put4 w g i y) g j x).drew := by
  have h1 := owns_put4 ho hi y
  have h2 := owns_put4 h1.1 (i := j) (by rw [List.length_set]; exact hj) x
  exact ⟨rfl, h2.1.drew, grownBy_drew (grownBy_trans h1.2 h2.2)⟩
set_option maxHeartbeats 4000000 in
set_option maxRecDepth 100000 in
theorem queueSwap (B g n c i j : Nat) (l : List It) (x y : It) (w : World) (ho : w.ownsRow B 172 4 (.slice (some ⟨g, 0, none⟩) n c) n (l.flatMap It.cells)) (hi : l[i]? = some x) (hj : l[j]? = some y) (hij : i ≠ j) :
    Calls Tryz.prog 215 #[.slice (some ⟨g, 0, none⟩) n c, .int .i64 i, .int .i64 j] w (SwapPost w B g n c (swapL l i j x y)) := by
  have hl := owns_len ho It.len (by omega)
  have hil : i < n := by have := (List.getElem?_eq_some_iff.1 hi).1; omega
  have hjl : j < n := by have := (List.getElem?_eq_some_iff.1 hj).1; omega
  have ci0 := owns_at ho It.len hi (j := 0) rfl
  have ci1 := owns_at ho It.len hi (j := 1) rfl
  have ci2 := owns_at ho It.len hi (j := 2) rfl
  have ci3 := owns_at ho It.len hi (j := 3) rfl
  have cj0 := owns_at ho It.len hj (j := 0) rfl
  have cj1 := owns_at ho It.len hj (j := 1) rfl
  have cj2 := owns_at ho It.len hj (j := 2) rfl
  have cj3 := owns_at ho It.len hj (j := 3) rfl
  simp only [Nat.add_zero] at ci0 cj0
  have fi0 := ho.frozenAt (i * 4)
  have fi1 := ho.frozenAt (i * 4 + 1)
  have fi2 := ho.frozenAt (i * 4 + 2)
  have fi3 := ho.frozenAt (i * 4 + 3)
  have fj0 := ho.frozenAt (j * 4)
  have fj1 := ho.frozenAt (j * 4 + 1)
  have fj2 := ho.frozenAt (j * 4 + 2)
  have fj3 := ho.frozenAt (j * 4 + 3)
  have i0 : (0 : Int) ≤ (i : Int) := by omega
  have i1 : (i : Int) < (n : Int) := by omega
  have j0 : (0 : Int) ≤ (j : Int) := by omega
  have j1 : (j : Int) < (n : Int) := by omega
  have HL := Lib.hid (show _ ∧ _ from ⟨ho, hl⟩)
  clear ho hl hi hj
  have hne : ∀ a b, a < 4 → b < 4 → i * 4 + a ≠ j * 4 + b := fun a b _ _ h => by omega
  go_enter Tryz.func215, Tryz.ntmps215
  go_region
  all_goals
    go_end0
    exact swap_end x y HL.out.1 (by have := HL.out.2; omega) (by have := HL.out.2; omega)
set_option maxHeartbeats 4000000 in
set_option maxRecDepth 100000 in
theorem queueSwapSame (B g n c i : Nat) (l : List It) (x : It) (w : World) (ho : w.ownsRow B 172 4 (.slice (some ⟨g, 0, none⟩) n c) n (l.flatMap It.cells)) (hi : l[i]? = some x) :
    Calls Tryz.prog 215 #[.slice (some ⟨g, 0, none⟩) n c, .int .i64 i, .int .i64 i] w (SwapPost w B g n c (swapL l i i x x)) := by
  have hl := owns_len ho It.len (by omega)
  have hil : i < n := by have := (List.getElem?_eq_some_iff.1 hi).1; omega
  have ci0 := owns_at ho It.len hi (j := 0) rfl
  have ci1 := owns_at ho It.len hi (j := 1) rfl
  have ci2 := owns_at ho It.len hi (j := 2) rfl
  have ci3 := owns_at ho It.len hi (j := 3) rfl
  simp only [Nat.add_zero] at ci0
  have fi0 := ho.frozenAt (i * 4)
  have fi1 := ho.frozenAt (i * 4 + 1)
  have fi2 := ho.frozenAt (i * 4 + 2)
  have fi3 := ho.frozenAt (i * 4 + 3)
  have i0 : (0 : Int) ≤ (i : Int) := by omega
  have i1 : (i : Int) < (n : Int) := by omega
  have HL := Lib.hid (show _ ∧ _ from ⟨ho, hl⟩)
  clear ho hl hi
  go_enter Tryz.func215, Tryz.ntmps215
  go_region
  all_goals
    go_end0
    exact swap_end x x HL.out.1 (by have := HL.out.2; omega) (by have := HL.out.2; omega)
theorem Tryz.assertItem (v : Value) (w : World) : (Instr.typeAssert (.iface 172 v) 20 172 false).run Tryz.prog w = .ok v w := by kernel_rfl
theorem Tryz.infoItem : (Tryz.prog.info? 172).map (fun i => (i.zero, i.size, i.bytes)) = some (some (.agg #[.int .i64 0, .int .u64 0, .int .i64 0, .nilFunc]), 4, 32) := by kernel_rfl
/-- From block B on only blocks of some element types have turned. -/
structure KeptT (B : Nat) (S : TypeId → Prop) (w w' : World) : Prop where
  os : w'.os = w.os
  tape : w'.tape = w.tape
  output : w'.output = w.output
  size : w.heap.size ≤ w'.heap.size
  block : ∀ k, k < w.heap.size → (k < B ∨ ∃ cs t fz, w.heap[k]? = some (.cells cs t fz) ∧ ¬ S t) → w'.heap[k]? = w.heap[k]?
section
variable {B : Nat} {S : TypeId → Prop} {a w w' : World}
theorem KeptT.refl (B : Nat) (S : TypeId → Prop) (w : World) : KeptT B S w w := ⟨rfl, rfl, rfl, Nat.le_refl _, fun _ _ _ => rfl⟩
theorem KeptT.trans (h : KeptT B S a w) (g : KeptT B S w w') : KeptT B S a w' :=
  ⟨g.os.trans h.os, g.tape.trans h.tape, g.output.trans h.output, Nat.le_trans h.size g.size, fun k hk hs => by
    have h1 := h.block k hk hs
    refine (g.block k (Nat.lt_of_lt_of_le hk h.size) ?_).trans h1
    rcases hs with hs | ⟨cs, t, fz, e, hn⟩
    · exact .inl hs
    · exact .inr ⟨cs, t, fz, h1.trans e, hn⟩⟩
theorem KeptT.of_below (h : Below w.heap.size w w') : KeptT B S w w' := ⟨h.os, h.tape, h.output, h.size, fun k hk _ => h.block k hk⟩
theorem KeptT.of_grownBy {r : Option Nat} (h : w.grownBy w' r) (hr : ∀ k, r = some k → B ≤ k ∧ ∀ cs t fz, w.heap[k]? = some (.cells cs t fz) → S t) : KeptT B S w w' :=
  ⟨h.os, h.tape, h.output, h.size, fun k hk hs => h.block k hk fun e => by
    obtain ⟨h1, h2⟩ := hr k e.symm
    rcases hs with hs | ⟨cs, t, fz, e, hn⟩
    · omega
    · exact hn (h2 cs t fz e)⟩
theorem KeptT.drewN (h : KeptT B S a w) (n : Nat) : KeptT B S a (w.drewN n) := ⟨h.os, h.tape, h.output, h.size, h.block⟩
theorem KeptT.drew (h : KeptT B S a w) : KeptT B S a w.drew := ⟨h.os, h.tape, h.output, h.size, h.block⟩
theorem KeptT.below (h : KeptT B S w w') : Below B w w' ∨ w.heap.size < B := by
  by_cases hB : B ≤ w.heap.size
  · exact .inl ⟨h.os, h.tape, h.output, h.size, fun k hk => h.block k (by omega) (.inl hk)⟩
  · exact .inr (by omega)
theorem KeptT.owns {e : TypeId} {base size n : Nat} {v : Value} {xs : List Value} (h : KeptT B S w w') (ho : w.ownsRow base e size v n xs) (hn : ¬ S e) : w'.ownsRow base e size v n xs := by
  refine ⟨ho.1, ?_⟩
  rcases ho.2 with h2 | ⟨b, cap, cur, rfl, hb, hg, rest⟩
  · exact .inl h2
  · exact .inr ⟨b, cap, cur, rfl, hb, (h.block b (Array.getElem?_eq_some_iff.1 hg).1 (.inr ⟨_, _, _, hg, hn⟩)).trans hg, rest⟩
theorem KeptT.cells {e : TypeId} {b : Nat} {cs : Array Value} {fz : Nat × Nat} (h : KeptT B S w w') (hb : w.heap[b]? = some (.cells cs e fz)) (hn : ¬ S e) : w'.heap[b]? = some (.cells cs e fz) :=
  (h.block b (Array.getElem?_eq_some_iff.1 hb).1 (.inr ⟨_, _, _, hb, hn⟩)).trans hb
end
theorem var_cell {w : World} {b : Nat} {v : Value} {t : TypeId} (h : w.heap[b]? = some (.cells #[v] t (0, 0))) : w.cell? ⟨b, 0, none⟩ = some v := by rw [cell_of_row w b 0 _ _ _ h]; rfl
theorem var_free {w : World} {b : Nat} {v : Value} {t : TypeId} (h : w.heap[b]? = some (.cells #[v] t (0, 0))) : w.frozen? ⟨b, 0, none⟩ = false := by simp [World.frozen?, h]
/-- The queue's own element types. -/
def QT (t : TypeId) : Prop := t = 162 ∨ t = 172
/-- The queue: its variable in block qb holds the slice qv, which holds the items l. -/
structure Qu (w : World) (B qb : Nat) (qv : Value) (l : List It) : Prop where
  var : w.heap[qb]? = some (.cells #[qv] 162 (0, 0))
  own : w.ownsRow B 172 4 qv l.length (l.flatMap It.cells)
  base : B ≤ qb
theorem Qu.lt {w : World} {B qb : Nat} {qv : Value} {l : List It} (h : Qu w B qb qv l) : qb < w.heap.size := (Array.getElem?_eq_some_iff.1 h.var).1
theorem Qu.cell {w : World} {B qb : Nat} {qv : Value} {l : List It} (h : Qu w B qb qv l) : w.cell? ⟨qb, 0, none⟩ = some qv := by rw [cell_of_row w qb 0 _ _ _ h.var]; rfl
theorem Qu.free {w : World} {B qb : Nat} {qv : Value} {l : List It} (h : Qu w B qb qv l) : w.frozen? ⟨qb, 0, none⟩ = false := by simp [World.frozen?, h.var]
theorem Qu.type {w : World} {B qb g : Nat} {qv : Value} {l : List It} (h : Qu w B qb qv l) (hg : qv.ownBlock = some g) : ∀ cs t fz, w.heap[g]? = some (.cells cs t fz) → t = 172 := by
  intro cs t fz e
  rcases h.own.2 with ⟨rfl, _⟩ | ⟨b, cap, cur, rfl, _, hh, _⟩
  · cases hg
  · obtain rfl : b = g := by simpa [Value.ownBlock] using hg
    rw [hh] at e
    injection e with e
    injection e with _ e
    exact e.symm
theorem Qu.ne {w : World} {B qb : Nat} {qv : Value} {l : List It} (h : Qu w B qb qv l) : qv.ownBlock ≠ some qb := fun e => by
  have := h.type e _ _ _ h.var
  revert this; decide
theorem Qu.drew {w : World} {B qb : Nat} {qv : Value} {l : List It} (h : Qu w B qb qv l) : Qu w.drew B qb qv l := ⟨h.var, h.own.drew, h.base⟩
theorem Qu.drewN {w : World} {B qb : Nat} {qv : Value} {l : List It} (h : Qu w B qb qv l) (k : Nat) : Qu (w.drewN k) B qb qv l := ⟨h.var, h.own, h.base⟩
theorem grownBy_set1 {w : World} (b : Nat) (v : Value) : w.grownBy (w.setCell ⟨b, 0, none⟩ v) (some b) := ⟨rfl, rfl, rfl, by simp [World.setCell], fun k _ hk => Below.heap_setCell _ _ _ _ (fun e => hk (by rw [e]))⟩
theorem grownBy_alloc' {w w' : World} {o : Obj} {r : Option Nat} (h : (w.alloc o).grownBy w' r) : w.grownBy w' r :=
  ⟨h.os, h.tape, h.output, by have := h.size; simp at this; omega, fun k hk hn => (h.block k (by simp; omega) hn).trans (Below.heap_alloc _ _ _ hk)⟩
theorem grownBy_drew' {w w' : World} {r : Option Nat} (h : w.drew.grownBy w' r) : w.grownBy w' r := ⟨h.os, h.tape, h.output, h.size, h.block⟩
/-- The queue's variable gets a new slice. -/
theorem qu_put {w w5 : World} {B qb g n c : Nat} {qv : Value} {l l' : List It} (h : Qu w B qb qv l) (hg5 : w.grownBy w5 qv.ownBlock) (hown : w5.ownsRow B 172 4 (.slice (some ⟨g, 0, none⟩) n c) n (l'.flatMap It.cells)) (hl' : l'.length = n) (hgq : g ≠ qb) :
    Qu (w5.setCell ⟨qb, 0, none⟩ (.slice (some ⟨g, 0, none⟩) n c)) B qb (.slice (some ⟨g, 0, none⟩) n c) l' ∧ KeptT B QT w (w5.setCell ⟨qb, 0, none⟩ (.slice (some ⟨g, 0, none⟩) n c)) := by
  have hh5 : w5.heap[qb]? = some (.cells #[qv] 162 (0, 0)) := (hg5.block qb h.lt (fun e => h.ne e.symm)).trans h.var
  refine ⟨⟨?_, ?_, h.base⟩, ?_⟩
  · have := heap_setCell_same w5 qb 0 _ _ (.slice (some ⟨g, 0, none⟩) n c) hh5
    simpa using this
  · rw [hl']
    exact hown.kept (grownBy_set1 qb _) (.inr (by simp [Value.ownBlock]; exact hgq))
  · refine (KeptT.of_grownBy hg5 fun k hk => ⟨(h.own.lt k hk).1, fun cs t fz e => .inr (h.type hk cs t fz e)⟩).trans (KeptT.of_grownBy (grownBy_set1 qb _) fun k hk => ?_)
    injection hk with hk
    subst hk
    refine ⟨h.base, fun cs t fz e => ?_⟩
    rw [hh5] at e
    injection e with e
    injection e with _ e
    exact .inl e.symm
def QPost (w : World) (B qb : Nat) (l : List It) (r : Value) (e : Ending) (w' : World) : Prop := e = .returned r ∧ ∃ qv, Qu w' B qb qv l ∧ KeptT B QT w w'
set_option maxHeartbeats 4000000 in
set_option maxRecDepth 100000 in
theorem queuePush (B qb : Nat) (qv : Value) (l : List It) (x : It) (w : World) (hq : Qu w B qb qv l) (hm : l.length ≤ 1000000) (hB : B ≤ w.heap.size) :
    Calls Tryz.prog 214 #[.pointer (some ⟨qb, 0, none⟩), .iface 172 (.agg #[.int .i64 x.t, .int .u64 x.v, .int .i64 x.rank, .func (.func 105) #[.pointer (some ⟨x.cur, 0, none⟩)] #[]])] w (QPost w B qb (l ++ [x]) (.tuple #[])) := by
  have c0 := hq.cell
  have f0 := hq.free
  have HQ := Lib.hid hq
  obtain ⟨i0, hi, hz0, hz1, hz2⟩ := info_parts Tryz.infoItem
  have HI := Lib.hid (show _ ∧ _ ∧ _ ∧ _ from ⟨hi, hz0, hz1, hz2⟩)
  clear hq hi hz0 hz1 hz2
  go_enter Tryz.func214, Tryz.ntmps214
  have hta := Tryz.assertItem
  have hlt := HQ.out.lt
  obtain ⟨hi, hz0, hz1, hz2⟩ := HI.out
  go_region_law ((refine step_append_lies _ (by rfl) _ _ 162 (by rfl) B 172 i0 _ 4 32 Tryz.underlying162 hi hz0 hz1 hz2 rfl (by omega) qv l.length (l.flatMap It.cells) (by rfl) (by exact HQ.out.own.alloc _) ⟨w.heap.size, 0, none⟩ 1 1 x.cells (by rfl) rfl (by exact cells_at _ (by simp) x.cells _) (by intro u hu; simp only [It.cells, List.mem_cons, List.not_mem_nil, or_false] at hu; rcases hu with rfl | rfl | rfl | rfl <;> rfl) (by omega) (by unfold maxLen; omega) (by omega) (by simp; omega) (w.heap.size + 1) (by simp) ?_; intro g cap w5 hown5 hg5 hl5 hlt5; have hh5 : w5.heap[qb]? = some (.cells #[qv] 162 (0, 0)) := (hg5.block qb (by simp; omega) (fun e => HQ.out.ne e.symm)).trans (by exact (Below.heap_alloc _ _ _ hlt).trans HQ.out.var); have c5 : w5.cell? ⟨qb, 0, none⟩ = some qv := var_cell hh5; have f5 := var_free hh5))
  all_goals
    go_end0
    have hg6 : w.grownBy w5 qv.ownBlock := by first | exact grownBy_alloc' hg5 | exact grownBy_drew' (grownBy_alloc' hg5)
    have hgq : g ≠ qb := by
      rcases hl5 with h | h
      · intro e; exact HQ.out.ne (by rw [h, e])
      · omega
    have h6 := qu_put (l' := l ++ [x]) HQ.out hg6 (by rw [List.flatMap_append]; simpa using hown5) (by simp) hgq
    clear hg5 hg6 hown5 hgq hl5 hh5 c5 f5
    exact ⟨rfl, _, h6⟩
/-- An item as the value of an interface. -/
def It.boxed (x : It) : Value := .iface 172 (.agg #[.int .i64 x.t, .int .u64 x.v, .int .i64 x.rank, .func (.func 105) #[.pointer (some ⟨x.cur, 0, none⟩)] #[]])
set_option maxHeartbeats 4000000 in
set_option maxRecDepth 100000 in
theorem queuePop (B qb : Nat) (qv : Value) (l : List It) (x : It) (w : World) (hq : Qu w B qb qv (l ++ [x])) (hm : l.length ≤ 1000000) :
    Calls Tryz.prog 213 #[.pointer (some ⟨qb, 0, none⟩)] w (QPost w B qb l x.boxed) := by
  have hlen : (l ++ [x]).length = l.length + 1 := by simp
  obtain ⟨g, c, rfl, hgB, hgl⟩ := hq.own.form (by omega)
  have c0 := hq.cell
  have f0 := hq.free
  rw [hlen] at c0
  have hx : (l ++ [x])[l.length]? = some x := by simp
  have cx0 := owns_at hq.own It.len hx (j := 0) rfl
  have cx1 := owns_at hq.own It.len hx (j := 1) rfl
  have cx2 := owns_at hq.own It.len hx (j := 2) rfl
  have cx3 := owns_at hq.own It.len hx (j := 3) rfl
  simp only [Nat.add_zero] at cx0
  have hgq : g ≠ qb := fun e => hq.ne (by rw [e]; rfl)
  have hcap := (owns_cap hq.own).2
  rw [hlen] at hcap
  obtain ⟨m, hm'⟩ : ∃ m, l.length = m := ⟨_, rfl⟩
  rw [hm'] at hm c0 cx0 cx1 cx2 cx3 hcap
  have HQ := Lib.hid (show _ ∧ _ from ⟨hq, hm'⟩)
  have hqlt := hq.lt
  have hm0 : (0 : Int) ≤ (m : Int) := by omega
  have hmw : IntKind.i64.wrap ((m : Int) + 1 - 1) = m := by rw [show (m : Int) + 1 - 1 = m by omega]; exact IntWalk.i64_in _ (by omega)
  clear hq hlen hx hm'
  go_enter Tryz.func213, Tryz.ntmps213
  go_wp2
  go_region
  go_wp2
  have hh : (w.alloc (.cells #[.int .i64 x.t, .int .u64 x.v, .int .i64 x.rank, x.fn] 172)).drew.heap[w.heap.size]? = some (.cells #[.int .i64 x.t, .int .u64 x.v, .int .i64 x.rank, x.fn] 172 (0, 0)) := heap_alloc_new w _
  have hg6 : w.grownBy (w.alloc (.cells #[.int .i64 x.t, .int .u64 x.v, .int .i64 x.rank, x.fn] 172)).drew (some g) := grownBy_drew (World.grownBy_alloc _ _ _)
  have hq2 : (w.alloc (.cells #[.int .i64 x.t, .int .u64 x.v, .int .i64 x.rank, x.fn] 172)).drew.heap[qb]? = some (.cells #[.slice (some ⟨g, 0, none⟩) (m + 1) c] 162 (0, 0)) := by
    have h1 := (hg6.block qb hqlt (fun e => hgq (by injection e with e; exact e.symm))).trans HQ.out.1.var
    rwa [show (l ++ [x]).length = m + 1 by simp [HQ.out.2]] at h1
  have ho2 : (w.alloc (.cells #[.int .i64 x.t, .int .u64 x.v, .int .i64 x.rank, x.fn] 172)).drew.ownsRow B 172 4 (.slice (some ⟨g, 0, none⟩) m c) m (l.flatMap It.cells) := by
    have h1 := HQ.out.1.own
    rw [show (l ++ [x]).length = m + 1 by simp [HQ.out.2]] at h1
    have h2 := owns_take h1 (i := m) (by omega)
    rw [flatMap_take It.len, show (l ++ [x]).take m = l by rw [← HQ.out.2]; simp] at h2
    exact (h2.alloc _).drew
  unfold It.fn at hh hg6 hq2 ho2
  generalize (w.alloc (.cells #[.int .i64 x.t, .int .u64 x.v, .int .i64 x.rank, .func (.func 105) #[.pointer (some ⟨x.cur, 0, none⟩)] #[]] 172)).drew = w2 at hh hg6 hq2 ho2 ⊢
  have q0 := var_cell hq2
  have qf := var_free hq2
  have b0 : w2.cell? ⟨w.heap.size, 0, none⟩ = some (.int .i64 x.t) := by rw [cell_of_row w2 _ 0 _ _ _ hh]; rfl
  have b1 : w2.cell? ⟨w.heap.size, 1, none⟩ = some (.int .u64 x.v) := by rw [cell_of_row w2 _ 1 _ _ _ hh]; rfl
  have b2 : w2.cell? ⟨w.heap.size, 2, none⟩ = some (.int .i64 x.rank) := by rw [cell_of_row w2 _ 2 _ _ _ hh]; rfl
  have b3 : w2.cell? ⟨w.heap.size, 3, none⟩ = some (.func (.func 105) #[.pointer (some ⟨x.cur, 0, none⟩)] #[]) := by rw [cell_of_row w2 _ 3 _ _ _ hh]; rfl
  have hne : w.heap.size ≠ qb := by omega
  have H2 := Lib.hid (show _ ∧ _ ∧ _ from ⟨hg6, ho2, hq2⟩)
  clear hh hg6 hq2 ho2 c0 f0 cx0 cx1 cx2 cx3
  have hcap' : (m : Int) ≤ (c : Int) := by omega
  have h6 := qu_put (l' := l) HQ.out.1 (by rw [show (l ++ [x]).length = m + 1 by simp [HQ.out.2]]; exact H2.out.1) H2.out.2.1 HQ.out.2 hgq
  have H6 := Lib.hid h6
  clear h6
  go_region
  all_goals
    go_wp2
    go_ret
    exact ⟨rfl, _, H6.out.1.drew, H6.out.2.drew⟩
end Go.Proofs.YtihidnmpngeohaaGreat
