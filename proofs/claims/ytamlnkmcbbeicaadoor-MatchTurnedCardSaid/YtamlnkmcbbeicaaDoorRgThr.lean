/- Patterns' machine at work: threads, marks, where they lie, and what keeps them. -/
import Derived.Test.YtamlnkmcbbeicaaDoorG31
namespace Go.Proofs.YtamlnkmcbbeicaaDoor
open Go.RowKit Go.Lib
open RX (PS Tr Pr Stp Th)

/-- The type of a block's cells. -/
def tyOf (W : World) (k : Nat) : Option TypeId := match W.heap[k]? with
  | some (.cells _ t _) => some t
  | _ => none
theorem ty_box {W : World} {k : Nat} {C : Array Value} {t : TypeId} {f : Nat × Nat} (h : W.heap[k]? = some (.cells C t f)) : tyOf W k = some t := by unfold tyOf; rw [h]
theorem ty_own {W : World} {base sz n k : Nat} {e : TypeId} {v : Value} {xs : List Value} (h : W.ownsRow base e sz v n xs) (hk : v.ownBlock = some k) : tyOf W k = some e := by
  rcases h.2 with ⟨rfl, _⟩ | ⟨g, cap, cur, rfl, _, hg, _⟩
  · cases hk
  · obtain rfl : g = k := by simpa [Value.ownBlock] using hk
    exact ty_box hg
theorem ty_none {W : World} {k : Nat} (h : W.heap.size ≤ k) : tyOf W k = none := by unfold tyOf; rw [Array.getElem?_eq_none h]
theorem ty_kept {S : Nat → Prop} {W W' : World} (hg : GrownIn S W W') {k : Nat} (hk : k < W.heap.size) (hS : ¬ S k) : tyOf W' k = tyOf W k := by unfold tyOf; rw [hg.block k hk hS]
/-- What may be written: only blocks whose type is none of these. -/
def Off (S : Nat → Prop) (W : World) (t : TypeId) : Prop := ∀ k, S k → tyOf W k ≠ some t
theorem off_new (W : World) (t : TypeId) : Off (fun k => W.heap.size ≤ k) W t := fun k hk => by rw [ty_none hk]; simp
theorem off_own {W : World} {base sz n : Nat} {e t : TypeId} {v : Value} {xs : List Value} (h : W.ownsRow base e sz v n xs) (ht : e ≠ t) : Off (fun k => v.ownBlock = some k) W t := fun k hk => by
  rw [ty_own h hk]; exact fun e => ht (by injection e)
theorem off_box {W : World} {k : Nat} {C : Array Value} {e t : TypeId} {f : Nat × Nat} (h : W.heap[k]? = some (.cells C e f)) (ht : e ≠ t) : Off (fun j => j = k) W t := fun j hj => by
  rw [hj, ty_box h]; exact fun e => ht (by injection e)
theorem Rgx.keepS {S : Nat → Prop} {B rp many : Nat} {W W' : World} {a : Value} {l : List Stp} (h : Rgx B W rp a l many) (hg : GrownIn S W W') (h1 : Off S W 57) (h2 : Off S W 63) : Rgx B W' rp a l many :=
  ⟨(hg.block rp h.lt (fun e => h1 rp e (ty_box h.box))).trans h.box, hg.owns h.row (fun k hk e => h2 k e (ty_own h.row hk)), h.ne, h.lo⟩
theorem own_keepS {S : Nat → Prop} {W W' : World} {base sz n : Nat} {e : TypeId} {v : Value} {xs : List Value} (h : W.ownsRow base e sz v n xs) (hg : GrownIn S W W') (ho : Off S W e) : W'.ownsRow base e sz v n xs :=
  hg.owns h fun k hk e => ho k e (ty_own h hk)
/-- Marks, where they lie. -/
def MarkV (W : World) (v : Value) (m : List Int) : Prop := W.ownsRow 0 3 1 v m.length (m.map (Value.int .i64))
/-- Threads by their places and marks. -/
def ThsV (W : World) : List (Nat × Value) → List Th → Prop
  | [], ts => ts = []
  | x :: xs, ts => ∃ m us, ts = (x.1, m) :: us ∧ MarkV W x.2 m ∧ ThsV W xs us
def encT (x : Nat × Value) : List Value := [.int .i64 x.1, x.2]
theorem encT_len (x : Nat × Value) : (encT x).length = 2 := rfl
section
variable {S : Nat → Prop} {W W' : World}
theorem MarkV.keepS {v : Value} {m : List Int} (h : MarkV W v m) (hg : GrownIn S W W') (ho : Off S W 3) : MarkV W' v m := own_keepS h hg ho
theorem MarkV.form {v : Value} {m : List Int} (h : MarkV W v m) : ∃ A c, v = .slice A m.length c ∧ m.length ≤ c ∧ c ≤ maxLen := owns_slice h
theorem ThsV.keepS (hg : GrownIn S W W') (ho : Off S W 3) : ∀ {xs : List (Nat × Value)} {ts : List Th}, ThsV W xs ts → ThsV W' xs ts
  | [], _, h => by rw [ThsV] at h ⊢; exact h
  | x :: xs, ts, h => by
    rw [ThsV] at h ⊢
    obtain ⟨m, us, e, h1, h2⟩ := h
    exact ⟨m, us, e, h1.keepS hg ho, ThsV.keepS hg ho h2⟩
theorem ThsV.length : ∀ {xs : List (Nat × Value)} {ts : List Th}, ThsV W xs ts → xs.length = ts.length
  | [], _, h => by rw [ThsV] at h; rw [h]; rfl
  | x :: xs, ts, h => by
    rw [ThsV] at h
    obtain ⟨m, us, e, h1, h2⟩ := h
    rw [e, List.length_cons, List.length_cons, h2.length]
theorem ThsV.snoc {v : Value} {p : Nat} {m : List Int} (hm : MarkV W v m) : ∀ {xs : List (Nat × Value)} {ts : List Th}, ThsV W xs ts → ThsV W (xs ++ [(p, v)]) (ts ++ [(p, m)])
  | [], _, h => by
    rw [ThsV] at h; subst h
    simp only [List.nil_append, ThsV]
    exact ⟨m, [], rfl, hm, rfl⟩
  | x :: xs, ts, h => by
    rw [ThsV] at h
    obtain ⟨m', us, e, h1, h2⟩ := h
    rw [List.cons_append, ThsV]
    exact ⟨m', us ++ [(p, m)], by rw [e]; rfl, h1, h2.snoc hm⟩
theorem ThsV.unsnoc {p : Nat} {m : List Int} : ∀ {ts : List Th} {xs : List (Nat × Value)}, ThsV W xs (ts ++ [(p, m)]) → ∃ ys v, xs = ys ++ [(p, v)] ∧ ThsV W ys ts ∧ MarkV W v m
  | [], xs, h => by
    cases xs with
    | nil => rw [ThsV] at h; cases h
    | cons x xs =>
      rw [ThsV] at h
      obtain ⟨m', us, e, h1, h2⟩ := h
      simp only [List.nil_append, List.cons.injEq, Prod.mk.injEq] at e
      obtain ⟨⟨e1, rfl⟩, e2⟩ := e
      rw [← e2] at h2
      have := h2.length
      obtain rfl : xs = [] := List.length_eq_zero_iff.1 this
      exact ⟨[], x.2, by rw [e1]; rfl, rfl, h1⟩
  | t :: ts, xs, h => by
    cases xs with
    | nil => rw [ThsV] at h; cases h
    | cons x xs =>
      rw [ThsV] at h
      obtain ⟨m', us, e, h1, h2⟩ := h
      rw [List.cons_append] at e
      injection e with e1 e2
      rw [← e2] at h2
      obtain ⟨ys, v, e3, h3, h4⟩ := ThsV.unsnoc h2
      refine ⟨x :: ys, v, by rw [e3]; rfl, ?_, h4⟩
      rw [ThsV]
      exact ⟨m', ts, by rw [← e1], h1, h3⟩
theorem ThsV.at {i : Nat} {p : Nat} {m : List Int} : ∀ {xs : List (Nat × Value)} {ts : List Th} (_ : ThsV W xs ts) {i : Nat} (_ : ts[i]? = some (p, m)), ∃ v, xs[i]? = some (p, v) ∧ MarkV W v m
  | [], ts, h, i, hi => by rw [ThsV] at h; rw [h] at hi; cases i <;> cases hi
  | x :: xs, ts, h, i, hi => by
    rw [ThsV] at h
    obtain ⟨m', us, e, h1, h2⟩ := h
    rw [e] at hi
    cases i with
    | zero =>
      have e2 : x.1 = p ∧ m' = m := by simpa using hi
      obtain ⟨rfl, rfl⟩ := e2
      exact ⟨x.2, rfl, h1⟩
    | succ i =>
      obtain ⟨v, h3, h4⟩ := ThsV.at h2 (i := i) (by simpa using hi)
      exact ⟨v, by simpa using h3, h4⟩
end
/-- A row of threads. -/
def RowT (W : World) (base : Nat) (v : Value) (l : List Th) : Prop := ∃ xs, W.ownsRow base 114 2 v l.length (xs.flatMap encT) ∧ ThsV W xs l
/-- The threads of one place: their variable, their row, what was seen. -/
structure Thr (W : World) (tp : Nat) (lv sv : Value) (l : List Th) (seen : List Bool) : Prop where
  box : W.heap[tp]? = some (.cells #[lv, sv] 111 (0, 0))
  row : RowT W 0 lv l
  seen : W.ownsRow 0 4 1 sv seen.length (seen.map Value.bool)
section
variable {S : Nat → Prop} {W W' : World} {tp : Nat} {lv sv : Value} {l : List Th} {seen : List Bool}
theorem RowT.keepS {base : Nat} {v : Value} (h : RowT W base v l) (hg : GrownIn S W W') (h1 : Off S W 3) (h2 : ∀ k, v.ownBlock = some k → ¬ S k) : RowT W' base v l := by
  obtain ⟨xs, h3, h4⟩ := h
  exact ⟨xs, hg.owns h3 h2, h4.keepS hg h1⟩
theorem RowT.form {base : Nat} {v : Value} (h : RowT W base v l) : ∃ A c, v = .slice A l.length c ∧ l.length ≤ c ∧ c ≤ maxLen := by
  obtain ⟨xs, h3, _⟩ := h
  exact owns_slice h3
theorem RowT.ty {base : Nat} {v : Value} (h : RowT W base v l) {k : Nat} (hk : v.ownBlock = some k) : tyOf W k = some 114 := by
  obtain ⟨xs, h3, _⟩ := h
  exact ty_own h3 hk
theorem RowT.lt {base : Nat} {v : Value} (h : RowT W base v l) {k : Nat} (hk : v.ownBlock = some k) : base ≤ k ∧ k < W.heap.size := by
  obtain ⟨xs, h3, _⟩ := h
  exact h3.lt k hk
theorem Thr.lt (h : Thr W tp lv sv l seen) : tp < W.heap.size := (Array.getElem?_eq_some_iff.1 h.box).1
theorem Thr.keepS (h : Thr W tp lv sv l seen) (hg : GrownIn S W W') (h1 : Off S W 3) (h2 : Off S W 4) (h3 : Off S W 111) (h4 : ∀ k, lv.ownBlock = some k → ¬ S k) : Thr W' tp lv sv l seen :=
  ⟨(hg.block tp h.lt (fun e => h3 tp e (ty_box h.box))).trans h.box, h.row.keepS hg h1 h4, own_keepS h.seen hg h2⟩
theorem Thr.c0 (h : Thr W tp lv sv l seen) : W.cell? ⟨tp, 0, none⟩ = some lv := by rw [cell_of_row W tp 0 _ _ (0, 0) h.box]; rfl
theorem Thr.c1 (h : Thr W tp lv sv l seen) : W.cell? ⟨tp, 1, none⟩ = some sv := by rw [cell_of_row W tp 1 _ _ (0, 0) h.box]; rfl
theorem Thr.fr (h : Thr W tp lv sv l seen) (i : Nat) : W.frozen? ⟨tp, i, none⟩ = false := by
  unfold World.frozen?
  rw [h.box]
  rfl
/-- What following a way may have changed: the threads' variable, their row, what was seen; what is new. -/
structure Flw (tp : Nat) (lv sv : Value) (w : World) (lv' : Value) (w' : World) : Prop where
  grown : GrownIn (fun k => k = tp ∨ lv.ownBlock = some k ∨ sv.ownBlock = some k) w w'
  own : ∀ k, lv'.ownBlock = some k → lv.ownBlock = some k ∨ w.heap.size ≤ k
theorem Flw.refl (tp : Nat) (lv sv : Value) (w : World) : Flw tp lv sv w lv w := ⟨GrownIn.refl _ _, fun _ h => .inl h⟩
theorem Flw.trans {l1 l2 : Value} {w w1 w2 : World} (h : Flw tp lv sv w l1 w1) (k : Flw tp l1 sv w1 l2 w2) : Flw tp lv sv w l2 w2 :=
  ⟨h.grown.trans k.grown fun b hb hS => by
    rcases hS with hS | hS | hS
    · exact .inl hS
    · rcases h.own b hS with h1 | h1
      · exact .inr (.inl h1)
      · omega
    · exact .inr (.inr hS), fun b hb => by
    rcases k.own b hb with h1 | h1
    · exact h.own b h1
    · have := h.grown.size; exact .inr (by omega)⟩
/-- Behind it something was written that is new since. -/
theorem Flw.more {T : Nat → Prop} {l1 : Value} {w w1 w2 : World} (h : Flw tp lv sv w l1 w1) (hg : GrownIn T w1 w2) (hT : ∀ k, T k → w.heap.size ≤ k) : Flw tp lv sv w l1 w2 :=
  ⟨h.grown.trans hg fun b hb hS => by have := hT b hS; omega, h.own⟩
end
theorem Tryd.infoThread : (Tryd.prog.info? 114).map (fun i => (i.zero, i.size, i.bytes)) = some (some (.agg #[.int .i64 0, .slice none 0 0]), 2, 32) := by kernel_rfl
end Go.Proofs.YtamlnkmcbbeicaaDoor
