/- Elements of vectors in memory: a slice of labels and a number. -/
import Derived.Test.YtajaijidecomdaaGreatDoorG17
import Derived.Test.YtajaijidecomdaaGreatDoorVl1
import Derived.Test.YtajaijidecomdaaGreatDoorG15
namespace Go.Proofs.YtajaijidecomdaaGreatDoor
open Go.RowKit Go.Lib Go.Sort

theorem owns_typed {w : World} {B n g : Nat} {e : TypeId} {size : Nat} {v : Value} {xs : List Value} (h : w.ownsRow B e size v n xs) (hg : v.ownBlock = some g) : ∃ cs fz, w.heap[g]? = some (.cells cs e fz) := by
  rcases h.2 with ⟨rfl, _⟩ | ⟨g', cap, cur, rfl, _, h2, _⟩
  · simp [Value.ownBlock] at hg
  · obtain rfl : g' = g := by simpa [Value.ownBlock] using hg
    exact ⟨cur, _, h2⟩
theorem owns_other {w : World} {B B' n m : Nat} {e e' : TypeId} {s s' : Nat} {v v' : Value} {xs xs' : List Value} (h : w.ownsRow B e s v n xs) (h' : w.ownsRow B' e' s' v' m xs') (hne : e ≠ e') {g : Nat} (hg : v.ownBlock = some g) : v'.ownBlock ≠ some g := by
  intro hg'
  obtain ⟨cs, fz, h1⟩ := owns_typed h hg
  obtain ⟨cs', fz', h2⟩ := owns_typed h' hg'
  rw [h1] at h2
  injection h2 with h2
  injection h2 with _ h2
  exact hne h2
theorem owns_apart {w : World} {B B' n m : Nat} {e e' : TypeId} {s s' : Nat} {v v' : Value} {xs xs' : List Value} (h : w.ownsRow B e s v n xs) (h' : w.ownsRow B' e' s' v' m xs') (hne : e ≠ e') : v.ownBlock = none ∨ v.ownBlock ≠ v'.ownBlock := by
  cases hv : v.ownBlock with
  | none => exact .inl rfl
  | some b => exact .inr fun e => owns_other h h' hne hv e.symm
theorem owns_lst {α : Type} {enc : α → List Value} {w : World} {B n c size : Nat} {A : Option Addr} {e : TypeId} {l : List α} (h : w.ownsRow B e size (.slice A n c) n (l.flatMap enc)) (hl : ∀ x, (enc x).length = size) (h0 : 0 < size) : Lst enc size w w.heap.size A n l ∧ (A = none → n = 0 ∧ c = 0) ∧ l.length = n := by
  have h2 := owns_len h hl h0
  obtain ⟨A', c', e, _, h3⟩ := ownsRow_lst h h2 hl
  injection e with e1 _ e3
  subst e1 e3
  refine ⟨h3, fun e => ?_, h2⟩
  rcases h.2 with ⟨e', h0⟩ | ⟨g, cap, cur, e', _⟩
  · injection e' with _ _ e'
    exact ⟨h0, e'⟩
  · rw [e] at e'; cases e'
/-- An element, as the program has it: where its labels lie, what they are; its number. -/
structure Ev where
  A : Option Addr
  n : Nat
  c : Nat
  l : List Lb
  v : UInt64
def valE (y : Ev) : Value := .slice y.A y.n y.c
def encEv (y : Ev) : List Value := [.slice y.A y.n y.c, .int .u64 y.v.toNat]
theorem encEv_len (y : Ev) : (encEv y).length = 2 := rfl
/-- What it says. -/
abbrev El := List Lb × UInt64
def Ev.el (y : Ev) : El := (y.l, y.v)
theorem oneEv (ys : List Ev) : ∀ u ∈ ys.flatMap encEv, u.oneCell' = true := by
  intro u hu
  obtain ⟨m, _, h⟩ := List.mem_flatMap.1 hu
  simp only [encEv, List.mem_cons, List.not_mem_nil, or_false] at h
  rcases h with rfl | rfl <;> rfl
/-- What is known of an element that lies below a block. -/
structure Eat (w : World) (B : Nat) (y : Ev) : Prop where
  lst : Lst Lb.cells 2 w B y.A y.n y.l
  nil : y.A = none → y.n = 0 ∧ y.c = 0
  few : y.n ≤ 100000
  sz : ∀ x ∈ y.l, x.nm.size ≤ 100000 ∧ x.vl.size ≤ 100000
theorem Eat.below {w w' : World} {B : Nat} {y : Ev} (h : Eat w B y) (hb : Below B w w') : Eat w' B y := ⟨h.lst.below hb, h.nil, h.few, h.sz⟩
theorem Eat.more {w : World} {B B' : Nat} {y : Ev} (h : Eat w B y) (hB : B ≤ B') : Eat w B' y := ⟨h.lst.more hB, h.nil, h.few, h.sz⟩
theorem Eat.keep {w w' : World} {B : Nat} {y : Ev} (h : Eat w B y) (hk : ∀ p : Addr, p.block < B → w'.cell? p = w.cell? p) : Eat w' B y := ⟨h.lst.keep hk, h.nil, h.few, h.sz⟩
theorem Eat.on {w w' : World} {y : Ev} (h : Eat w w.heap.size y) (hb : Below w.heap.size w w') : Eat w' w'.heap.size y := (h.below hb).more hb.size
theorem Tryz.infoElem : (Tryz.prog.info? 90).map (fun i => (i.zero, i.size, i.bytes)) = some (some (.agg #[.slice none 0 0, .int .u64 0]), 2, 32) := by kernel_rfl
/-- A vector that lies below a block. -/
structure Els (w : World) (B : Nat) (A : Option Addr) (n c : Nat) (es : List Ev) : Prop where
  lst : Lst encEv 2 w B A n es
  nil : A = none → n = 0 ∧ c = 0
  few : n ≤ 100000
  each : ∀ e ∈ es, Eat w B e
theorem Els.below {w w' : World} {B : Nat} {A : Option Addr} {n c : Nat} {es : List Ev} (h : Els w B A n c es) (hb : Below B w w') : Els w' B A n c es := ⟨h.lst.below hb, h.nil, h.few, fun e he => (h.each e he).below hb⟩
theorem Els.keep {w w' : World} {B : Nat} {A : Option Addr} {n c : Nat} {es : List Ev} (h : Els w B A n c es) (hk : ∀ p : Addr, p.block < B → w'.cell? p = w.cell? p) : Els w' B A n c es := ⟨h.lst.keep hk, h.nil, h.few, fun e he => (h.each e he).keep hk⟩
theorem Els.more {w : World} {B B' : Nat} {A : Option Addr} {n c : Nat} {es : List Ev} (h : Els w B A n c es) (hB : B ≤ B') : Els w B' A n c es := ⟨h.lst.more hB, h.nil, h.few, fun e he => (h.each e he).more hB⟩
theorem Els.on {w w' : World} {A : Option Addr} {n c : Nat} {es : List Ev} (h : Els w w.heap.size A n c es) (hb : Below w.heap.size w w') : Els w' w'.heap.size A n c es := (h.below hb).more hb.size
/-- Elements of the call's own: the row, each one's labels in memory of their own, no two together. -/
structure OutEv (w : World) (B : Nat) (v : Value) (os : List Ev) : Prop where
  row : w.ownsRow B 90 2 v os.length (os.flatMap encEv)
  each : ∀ z ∈ os, w.ownsRow B 104 2 (valE z) z.n (z.l.flatMap Lb.cells)
  apart : os.Pairwise fun a b => ∀ g, (valE a).ownBlock = some g → (valE b).ownBlock ≠ some g
theorem OutEv.nil (w : World) (B : Nat) : OutEv w B (.slice none 0 0) [] := ⟨World.ownsRow_nil _ _ _ _, by simp, List.Pairwise.nil⟩
theorem OutEv.below {w w' : World} {B : Nat} {v : Value} {os : List Ev} (h : OutEv w B v os) (hb : Below w.heap.size w w') : OutEv w' B v os :=
  ⟨owns_below h.row hb, fun z hz => owns_below (h.each z hz) hb, h.apart⟩
theorem OutEv.kept {S : Nat → Prop} {w w' : World} {B : Nat} {v : Value} {os : List Ev} (h : OutEv w B v os) (hg : GrownIn S w w') (hS : ∀ k, S k → k < B) : OutEv w' B v os :=
  ⟨hg.owns h.row (fun k hk hs => by have := (h.row.lt k hk).1; have := hS k hs; omega), fun z hz => hg.owns (h.each z hz) (fun k hk hs => by have := ((h.each z hz).lt k hk).1; have := hS k hs; omega), h.apart⟩
theorem OutEv.base {w : World} {B B' : Nat} {v : Value} {os : List Ev} (h : OutEv w B v os) (hB : B' ≤ B) : OutEv w B' v os := ⟨owns_base h.row hB, fun z hz => owns_base (h.each z hz) hB, h.apart⟩
/-- They are a vector that can be read. -/
theorem OutEv.els {w : World} {B : Nat} {A : Option Addr} {n c : Nat} {os : List Ev} (h : OutEv w B (.slice A n c) os) (hn : n ≤ 100000) (hl : ∀ z ∈ os, z.l.length ≤ 100000 ∧ ∀ x ∈ z.l, x.nm.size ≤ 100000 ∧ x.vl.size ≤ 100000) : Els w w.heap.size A n c os ∧ os.length = n := by
  obtain ⟨A', c', e, _, _⟩ := owns_slice h.row
  injection e with e1 e2 e3
  subst e1 e2 e3
  obtain ⟨a1, a2, a3⟩ := owns_lst h.row encEv_len (by omega)
  refine ⟨⟨a1, a2, hn, fun z hz => ?_⟩, rfl⟩
  obtain ⟨b1, b2, b3⟩ := owns_lst (h.each z hz) Lb.len (by omega)
  have := hl z hz
  exact ⟨b1, b2, by omega, this.2⟩
theorem labelsC_tot : FL.Tot labelsC := ⟨fun x y => labelsC_cmp3.swap x y, fun x y => labelsC_cmp3.zero x y, fun x y z h1 h2 => labelsC_cmp3.trans x y z h1 h2⟩
/-- The order of elements, and what is sorted by it. -/
abbrev elL : El → El → Int := FL.elC labelsC
abbrev srtL (l : List El) : List El := FL.sortE elL l
theorem elL_tot : FL.Tot elL := FL.elC_tot labelsC_tot
theorem elL_cmp3 : Cmp3 elL := ⟨elL_tot.swap, elL_tot.zero, elL_tot.trans⟩
/-- What an element's labels may be, for what is asked here. -/
def Fine (l : List Lb) : Prop := l.length ≤ 100000 ∧ ∀ x ∈ l, x.nm.size ≤ 100000 ∧ x.vl.size ≤ 100000
theorem Eat.fine {w : World} {B : Nat} {y : Ev} (h : Eat w B y) : Fine y.l := ⟨by rw [h.lst.1]; exact h.few, h.sz⟩
theorem fine_sub {l l' : List Lb} (h : Fine l) (hs : l'.Sublist l) : Fine l' := ⟨Nat.le_trans hs.length_le h.1, fun x hx => h.2 x (hs.subset hx)⟩
theorem fine_filter {l : List Lb} (h : Fine l) (p : Lb → Bool) : Fine (l.filter p) := fine_sub h List.filter_sublist
end Go.Proofs.YtajaijidecomdaaGreatDoor
