/- Plain law of vectors: sorting, twice, parts, filters. No program in sight. Elements of vectors in memory: a slice of labels and a number. Numbers: their bits, comparing, the order. -/
import Derived.Test.YtajaijidecomdaaGreatDoorG06
import Derived.Test.YtajaijidecomdaaGreatDoorG05
import Derived.Test.YtajaijidecomdaaGreatDoorG02
import Derived.Test.YtajaijidecomdaaGreatDoorG00
import Derived.Laws.Externs
import Derived.Laws.Cover2
import Derived.Laws.BitsLemmas
import Derived.LoopN
namespace Go.Proofs.YtajaijidecomdaaGreatDoor.FL

/-- The order of numbers' bits. -/
def orderU (a b : UInt64) : Int := orderP a.toNat b.toNat
section
variable {K : Type} {c : K → K → Int}
/-- Sorted by a comparison: one of its orders. -/
def SrtOf (c : K → K → Int) (l r : List K) : Prop := r.Perm l ∧ r.Pairwise fun x y => c x y ≤ 0
structure Tot (c : K → K → Int) : Prop where
  swap : ∀ x y, c y x = - c x y
  zero : ∀ x y, c x y = 0 ↔ x = y
  trans : ∀ x y z, c x y < 0 → c y z < 0 → c x z < 0
theorem Tot.le_trans (h : Tot c) {x y z : K} (h1 : c x y ≤ 0) (h2 : c y z ≤ 0) : c x z ≤ 0 := by
  by_cases e1 : c x y = 0
  · rw [(h.zero x y).1 e1]; exact h2
  · by_cases e2 : c y z = 0
    · rw [← (h.zero y z).1 e2]; exact h1
    · have := h.trans x y z (by omega) (by omega); omega
theorem Tot.self (h : Tot c) (x : K) : c x x = 0 := (h.zero x x).2 rfl
theorem SrtOf.unique (h : Tot c) {l a b : List K} (ha : SrtOf c l a) (hb : SrtOf c l b) : a = b :=
  (ha.1.trans hb.1.symm).eq_of_pairwise (fun x y _ _ h1 h2 => by rw [h.swap] at h2; exact (h.zero x y).1 (by omega)) ha.2 hb.2
/-- At its place among sorted ones. -/
def insE (c : K → K → Int) (x : K) : List K → List K
  | [] => [x]
  | y :: l => if c x y < 0 then x :: y :: l else y :: insE c x l
def sortE (c : K → K → Int) (l : List K) : List K := l.foldl (fun o x => insE c x o) []
theorem insE_perm (x : K) : ∀ l, (insE c x l).Perm (x :: l)
  | [] => List.Perm.refl _
  | y :: l => by
    unfold insE
    split
    · exact List.Perm.refl _
    · exact ((insE_perm x l).cons y).trans (List.Perm.swap x y l)
theorem insE_up (h : Tot c) (x : K) : ∀ l, (l.Pairwise fun a b => c a b ≤ 0) → (insE c x l).Pairwise fun a b => c a b ≤ 0
  | [], _ => by simp [insE]
  | y :: l, hl => by
    unfold insE
    obtain ⟨h1, h2⟩ := List.pairwise_cons.1 hl
    split
    · rename_i hx
      refine List.pairwise_cons.2 ⟨fun z hz => ?_, hl⟩
      rcases List.mem_cons.1 hz with rfl | hz
      · omega
      · exact h.le_trans (by omega) (h1 z hz)
    · rename_i hx
      refine List.pairwise_cons.2 ⟨fun z hz => ?_, insE_up h x l h2⟩
      rcases List.mem_cons.1 ((insE_perm x l).mem_iff.1 hz) with rfl | hz
      · have := h.swap z y; omega
      · exact h1 z hz
theorem sortE_go (h : Tot c) : ∀ (l o : List K), (o.Pairwise fun a b => c a b ≤ 0) → (l.foldl (fun o x => insE c x o) o).Perm (o ++ l) ∧ (l.foldl (fun o x => insE c x o) o).Pairwise fun a b => c a b ≤ 0
  | [], o, ho => by simpa using ho
  | x :: l, o, ho => by
    obtain ⟨h1, h2⟩ := sortE_go h l (insE c x o) (insE_up h x o ho)
    refine ⟨h1.trans ?_, h2⟩
    exact ((insE_perm x o).append_right l).trans (List.perm_middle (l₁ := o) (l₂ := l) (a := x)).symm
theorem sortE_srt (h : Tot c) (l : List K) : SrtOf c l (sortE c l) := by
  have := sortE_go h l [] List.Pairwise.nil
  rw [List.nil_append] at this
  exact this
theorem sortE_eq (h : Tot c) {l r : List K} (hr : SrtOf c l r) : r = sortE c l := hr.unique h (sortE_srt h l)
theorem sortE_perm (h : Tot c) {l l' : List K} (hp : l.Perm l') : sortE c l = sortE c l' :=
  SrtOf.unique h (sortE_srt h l) ⟨(sortE_srt h l').1.trans hp.symm, (sortE_srt h l').2⟩
theorem sortE_len (h : Tot c) (l : List K) : (sortE c l).length = l.length := (sortE_srt h l).1.length_eq
theorem sortE_filter (h : Tot c) (p : K → Bool) (l : List K) : sortE c (l.filter p) = (sortE c l).filter p :=
  (sortE_eq h ⟨(sortE_srt h l).1.filter p, (sortE_srt h l).2.sublist List.filter_sublist⟩).symm
theorem sortE_sort (h : Tot c) (l : List K) : sortE c (sortE c l) = sortE c l := sortE_perm h (sortE_srt h l).1
/-- And and unless part a vector in two. -/
theorem sort_parts (h : Tot c) (p : K → Bool) (l : List K) : sortE c (sortE c (l.filter p) ++ sortE c (l.filter fun x => !p x)) = sortE c l :=
  sortE_perm h ((((sortE_srt h _).1.append (sortE_srt h _).1)).trans (List.filter_append_perm p l))
end
theorem orderU_tot : Tot orderU where
  swap x y := orderP_neg _ _
  zero x y := ⟨fun h => UInt64.toNat_inj.1 (orderP_eq x.toNat_lt y.toNat_lt h), fun h => by rw [h]; exact orderP_self _⟩
  trans x y z := orderP_trans
section
variable {K : Type} {c : K → K → Int}
/-- Elements: by their labels, then by their numbers. -/
def elC (c : K → K → Int) (x y : K × UInt64) : Int := if c x.1 y.1 = 0 then orderU x.2 y.2 else c x.1 y.1
theorem elC_tot (h : Tot c) : Tot (elC c) where
  swap x y := by
    have h1 := h.swap x.1 y.1
    have h2 := orderU_tot.swap x.2 y.2
    unfold elC
    by_cases e : c x.1 y.1 = 0
    · rw [if_pos e, if_pos (by omega)]; exact h2
    · rw [if_neg e, if_neg (by omega)]; exact h1
  zero x y := by
    unfold elC
    by_cases e : c x.1 y.1 = 0
    · rw [if_pos e, orderU_tot.zero]
      exact ⟨fun h' => Prod.ext ((h.zero _ _).1 e) h', fun h' => by rw [h']⟩
    · rw [if_neg e]
      exact ⟨fun h' => absurd h' e, fun h' => absurd ((h.zero _ _).2 (by rw [h'])) e⟩
  trans x y z := by
    intro h1 h2
    unfold elC at *
    by_cases e1 : c x.1 y.1 = 0
    · rw [if_pos e1] at h1
      rw [(h.zero _ _).1 e1]
      by_cases e2 : c y.1 z.1 = 0
      · rw [if_pos e2] at h2 ⊢
        exact orderU_tot.trans _ _ _ h1 h2
      · rw [if_neg e2] at h2 ⊢
        exact h2
    · rw [if_neg e1] at h1
      by_cases e2 : c y.1 z.1 = 0
      · rw [← (h.zero _ _).1 e2, if_neg e1]; exact h1
      · rw [if_neg e2] at h2
        have := h.trans _ _ _ h1 h2
        rw [if_neg (by omega)]; exact this
theorem elC_le {x y : K × UInt64} (h : elC c x y ≤ 0) : c x.1 y.1 ≤ 0 := by unfold elC at h; split at h <;> omega
/-- Stand two of the same labels side by side? -/
def sideB (c : K → K → Int) : List (K × UInt64) → Bool
  | x :: y :: l => decide (c x.1 y.1 = 0) || sideB c (y :: l)
  | _ => false
theorem sideB_up (h : Tot c) : ∀ l : List (K × UInt64), (l.Pairwise fun x y => elC c x y ≤ 0) → (sideB c l = false ↔ (l.map (·.1)).Nodup)
  | [], _ => by simp [sideB]
  | [x], _ => by simp [sideB]
  | x :: y :: l, hp => by
    obtain ⟨h1, h2⟩ := List.pairwise_cons.1 hp
    have ih := sideB_up h (y :: l) h2
    have hxy := elC_le (h1 y (by simp))
    unfold sideB
    rw [Bool.or_eq_false_iff, decide_eq_false_iff_not, ih, show ((x :: y :: l).map (·.1)) = x.1 :: (y :: l).map (·.1) from rfl, List.nodup_cons (a := x.1)]
    constructor
    · rintro ⟨h3, h4⟩
      refine ⟨fun hm => ?_, h4⟩
      obtain ⟨z, hz, e⟩ := List.mem_map.1 hm
      rcases List.mem_cons.1 hz with rfl | hz'
      · exact h3 ((h.zero _ _).2 e.symm)
      · have h5 := elC_le ((List.pairwise_cons.1 h2).1 z hz')
        rw [e] at h5
        have := h.swap x.1 y.1
        exact h3 (by omega)
    · rintro ⟨h3, h4⟩
      exact ⟨fun h5 => h3 (by rw [(h.zero _ _).1 h5]; simp), h4⟩
theorem sideB_sort (h : Tot c) (l : List (K × UInt64)) : sideB c (sortE (elC c) l) = false ↔ (l.map (·.1)).Nodup := by
  have hs := sortE_srt (elC_tot h) l
  rw [sideB_up h _ hs.2]
  exact (hs.1.map _).nodup_iff
/-- What comes out is in strict order of the labels, if no two have the same. -/
theorem strict_sort (h : Tot c) {l : List (K × UInt64)} (hn : (l.map (·.1)).Nodup) : (sortE (elC c) l).Pairwise fun x y => c x.1 y.1 < 0 := by
  have hs := sortE_srt (elC_tot h) l
  have hn2 : ((sortE (elC c) l).map (·.1)).Nodup := (hs.1.map _).nodup_iff.2 hn
  refine (hs.2.and (List.pairwise_map.1 hn2)).imp fun {x y} ⟨h1, h2⟩ => ?_
  have h3 := elC_le h1
  have := mt (h.zero x.1 y.1).1 h2
  omega
/-- One step of the look for elements that were kept, in order. -/
theorem look_less (h : Tot c) {p : K × UInt64 → Bool} {all x : List (K × UInt64)} {a i : Nat} {e y : K × UInt64} (hr : x.drop i = (all.drop a).filter p) (he : all[a]? = some e) (hy : x[i]? = some y) (hlt : c e.1 y.1 < 0) :
    x.drop i = (all.drop (a + 1)).filter p := by
  have h1 : all.drop a = e :: all.drop (a + 1) := by
    obtain ⟨hl, rfl⟩ := List.getElem?_eq_some_iff.1 he
    exact List.drop_eq_getElem_cons hl
  rw [hr, h1, List.filter_cons]
  split
  · rename_i hp
    exfalso
    rw [h1, List.filter_cons, if_pos hp] at hr
    have : x[i]? = some e := by rw [← List.head?_drop, hr]; rfl
    rw [hy] at this
    cases this
    rw [h.self] at hlt; omega
  · rfl
theorem look_found {p : K × UInt64 → Bool} {all x : List (K × UInt64)} {a i : Nat} {y : K × UInt64} (hs : all.Pairwise fun x y => c x.1 y.1 < 0) (hr : x.drop i = (all.drop a).filter p) (hy : x[i]? = some y)
    (hge : ∀ e, all[a]? = some e → ¬ c e.1 y.1 < 0) : all[a]? = some y ∧ x.drop (i + 1) = (all.drop (a + 1)).filter p := by
  have hx : x.drop i = y :: x.drop (i + 1) := by
    obtain ⟨hl, rfl⟩ := List.getElem?_eq_some_iff.1 hy
    exact List.drop_eq_getElem_cons hl
  have hm : y ∈ all.drop a := by
    have : y ∈ (all.drop a).filter p := by rw [← hr, hx]; simp
    exact (List.mem_filter.1 this).1
  rcases ha : all[a]? with _ | e
  · rw [List.drop_eq_nil_of_le (List.getElem?_eq_none_iff.1 ha)] at hm; cases hm
  · have h1 : all.drop a = e :: all.drop (a + 1) := by
      obtain ⟨hl, rfl⟩ := List.getElem?_eq_some_iff.1 ha
      exact List.drop_eq_getElem_cons hl
    have h2 : (all.drop a).Pairwise fun x y => c x.1 y.1 < 0 := hs.sublist (List.drop_sublist _ _)
    rw [h1] at h2 hm
    have he : e = y := by
      rcases List.mem_cons.1 hm with rfl | hm
      · rfl
      · exact absurd ((List.pairwise_cons.1 h2).1 y hm) (hge e ha)
    subst he
    refine ⟨rfl, ?_⟩
    rw [hr, h1, List.filter_cons] at hx
    split at hx
    · injection hx with _ hx; exact hx.symm
    · rename_i hp
      exfalso
      have : e ∈ List.filter p (all.drop (a + 1)) := by rw [hx]; simp
      exact hp (List.mem_filter.1 this).2
end
end Go.Proofs.YtajaijidecomdaaGreatDoor.FL
namespace Go.Proofs.YtajaijidecomdaaGreatDoor
open Go.RowKit Go.Lib Go.Sort

theorem owns_typed {w : World} {B n g : Nat} {e : TypeId} {size : Nat} {v : Value} {xs : List Value} (h : w.ownsRow B e size v n xs) (hg : v.ownBlock = some g) : ∃ cs fz, w.heap[g]? = some (.cells cs e fz) := by
  rcases h.2 with ⟨rfl, _⟩ | ⟨g', cap, cur, rfl, _, h2, _⟩
  · simp [Value.ownBlock] at hg
  · obtain rfl : g' = g := by simpa [Value.ownBlock] using hg
    exact ⟨cur, _, h2⟩
theorem owns_other {w : World} {B B' n m : Nat} {e e' : TypeId} {s s' : Nat} {v v' : Value} {xs xs' : List Value} (h : w.ownsRow B e s v n xs) (h' : w.ownsRow B' e' s' v' m xs') (hne : e ≠ e') {g : Nat} (hg : v.ownBlock = some g) : v'.ownBlock ≠ some g := by
  intro hg'
  obtain ⟨cs, fz, h1⟩ := owns_typed h hg
  obtain ⟨cs', fz', h2⟩ := owns_typed h' hg'
  rw [h1] at h2
  injection h2 with h2
  injection h2 with _ h2
  exact hne h2
theorem owns_apart {w : World} {B B' n m : Nat} {e e' : TypeId} {s s' : Nat} {v v' : Value} {xs xs' : List Value} (h : w.ownsRow B e s v n xs) (h' : w.ownsRow B' e' s' v' m xs') (hne : e ≠ e') : v.ownBlock = none ∨ v.ownBlock ≠ v'.ownBlock := by
  cases hv : v.ownBlock with
  | none => exact .inl rfl
  | some b => exact .inr fun e => owns_other h h' hne hv e.symm
theorem owns_lst {α : Type} {enc : α → List Value} {w : World} {B n c size : Nat} {A : Option Addr} {e : TypeId} {l : List α} (h : w.ownsRow B e size (.slice A n c) n (l.flatMap enc)) (hl : ∀ x, (enc x).length = size) (h0 : 0 < size) : Lst enc size w w.heap.size A n l ∧ (A = none → n = 0 ∧ c = 0) ∧ l.length = n := by
  have h2 := owns_len h hl h0
  obtain ⟨A', c', e, _, h3⟩ := ownsRow_lst h h2 hl
  injection e with e1 _ e3
  subst e1 e3
  refine ⟨h3, fun e => ?_, h2⟩
  rcases h.2 with ⟨e', h0⟩ | ⟨g, cap, cur, e', _⟩
  · injection e' with _ _ e'
    exact ⟨h0, e'⟩
  · rw [e] at e'; cases e'
/-- An element, as the program has it: where its labels lie, what they are; its number. -/
structure Ev where
  A : Option Addr
  n : Nat
  c : Nat
  l : List Lb
  v : UInt64
def valE (y : Ev) : Value := .slice y.A y.n y.c
def encEv (y : Ev) : List Value := [.slice y.A y.n y.c, .int .u64 y.v.toNat]
theorem encEv_len (y : Ev) : (encEv y).length = 2 := rfl
/-- What it says. -/
abbrev El := List Lb × UInt64
def Ev.el (y : Ev) : El := (y.l, y.v)
theorem oneEv (ys : List Ev) : ∀ u ∈ ys.flatMap encEv, u.oneCell' = true := by
  intro u hu
  obtain ⟨m, _, h⟩ := List.mem_flatMap.1 hu
  simp only [encEv, List.mem_cons, List.not_mem_nil, or_false] at h
  rcases h with rfl | rfl <;> rfl
/-- What is known of an element that lies below a block. -/
structure Eat (w : World) (B : Nat) (y : Ev) : Prop where
  lst : Lst Lb.cells 2 w B y.A y.n y.l
  nil : y.A = none → y.n = 0 ∧ y.c = 0
  few : y.n ≤ 100000
  sz : ∀ x ∈ y.l, x.nm.size ≤ 100000 ∧ x.vl.size ≤ 100000
theorem Eat.below {w w' : World} {B : Nat} {y : Ev} (h : Eat w B y) (hb : Below B w w') : Eat w' B y := ⟨h.lst.below hb, h.nil, h.few, h.sz⟩
theorem Eat.more {w : World} {B B' : Nat} {y : Ev} (h : Eat w B y) (hB : B ≤ B') : Eat w B' y := ⟨h.lst.more hB, h.nil, h.few, h.sz⟩
theorem Eat.keep {w w' : World} {B : Nat} {y : Ev} (h : Eat w B y) (hk : ∀ p : Addr, p.block < B → w'.cell? p = w.cell? p) : Eat w' B y := ⟨h.lst.keep hk, h.nil, h.few, h.sz⟩
theorem Eat.on {w w' : World} {y : Ev} (h : Eat w w.heap.size y) (hb : Below w.heap.size w w') : Eat w' w'.heap.size y := (h.below hb).more hb.size
theorem Tryz.infoElem : (Tryz.prog.info? 90).map (fun i => (i.zero, i.size, i.bytes)) = some (some (.agg #[.slice none 0 0, .int .u64 0]), 2, 32) := by kernel_rfl
/-- A vector that lies below a block. -/
structure Els (w : World) (B : Nat) (A : Option Addr) (n c : Nat) (es : List Ev) : Prop where
  lst : Lst encEv 2 w B A n es
  nil : A = none → n = 0 ∧ c = 0
  few : n ≤ 100000
  each : ∀ e ∈ es, Eat w B e
theorem Els.below {w w' : World} {B : Nat} {A : Option Addr} {n c : Nat} {es : List Ev} (h : Els w B A n c es) (hb : Below B w w') : Els w' B A n c es := ⟨h.lst.below hb, h.nil, h.few, fun e he => (h.each e he).below hb⟩
theorem Els.keep {w w' : World} {B : Nat} {A : Option Addr} {n c : Nat} {es : List Ev} (h : Els w B A n c es) (hk : ∀ p : Addr, p.block < B → w'.cell? p = w.cell? p) : Els w' B A n c es := ⟨h.lst.keep hk, h.nil, h.few, fun e he => (h.each e he).keep hk⟩
theorem Els.more {w : World} {B B' : Nat} {A : Option Addr} {n c : Nat} {es : List Ev} (h : Els w B A n c es) (hB : B ≤ B') : Els w B' A n c es := ⟨h.lst.more hB, h.nil, h.few, fun e he => (h.each e he).more hB⟩
theorem Els.on {w w' : World} {A : Option Addr} {n c : Nat} {es : List Ev} (h : Els w w.heap.size A n c es) (hb : Below w.heap.size w w') : Els w' w'.heap.size A n c es := (h.below hb).more hb.size
/-- Elements of the call's own: the row, each one's labels in memory of their own, no two together. -/
structure OutEv (w : World) (B : Nat) (v : Value) (os : List Ev) : Prop where
  row : w.ownsRow B 90 2 v os.length (os.flatMap encEv)
  each : ∀ z ∈ os, w.ownsRow B 104 2 (valE z) z.n (z.l.flatMap Lb.cells)
  apart : os.Pairwise fun a b => ∀ g, (valE a).ownBlock = some g → (valE b).ownBlock ≠ some g
theorem OutEv.nil (w : World) (B : Nat) : OutEv w B (.slice none 0 0) [] := ⟨World.ownsRow_nil _ _ _ _, by simp, List.Pairwise.nil⟩
theorem OutEv.below {w w' : World} {B : Nat} {v : Value} {os : List Ev} (h : OutEv w B v os) (hb : Below w.heap.size w w') : OutEv w' B v os :=
  ⟨owns_below h.row hb, fun z hz => owns_below (h.each z hz) hb, h.apart⟩
theorem OutEv.kept {S : Nat → Prop} {w w' : World} {B : Nat} {v : Value} {os : List Ev} (h : OutEv w B v os) (hg : GrownIn S w w') (hS : ∀ k, S k → k < B) : OutEv w' B v os :=
  ⟨hg.owns h.row (fun k hk hs => by have := (h.row.lt k hk).1; have := hS k hs; omega), fun z hz => hg.owns (h.each z hz) (fun k hk hs => by have := ((h.each z hz).lt k hk).1; have := hS k hs; omega), h.apart⟩
theorem OutEv.base {w : World} {B B' : Nat} {v : Value} {os : List Ev} (h : OutEv w B v os) (hB : B' ≤ B) : OutEv w B' v os := ⟨owns_base h.row hB, fun z hz => owns_base (h.each z hz) hB, h.apart⟩
/-- They are a vector that can be read. -/
theorem OutEv.els {w : World} {B : Nat} {A : Option Addr} {n c : Nat} {os : List Ev} (h : OutEv w B (.slice A n c) os) (hn : n ≤ 100000) (hl : ∀ z ∈ os, z.l.length ≤ 100000 ∧ ∀ x ∈ z.l, x.nm.size ≤ 100000 ∧ x.vl.size ≤ 100000) : Els w w.heap.size A n c os ∧ os.length = n := by
  obtain ⟨A', c', e, _, _⟩ := owns_slice h.row
  injection e with e1 e2 e3
  subst e1 e2 e3
  obtain ⟨a1, a2, a3⟩ := owns_lst h.row encEv_len (by omega)
  refine ⟨⟨a1, a2, hn, fun z hz => ?_⟩, rfl⟩
  obtain ⟨b1, b2, b3⟩ := owns_lst (h.each z hz) Lb.len (by omega)
  have := hl z hz
  exact ⟨b1, b2, by omega, this.2⟩
theorem labelsC_tot : FL.Tot labelsC := ⟨fun x y => labelsC_cmp3.swap x y, fun x y => labelsC_cmp3.zero x y, fun x y z h1 h2 => labelsC_cmp3.trans x y z h1 h2⟩
/-- The order of elements, and what is sorted by it. -/
abbrev elL : El → El → Int := FL.elC labelsC
abbrev srtL (l : List El) : List El := FL.sortE elL l
theorem elL_tot : FL.Tot elL := FL.elC_tot labelsC_tot
theorem elL_cmp3 : Cmp3 elL := ⟨elL_tot.swap, elL_tot.zero, elL_tot.trans⟩
/-- What an element's labels may be, for what is asked here. -/
def Fine (l : List Lb) : Prop := l.length ≤ 100000 ∧ ∀ x ∈ l, x.nm.size ≤ 100000 ∧ x.vl.size ≤ 100000
theorem Eat.fine {w : World} {B : Nat} {y : Ev} (h : Eat w B y) : Fine y.l := ⟨by rw [h.lst.1]; exact h.few, h.sz⟩
theorem fine_sub {l l' : List Lb} (h : Fine l) (hs : l'.Sublist l) : Fine l' := ⟨Nat.le_trans hs.length_le h.1, fun x hx => h.2 x (hs.subset hx)⟩
theorem fine_filter {l : List Lb} (h : Fine l) (p : Lb → Bool) : Fine (l.filter p) := fine_sub h List.filter_sublist
end Go.Proofs.YtajaijidecomdaaGreatDoor
namespace Go.Proofs.YtajaijidecomdaaGreatDoor
open Go.RowKit Go.Lib


theorem wraps_u64 (n : Int) (h1 : 0 ≤ n) (h2 : n < 2 ^ 64) : IntKind.u64.wrap n = n := by simp [IntKind.wrap, IntKind.bits, IntKind.signed]; omega
theorem and_pow63 (a : Nat) : a &&& 2 ^ 63 = if a.testBit 63 then 2 ^ 63 else 0 := by
  apply Nat.eq_of_testBit_eq
  intro i
  rw [Nat.testBit_and, Nat.testBit_two_pow]
  by_cases h : 63 = i
  · subst h
    cases hb : a.testBit 63
    · simp
    · rw [if_pos rfl, Nat.testBit_two_pow]; simp
  · rw [decide_eq_false h, Bool.and_false]
    split
    · rw [Nat.testBit_two_pow, decide_eq_false h]
    · rw [Nat.zero_testBit]
theorem u64_sign (a : Nat) (ha : a < 2 ^ 64) : (bits .and .u64 (a : Int) 9223372036854775808 != 0) = decide (2 ^ 63 ≤ a) := by
  have h := (bits_nat .u64 64 (by decide) wraps_u64 a (2 ^ 63) ha (by decide)).1
  rw [and_pow63, Nat.testBit_eq_decide_div_mod_eq] at h
  have e : ((2 ^ 63 : Nat) : Int) = 9223372036854775808 := by decide
  rw [e] at h
  rw [h]
  by_cases hg : 2 ^ 63 ≤ a
  · have : a / 2 ^ 63 % 2 = 1 := by omega
    simp [this, hg]
  · have : ¬ a / 2 ^ 63 % 2 = 1 := by omega
    simp [this, hg]
theorem u64_not (a : Nat) (ha : a < 2 ^ 64) : bits .xor .u64 IntKind.u64.max (a : Int) = ((2 ^ 64 - 1 - a : Nat) : Int) := by
  have h2 : (BitVec.allOnes 64 ^^^ BitVec.ofNat 64 a).toNat = 2 ^ 64 - 1 - a := by
    rw [BitVec.allOnes_xor, BitVec.toNat_not, BitVec.toNat_ofNat, Nat.mod_eq_of_lt ha]
  show IntKind.u64.wrap (((BitVec.ofInt 64 18446744073709551615 ^^^ BitVec.ofInt 64 (a : Int)).toNat : Nat) : Int) = _
  rw [show BitVec.ofInt 64 18446744073709551615 = BitVec.allOnes 64 by decide, BitVec.ofInt_natCast, h2]
  exact wraps_u64 _ (by omega) (by omega)

theorem Tryz.run_from (a : Int) (w : World) : (callFunc 219 #[.int .u64 a]).run Tryz.prog w = .ok (.value (.float .f64 a.toNat)) w := by
  rw [run_callFunc_extern (e := Go.Extern.MathFloatBits.float64frombits) Tryz.func219 (by kernel_rfl) (by kernel_rfl) (by kernel_rfl) (by kernel_rfl)]
  rfl
theorem Tryz.run_bits (a : Nat) (w : World) : (callFunc 185 #[.float .f64 a]).run Tryz.prog w = .ok (.value (.int .u64 a)) w := by
  rw [run_callFunc_extern (e := Go.Extern.MathFloatBits.float64bits) Tryz.func185 (by kernel_rfl) (by kernel_rfl) (by kernel_rfl) (by kernel_rfl)]
  rfl
theorem of_any (a : Nat) (w : World) : Calls Tryz.prog 166 #[.int .u64 a] w fun e w' => e = .returned (.float .f64 a) ∧ w' = w := by
  have hd := fun w => Tryz.run_from (a : Int) w
  simp only [Int.toNat_natCast] at hd
  go_enter Tryz.func166, Tryz.ntmps166
  go_wp2
  go_ret
  exact ⟨rfl, rfl⟩
def cmpN (a b : Nat) : Int := if FL.isNaN a || FL.isNaN b then 0 else FL.cmpI (FL.plc a) (FL.plc b)
def cmpOk (a b : Nat) : Bool := !(FL.isNaN a || FL.isNaN b)
theorem order_cases {a b : Nat} (ha : a < 2 ^ 64) (hb : b < 2 ^ 64) :
    (FloatKind.f64.format.order a b = none ∧ cmpN a b = 0 ∧ cmpOk a b = false) ∨ (FloatKind.f64.format.order a b = some .lt ∧ cmpN a b = -1 ∧ cmpOk a b = true) ∨
    (FloatKind.f64.format.order a b = some .eq ∧ cmpN a b = 0 ∧ cmpOk a b = true) ∨ (FloatKind.f64.format.order a b = some .gt ∧ cmpN a b = 1 ∧ cmpOk a b = true) := by
  show (Ieee.double.order a b = none ∧ _) ∨ (Ieee.double.order a b = _ ∧ _) ∨ (Ieee.double.order a b = _ ∧ _) ∨ (Ieee.double.order a b = _ ∧ _)
  unfold cmpN cmpOk
  cases hn : (FL.isNaN a || FL.isNaN b) with
  | true => exact .inl ⟨FL.order_nan ha hb hn, rfl, rfl⟩
  | false =>
    obtain ⟨h1, h2⟩ := Bool.or_eq_false_iff.1 hn
    rw [FL.order_plc ha hb h1 h2]
    refine .inr ?_
    unfold FL.ordI FL.cmpI
    rcases Int.lt_trichotomy (FL.plc a) (FL.plc b) with h | h | h
    · exact .inl ⟨by rw [if_pos h], by simp [h], rfl⟩
    · exact .inr (.inl ⟨by rw [if_neg (by omega), if_pos h], by simp [h], rfl⟩)
    · exact .inr (.inr ⟨by rw [if_neg (by omega), if_neg (by omega)], by rw [if_neg (by decide), if_neg (by omega), if_pos h], rfl⟩)
set_option maxHeartbeats 1000000 in
set_option maxRecDepth 100000 in
theorem cmp_any (a b : Nat) (ha : a < 2 ^ 64) (hb : b < 2 ^ 64) (w : World) : Calls Tryz.prog 118 #[.int .u64 a, .int .u64 b] w fun e w' => e = .returned (.tuple #[.int .i64 (cmpN a b), .bool (cmpOk a b)]) ∧ w' = w := by
  have hof := fun a w => of_any a w
  rcases order_cases ha hb with ⟨ho, h1, h2⟩ | ⟨ho, h1, h2⟩ | ⟨ho, h1, h2⟩ | ⟨ho, h1, h2⟩
  all_goals
    rw [h1, h2]
    clear h1 h2
    go_enter Tryz.func118, Tryz.ntmps118
    go_wp2_with (go_at_call 166; refine (hof _ _).mono ?_; rintro e w' ⟨rfl, rfl⟩)
    exact bodyPost_ret (by simp [results, Tryz.results118, go_sem]) rfl ⟨rfl, rfl⟩
theorem isNaN_any (a : Nat) (ha : a < 2 ^ 64) (w : World) : Calls Tryz.prog 172 #[.int .u64 a] w fun e w' => e = .returned (.bool (FL.isNaN a)) ∧ w' = w := by
  have hof := fun a w => of_any a w
  have ho : (FloatKind.f64.format.order a a != some .eq) = FL.isNaN a := by
    rcases order_cases ha ha with ⟨ho, h1, h2⟩ | ⟨ho, h1, h2⟩ | ⟨ho, h1, h2⟩ | ⟨ho, h1, h2⟩
    all_goals
      unfold cmpOk cmpN FL.cmpI at *
      rw [ho]
      cases hn : FL.isNaN a <;> simp_all
  go_enter Tryz.func172, Tryz.ntmps172
  go_wp2_with (first | (go_at_call 166; refine (hof _ _).mono ?_; rintro e w' ⟨rfl, rfl⟩) | (go_at_call 222; go_enter Tryz.func222, Tryz.ntmps222))
  go_ret
  exact ⟨rfl, rfl⟩
theorem negative_any (a : Nat) (ha : a < 2 ^ 64) (w : World) : Calls Tryz.prog 179 #[.int .u64 a] w fun e w' => e = .returned (.bool (decide (2 ^ 63 ≤ a))) ∧ w' = w := by
  have hs := u64_sign a ha
  go_enter Tryz.func179, Tryz.ntmps179
  go_wp2
  go_ret
  exact ⟨rfl, rfl⟩
theorem place_any (a : Nat) (ha : a < 2 ^ 64) (w : World) : Calls Tryz.prog 218 #[.int .u64 a] w fun e w' => e = .returned (.tuple #[.int .i64 (FL.hgh a), .int .u64 (FL.low a)]) ∧ w' = w := by
  have h1 := fun w => isNaN_any a ha w
  have h2 := fun w => negative_any a ha w
  unfold FL.hgh FL.low
  cases hn : FL.isNaN a with
  | true =>
    rw [hn] at h1
    go_enter Tryz.func218, Tryz.ntmps218
    go_wp2_with (first | (go_at_call 172; refine (h1 _).mono ?_; rintro e w' ⟨rfl, rfl⟩))
    exact bodyPost_ret (by simp [results, Tryz.results218, go_sem]) rfl ⟨rfl, rfl⟩
  | false =>
    rw [hn] at h1
    by_cases hg : 2 ^ 63 ≤ a
    · rw [decide_eq_true hg] at h2
      have hx := u64_not a ha
      rw [if_pos hg, if_pos hg]
      go_enter Tryz.func218, Tryz.ntmps218
      go_wp2_with (first | (go_at_call 172; refine (h1 _).mono ?_; rintro e w' ⟨rfl, rfl⟩) | (go_at_call 179; refine (h2 _).mono ?_; rintro e w' ⟨rfl, rfl⟩))
      exact bodyPost_ret (by simp [results, Tryz.results218, go_sem]) rfl ⟨rfl, rfl⟩
    · rw [decide_eq_false hg] at h2
      rw [if_neg hg, if_neg hg]
      go_enter Tryz.func218, Tryz.ntmps218
      go_wp2_with (first | (go_at_call 172; refine (h1 _).mono ?_; rintro e w' ⟨rfl, rfl⟩) | (go_at_call 179; refine (h2 _).mono ?_; rintro e w' ⟨rfl, rfl⟩))
      exact bodyPost_ret (by simp [results, Tryz.results218, go_sem]) rfl ⟨rfl, rfl⟩
set_option maxHeartbeats 1000000 in
set_option maxRecDepth 100000 in
theorem order_any (a b : Nat) (ha : a < 2 ^ 64) (hb : b < 2 ^ 64) (w : World) : Calls Tryz.prog 165 #[.int .u64 a, .int .u64 b] w fun e w' => e = .returned (.int .i64 (FL.orderP a b)) ∧ w' = w := by
  have h1 := fun w => place_any a ha w
  have h2 := fun w => place_any b hb w
  unfold FL.orderP
  generalize FL.hgh a = p at h1 ⊢
  generalize FL.hgh b = q at h2 ⊢
  generalize FL.low a = x at h1 ⊢
  generalize FL.low b = y at h2 ⊢
  by_cases c1 : p < q
  · have d1 : (p : Int) < (q : Int) := by omega
    rw [if_pos (.inl c1)]
    go_enter Tryz.func165, Tryz.ntmps165
    go_wp2_with fail
    refine (h1 _).mono ?_
    rintro e w' ⟨rfl, rfl⟩
    go_wp2_with fail
    refine (h2 _).mono ?_
    rintro e w' ⟨rfl, rfl⟩
    go_wp2
    go_ret
    exact ⟨rfl, rfl⟩
  · have d1 : ¬ (p : Int) < (q : Int) := by omega
    by_cases c2 : q < p
    · have d2 : (q : Int) < (p : Int) := by omega
      have d3 : ¬ (p : Int) = (q : Int) := by omega
      have d4 : ((p : Int) == (q : Int)) = false := beq_eq_false_iff_ne.2 d3
      rw [if_neg (by rintro (h | h) <;> omega), if_pos (.inl c2)]
      go_enter Tryz.func165, Tryz.ntmps165
      go_wp2_with fail
      refine (h1 _).mono ?_
      rintro e w' ⟨rfl, rfl⟩
      go_wp2_with fail
      refine (h2 _).mono ?_
      rintro e w' ⟨rfl, rfl⟩
      go_wp2
      go_ret
      exact ⟨rfl, rfl⟩
    · obtain rfl : p = q := by omega
      by_cases c3 : x < y
      · have d3 : (x : Int) < (y : Int) := by omega
        rw [if_pos (.inr ⟨rfl, c3⟩)]
        go_enter Tryz.func165, Tryz.ntmps165
        go_wp2_with fail
        refine (h1 _).mono ?_
        rintro e w' ⟨rfl, rfl⟩
        go_wp2_with fail
        refine (h2 _).mono ?_
        rintro e w' ⟨rfl, rfl⟩
        go_wp2
        go_ret
        exact ⟨rfl, rfl⟩
      · have d3 : ¬ (x : Int) < (y : Int) := by omega
        rw [if_neg (by rintro (h | h) <;> omega)]
        by_cases c4 : y < x
        · have d4 : (y : Int) < (x : Int) := by omega
          rw [if_pos (.inr c4)]
          go_enter Tryz.func165, Tryz.ntmps165
          go_wp2_with fail
          refine (h1 _).mono ?_
          rintro e w' ⟨rfl, rfl⟩
          go_wp2_with fail
          refine (h2 _).mono ?_
          rintro e w' ⟨rfl, rfl⟩
          go_wp2
          go_ret
          exact ⟨rfl, rfl⟩
        · have d4 : ¬ (y : Int) < (x : Int) := by omega
          rw [if_neg (by rintro (h | h) <;> omega)]
          go_enter Tryz.func165, Tryz.ntmps165
          go_wp2_with fail
          refine (h1 _).mono ?_
          rintro e w' ⟨rfl, rfl⟩
          go_wp2_with fail
          refine (h2 _).mono ?_
          rintro e w' ⟨rfl, rfl⟩
          go_wp2
          go_ret
          exact ⟨rfl, rfl⟩
end Go.Proofs.YtajaijidecomdaaGreatDoor
