/- A cursor over a list of samples: next. Plain laws of the merge: what stands in line, sorted by time, list and place. No program. -/
import Derived.Test.YtihidnmpngeohaaGreatHeapB
import Derived.Test.YtihidnmpngeohaaGreatG22
import Derived.Test.YtihidnmpngeohaaGreatG38
namespace Go.Proofs.YtihidnmpngeohaaGreat
open Go.RowKit Go.Lib

/-- The cursor in block cb stands ahead of the samples xs. -/
def Cur (w : World) (B U cb : Nat) (rank : Int) (xs : List (Int × Int)) : Prop :=
  B ≤ cb ∧ ∃ A c, w.heap[cb]? = some (.cells #[.slice A xs.length c, .int .i64 rank] 165 (0, 0)) ∧ xs.length ≤ c ∧ c ≤ maxLen ∧
    (0 < xs.length → ∃ b off, A = some ⟨b, off, none⟩ ∧ b < U ∧ (∃ cs fz, w.heap[b]? = some (.cells cs 95 fz)) ∧ ∀ (k : Nat) x, xs[k]? = some x → ∀ i u, (encS x)[i]? = some u → w.cell? ⟨b, off + k * 2 + i, none⟩ = some u)
theorem Cur.lt {w : World} {B U cb : Nat} {rank : Int} {xs : List (Int × Int)} (h : Cur w B U cb rank xs) : cb < w.heap.size := by
  obtain ⟨_, A, c, h1, _⟩ := h
  exact (Array.getElem?_eq_some_iff.1 h1).1
/-- The types of the queue, and the cursor's. -/
def CT (t : TypeId) : Prop := QT t ∨ t = 165
theorem QT.sample : ¬ QT 95 := by unfold QT; decide
theorem QT.cursor : ¬ QT 165 := by unfold QT; decide
theorem CT.sample : ¬ CT 95 := by unfold CT QT; decide
theorem KeptT.mono {B : Nat} {S T : TypeId → Prop} {w w' : World} (h : KeptT B S w w') (hs : ∀ t, S t → T t) : KeptT B T w w' :=
  ⟨h.os, h.tape, h.output, h.size, fun k hk hor => h.block k hk (hor.imp_right fun ⟨cs, t, fz, e, hn⟩ => ⟨cs, t, fz, e, fun h' => hn (hs t h')⟩)⟩
/-- A cursor is kept by whatever turns blocks of the queue's types alone. -/
theorem Cur.kept {w w' : World} {B U cb : Nat} {rank : Int} {xs : List (Int × Int)} (h : Cur w B U cb rank xs) (hk : KeptT B QT w w') : Cur w' B U cb rank xs := by
  obtain ⟨hB, A, c, h1, h2, h3, h4⟩ := h
  refine ⟨hB, A, c, hk.cells h1 QT.cursor, h2, h3, fun h0 => ?_⟩
  obtain ⟨b, off, e, hbU, ⟨cs, fz, hb⟩, hc⟩ := h4 h0
  have hb' := hk.cells hb QT.sample
  exact ⟨b, off, e, hbU, ⟨cs, fz, hb'⟩, fun k x hx i u hu => (World.cell?_of_block (w := w) (hb'.trans hb.symm)).trans (hc k x hx i u hu)⟩
/-- .. and by what turns another cursor alone. -/
theorem Cur.other {w w' : World} {B U cb cb' : Nat} {rank : Int} {xs : List (Int × Int)} (h : Cur w B U cb rank xs) (hg : w.grownBy w' (some cb')) (hne : cb ≠ cb') (ht : ∃ cs fz, w.heap[cb']? = some (.cells cs 165 fz)) : Cur w' B U cb rank xs := by
  obtain ⟨hB, A, c, h1, h2, h3, h4⟩ := h
  refine ⟨hB, A, c, (hg.block cb (Array.getElem?_eq_some_iff.1 h1).1 (fun e => hne (by injection e))).trans h1, h2, h3, fun h0 => ?_⟩
  obtain ⟨b, off, e, hbU, ⟨cs, fz, hb⟩, hc⟩ := h4 h0
  have hbne : some b ≠ some cb' := fun e => by
    injection e with e
    subst e
    obtain ⟨cs', fz', h'⟩ := ht
    rw [hb] at h'
    injection h' with h'
    injection h' with _ h'
    revert h'; decide
  have hb' := (hg.block b (Array.getElem?_eq_some_iff.1 hb).1 hbne).trans hb
  exact ⟨b, off, e, hbU, ⟨cs, fz, hb'⟩, fun k x hx i u hu => (World.cell?_of_block (w := w) (hb'.trans hb.symm)).trans (hc k x hx i u hu)⟩
theorem Cur.mono {w : World} {B U V cb : Nat} {rank : Int} {xs : List (Int × Int)} (h : Cur w B U cb rank xs) (hU : U ≤ V) : Cur w B V cb rank xs := by
  obtain ⟨hB, A, c, h1, h2, h3, h4⟩ := h
  refine ⟨hB, A, c, h1, h2, h3, fun h0 => ?_⟩
  obtain ⟨b, off, e, hbU, r⟩ := h4 h0
  exact ⟨b, off, e, by omega, r⟩
/-- .. and by what turns a row of samples that none of the cursors goes over. -/
theorem Cur.out {w w' : World} {B U cb : Nat} {rank : Int} {xs : List (Int × Int)} (h : Cur w B U cb rank xs) {r : Option Nat} (hg : w.grownBy w' r) (hU : ∀ g, r = some g → U ≤ g ∧ ∃ cs fz, w.heap[g]? = some (.cells cs 95 fz)) : Cur w' B U cb rank xs := by
  obtain ⟨hB, A, c, h1, h2, h3, h4⟩ := h
  refine ⟨hB, A, c, (hg.block cb (Array.getElem?_eq_some_iff.1 h1).1 (fun e => ?_)).trans h1, h2, h3, fun h0 => ?_⟩
  · obtain ⟨_, cs, fz, h'⟩ := hU cb e.symm
    rw [h1] at h'
    injection h' with h'
    injection h' with _ h'
    revert h'; decide
  · obtain ⟨b, off, e, hbU, ⟨cs, fz, hb⟩, hc⟩ := h4 h0
    have hb' := (hg.block b (Array.getElem?_eq_some_iff.1 hb).1 (fun e => by have := (hU b e.symm).1; omega)).trans hb
    exact ⟨b, off, e, hbU, ⟨cs, fz, hb'⟩, fun k x hx i u hu => (World.cell?_of_block (w := w) (hb'.trans hb.symm)).trans (hc k x hx i u hu)⟩
set_option maxHeartbeats 4000000 in
set_option maxRecDepth 100000 in
/-- next at no sample. -/
theorem next_none (B U cb : Nat) (rank : Int) (w : World) (h : Cur w B U cb rank []) :
    Calls Tryz.prog 105 #[.pointer (some ⟨cb, 0, none⟩)] w fun e w' => e = .returned (.tuple #[.agg #[.int .i64 0, .int .u64 0], .bool false]) ∧ Below w.heap.size w w' := by
  obtain ⟨_, A, c, h1, _⟩ := h
  have hlt := (Array.getElem?_eq_some_iff.1 h1).1
  have c0 : w.cell? ⟨cb, 0, none⟩ = some (.slice A 0 c) := by rw [cell_of_row w cb 0 _ _ _ h1]; rfl
  clear h1
  go_enter Tryz.func105, Tryz.ntmps105
  go_wp2
  exact bodyPost_ret (v := .tuple #[.agg #[.int .i64 0, .int .u64 0], .bool false]) (by simp [results, Tryz.results105, go_sem]) rfl ⟨rfl, (Below.refl _ _).alloc (Nat.le_refl _) _⟩
theorem cur_step {w : World} {B U cb n c' : Nat} {rank : Int} {x : Int × Int} {r : List (Int × Int)} {v : Value} {A' : Option Addr} (hB : B ≤ cb) (h1 : w.heap[cb]? = some (.cells #[v, .int .i64 rank] 165 (0, 0))) (hn : r.length = n) (hnc : n ≤ c') (hcm : c' ≤ maxLen)
    (hA : 0 < n → ∃ b off cs fz, A' = some ⟨b, off + 2, none⟩ ∧ b < U ∧ w.heap[b]? = some (.cells cs 95 fz) ∧ b ≠ cb ∧ ∀ (k : Nat) y, (x :: r)[k]? = some y → ∀ i u, (encS y)[i]? = some u → w.cell? ⟨b, off + k * 2 + i, none⟩ = some u) (o1 o2 : Obj) :
    Cur (((w.setCell ⟨cb, 0, none⟩ (.slice A' n c')).alloc o1).alloc o2) B U cb rank r ∧ w.grownBy (((w.setCell ⟨cb, 0, none⟩ (.slice A' n c')).alloc o1).alloc o2) (some cb) := by
  have hg : w.grownBy (((w.setCell ⟨cb, 0, none⟩ (.slice A' n c')).alloc o1).alloc o2) (some cb) := grownBy_trans (grownBy_trans (grownBy_set1 cb _) (World.grownBy_alloc _ _ _)) (World.grownBy_alloc _ _ _)
  have hlt := (Array.getElem?_eq_some_iff.1 h1).1
  have hs := heap_setCell_same w cb 0 _ _ (.slice A' n c') h1
  have hcb : (((w.setCell ⟨cb, 0, none⟩ (.slice A' n c')).alloc o1).alloc o2).heap[cb]? = some (.cells #[.slice A' n c', .int .i64 rank] 165 (0, 0)) := by
    rw [Below.heap_alloc _ _ _ (by simp [World.setCell]; omega), Below.heap_alloc _ _ _ (by simp [World.setCell]; omega), hs]
    rfl
  refine ⟨⟨hB, A', c', by rw [hn]; exact hcb, by omega, hcm, fun h0 => ?_⟩, hg⟩
  obtain ⟨b, off, cs, fz, rfl, hbU, hb, hbne, hc⟩ := hA (by omega)
  have hb' := (hg.block b (Array.getElem?_eq_some_iff.1 hb).1 (fun e => hbne (by injection e))).trans hb
  refine ⟨b, off + 2, rfl, hbU, ⟨cs, fz, hb'⟩, fun k y hy i u hu => ?_⟩
  have := hc (k + 1) y (by simpa using hy) i u hu
  rw [show off + (k + 1) * 2 + i = off + 2 + k * 2 + i by omega] at this
  exact (World.cell?_of_block (w := w) (hb'.trans hb.symm)).trans this
set_option maxHeartbeats 4000000 in
set_option maxRecDepth 100000 in
/-- next at a sample. -/
theorem next_some (B U cb : Nat) (rank : Int) (x : Int × Int) (r : List (Int × Int)) (w : World) (h : Cur w B U cb rank (x :: r)) :
    Calls Tryz.prog 105 #[.pointer (some ⟨cb, 0, none⟩)] w fun e w' => e = .returned (.tuple #[.agg #[.int .i64 x.1, .int .u64 x.2], .bool true]) ∧ Cur w' B U cb rank r ∧ w.grownBy w' (some cb) := by
  have hcur := h
  obtain ⟨hB, A, c, h1, h2, h3, h4⟩ := h
  obtain ⟨b, off, rfl, hbU, ⟨cs, fz, hb⟩, hc⟩ := h4 (by simp)
  have hlt := (Array.getElem?_eq_some_iff.1 h1).1
  have hblt := (Array.getElem?_eq_some_iff.1 hb).1
  have hbne : b ≠ cb := fun e => by
    subst e
    rw [hb] at h1
    injection h1 with h1
    injection h1 with _ h1
    revert h1; decide
  simp only [List.length_cons] at h1 h2
  obtain ⟨n, hn⟩ : ∃ n, r.length = n := ⟨_, rfl⟩
  rw [hn] at h1 h2
  unfold maxLen at h3
  have c0 : w.cell? ⟨cb, 0, none⟩ = some (.slice (some ⟨b, off, none⟩) (n + 1) c) := by rw [cell_of_row w cb 0 _ _ _ h1]; rfl
  have f0 : w.frozen? ⟨cb, 0, none⟩ = false := by simp [World.frozen?, h1]
  have x0 := hc 0 x rfl 0 _ rfl
  have x1 := hc 0 x rfl 1 _ rfl
  simp only [Nat.zero_mul, Nat.add_zero] at x0 x1
  have hn0 : (0 : Int) ≤ (n : Int) := by omega
  have hn1 : ((n : Int) + 1 == 0) = false := beq_eq_false_iff_ne.2 (by omega)
  have hn2 : (n : Int) + 1 ≤ (c : Int) := by omega
  have HC := Lib.hid (show _ ∧ _ ∧ _ ∧ _ from ⟨h1, hn, hb, hc⟩)
  clear h1 hn hb hc h4 hcur
  by_cases hc1 : c = 1
  · obtain rfl : n = 0 := by omega
    subst hc1
    have HF := Lib.hid (cur_step (U := U) (x := x) (r := r) (c' := 0) (A' := some ⟨b, off, none⟩) (n := 0) hB HC.out.1 HC.out.2.1 (by omega) (by unfold maxLen; omega) (fun _ => by omega) (.cells #[.int .i64 x.1, .int .u64 x.2] 95) (.cells #[.int .i64 x.1, .int .u64 x.2] 95))
    go_enter Tryz.func105, Tryz.ntmps105
    go_wp2
    exact bodyPost_ret (v := .tuple #[.agg #[.int .i64 x.1, .int .u64 x.2], .bool true]) (by simp [results, Tryz.results105, go_sem]) rfl ⟨rfl, HF.out⟩
  · have hc1' : ((1 : Int) == (c : Int)) = false := beq_eq_false_iff_ne.2 (by omega)
    have HF := Lib.hid (cur_step (U := U) (x := x) (r := r) (c' := c - 1) (A' := some ⟨b, off + 2, none⟩) (n := n) hB HC.out.1 HC.out.2.1 (by omega) (by unfold maxLen; omega) (fun _ => ⟨b, off, cs, fz, rfl, hbU, HC.out.2.2.1, hbne, HC.out.2.2.2⟩) (.cells #[.int .i64 x.1, .int .u64 x.2] 95) (.cells #[.int .i64 x.1, .int .u64 x.2] 95))
    go_enter Tryz.func105, Tryz.ntmps105
    go_wp2
    exact bodyPost_ret (v := .tuple #[.agg #[.int .i64 x.1, .int .u64 x.2], .bool true]) (by simp [results, Tryz.results105, go_sem]) rfl ⟨rfl, HF.out⟩
end Go.Proofs.YtihidnmpngeohaaGreat
namespace Go.Proofs.YtihidnmpngeohaaGreat

/-- A sample with its list and its place. -/
structure Tg where
  t : Int
  v : Int
  rank : Int
  idx : Nat
def tle (a b : Tg) : Bool := decide (a.t < b.t ∨ (a.t = b.t ∧ (a.rank < b.rank ∨ (a.rank = b.rank ∧ (a.idx < b.idx ∨ (a.idx = b.idx ∧ a.v ≤ b.v))))))
theorem tle_trans (a b c : Tg) (h : tle a b = true) (g : tle b c = true) : tle a c = true := by
  simp only [tle, decide_eq_true_eq] at *; omega
theorem tle_total (a b : Tg) : (tle a b || tle b a) = true := by
  simp only [tle, Bool.or_eq_true, decide_eq_true_eq]; omega
theorem tle_anti {a b : Tg} (h : tle a b = true) (g : tle b a = true) : a = b := by
  simp only [tle, decide_eq_true_eq] at *
  cases a; cases b
  simp only [Tg.mk.injEq] at *
  omega
def sortT (l : List Tg) : List Tg := l.mergeSort tle
theorem sortT_sorted (l : List Tg) : (sortT l).Pairwise (fun a b => tle a b = true) := List.pairwise_mergeSort tle_trans tle_total l
theorem sortT_perm (l : List Tg) : (sortT l).Perm l := List.mergeSort_perm l tle
theorem sorted_unique : ∀ {l m : List Tg}, l.Pairwise (fun a b => tle a b = true) → m.Pairwise (fun a b => tle a b = true) → l.Perm m → l = m := fun hl hm hp =>
  hp.eq_of_pairwise (fun _ _ _ _ h g => tle_anti h g) hl hm
theorem sortT_congr {l m : List Tg} (h : l.Perm m) : sortT l = sortT m := sorted_unique (sortT_sorted l) (sortT_sorted m) ((sortT_perm l).trans (h.trans (sortT_perm m).symm))
theorem sortT_cons {x : Tg} {l : List Tg} (h : ∀ y ∈ l, tle x y = true) : sortT (x :: l) = x :: sortT l :=
  sorted_unique (sortT_sorted _) (List.pairwise_cons.2 ⟨fun y hy => h y ((sortT_perm l).mem_iff.1 hy), sortT_sorted l⟩) ((sortT_perm _).trans ((sortT_perm l).symm.cons x))
/-- A list's samples from place i on. -/
def tagsFrom (rank : Int) : Nat → List (Int × Int) → List Tg
  | _, [] => []
  | i, x :: r => ⟨x.1, x.2, rank, i⟩ :: tagsFrom rank (i + 1) r
/-- One list in line: its first sample, its place, what comes behind. -/
structure Src where
  it : It
  i : Nat
  rest : List (Int × Int)
def Src.tg (s : Src) : Tg := ⟨s.it.t, s.it.v, s.it.rank, s.i⟩
def Src.flow (s : Src) : List Tg := s.tg :: tagsFrom s.it.rank (s.i + 1) s.rest
/-- A list rises. -/
def Rises (xs : List (Int × Int)) : Prop := xs.Pairwise (fun x y => x.1 ≤ y.1)
def Src.ok (s : Src) : Prop := Rises ((s.it.t, s.it.v) :: s.rest)
theorem tags_ge {rank : Int} {a : Tg} : ∀ {i : Nat} {xs : List (Int × Int)}, (∀ x ∈ xs, a.t ≤ x.1) → a.rank ≤ rank → (a.rank = rank → a.idx < i) → ∀ y ∈ tagsFrom rank i xs, tle a y = true
  | _, [], _, _, _, y, hy => by simp [tagsFrom] at hy
  | i, x :: r, h1, h2, h3, y, hy => by
    rcases List.mem_cons.1 hy with rfl | hy
    · have := h1 x List.mem_cons_self
      simp only [tle, decide_eq_true_eq]
      by_cases e : a.rank = rank
      · have := h3 e; omega
      · omega
    · exact tags_ge (i := i + 1) (xs := r) (fun z hz => h1 z (List.mem_cons_of_mem _ hz)) h2 (fun e => by have := h3 e; omega) y hy
theorem Src.least {s : Src} (h : s.ok) : ∀ y ∈ s.flow, tle s.tg y = true := by
  intro y hy
  rcases List.mem_cons.1 hy with rfl | hy
  · simp [tle]
  · exact tags_ge (fun x hx => (List.pairwise_cons.1 h).1 x hx) (Int.le_refl _) (fun _ => Nat.lt_succ_self _) y hy
/-- The item that is below none comes first of all that stands in line. -/
theorem least_of_all {s : Src} {ss : List Src} (hs : s.ok) (hss : ∀ u ∈ ss, u.ok) (hmin : ∀ u ∈ ss, itLess u.it s.it = false) (hne : ∀ u ∈ ss, u.it.rank ≠ s.it.rank) : ∀ y ∈ (tagsFrom s.it.rank (s.i + 1) s.rest) ++ ss.flatMap Src.flow, tle s.tg y = true := by
  intro y hy
  rcases List.mem_append.1 hy with hy | hy
  · exact Src.least hs y (List.mem_cons_of_mem _ hy)
  · obtain ⟨u, hu, hyu⟩ := List.mem_flatMap.1 hy
    refine tle_trans _ u.tg _ ?_ (Src.least (hss u hu) y hyu)
    have h1 := hmin u hu
    have h2 := hne u hu
    simp only [itLess, decide_eq_false_iff_not] at h1
    unfold tle Src.tg
    rw [decide_eq_true_eq]
    simp only []
    omega
/-- One sample is put behind the rising ones. -/
def outStep (o : List (Int × Int)) (x : Int × Int) : List (Int × Int) :=
  match o.getLast? with
  | some y => if y.1 = x.1 then o.dropLast ++ [x] else o ++ [x]
  | none => [x]
def collapse (p : List Tg) : List (Int × Int) := (p.map fun a => (a.t, a.v)).foldl outStep []
theorem collapse_snoc (p : List Tg) (a : Tg) : collapse (p ++ [a]) = outStep (collapse p) (a.t, a.v) := by simp [collapse, List.map_append, List.foldl_append]
theorem outStep_nil (x : Int × Int) : outStep [] x = [x] := rfl
theorem outStep_same (o : List (Int × Int)) (y x : Int × Int) (h : y.1 = x.1) : outStep (o ++ [y]) x = o ++ [x] := by
  unfold outStep
  rw [List.getLast?_concat]
  simp only []
  rw [if_pos h, List.dropLast_concat]
theorem outStep_new (o : List (Int × Int)) (y x : Int × Int) (h : ¬ y.1 = x.1) : outStep (o ++ [y]) x = o ++ [y] ++ [x] := by
  unfold outStep
  rw [List.getLast?_concat]
  simp only []
  rw [if_neg h]
theorem outStep_len (o : List (Int × Int)) (x : Int × Int) : (outStep o x).length ≤ o.length + 1 := by
  unfold outStep
  split
  · rename_i y hy
    have : o ≠ [] := by rintro rfl; simp at hy
    have := List.length_pos_iff.2 this
    split
    · simp; try omega
    · simp
  · simp
theorem collapse_len (p : List Tg) : (collapse p).length ≤ p.length := by
  suffices ∀ (l : List (Int × Int)) (o : List (Int × Int)), (l.foldl outStep o).length ≤ o.length + l.length by
    have := this (p.map fun a => (a.t, a.v)) []
    simpa [collapse] using this
  intro l
  induction l with
  | nil => intro o; simp
  | cons x l ih =>
    intro o
    have h1 := ih (outStep o x)
    have h2 := outStep_len o x
    simp only [List.foldl_cons, List.length_cons]
    omega
theorem tags_length (rank : Int) : ∀ (i : Nat) (xs : List (Int × Int)), (tagsFrom rank i xs).length = xs.length
  | _, [] => rfl
  | i, _ :: r => by simp [tagsFrom, tags_length rank (i + 1) r]
theorem flow_length {ss ss' : List Src} {s : Src} (h : ss.Perm (s :: ss')) : (ss.flatMap Src.flow).length = s.rest.length + 1 + (ss'.flatMap Src.flow).length := by
  rw [(List.Perm.flatMap_right Src.flow h).length_eq, List.flatMap_cons, List.length_append]
  simp only [Src.flow, List.length_cons, tags_length]
/-- A list's samples by their times, those of one time in their order. -/
def sortS (xs : List (Int × Int)) : List (Int × Int) := xs.mergeSort fun a b => decide (a.1 ≤ b.1)
theorem sortS_rises (xs : List (Int × Int)) : Rises (sortS xs) := by
  have h := List.pairwise_mergeSort (le := fun a b : Int × Int => decide (a.1 ≤ b.1)) (fun a b c h g => by simp only [decide_eq_true_eq] at *; omega) (fun a b => by simp only [Bool.or_eq_true, decide_eq_true_eq]; omega) xs
  exact h.imp fun h => by simpa using h
theorem sortS_length (xs : List (Int × Int)) : (sortS xs).length = xs.length := List.length_mergeSort xs
/-- All lists' samples, with their lists and places. -/
def tagAll : Nat → List (List (Int × Int)) → List Tg
  | _, [] => []
  | i, xs :: r => tagsFrom (i : Int) 0 (sortS xs) ++ tagAll (i + 1) r
theorem tagAll_snoc (xs : List (Int × Int)) : ∀ (i : Nat) (ls : List (List (Int × Int))), tagAll i (ls ++ [xs]) = tagAll i ls ++ tagsFrom ((i + ls.length : Nat) : Int) 0 (sortS xs)
  | i, [] => by simp [tagAll]
  | i, y :: ls => by
    rw [List.cons_append, tagAll, tagAll, tagAll_snoc xs (i + 1) ls, List.append_assoc, List.length_cons]
    congr 4
    omega
theorem tagAll_take {ls : List (List (Int × Int))} {k : Nat} {xs : List (Int × Int)} (h : ls[k]? = some xs) : tagAll 0 (ls.take (k + 1)) = tagAll 0 (ls.take k) ++ tagsFrom (k : Int) 0 (sortS xs) := by
  obtain ⟨hk, e⟩ := List.getElem?_eq_some_iff.1 h
  rw [List.take_succ_eq_append_getElem hk, e, tagAll_snoc, List.length_take, Nat.zero_add, Nat.min_eq_left (by omega)]
end Go.Proofs.YtihidnmpngeohaaGreat
