/- slices.Clone at rows of Samples. Written off a master by mk2.py. A cursor over a list of samples: next. The lists in line: what a step of the merge does to them. No walk. -/
import Derived.Test.YtihidnmpngeohaaGreatG02
import Derived.Deep.DeepCutAuto
import Derived.OwnWalk
import Derived.WalkLawsBesides
import Derived.Test.YtihidnmpngeohaaGreatG08
import Derived.Test.YtihidnmpngeohaaGreatG07
namespace Go.Proofs.YtihidnmpngeohaaGreat
open Go.RowKit Go.Lib

/-- An element of two numbers, as the program has it. -/
def encS (x : Int × Int) : List Value := [.int .i64 x.1, .int .u64 x.2]
theorem encS_len (x : Int × Int) : (encS x).length = 2 := rfl
theorem Tryz.infoSample : (Tryz.prog.info? 95).map (fun i => (i.zero, i.size, i.bytes)) = some (some (.agg #[.int .i64 0, .int .u64 0]), 2, 16) := by kernel_rfl
theorem oneSample (l : List (Int × Int)) : ∀ u ∈ l.flatMap encS, u.oneCell' = true := by
  intro u hu
  obtain ⟨m, _, h⟩ := List.mem_flatMap.1 hu
  simp only [encS, List.mem_cons, List.not_mem_nil, or_false] at h
  rcases h with rfl | rfl <;> rfl
def OwnPostSample (B n : Nat) (l : List (Int × Int)) (w : World) (e : Ending) (w' : World) : Prop := ∃ v', e = .returned v' ∧ w'.ownsRow B 95 2 v' n (l.flatMap encS) ∧ Below w.heap.size w w'
set_option maxHeartbeats 2000000 in
set_option maxRecDepth 100000 in
theorem cloneSample (A : Option Addr) (n c : Nat) (l : List (Int × Int)) (w : World) (hL : Lst encS 2 w w.heap.size A n l) (hnil : A = none → n = 0 ∧ c = 0) (hn : n ≤ 1099511627776) :
    Calls Tryz.prog 102 #[.slice A n c] w (OwnPostSample w.heap.size n l w) := by
  obtain ⟨i0, hi, hz0, hz1, hz2⟩ := info_parts Tryz.infoSample
  cases A with
  | none =>
    obtain ⟨rfl, rfl⟩ := hnil rfl
    have hl0 : l = [] := List.length_eq_zero_iff.1 hL.1
    clear hi hz0 hz1 hz2 hL hnil
    have hq := fun w : World => Lib.run_eql_slice_nil w 90 95 none 0 0 0 0 Tryz.underlying90
    go_enter Tryz.func102, Tryz.ntmps102
    go_wp2
    go_ret
    exact ⟨_, rfl, by rw [hl0]; exact World.ownsRow_nil _ _ _ _, Below.refl _ _⟩
  | some ad =>
    have hcells := fun w1 (hb : Below w.heap.size w w1) => (hL.below hb).flat encS_len
    have HC := Lib.hid hcells
    have HLL := Lib.hid hL.1
    have hq := fun w : World => Lib.run_eql_slice_nil w 90 95 (some ad) n c 0 0 Tryz.underlying90
    clear hcells hL hnil
    go_enter Tryz.func102, Tryz.ntmps102
    go_wp2_with (at_builtin; refine wpList_append_own _ rfl _ _ 90 rfl w.heap.size 95 i0 _ 2 16 Tryz.underlying90 hi hz0 hz1 hz2 rfl (by omega) _ _ _ rfl (World.ownsRow_made w #[] 0 (Nat.le_refl _) (Nat.zero_le _) (by simp)) ad n c (l.flatMap encS) rfl (by rw [flatMap_length (enc := encS) (size := 2) (fun _ => rfl), HLL.out]) (HC.out _ ((Below.refl _ w).alloc (Nat.le_refl _) _)) (oneSample _) (by unfold maxLen; omega) (by omega) (by simp) ?_)
    intro v' w1 hown hgrow _
    have HF := Lib.hid (show _ ∧ _ from ⟨hown, ((Below.refl w.heap.size w).alloc (Nat.le_refl _) _).grown hgrow (by simp) (by intro k hk; simp [Value.ownBlock] at hk; omega)⟩)
    clear hi hz0 hz1 hz2 hown hgrow hq
    go_wp2
    go_ret
    exact ⟨v', rfl, by simpa using HF.out.1, HF.out.2⟩
end Go.Proofs.YtihidnmpngeohaaGreat
namespace Go.Proofs.YtihidnmpngeohaaGreat
open Go.RowKit Go.Lib

/-- The cursor in block cb stands ahead of the samples xs. -/
def Cur (w : World) (B U cb : Nat) (rank : Int) (xs : List (Int × Int)) : Prop :=
  B ≤ cb ∧ ∃ A c, w.heap[cb]? = some (.cells #[.slice A xs.length c, .int .i64 rank] 165 (0, 0)) ∧ xs.length ≤ c ∧ c ≤ maxLen ∧
    (0 < xs.length → ∃ b off, A = some ⟨b, off, none⟩ ∧ b < U ∧ (∃ cs fz, w.heap[b]? = some (.cells cs 95 fz)) ∧ ∀ (k : Nat) x, xs[k]? = some x → ∀ i u, (encS x)[i]? = some u → w.cell? ⟨b, off + k * 2 + i, none⟩ = some u)
theorem Cur.lt {w : World} {B U cb : Nat} {rank : Int} {xs : List (Int × Int)} (h : Cur w B U cb rank xs) : cb < w.heap.size := by
  obtain ⟨_, A, c, h1, _⟩ := h
  exact (Array.getElem?_eq_some_iff.1 h1).1
/-- The types of the queue, and the cursor's. -/
def CT (t : TypeId) : Prop := QT t ∨ t = 165
theorem QT.sample : ¬ QT 95 := by unfold QT; decide
theorem QT.cursor : ¬ QT 165 := by unfold QT; decide
theorem CT.sample : ¬ CT 95 := by unfold CT QT; decide
theorem KeptT.mono {B : Nat} {S T : TypeId → Prop} {w w' : World} (h : KeptT B S w w') (hs : ∀ t, S t → T t) : KeptT B T w w' :=
  ⟨h.os, h.tape, h.output, h.size, fun k hk hor => h.block k hk (hor.imp_right fun ⟨cs, t, fz, e, hn⟩ => ⟨cs, t, fz, e, fun h' => hn (hs t h')⟩)⟩
/-- A cursor is kept by whatever turns blocks of the queue's types alone. -/
theorem Cur.kept {w w' : World} {B U cb : Nat} {rank : Int} {xs : List (Int × Int)} (h : Cur w B U cb rank xs) (hk : KeptT B QT w w') : Cur w' B U cb rank xs := by
  obtain ⟨hB, A, c, h1, h2, h3, h4⟩ := h
  refine ⟨hB, A, c, hk.cells h1 QT.cursor, h2, h3, fun h0 => ?_⟩
  obtain ⟨b, off, e, hbU, ⟨cs, fz, hb⟩, hc⟩ := h4 h0
  have hb' := hk.cells hb QT.sample
  exact ⟨b, off, e, hbU, ⟨cs, fz, hb'⟩, fun k x hx i u hu => (World.cell?_of_block (w := w) (hb'.trans hb.symm)).trans (hc k x hx i u hu)⟩
/-- .. and by what turns another cursor alone. -/
theorem Cur.other {w w' : World} {B U cb cb' : Nat} {rank : Int} {xs : List (Int × Int)} (h : Cur w B U cb rank xs) (hg : w.grownBy w' (some cb')) (hne : cb ≠ cb') (ht : ∃ cs fz, w.heap[cb']? = some (.cells cs 165 fz)) : Cur w' B U cb rank xs := by
  obtain ⟨hB, A, c, h1, h2, h3, h4⟩ := h
  refine ⟨hB, A, c, (hg.block cb (Array.getElem?_eq_some_iff.1 h1).1 (fun e => hne (by injection e))).trans h1, h2, h3, fun h0 => ?_⟩
  obtain ⟨b, off, e, hbU, ⟨cs, fz, hb⟩, hc⟩ := h4 h0
  have hbne : some b ≠ some cb' := fun e => by
    injection e with e
    subst e
    obtain ⟨cs', fz', h'⟩ := ht
    rw [hb] at h'
    injection h' with h'
    injection h' with _ h'
    revert h'; decide
  have hb' := (hg.block b (Array.getElem?_eq_some_iff.1 hb).1 hbne).trans hb
  exact ⟨b, off, e, hbU, ⟨cs, fz, hb'⟩, fun k x hx i u hu => (World.cell?_of_block (w := w) (hb'.trans hb.symm)).trans (hc k x hx i u hu)⟩
theorem Cur.mono {w : World} {B U V cb : Nat} {rank : Int} {xs : List (Int × Int)} (h : Cur w B U cb rank xs) (hU : U ≤ V) : Cur w B V cb rank xs := by
  obtain ⟨hB, A, c, h1, h2, h3, h4⟩ := h
  refine ⟨hB, A, c, h1, h2, h3, fun h0 => ?_⟩
  obtain ⟨b, off, e, hbU, r⟩ := h4 h0
  exact ⟨b, off, e, by omega, r⟩
/-- .. and by what turns a row of samples that none of the cursors goes over. -/
theorem Cur.out {w w' : World} {B U cb : Nat} {rank : Int} {xs : List (Int × Int)} (h : Cur w B U cb rank xs) {r : Option Nat} (hg : w.grownBy w' r) (hU : ∀ g, r = some g → U ≤ g ∧ ∃ cs fz, w.heap[g]? = some (.cells cs 95 fz)) : Cur w' B U cb rank xs := by
  obtain ⟨hB, A, c, h1, h2, h3, h4⟩ := h
  refine ⟨hB, A, c, (hg.block cb (Array.getElem?_eq_some_iff.1 h1).1 (fun e => ?_)).trans h1, h2, h3, fun h0 => ?_⟩
  · obtain ⟨_, cs, fz, h'⟩ := hU cb e.symm
    rw [h1] at h'
    injection h' with h'
    injection h' with _ h'
    revert h'; decide
  · obtain ⟨b, off, e, hbU, ⟨cs, fz, hb⟩, hc⟩ := h4 h0
    have hb' := (hg.block b (Array.getElem?_eq_some_iff.1 hb).1 (fun e => by have := (hU b e.symm).1; omega)).trans hb
    exact ⟨b, off, e, hbU, ⟨cs, fz, hb'⟩, fun k x hx i u hu => (World.cell?_of_block (w := w) (hb'.trans hb.symm)).trans (hc k x hx i u hu)⟩
set_option maxHeartbeats 4000000 in
set_option maxRecDepth 100000 in
/-- next at no sample. -/
theorem next_none (B U cb : Nat) (rank : Int) (w : World) (h : Cur w B U cb rank []) :
    Calls Tryz.prog 105 #[.pointer (some ⟨cb, 0, none⟩)] w fun e w' => e = .returned (.tuple #[.agg #[.int .i64 0, .int .u64 0], .bool false]) ∧ Below w.heap.size w w' := by
  obtain ⟨_, A, c, h1, _⟩ := h
  have hlt := (Array.getElem?_eq_some_iff.1 h1).1
  have c0 : w.cell? ⟨cb, 0, none⟩ = some (.slice A 0 c) := by rw [cell_of_row w cb 0 _ _ _ h1]; rfl
  clear h1
  go_enter Tryz.func105, Tryz.ntmps105
  go_wp2
  exact bodyPost_ret (v := .tuple #[.agg #[.int .i64 0, .int .u64 0], .bool false]) (by simp [results, Tryz.results105, go_sem]) rfl ⟨rfl, (Below.refl _ _).alloc (Nat.le_refl _) _⟩
theorem cur_step {w : World} {B U cb n c' : Nat} {rank : Int} {x : Int × Int} {r : List (Int × Int)} {v : Value} {A' : Option Addr} (hB : B ≤ cb) (h1 : w.heap[cb]? = some (.cells #[v, .int .i64 rank] 165 (0, 0))) (hn : r.length = n) (hnc : n ≤ c') (hcm : c' ≤ maxLen)
    (hA : 0 < n → ∃ b off cs fz, A' = some ⟨b, off + 2, none⟩ ∧ b < U ∧ w.heap[b]? = some (.cells cs 95 fz) ∧ b ≠ cb ∧ ∀ (k : Nat) y, (x :: r)[k]? = some y → ∀ i u, (encS y)[i]? = some u → w.cell? ⟨b, off + k * 2 + i, none⟩ = some u) (o1 o2 : Obj) :
    Cur (((w.setCell ⟨cb, 0, none⟩ (.slice A' n c')).alloc o1).alloc o2) B U cb rank r ∧ w.grownBy (((w.setCell ⟨cb, 0, none⟩ (.slice A' n c')).alloc o1).alloc o2) (some cb) := by
  have hg : w.grownBy (((w.setCell ⟨cb, 0, none⟩ (.slice A' n c')).alloc o1).alloc o2) (some cb) := grownBy_trans (grownBy_trans (grownBy_set1 cb _) (World.grownBy_alloc _ _ _)) (World.grownBy_alloc _ _ _)
  have hlt := (Array.getElem?_eq_some_iff.1 h1).1
  have hs := heap_setCell_same w cb 0 _ _ (.slice A' n c') h1
  have hcb : (((w.setCell ⟨cb, 0, none⟩ (.slice A' n c')).alloc o1).alloc o2).heap[cb]? = some (.cells #[.slice A' n c', .int .i64 rank] 165 (0, 0)) := by
    rw [Below.heap_alloc _ _ _ (by simp [World.setCell]; omega), Below.heap_alloc _ _ _ (by simp [World.setCell]; omega), hs]
    rfl
  refine ⟨⟨hB, A', c', by rw [hn]; exact hcb, by omega, hcm, fun h0 => ?_⟩, hg⟩
  obtain ⟨b, off, cs, fz, rfl, hbU, hb, hbne, hc⟩ := hA (by omega)
  have hb' := (hg.block b (Array.getElem?_eq_some_iff.1 hb).1 (fun e => hbne (by injection e))).trans hb
  refine ⟨b, off + 2, rfl, hbU, ⟨cs, fz, hb'⟩, fun k y hy i u hu => ?_⟩
  have := hc (k + 1) y (by simpa using hy) i u hu
  rw [show off + (k + 1) * 2 + i = off + 2 + k * 2 + i by omega] at this
  exact (World.cell?_of_block (w := w) (hb'.trans hb.symm)).trans this
set_option maxHeartbeats 4000000 in
set_option maxRecDepth 100000 in
/-- next at a sample. -/
theorem next_some (B U cb : Nat) (rank : Int) (x : Int × Int) (r : List (Int × Int)) (w : World) (h : Cur w B U cb rank (x :: r)) :
    Calls Tryz.prog 105 #[.pointer (some ⟨cb, 0, none⟩)] w fun e w' => e = .returned (.tuple #[.agg #[.int .i64 x.1, .int .u64 x.2], .bool true]) ∧ Cur w' B U cb rank r ∧ w.grownBy w' (some cb) := by
  have hcur := h
  obtain ⟨hB, A, c, h1, h2, h3, h4⟩ := h
  obtain ⟨b, off, rfl, hbU, ⟨cs, fz, hb⟩, hc⟩ := h4 (by simp)
  have hlt := (Array.getElem?_eq_some_iff.1 h1).1
  have hblt := (Array.getElem?_eq_some_iff.1 hb).1
  have hbne : b ≠ cb := fun e => by
    subst e
    rw [hb] at h1
    injection h1 with h1
    injection h1 with _ h1
    revert h1; decide
  simp only [List.length_cons] at h1 h2
  obtain ⟨n, hn⟩ : ∃ n, r.length = n := ⟨_, rfl⟩
  rw [hn] at h1 h2
  unfold maxLen at h3
  have c0 : w.cell? ⟨cb, 0, none⟩ = some (.slice (some ⟨b, off, none⟩) (n + 1) c) := by rw [cell_of_row w cb 0 _ _ _ h1]; rfl
  have f0 : w.frozen? ⟨cb, 0, none⟩ = false := by simp [World.frozen?, h1]
  have x0 := hc 0 x rfl 0 _ rfl
  have x1 := hc 0 x rfl 1 _ rfl
  simp only [Nat.zero_mul, Nat.add_zero] at x0 x1
  have hn0 : (0 : Int) ≤ (n : Int) := by omega
  have hn1 : ((n : Int) + 1 == 0) = false := beq_eq_false_iff_ne.2 (by omega)
  have hn2 : (n : Int) + 1 ≤ (c : Int) := by omega
  have HC := Lib.hid (show _ ∧ _ ∧ _ ∧ _ from ⟨h1, hn, hb, hc⟩)
  clear h1 hn hb hc h4 hcur
  by_cases hc1 : c = 1
  · obtain rfl : n = 0 := by omega
    subst hc1
    have HF := Lib.hid (cur_step (U := U) (x := x) (r := r) (c' := 0) (A' := some ⟨b, off, none⟩) (n := 0) hB HC.out.1 HC.out.2.1 (by omega) (by unfold maxLen; omega) (fun _ => by omega) (.cells #[.int .i64 x.1, .int .u64 x.2] 95) (.cells #[.int .i64 x.1, .int .u64 x.2] 95))
    go_enter Tryz.func105, Tryz.ntmps105
    go_wp2
    exact bodyPost_ret (v := .tuple #[.agg #[.int .i64 x.1, .int .u64 x.2], .bool true]) (by simp [results, Tryz.results105, go_sem]) rfl ⟨rfl, HF.out⟩
  · have hc1' : ((1 : Int) == (c : Int)) = false := beq_eq_false_iff_ne.2 (by omega)
    have HF := Lib.hid (cur_step (U := U) (x := x) (r := r) (c' := c - 1) (A' := some ⟨b, off + 2, none⟩) (n := n) hB HC.out.1 HC.out.2.1 (by omega) (by unfold maxLen; omega) (fun _ => ⟨b, off, cs, fz, rfl, hbU, HC.out.2.2.1, hbne, HC.out.2.2.2⟩) (.cells #[.int .i64 x.1, .int .u64 x.2] 95) (.cells #[.int .i64 x.1, .int .u64 x.2] 95))
    go_enter Tryz.func105, Tryz.ntmps105
    go_wp2
    exact bodyPost_ret (v := .tuple #[.agg #[.int .i64 x.1, .int .u64 x.2], .bool true]) (by simp [results, Tryz.results105, go_sem]) rfl ⟨rfl, HF.out⟩
end Go.Proofs.YtihidnmpngeohaaGreat
namespace Go.Proofs.YtihidnmpngeohaaGreat
open Go.RowKit Go.Lib

/-- The lists in line: the queue holds the first sample of each, a cursor stands ahead of the rest. -/
structure Line (w : World) (B U qb : Nat) (qv : Value) (l : List It) (ss : List Src) : Prop where
  queue : Qu w B qb qv l
  perm : l.Perm (ss.map Src.it)
  heap : HeapOK l
  curs : ∀ s ∈ ss, Cur w B U s.it.cur s.it.rank s.rest
  ok : ∀ s ∈ ss, s.ok
  apart : (ss.map fun s => s.it.cur).Nodup
  ranks : (ss.map fun s => s.it.rank).Nodup
theorem nodup_perm_cons {α β : Type} {f : α → β} {ss ss' : List α} {s : α} (h : (ss.map f).Nodup) (hp : ss.Perm (s :: ss')) : (∀ u ∈ ss', f u ≠ f s) ∧ (ss'.map f).Nodup := by
  have h1 := (hp.map f).nodup_iff.1 h
  rw [List.map_cons, List.nodup_cons] at h1
  exact ⟨fun u hu e => h1.1 (List.mem_map.2 ⟨u, hu, e⟩), h1.2⟩
/-- The list whose sample comes first has left the line. -/
theorem Line.pop {w w1 : World} {B U qb : Nat} {qv qv1 : Value} {l l1 : List It} {ss : List Src} {x : It} (h : Line w B U qb qv l ss) (h0 : l[0]? = some x) (hq1 : Qu w1 B qb qv1 l1) (hp : (l1 ++ [x]).Perm l) (hok : HeapOK l1) (hk : KeptT B QT w w1) :
    ∃ s ss', s.it = x ∧ ss.Perm (s :: ss') ∧ Line w1 B U qb qv1 l1 ss' ∧ Cur w1 B U x.cur x.rank s.rest ∧ s.ok ∧ (∀ u ∈ ss', u.it.cur ≠ x.cur) ∧ (∀ u ∈ ss', u.it.rank ≠ x.rank) ∧
      sortT (ss.flatMap Src.flow) = s.tg :: sortT (tagsFrom x.rank (s.i + 1) s.rest ++ ss'.flatMap Src.flow) := by
  have hx : x ∈ ss.map Src.it := h.perm.mem_iff.1 (List.mem_of_getElem? h0)
  obtain ⟨s, hs, rfl⟩ := List.mem_map.1 hx
  obtain ⟨a, b, rfl⟩ := List.append_of_mem hs
  have hpm : (a ++ s :: b).Perm (s :: (a ++ b)) := List.perm_middle
  have h1 := nodup_perm_cons h.apart hpm
  have h2 := nodup_perm_cons h.ranks hpm
  have hsub : ∀ u ∈ a ++ b, u ∈ a ++ s :: b := fun u hu => hpm.mem_iff.2 (List.mem_cons_of_mem _ hu)
  have hperm1 : l1.Perm ((a ++ b).map Src.it) := by
    have h3 : (s.it :: l1).Perm (s.it :: (a ++ b).map Src.it) := by
      have h4 : (s.it :: l1).Perm (l1 ++ [s.it]) := (List.perm_append_singleton s.it l1).symm
      exact h4.trans (hp.trans (h.perm.trans (hpm.map Src.it)))
    exact h3.cons_inv
  refine ⟨s, a ++ b, rfl, hpm, ⟨hq1, hperm1, hok, fun u hu => (h.curs u (hsub u hu)).kept hk, fun u hu => h.ok u (hsub u hu), h1.2, h2.2⟩, (h.curs s hs).kept hk, h.ok s hs, h1.1, h2.1, ?_⟩
  have hmin : ∀ u ∈ a ++ b, itLess u.it s.it = false := fun u hu => by
    have h3 : u.it ∈ l := h.perm.mem_iff.2 (List.mem_map.2 ⟨u, hsub u hu, rfl⟩)
    obtain ⟨i, hi, e⟩ := List.getElem_of_mem h3
    exact h.heap.top h0 i u.it (by rw [List.getElem?_eq_getElem hi, e])
  have hall := least_of_all (h.ok s hs) (fun u hu => h.ok u (hsub u hu)) hmin h2.1
  rw [← sortT_cons hall]
  refine sortT_congr ?_
  have h5 := List.Perm.flatMap_right Src.flow hpm
  simpa [Src.flow] using h5
/-- The line in a world that has turned nothing of it. -/
theorem Line.keep {w w' : World} {B U qb : Nat} {qv : Value} {l : List It} {ss : List Src} (h : Line w B U qb qv l ss) (hq : Qu w' B qb qv l) (hc : ∀ s ∈ ss, Cur w' B U s.it.cur s.it.rank s.rest) : Line w' B U qb qv l ss :=
  ⟨hq, h.perm, h.heap, hc, h.ok, h.apart, h.ranks⟩
theorem apart_of' {v : Value} {r : Option Nat} (h : ∀ b, v.ownBlock = some b → r ≠ some b) : v.ownBlock = none ∨ v.ownBlock ≠ r := by
  cases hv : v.ownBlock with
  | none => exact .inl rfl
  | some b => exact .inr fun e => h b hv e.symm
theorem Qu.grown {w w' : World} {B qb : Nat} {qv : Value} {l : List It} (h : Qu w B qb qv l) {r : Option Nat} (hg : w.grownBy w' r) (h1 : r ≠ some qb) (h2 : ∀ g, qv.ownBlock = some g → r ≠ some g) : Qu w' B qb qv l :=
  ⟨(hg.block qb h.lt (fun e => h1 e.symm)).trans h.var, h.own.kept hg (apart_of' h2), h.base⟩
/-- The list joins the line again. -/
theorem Line.push {w w1 : World} {B U qb : Nat} {qv qv1 : Value} {l l1 : List It} {ss : List Src} {s : Src} (h : Line w B U qb qv l ss) (hs : Cur w B U s.it.cur s.it.rank s.rest) (hok : s.ok) (hne : ∀ u ∈ ss, u.it.cur ≠ s.it.cur) (hnr : ∀ u ∈ ss, u.it.rank ≠ s.it.rank)
    (hq1 : Qu w1 B qb qv1 l1) (hp : l1.Perm (l ++ [s.it])) (hh : HeapOK l1) (hk : KeptT B QT w w1) : Line w1 B U qb qv1 l1 (s :: ss) where
  queue := hq1
  perm := hp.trans (((List.perm_append_singleton s.it l)).trans (h.perm.cons s.it))
  heap := hh
  curs u hu := by
    rcases List.mem_cons.1 hu with rfl | hu
    · exact hs.kept hk
    · exact (h.curs u hu).kept hk
  ok u hu := by
    rcases List.mem_cons.1 hu with rfl | hu
    · exact hok
    · exact h.ok u hu
  apart := by
    rw [List.map_cons, List.nodup_cons]
    refine ⟨fun hm => ?_, h.apart⟩
    obtain ⟨u, hu, e⟩ := List.mem_map.1 hm
    exact hne u hu e
  ranks := by
    rw [List.map_cons, List.nodup_cons]
    refine ⟨fun hm => ?_, h.ranks⟩
    obtain ⟨u, hu, e⟩ := List.mem_map.1 hm
    exact hnr u hu e
/-- What the row of what comes out is. -/
def OutRow (w : World) (U : Nat) (r : Option Nat) : Prop := ∀ g, r = some g → U ≤ g ∧ ∃ cs fz, w.heap[g]? = some (.cells cs 95 fz)
theorem OutRow.of_own {w : World} {U n : Nat} {v : Value} {xs : List Value} (h : w.ownsRow U 95 2 v n xs) : OutRow w U v.ownBlock := by
  intro g hg
  rcases h.2 with ⟨rfl, _⟩ | ⟨b, cap, cur, rfl, hb, hh, _⟩
  · cases hg
  · obtain rfl : b = g := by simpa [Value.ownBlock] using hg
    exact ⟨hb, cur, _, hh⟩
theorem Qu.out {w w' : World} {B U qb : Nat} {qv : Value} {l : List It} (h : Qu w B qb qv l) {r : Option Nat} (hg : w.grownBy w' r) (hr : OutRow w U r) : Qu w' B qb qv l := by
  refine h.grown hg (fun e => ?_) (fun g hq e => ?_)
  · obtain ⟨_, cs, fz, h'⟩ := hr qb e
    rw [h.var] at h'
    injection h' with h'
    injection h' with _ h'
    revert h'; decide
  · obtain ⟨_, cs, fz, h'⟩ := hr g e
    have := h.type hq cs _ fz h'
    revert this; decide
theorem Line.out {w w' : World} {B U qb : Nat} {qv : Value} {l : List It} {ss : List Src} (h : Line w B U qb qv l ss) {r : Option Nat} (hg : w.grownBy w' r) (hr : OutRow w U r) : Line w' B U qb qv l ss :=
  h.keep (h.queue.out hg hr) fun s hs => (h.curs s hs).out hg hr
/-- Another list's cursor has gone on. -/
theorem Line.next {w w' : World} {B U qb cb : Nat} {qv : Value} {l : List It} {ss : List Src} (h : Line w B U qb qv l ss) (hg : w.grownBy w' (some cb)) (ht : ∃ cs fz, w.heap[cb]? = some (.cells cs 165 fz)) (hne : ∀ u ∈ ss, u.it.cur ≠ cb) : Line w' B U qb qv l ss := by
  refine h.keep (h.queue.grown hg (fun e => ?_) (fun g hq e => ?_)) fun s hs => (h.curs s hs).other hg (hne s hs) ht
  · injection e with e
    subst e
    obtain ⟨cs, fz, h'⟩ := ht
    rw [h.queue.var] at h'
    injection h' with h'
    injection h' with _ h'
    revert h'; decide
  · injection e with e
    subst e
    obtain ⟨cs, fz, h'⟩ := ht
    have := h.queue.type hq cs _ fz h'
    revert this; decide
theorem Cur.type {w : World} {B U cb : Nat} {rank : Int} {xs : List (Int × Int)} (h : Cur w B U cb rank xs) : ∃ cs fz, w.heap[cb]? = some (.cells cs 165 fz) := by
  obtain ⟨_, A, c, h1, _⟩ := h
  exact ⟨_, _, h1⟩
theorem owns_next {w w' : World} {U n cb : Nat} {v : Value} {xs : List Value} (h : w.ownsRow U 95 2 v n xs) (hg : w.grownBy w' (some cb)) (ht : ∃ cs fz, w.heap[cb]? = some (.cells cs 165 fz)) : w'.ownsRow U 95 2 v n xs := by
  refine h.kept hg (apart_of' fun g hv e => ?_)
  injection e with e
  subst e
  obtain ⟨_, cs, fz, h'⟩ := OutRow.of_own h cb hv
  obtain ⟨cs2, fz2, h2⟩ := ht
  rw [h'] at h2
  injection h2 with h2
  injection h2 with _ h2
  revert h2; decide
theorem Line.mono {w : World} {B U V qb : Nat} {qv : Value} {l : List It} {ss : List Src} (h : Line w B U qb qv l ss) (hU : U ≤ V) : Line w B V qb qv l ss :=
  ⟨h.queue, h.perm, h.heap, fun s hs => (h.curs s hs).mono hU, h.ok, h.apart, h.ranks⟩
theorem Line.below {w w' : World} {B U qb : Nat} {qv : Value} {l : List It} {ss : List Src} (h : Line w B U qb qv l ss) (hb : Below w.heap.size w w') : Line w' B U qb qv l ss :=
  h.out (r := none) ⟨hb.os, hb.tape, hb.output, hb.size, fun k hk _ => hb.block k hk⟩ (fun g hg => by cases hg)
/-- The lists that are handed in: slices of samples. -/
def Lls (w : World) (B : Nat) (A : Option Addr) (n : Nat) (ls : List (List (Int × Int))) : Prop :=
  ls.length = n ∧ (0 < n → ∃ b off, A = some ⟨b, off, none⟩ ∧ b < B ∧ ∀ k xs, ls[k]? = some xs → ∃ Ak ck, w.cell? ⟨b, off + k, none⟩ = some (.slice Ak xs.length ck) ∧ Lst encS 2 w B Ak xs.length xs ∧ (Ak = none → xs.length = 0 ∧ ck = 0))
theorem Lls.below {w w' : World} {B n : Nat} {A : Option Addr} {ls : List (List (Int × Int))} (h : Lls w B A n ls) (hb : Below B w w') : Lls w' B A n ls :=
  ⟨h.1, fun h0 => by
    obtain ⟨b, off, e, hlt, hc⟩ := h.2 h0
    refine ⟨b, off, e, hlt, fun k xs hx => ?_⟩
    obtain ⟨Ak, ck, h1, h2, h3⟩ := hc k xs hx
    exact ⟨Ak, ck, (hb.cell (p := ⟨b, off + k, none⟩) hlt).trans h1, h2.below hb, h3⟩⟩
/-- A new cursor over a row of the call's own. -/
theorem cur_new {w : World} {B cb U n c : Nat} {A : Option Addr} {rank : Int} {xs : List (Int × Int)} (hB : B ≤ cb) (h : w.heap[cb]? = some (.cells #[.slice A n c, .int .i64 rank] 165 (0, 0))) {B' : Nat} (ho : w.ownsRow B' 95 2 (.slice A n c) n (xs.flatMap encS)) (hU : w.heap.size ≤ U) : Cur w B U cb rank xs := by
  have hl := owns_len ho encS_len (by omega)
  have hcap := owns_cap ho
  subst hl
  refine ⟨hB, A, c, h, hcap.2, hcap.1, fun h0 => ?_⟩
  obtain ⟨g, rfl, hg⟩ := owns_some' ho h0
  obtain ⟨_, cs, fz, hh⟩ := OutRow.of_own ho g rfl
  refine ⟨g, 0, rfl, by omega, ⟨cs, fz, hh⟩, fun k x hx i u hu => ?_⟩
  rw [Nat.zero_add]
  exact owns_at ho encS_len hx hu
end Go.Proofs.YtihidnmpngeohaaGreat
