/- A cursor over a list of samples: next. -/
import Derived.Test.YtglafbfbgjihbaaGreatHeapB
import Derived.Test.YtglafbfbgjihbaaGreatCloneSample
namespace Go.Proofs.YtglafbfbgjihbaaGreat
open Go.RowKit Go.Lib

/-- The cursor in block cb stands ahead of the samples xs. -/
def Cur (w : World) (B U cb : Nat) (rank : Int) (xs : List (Int × Int)) : Prop :=
  B ≤ cb ∧ ∃ A c, w.heap[cb]? = some (.cells #[.slice A xs.length c, .int .i64 rank] 174 (0, 0)) ∧ xs.length ≤ c ∧ c ≤ maxLen ∧
    (0 < xs.length → ∃ b off, A = some ⟨b, off, none⟩ ∧ b < U ∧ (∃ cs fz, w.heap[b]? = some (.cells cs 94 fz)) ∧ ∀ (k : Nat) x, xs[k]? = some x → ∀ i u, (encS x)[i]? = some u → w.cell? ⟨b, off + k * 2 + i, none⟩ = some u)
theorem Cur.lt {w : World} {B U cb : Nat} {rank : Int} {xs : List (Int × Int)} (h : Cur w B U cb rank xs) : cb < w.heap.size := by
  obtain ⟨_, A, c, h1, _⟩ := h
  exact (Array.getElem?_eq_some_iff.1 h1).1
/-- The types of the queue, and the cursor's. -/
def CT (t : TypeId) : Prop := QT t ∨ t = 174
theorem QT.sample : ¬ QT 94 := by unfold QT; decide
theorem QT.cursor : ¬ QT 174 := by unfold QT; decide
theorem CT.sample : ¬ CT 94 := by unfold CT QT; decide
theorem KeptT.mono {B : Nat} {S T : TypeId → Prop} {w w' : World} (h : KeptT B S w w') (hs : ∀ t, S t → T t) : KeptT B T w w' :=
  ⟨h.os, h.tape, h.output, h.size, fun k hk hor => h.block k hk (hor.imp_right fun ⟨cs, t, fz, e, hn⟩ => ⟨cs, t, fz, e, fun h' => hn (hs t h')⟩)⟩
/-- A cursor is kept by whatever turns blocks of the queue's types alone. -/
theorem Cur.kept {w w' : World} {B U cb : Nat} {rank : Int} {xs : List (Int × Int)} (h : Cur w B U cb rank xs) (hk : KeptT B QT w w') : Cur w' B U cb rank xs := by
  obtain ⟨hB, A, c, h1, h2, h3, h4⟩ := h
  refine ⟨hB, A, c, hk.cells h1 QT.cursor, h2, h3, fun h0 => ?_⟩
  obtain ⟨b, off, e, hbU, ⟨cs, fz, hb⟩, hc⟩ := h4 h0
  have hb' := hk.cells hb QT.sample
  exact ⟨b, off, e, hbU, ⟨cs, fz, hb'⟩, fun k x hx i u hu => (World.cell?_of_block (w := w) (hb'.trans hb.symm)).trans (hc k x hx i u hu)⟩
/-- .. and by what turns another cursor alone. -/
theorem Cur.other {w w' : World} {B U cb cb' : Nat} {rank : Int} {xs : List (Int × Int)} (h : Cur w B U cb rank xs) (hg : w.grownBy w' (some cb')) (hne : cb ≠ cb') (ht : ∃ cs fz, w.heap[cb']? = some (.cells cs 174 fz)) : Cur w' B U cb rank xs := by
  obtain ⟨hB, A, c, h1, h2, h3, h4⟩ := h
  refine ⟨hB, A, c, (hg.block cb (Array.getElem?_eq_some_iff.1 h1).1 (fun e => hne (by injection e))).trans h1, h2, h3, fun h0 => ?_⟩
  obtain ⟨b, off, e, hbU, ⟨cs, fz, hb⟩, hc⟩ := h4 h0
  have hbne : some b ≠ some cb' := fun e => by
    injection e with e
    subst e
    obtain ⟨cs', fz', h'⟩ := ht
    rw [hb] at h'
    injection h' with h'
    injection h' with _ h'
    revert h'; decide
  have hb' := (hg.block b (Array.getElem?_eq_some_iff.1 hb).1 hbne).trans hb
  exact ⟨b, off, e, hbU, ⟨cs, fz, hb'⟩, fun k x hx i u hu => (World.cell?_of_block (w := w) (hb'.trans hb.symm)).trans (hc k x hx i u hu)⟩
theorem Cur.mono {w : World} {B U V cb : Nat} {rank : Int} {xs : List (Int × Int)} (h : Cur w B U cb rank xs) (hU : U ≤ V) : Cur w B V cb rank xs := by
  obtain ⟨hB, A, c, h1, h2, h3, h4⟩ := h
  refine ⟨hB, A, c, h1, h2, h3, fun h0 => ?_⟩
  obtain ⟨b, off, e, hbU, r⟩ := h4 h0
  exact ⟨b, off, e, by omega, r⟩
/-- .. and by what turns a row of samples that none of the cursors goes over. -/
theorem Cur.out {w w' : World} {B U cb : Nat} {rank : Int} {xs : List (Int × Int)} (h : Cur w B U cb rank xs) {r : Option Nat} (hg : w.grownBy w' r) (hU : ∀ g, r = some g → U ≤ g ∧ ∃ cs fz, w.heap[g]? = some (.cells cs 94 fz)) : Cur w' B U cb rank xs := by
  obtain ⟨hB, A, c, h1, h2, h3, h4⟩ := h
  refine ⟨hB, A, c, (hg.block cb (Array.getElem?_eq_some_iff.1 h1).1 (fun e => ?_)).trans h1, h2, h3, fun h0 => ?_⟩
  · obtain ⟨_, cs, fz, h'⟩ := hU cb e.symm
    rw [h1] at h'
    injection h' with h'
    injection h' with _ h'
    revert h'; decide
  · obtain ⟨b, off, e, hbU, ⟨cs, fz, hb⟩, hc⟩ := h4 h0
    have hb' := (hg.block b (Array.getElem?_eq_some_iff.1 hb).1 (fun e => by have := (hU b e.symm).1; omega)).trans hb
    exact ⟨b, off, e, hbU, ⟨cs, fz, hb'⟩, fun k x hx i u hu => (World.cell?_of_block (w := w) (hb'.trans hb.symm)).trans (hc k x hx i u hu)⟩
set_option maxHeartbeats 4000000 in
set_option maxRecDepth 100000 in
/-- next at no sample. -/
theorem next_none (B U cb : Nat) (rank : Int) (w : World) (h : Cur w B U cb rank []) :
    Calls Tryz.prog 119 #[.pointer (some ⟨cb, 0, none⟩)] w fun e w' => e = .returned (.tuple #[.agg #[.int .i64 0, .int .u64 0], .bool false]) ∧ Below w.heap.size w w' := by
  obtain ⟨_, A, c, h1, _⟩ := h
  have hlt := (Array.getElem?_eq_some_iff.1 h1).1
  have c0 : w.cell? ⟨cb, 0, none⟩ = some (.slice A 0 c) := by rw [cell_of_row w cb 0 _ _ _ h1]; rfl
  clear h1
  go_enter Tryz.func119, Tryz.ntmps119
  go_wp2
  exact bodyPost_ret (v := .tuple #[.agg #[.int .i64 0, .int .u64 0], .bool false]) (by simp [results, Tryz.results119, go_sem]) rfl ⟨rfl, (Below.refl _ _).alloc (Nat.le_refl _) _⟩
theorem cur_step {w : World} {B U cb n c' : Nat} {rank : Int} {x : Int × Int} {r : List (Int × Int)} {v : Value} {A' : Option Addr} (hB : B ≤ cb) (h1 : w.heap[cb]? = some (.cells #[v, .int .i64 rank] 174 (0, 0))) (hn : r.length = n) (hnc : n ≤ c') (hcm : c' ≤ maxLen)
    (hA : 0 < n → ∃ b off cs fz, A' = some ⟨b, off + 2, none⟩ ∧ b < U ∧ w.heap[b]? = some (.cells cs 94 fz) ∧ b ≠ cb ∧ ∀ (k : Nat) y, (x :: r)[k]? = some y → ∀ i u, (encS y)[i]? = some u → w.cell? ⟨b, off + k * 2 + i, none⟩ = some u) (o1 o2 : Obj) :
    Cur (((w.setCell ⟨cb, 0, none⟩ (.slice A' n c')).alloc o1).alloc o2) B U cb rank r ∧ w.grownBy (((w.setCell ⟨cb, 0, none⟩ (.slice A' n c')).alloc o1).alloc o2) (some cb) := by
  have hg : w.grownBy (((w.setCell ⟨cb, 0, none⟩ (.slice A' n c')).alloc o1).alloc o2) (some cb) := grownBy_trans (grownBy_trans (grownBy_set1 cb _) (World.grownBy_alloc _ _ _)) (World.grownBy_alloc _ _ _)
  have hlt := (Array.getElem?_eq_some_iff.1 h1).1
  have hs := heap_setCell_same w cb 0 _ _ (.slice A' n c') h1
  have hcb : (((w.setCell ⟨cb, 0, none⟩ (.slice A' n c')).alloc o1).alloc o2).heap[cb]? = some (.cells #[.slice A' n c', .int .i64 rank] 174 (0, 0)) := by
    rw [Below.heap_alloc _ _ _ (by simp [World.setCell]; omega), Below.heap_alloc _ _ _ (by simp [World.setCell]; omega), hs]
    rfl
  refine ⟨⟨hB, A', c', by rw [hn]; exact hcb, by omega, hcm, fun h0 => ?_⟩, hg⟩
  obtain ⟨b, off, cs, fz, rfl, hbU, hb, hbne, hc⟩ := hA (by omega)
  have hb' := (hg.block b (Array.getElem?_eq_some_iff.1 hb).1 (fun e => hbne (by injection e))).trans hb
  refine ⟨b, off + 2, rfl, hbU, ⟨cs, fz, hb'⟩, fun k y hy i u hu => ?_⟩
  have := hc (k + 1) y (by simpa using hy) i u hu
  rw [show off + (k + 1) * 2 + i = off + 2 + k * 2 + i by omega] at this
  exact (World.cell?_of_block (w := w) (hb'.trans hb.symm)).trans this
set_option maxHeartbeats 4000000 in
set_option maxRecDepth 100000 in
/-- next at a sample. -/
theorem next_some (B U cb : Nat) (rank : Int) (x : Int × Int) (r : List (Int × Int)) (w : World) (h : Cur w B U cb rank (x :: r)) :
    Calls Tryz.prog 119 #[.pointer (some ⟨cb, 0, none⟩)] w fun e w' => e = .returned (.tuple #[.agg #[.int .i64 x.1, .int .u64 x.2], .bool true]) ∧ Cur w' B U cb rank r ∧ w.grownBy w' (some cb) := by
  have hcur := h
  obtain ⟨hB, A, c, h1, h2, h3, h4⟩ := h
  obtain ⟨b, off, rfl, hbU, ⟨cs, fz, hb⟩, hc⟩ := h4 (by simp)
  have hlt := (Array.getElem?_eq_some_iff.1 h1).1
  have hblt := (Array.getElem?_eq_some_iff.1 hb).1
  have hbne : b ≠ cb := fun e => by
    subst e
    rw [hb] at h1
    injection h1 with h1
    injection h1 with _ h1
    revert h1; decide
  simp only [List.length_cons] at h1 h2
  obtain ⟨n, hn⟩ : ∃ n, r.length = n := ⟨_, rfl⟩
  rw [hn] at h1 h2
  unfold maxLen at h3
  have c0 : w.cell? ⟨cb, 0, none⟩ = some (.slice (some ⟨b, off, none⟩) (n + 1) c) := by rw [cell_of_row w cb 0 _ _ _ h1]; rfl
  have f0 : w.frozen? ⟨cb, 0, none⟩ = false := by simp [World.frozen?, h1]
  have x0 := hc 0 x rfl 0 _ rfl
  have x1 := hc 0 x rfl 1 _ rfl
  simp only [Nat.zero_mul, Nat.add_zero] at x0 x1
  have hn0 : (0 : Int) ≤ (n : Int) := by omega
  have hn1 : ((n : Int) + 1 == 0) = false := beq_eq_false_iff_ne.2 (by omega)
  have hn2 : (n : Int) + 1 ≤ (c : Int) := by omega
  have HC := Lib.hid (show _ ∧ _ ∧ _ ∧ _ from ⟨h1, hn, hb, hc⟩)
  clear h1 hn hb hc h4 hcur
  by_cases hc1 : c = 1
  · obtain rfl : n = 0 := by omega
    subst hc1
    have HF := Lib.hid (cur_step (U := U) (x := x) (r := r) (c' := 0) (A' := some ⟨b, off, none⟩) (n := 0) hB HC.out.1 HC.out.2.1 (by omega) (by unfold maxLen; omega) (fun _ => by omega) (.cells #[.int .i64 x.1, .int .u64 x.2] 94) (.cells #[.int .i64 x.1, .int .u64 x.2] 94))
    go_enter Tryz.func119, Tryz.ntmps119
    go_wp2
    exact bodyPost_ret (v := .tuple #[.agg #[.int .i64 x.1, .int .u64 x.2], .bool true]) (by simp [results, Tryz.results119, go_sem]) rfl ⟨rfl, HF.out⟩
  · have hc1' : ((1 : Int) == (c : Int)) = false := beq_eq_false_iff_ne.2 (by omega)
    have HF := Lib.hid (cur_step (U := U) (x := x) (r := r) (c' := c - 1) (A' := some ⟨b, off + 2, none⟩) (n := n) hB HC.out.1 HC.out.2.1 (by omega) (by unfold maxLen; omega) (fun _ => ⟨b, off, cs, fz, rfl, hbU, HC.out.2.2.1, hbne, HC.out.2.2.2⟩) (.cells #[.int .i64 x.1, .int .u64 x.2] 94) (.cells #[.int .i64 x.1, .int .u64 x.2] 94))
    go_enter Tryz.func119, Tryz.ntmps119
    go_wp2
    exact bodyPost_ret (v := .tuple #[.agg #[.int .i64 x.1, .int .u64 x.2], .bool true]) (by simp [results, Tryz.results119, go_sem]) rfl ⟨rfl, HF.out⟩
end Go.Proofs.YtglafbfbgjihbaaGreat
