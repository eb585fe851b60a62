/- Patterns' reader: a row of pieces. -/
import Derived.Test.YtdpakjkldkddcaaRgPie
import Derived.Deep.AppendLies
namespace Go.Proofs.Ytdpakjkldkddcaa
open Go.RowKit Go.Lib
open RX (PS Tr Pr)

theorem Try.infoTree : (Try.prog.info? 43).map (fun i => (i.zero, i.size, i.bytes)) = some (some .nilIface, 1, 16) := by kernel_rfl
theorem TreesV.wide {w : World} {T T' : Nat → Prop} {t : List Tr} {v : List Value} (h : TreesV w T t v) (hT : ∀ b, T b → T' b) : TreesV w T' t v := TreesV.move (w := w) (w' := w) hT (fun _ _ _ => rfl) t v h
/-- A list of trees under way: where the reader stands, the variable that holds the list. -/
structure RowSt (w W : World) (bk : Nat) (s : ByteArray) (st : PS) (ty : TypeId) (br : Nat) (ts : List Tr) (a : Value) (vs : List Value) : Prop where
  psr : Psr W bk s st
  box : W.heap[br]? = some (.cells #[a] ty (0, 0))
  row : W.ownsRow w.heap.size 43 1 a vs.length vs
  ne : a.ownBlock ≠ some br
  trees : TreesV W (fun b => w.heap.size ≤ b ∧ b ≠ br ∧ a.ownBlock ≠ some b ∧ b < W.heap.size) ts vs
  brlo : w.heap.size ≤ br
  bl : bk < w.heap.size
  grown : GrownIn (fun b => b = bk) w W
section
variable {w W W' Wa W6 : World} {bk br : Nat} {s : ByteArray} {st st' : PS} {ty : TypeId} {ts : List Tr} {a a' : Value} {vs : List Value}
theorem RowSt.c0 (h : RowSt w W bk s st ty br ts a vs) : W.cell? ⟨br, 0, none⟩ = some a := by rw [cell_of_row W br 0 _ _ (0, 0) h.box]; rfl
theorem RowSt.fr (h : RowSt w W bk s st ty br ts a vs) : W.frozen? ⟨br, 0, none⟩ = false := by
  unfold World.frozen?
  rw [h.box]
  rfl
theorem RowSt.lt (h : RowSt w W bk s st ty br ts a vs) : br < W.heap.size := (Array.getElem?_eq_some_iff.1 h.box).1
/-- The reader went on; new memory. -/
theorem RowSt.call (h : RowSt w W bk s st ty br ts a vs) (hp : Psr W' bk s st') (hg : GrownIn (fun b => b = bk) W W') : RowSt w W' bk s st' ty br ts a vs :=
  ⟨hp, (hg.block br h.lt (by have := h.brlo; have := h.bl; omega)).trans h.box, hg.owns h.row (fun b hb e => by have := (h.row.lt b hb).1; have := h.bl; omega), h.ne,
    TreesV.move (fun b hb => ⟨hb.1, hb.2.1, hb.2.2.1, by have := hg.size; omega⟩) (fun b hb hlt => hg.block b hlt (by have := h.bl; omega)) ts vs h.trees, h.brlo, h.bl, h.grown.trans hg (fun _ _ e => e)⟩
theorem RowSt.drewN (h : RowSt w W bk s st ty br ts a vs) (n : Nat) : RowSt w (W.drewN n) bk s st ty br ts a vs := h.call (h.psr.drewN n) ((GrownIn.refl _ _).drewN n)
/-- One more. -/
theorem RowSt.snoc (h : RowSt w W bk s st ty br ts a vs) {t : Tr} {v : Value} (ht : TreeV W' (fun b => W.heap.size ≤ b ∧ b < W'.heap.size) t v) (hp : Psr W' bk s st') (hg : GrownIn (fun b => b = bk) W W') (ha : Below W'.heap.size W' Wa) {g c : Nat}
    (hr : W6.ownsRow w.heap.size 43 1 (.slice (some ⟨g, 0, none⟩) (vs.length + 1) c) (vs.length + 1) (vs ++ [v])) (hgr : Wa.grownBy W6 a.ownBlock) (hgg : a.ownBlock = some g ∨ g = Wa.heap.size) :
    RowSt w (W6.setCell ⟨br, 0, none⟩ (.slice (some ⟨g, 0, none⟩) (vs.length + 1) c)) bk s st' ty br (ts ++ [t]) (.slice (some ⟨g, 0, none⟩) (vs.length + 1) c) (vs ++ [v]) := by
  have hS := GrownIn.of_grownBy hgr
  have s1 := hg.size
  have s2 := ha.size
  have s3 := hS.size
  have hlt := h.lt
  have hbl := h.bl
  have hbr := h.brlo
  have hgs := h.grown.size
  have hab : ∀ b, a.ownBlock = some b → w.heap.size ≤ b ∧ b < W.heap.size := fun b hb => h.row.lt b hb
  have hne2 : g ≠ br := by
    rcases hgg with e | e
    · intro e2; exact h.ne (by rw [e, e2])
    · omega
  have keep : ∀ b, b < W'.heap.size → a.ownBlock ≠ some b → b ≠ br → (W6.setCell ⟨br, 0, none⟩ (.slice (some ⟨g, 0, none⟩) (vs.length + 1) c)).heap[b]? = W'.heap[b]? := fun b hb h1 h2 =>
    (heap_setCell_other _ _ _ _ h2).trans ((hS.block b (by omega) (fun e => h1 e)).trans (ha.block b hb))
  have hw7 : (W6.setCell ⟨br, 0, none⟩ (.slice (some ⟨g, 0, none⟩) (vs.length + 1) c)).heap.size = W6.heap.size := by simp
  have hbox6 : W6.heap[br]? = some (.cells #[a] ty (0, 0)) :=
    (hS.block br (by omega) (fun e => h.ne e)).trans ((ha.block br (by omega)).trans ((hg.block br hlt (by omega)).trans h.box))
  have hown : (Value.slice (some ⟨g, 0, none⟩) (vs.length + 1) c).ownBlock = some g := rfl
  refine ⟨?_, ?_, ?_, ?_, ?_, hbr, hbl, ?_⟩
  · exact (keep bk (by omega) (fun e => by have := hab _ e; omega) (by omega)).trans hp
  · exact heap_setCell_same W6 br 0 _ _ _ hbox6
  · rw [List.length_append, List.length_singleton]
    exact owns_move hr (fun b hb _ => heap_setCell_other _ _ _ _ (by rw [hown] at hb; injection hb with hb; show b ≠ br; omega))
  · rw [hown]; exact fun e => hne2 (Option.some.inj e)
  · refine TreesV.snoc (TreesV.move (fun b hb => ⟨hb.1, hb.2.1, ?_, by omega⟩) (fun b hb hlt2 => (keep b (by omega) hb.2.2.1 hb.2.1).trans (hg.block b hlt2 (by omega))) ts vs h.trees) (TreeV.move (fun b hb => ⟨by omega, by omega, ?_, by omega⟩) (fun b hb hlt2 => keep b hlt2 (fun e => by have := hab _ e; omega) (by omega)) t v ht)
    · rw [hown]
      intro e
      have e2 : g = b := Option.some.inj e
      rcases hgg with e1 | e1
      · exact hb.2.2.1 (by rw [e1, e2])
      · omega
    · rw [hown]
      intro e
      have e2 : g = b := Option.some.inj e
      rcases hgg with e1 | e1
      · have := hab _ e1; omega
      · omega
  · refine (h.grown.trans hg (fun _ _ e => e)).trans (T := fun b => b = br ∨ a.ownBlock = some b ∨ W'.heap.size ≤ b) ⟨?_, ?_, ?_, ?_, ?_⟩ (fun k hk e => ?_)
    · exact (hS.os.trans ha.os)
    · exact (hS.tape.trans ha.tape)
    · exact (hS.output.trans ha.output)
    · omega
    · intro k hk hn
      exact keep k hk (fun e => hn (.inr (.inl e))) (fun e => hn (.inl e))
    · rcases e with e | e | e
      · omega
      · have := hab _ e; omega
      · omega
theorem RowSt.tree (h : RowSt w W bk s st ty br ts a vs) (hn : vs.length ≤ 1000) : TreeV W (fun b => w.heap.size ≤ b ∧ b < W.heap.size) (.row ts) (.iface 73 (.agg #[a])) := by
  rw [TreeV]
  exact ⟨a, vs, rfl, owns_base h.row (Nat.zero_le _), fun b hb => h.row.lt b hb, hn, h.trees.wide fun b hb => ⟨hb.1, hb.2.2.2⟩⟩
end
end Go.Proofs.Ytdpakjkldkddcaa
