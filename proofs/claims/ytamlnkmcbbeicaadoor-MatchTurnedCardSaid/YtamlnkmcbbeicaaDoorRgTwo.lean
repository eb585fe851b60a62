/- Patterns' machine at work: two places' threads. -/
import Derived.Test.YtamlnkmcbbeicaaDoorRgFollow
import Derived.Test.YtamlnkmcbbeicaaDoorRgRep
namespace Go.Proofs.YtamlnkmcbbeicaaDoor
open Go.RowKit Go.Lib
open RX (PS Tr Pr Stp Th)

section
variable {S : Nat → Prop} {W W' : World} {tp : Nat} {lv sv : Value} {l : List Th} {seen : List Bool}
theorem Thr.keepG (h : Thr W tp lv sv l seen) (hg : GrownIn S W W') (h1 : Off S W 3) (h2 : ¬ S tp) (h3 : ∀ k, lv.ownBlock = some k → ¬ S k) (h4 : ∀ k, sv.ownBlock = some k → ¬ S k) : Thr W' tp lv sv l seen :=
  ⟨(hg.block tp h.lt h2).trans h.box, h.row.keepS hg h1 h3, hg.owns h.seen h4⟩
theorem Thr.below (h : Thr W tp lv sv l seen) (hb : Below W.heap.size W W') : Thr W' tp lv sv l seen :=
  h.keepG (GrownIn.of_below hb) (off_new _ _) (by have := h.lt; omega) (fun k hk e => by have := (h.row.lt hk).2; omega) (fun k hk e => by have := (h.seen.lt k hk).2; omega)
end
theorem made_bools (n : Nat) : madeCells #[.bool false] n = ((List.replicate n false).map Value.bool).toArray := by
  apply Array.ext_getElem?
  intro i
  by_cases hi : i < n
  · simp [madeCells, hi, Nat.mod_one]
  · simp [madeCells, hi]
theorem Thr.fresh (w : World) (n : Nat) (hn : n ≤ 100000) : Thr ((w.alloc (.cells (madeCells #[.bool false] n) 4)).alloc (.cells #[.slice none 0 0, .slice (some ⟨w.heap.size, 0, none⟩) n n] 111)) (w.heap.size + 1) (.slice none 0 0) (.slice (some ⟨w.heap.size, 0, none⟩) n n) [] (List.replicate n false) := by
  have hs : (w.alloc (.cells (madeCells #[.bool false] n) 4)).heap.size = w.heap.size + 1 := by simp
  refine ⟨by rw [← hs, heap_alloc_new], ⟨[], ⟨rfl, .inl ⟨rfl, rfl⟩⟩, by rw [ThsV]⟩, ⟨by simp, .inr ⟨w.heap.size, n, ((List.replicate n false).map Value.bool).toArray, by simp, Nat.zero_le _, ?_, by simp, by unfold maxLen; omega, by simp, by simp⟩⟩⟩
  rw [heap_alloc_old _ _ (by simp), heap_alloc_new, made_bools]
/-- Two places' threads. -/
structure Two (B rp many : Nat) (a : Value) (prog : List Stp) (w0 W : World) (tn tx : Nat) (ln lx sn sx : Value) (now next : List Th) (seenN seenX : List Bool) : Prop where
  rgx : Rgx B W rp a prog many
  now : Thr W tn ln sn now seenN
  next : Thr W tx lx sx next seenX
  below : Below w0.heap.size w0 W
  new : w0.heap.size ≤ tn ∧ w0.heap.size ≤ tx
  newR : ∀ k, (ln.ownBlock = some k ∨ lx.ownBlock = some k ∨ sn.ownBlock = some k ∨ sx.ownBlock = some k) → w0.heap.size ≤ k
  apart : tn ≠ tx
  apartL : ∀ k, ln.ownBlock = some k → lx.ownBlock ≠ some k
  apartS : ∀ k, sn.ownBlock = some k → sx.ownBlock ≠ some k
section
variable {B rp many tn tx : Nat} {a ln lx sn sx : Value} {prog : List Stp} {w0 W W' : World} {now next : List Th} {seenN seenX : List Bool}
theorem Two.turn (h : Two B rp many a prog w0 W tn tx ln lx sn sx now next seenN seenX) : Two B rp many a prog w0 W tx tn lx ln sx sn next now seenX seenN :=
  ⟨h.rgx, h.next, h.now, h.below, ⟨h.new.2, h.new.1⟩, fun k hk => h.newR k (by rcases hk with e | e | e | e; exact .inr (.inl e); exact .inl e; exact .inr (.inr (.inr e)); exact .inr (.inr (.inl e))), fun e => h.apart e.symm, fun k hk e => h.apartL k e hk, fun k hk e => h.apartS k e hk⟩
theorem Two.step (h : Two B rp many a prog w0 W tn tx ln lx sn sx now next seenN seenX) (hb : Below W.heap.size W W') : Two B rp many a prog w0 W' tn tx ln lx sn sx now next seenN seenX :=
  ⟨h.rgx.below hb, h.now.below hb, h.next.below hb, h.below.trans (hb.mono h.below.size), h.new, h.newR, h.apart, h.apartL, h.apartS⟩
/-- A way was followed into the next ones. -/
theorem Two.follow {lx' : Value} {next' : List Th} {seenX' : List Bool} (h : Two B rp many a prog w0 W tn tx ln lx sn sx now next seenN seenX) (hf : Flw tx lx sx W lx' W') (hr : Rgx B W' rp a prog many) (ht : Thr W' tx lx' sx next' seenX') :
    Two B rp many a prog w0 W' tn tx ln lx' sn sx now next' seenN seenX' := by
  have hS : ∀ k, (k = tx ∨ lx.ownBlock = some k ∨ sx.ownBlock = some k) → w0.heap.size ≤ k := fun k hk => by
    rcases hk with e | e | e
    · rw [e]; exact h.new.2
    · exact h.newR k (.inr (.inl e))
    · exact h.newR k (.inr (.inr (.inr e)))
  refine ⟨hr, h.now.keepG hf.grown ?_ ?_ ?_ ?_, ht, h.below.trans (hf.grown.below hS h.below.size), h.new, fun k hk => ?_, h.apart, fun k hk e => ?_, h.apartS⟩
  · intro k hk
    rcases hk with e | e | e
    · rw [e, ty_box h.next.box]; decide
    · rw [h.next.row.ty e]; decide
    · rw [ty_own h.next.seen e]; decide
  · rintro (e | e | e)
    · exact h.apart e
    · have h1 := ty_box h.now.box
      rw [h.next.row.ty e] at h1; cases h1
    · have h1 := ty_box h.now.box
      rw [ty_own h.next.seen e] at h1; cases h1
  · rintro k hk (e | e | e)
    · have h1 := h.now.row.ty hk
      rw [e, ty_box h.next.box] at h1; cases h1
    · exact h.apartL k hk e
    · have h1 := h.now.row.ty hk
      rw [ty_own h.next.seen e] at h1; cases h1
  · rintro k hk (e | e | e)
    · have h1 := ty_own h.now.seen hk
      rw [e, ty_box h.next.box] at h1; cases h1
    · have h1 := ty_own h.now.seen hk
      rw [h.next.row.ty e] at h1; cases h1
    · exact h.apartS k hk e
  · rcases hk with e | e | e | e
    · exact h.newR k (.inl e)
    · rcases hf.own k e with e | e
      · exact h.newR k (.inr (.inl e))
      · exact Nat.le_trans h.below.size e
    · exact h.newR k (.inr (.inr (.inl e)))
    · exact h.newR k (.inr (.inr (.inr e)))
  · rcases hf.own k e with e | e
    · exact h.apartL k hk e
    · have := (h.now.row.lt hk).2; omega
/-- The next ones emptied. -/
theorem Two.cleared {gx n c sb N cs : Nat} (h : Two B rp many a prog w0 W tn tx ln (.slice (some ⟨gx, 0, none⟩) n c) sn (.slice (some ⟨sb, 0, none⟩) N cs) now next seenN seenX) :
    Two B rp many a prog w0 ((W.setCell ⟨tx, 0, none⟩ (.slice (some ⟨gx, 0, none⟩) 0 c)).setCells sb 0 (List.replicate N (.bool false))) tn tx ln (.slice (some ⟨gx, 0, none⟩) 0 c) sn (.slice (some ⟨sb, 0, none⟩) N cs) now [] seenN (List.replicate N false) := by
  have hg1 := GrownIn.of_grownBy (grownBy_set1 (w := W) tx (.slice (some ⟨gx, 0, none⟩) 0 c))
  have o1 : ∀ t : TypeId, (111 : TypeId) ≠ t → Off (fun k => some tx = some k) W t := fun t ht k e => by
    injection e with e
    subst e
    rw [ty_box h.next.box]
    exact fun e => ht (by injection e)
  have hN : seenX.length = N := by
    obtain ⟨A, c', e, _⟩ := owns_slice h.next.seen
    cases e; rfl
  have hs1 := own_keepS h.next.seen hg1 (o1 _ (by decide))
  rw [hN] at hs1
  have hx : (seenX.map Value.bool).length = N := by rw [List.length_map, hN]
  obtain ⟨hs2, hg2'⟩ := setCells_owned (List.replicate N (.bool false)) hs1 0 (by rw [List.length_replicate, hx]; omega)
  rw [List.take_zero, List.nil_append, List.length_replicate, Nat.zero_add, List.drop_of_length_le (by rw [hx]; exact Nat.le_refl _), List.append_nil] at hs2
  have hg2 := GrownIn.of_grownBy hg2'
  have o2 : ∀ t : TypeId, (4 : TypeId) ≠ t → Off (fun k => some sb = some k) (W.setCell ⟨tx, 0, none⟩ (.slice (some ⟨gx, 0, none⟩) 0 c)) t := fun t ht => off_own hs1 ht
  have hbx : (W.setCell ⟨tx, 0, none⟩ (.slice (some ⟨gx, 0, none⟩) 0 c)).heap[tx]? = some (.cells #[.slice (some ⟨gx, 0, none⟩) 0 c, .slice (some ⟨sb, 0, none⟩) N cs] 111 (0, 0)) := heap_setCell_same W tx 0 _ _ _ h.next.box
  obtain ⟨xs, hox, _⟩ := h.next.row
  have hnl : next.length = n := by
    obtain ⟨A, c', e, _⟩ := owns_slice hox
    cases e; rfl
  rw [hnl] at hox
  have hrow : RowT W 0 (.slice (some ⟨gx, 0, none⟩) 0 c) [] := ⟨[], by have := own_front hox (Nat.zero_le _); simpa using this, by rw [ThsV]⟩
  have hgx : gx ≠ tx := fun e => by
    have h1 := ty_own (k := gx) hox rfl
    rw [e, ty_box h.next.box] at h1; cases h1
  have hgs : gx ≠ sb := fun e => by
    have h1 := ty_own (k := gx) hox rfl
    rw [e, ty_own (k := sb) h.next.seen rfl] at h1; cases h1
  have hob : ∀ k, (Value.slice (some ⟨gx, 0, none⟩) 0 c).ownBlock = some k → gx = k := fun k hk => by simpa [Value.ownBlock] using hk
  have hr1 := hrow.keepS hg1 (o1 _ (by decide)) (fun k hk e => by
    have h1 := hob k hk
    injection e with e
    omega)
  have hrow2 := hr1.keepS hg2 (o2 _ (by decide)) (fun k hk e => by
    have h1 := hob k hk
    injection e with e
    omega)
  have hnow : Thr _ tn ln sn now seenN := (h.now.keepG hg1 (o1 _ (by decide)) (fun e => h.apart (by injection e with e; exact e.symm)) (fun k hk e => by
      have h1 := h.now.row.ty hk
      injection e with e
      subst e
      rw [ty_box h.next.box] at h1; cases h1) (fun k hk e => by
      have h1 := ty_own h.now.seen hk
      injection e with e
      subst e
      rw [ty_box h.next.box] at h1; cases h1))
  have hnow2 : Thr _ tn ln sn now seenN := hnow.keepG hg2 (o2 _ (by decide)) (fun e => by
      have h1 := ty_box hnow.box
      injection e with e
      rw [← e, ty_own (k := sb) hs1 rfl] at h1; cases h1) (fun k hk e => by
      have h1 := hnow.row.ty hk
      injection e with e
      rw [← e, ty_own (k := sb) hs1 rfl] at h1; cases h1) (fun k hk e => h.apartS k hk e)
  have hsb : w0.heap.size ≤ sb := h.newR sb (.inr (.inr (.inr rfl)))
  refine ⟨(h.rgx.keepS hg1 (o1 _ (by decide)) (o1 _ (by decide))).keepS hg2 (o2 _ (by decide)) (o2 _ (by decide)), hnow2, ⟨?_, hrow2, ?_⟩, ?_, h.new, h.newR, h.apart, h.apartL, h.apartS⟩
  · exact (hg2.block tx (Array.getElem?_eq_some_iff.1 hbx).1 fun e => o2 111 (by decide) tx e (ty_box hbx)).trans hbx
  · rw [List.length_replicate, List.map_replicate]
    exact hs2
  · refine h.below.trans ((GrownIn.trans (S := fun k => w0.heap.size ≤ k) (hg1.mono fun k _ e => ?_) hg2 fun k _ e => ?_).below (fun _ e => e) h.below.size)
    · injection e with e
      rw [← e]; exact h.new.2
    · injection e with e
      rw [← e]; exact hsb
/-- What is followed out of a fresh start fits. -/
theorem FlP.begin {i fin M p : Nat} {m : List Int} {l : List Th} {seen : List Bool} (hp : p < prog.length) (hm : m.length = M) (hl : ∀ t ∈ l, t.1 < prog.length ∧ t.2.length = M) (hlen : seen.length = prog.length) (hc : l.length + seen.count false ≤ prog.length) :
    FlP prog i fin M (RX.follow prog i fin (2 * prog.length + 1) [(p, m)] seen l) (2 * prog.length + 1) [(p, m)] l seen :=
  ⟨rfl, by have := RX.count_le seen; rw [hlen] at this; simp only [List.length_singleton]; omega, fun t ht => by rw [List.mem_singleton.1 ht]; exact ⟨hp, hm⟩, hl, hlen, hc⟩
end
end Go.Proofs.YtamlnkmcbbeicaaDoor
