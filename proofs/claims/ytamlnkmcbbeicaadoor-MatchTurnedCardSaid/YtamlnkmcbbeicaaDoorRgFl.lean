/- Patterns' machine at work: what stands while a way is followed. -/
import Derived.Test.YtamlnkmcbbeicaaDoorRgThr
import Derived.Test.YtamlnkmcbbeicaaDoorRx7
namespace Go.Proofs.YtamlnkmcbbeicaaDoor
open Go.RowKit Go.Lib
open RX (PS Tr Pr Stp Th)

theorem own_front {W : World} {base sz n k c : Nat} {e : TypeId} {A : Option Addr} {xs : List Value} (h : W.ownsRow base e sz (.slice A n c) n xs) (hk : k ≤ n) : W.ownsRow base e sz (.slice A k c) k (xs.take (k * sz)) := by
  refine ⟨by rw [List.length_take, h.1, Nat.min_eq_left (Nat.mul_le_mul_right _ hk)], ?_⟩
  rcases h.2 with ⟨e1, e2⟩ | ⟨g, cap, cur, e1, hb, hg, h1, h2, h3, h4⟩
  · injection e1 with e3 e4 e5
    exact .inl ⟨by rw [e3, e5, show k = 0 by omega], by omega⟩
  · injection e1 with e3 e4 e5
    subst e5
    refine .inr ⟨g, c, cur, by rw [e3], hb, hg, by omega, h2, h3, ?_⟩
    rw [← h4, List.take_take, Nat.min_eq_left (Nat.mul_le_mul_right _ hk)]
theorem flat_snoc (ys : List (Nat × Value)) (x : Nat × Value) : (ys ++ [x]).flatMap encT = ys.flatMap encT ++ encT x := by simp
/-- What stands while a way is followed. -/
structure Fl (B rp many : Nat) (a : Value) (prog : List Stp) (tp : Nat) (lv0 sv : Value) (w0 W : World) (lv tv : Value) (todo l : List Th) (seen : List Bool) : Prop where
  rgx : Rgx B W rp a prog many
  thr : Thr W tp lv sv l seen
  flw : Flw tp lv0 sv w0 lv W
  todo : RowT W w0.heap.size tv todo.reverse
  apart : ∀ k, tv.ownBlock = some k → lv.ownBlock ≠ some k
section
variable {B rp many tp : Nat} {a lv0 sv lv tv : Value} {prog : List Stp} {w0 W W' : World} {todo l : List Th} {seen : List Bool}
theorem Fl.keepS {S : Nat → Prop} (h : Fl B rp many a prog tp lv0 sv w0 W lv tv todo l seen) (hg : GrownIn S W W') (h1 : Off S W 3) (h2 : Off S W 4) (h3 : Off S W 111) (h4 : Off S W 57) (h5 : Off S W 63)
    (h6 : ∀ k, lv.ownBlock = some k → ¬ S k) (h7 : ∀ k, tv.ownBlock = some k → ¬ S k) (h8 : ∀ k, S k → w0.heap.size ≤ k) : Fl B rp many a prog tp lv0 sv w0 W' lv tv todo l seen :=
  ⟨h.rgx.keepS hg h4 h5, h.thr.keepS hg h1 h2 h3 h6, h.flw.more hg h8, h.todo.keepS hg h1 h7, h.apart⟩
theorem Fl.below (h : Fl B rp many a prog tp lv0 sv w0 W lv tv todo l seen) (hb : Below W.heap.size W W') : Fl B rp many a prog tp lv0 sv w0 W' lv tv todo l seen :=
  h.keepS (GrownIn.of_below hb) (off_new _ _) (off_new _ _) (off_new _ _) (off_new _ _) (off_new _ _) (fun k hk hS => by have := (h.thr.row.lt hk).2; omega) (fun k hk hS => by have := (h.todo.lt hk).2; omega) (fun k hS => Nat.le_trans h.flw.grown.size hS)
/-- The last of what is to be done is taken off. -/
theorem Fl.pop {tb k c p : Nat} {m : List Int} (h : Fl B rp many a prog tp lv0 sv w0 W lv (.slice (some ⟨tb, 0, none⟩) (k + 1) c) ((p, m) :: todo) l seen) (hk : todo.length = k) :
    ∃ mv, W.cell? ⟨tb, k * 2, none⟩ = some (.int .i64 p) ∧ W.cell? ⟨tb, k * 2 + 1, none⟩ = some mv ∧ MarkV W mv m ∧ Fl B rp many a prog tp lv0 sv w0 W lv (.slice (some ⟨tb, 0, none⟩) k c) todo l seen := by
  obtain ⟨xs, ho, hxs⟩ := h.todo
  rw [List.reverse_cons] at hxs ho
  obtain ⟨ys, mv, rfl, hys, hm⟩ := hxs.unsnoc
  have hyl : ys.length = k := by rw [hys.length, List.length_reverse, hk]
  have hl : (todo.reverse ++ [(p, m)]).length = k + 1 := by rw [List.length_append, List.length_reverse, hk]; rfl
  rw [hl] at ho
  rw [flat_snoc] at ho
  have hfl : (ys.flatMap encT).length = k * 2 := by rw [flatMap_length encT_len, hyl]
  refine ⟨mv, owns_cell ho rfl ?_, owns_cell ho rfl ?_, hm, ⟨h.rgx, h.thr, h.flw, ⟨ys, ?_, hys⟩, h.apart⟩⟩
  · rw [List.getElem?_append_right (by omega), hfl, Nat.sub_self]; rfl
  · rw [List.getElem?_append_right (by omega), hfl, Nat.add_sub_cancel_left]; rfl
  · have := own_front ho (Nat.le_succ k)
    rw [List.take_left' hfl] at this
    rw [List.length_reverse, hk]
    exact this
/-- A place is seen. -/
theorem Fl.mark {sb n c : Nat} (h : Fl B rp many a prog tp lv0 (.slice (some ⟨sb, 0, none⟩) n c) w0 W lv tv todo l seen) (p : Nat) :
    Fl B rp many a prog tp lv0 (.slice (some ⟨sb, 0, none⟩) n c) w0 (W.setCell ⟨sb, p, none⟩ (.bool true)) lv tv todo l (seen.set p true) := by
  have hs := h.thr.seen
  obtain ⟨A, c', e, _, _⟩ := owns_slice hs
  injection e with _ e2 _
  subst e2
  obtain ⟨h1, h2⟩ := hs.stored p (.bool true)
  have hg := GrownIn.of_grownBy h2
  have o : ∀ t : TypeId, (4 : TypeId) ≠ t → Off (fun k => some sb = some k) W t := fun t ht => off_own hs ht
  have h6 : ∀ k, lv.ownBlock = some k → ¬ some sb = some k := fun k hk e => by
    have h3 := h.thr.row.ty hk
    have h4 := ty_own hs e
    rw [h3] at h4
    cases h4
  refine ⟨h.rgx.keepS hg (o _ (by decide)) (o _ (by decide)), ⟨(hg.block tp h.thr.lt fun e => o 111 (by decide) tp e (ty_box h.thr.box)).trans h.thr.box, h.thr.row.keepS hg (o _ (by decide)) h6, ?_⟩, ?_, h.todo.keepS hg (o _ (by decide)) fun k hk e => ?_, h.apart⟩
  · rw [List.length_set, List.map_set]; exact h1
  · exact ⟨h.flw.grown.trans hg fun k _ e => .inr (.inr e), h.flw.own⟩
  · have h3 := h.todo.ty hk
    have h4 := ty_own hs e
    rw [h3] at h4
    cases h4
/-- A way more to be gone. -/
theorem Fl.push {g c p n : Nat} {m : List Int} {mv : Value} {xs : List (Nat × Value)} (h : Fl B rp many a prog tp lv0 sv w0 W lv tv todo l seen) (hxs : ThsV W xs todo.reverse) (hm : MarkV W mv m) (hn : n = todo.length) (ho : W.ownsRow w0.heap.size 114 2 tv n (xs.flatMap encT))
    (hg : W.grownBy W' tv.ownBlock) (hl : tv.ownBlock = some g ∨ g = W.heap.size) (hown : W'.ownsRow w0.heap.size 114 2 (.slice (some ⟨g, 0, none⟩) (n + 1) c) (n + 1) (xs.flatMap encT ++ [.int .i64 p, mv])) :
    Fl B rp many a prog tp lv0 sv w0 W' lv (.slice (some ⟨g, 0, none⟩) (n + 1) c) ((p, m) :: todo) l seen := by
  have hg' := GrownIn.of_grownBy hg
  have o : ∀ t : TypeId, (114 : TypeId) ≠ t → Off (fun k => tv.ownBlock = some k) W t := fun t ht => off_own ho ht
  refine ⟨h.rgx.keepS hg' (o _ (by decide)) (o _ (by decide)), h.thr.keepS hg' (o _ (by decide)) (o _ (by decide)) (o _ (by decide)) (fun k hk e => h.apart k e hk), h.flw.more hg' fun k e => (ho.lt k e).1, ⟨xs ++ [(p, mv)], ?_, ?_⟩, fun k hk e => ?_⟩
  · rw [flat_snoc, List.reverse_cons, List.length_append, List.length_reverse, ← hn]
    exact hown
  · rw [List.reverse_cons]
    exact (hxs.keepS hg' (o _ (by decide))).snoc (hm.keepS hg' (o _ (by decide)))
  · obtain rfl : g = k := by simpa [Value.ownBlock] using hk
    rcases hl with hl | hl
    · exact h.apart g hl e
    · have := (h.thr.row.lt e).2; omega
/-- A thread more. -/
theorem Fl.list {g c p n : Nat} {m : List Int} {mv : Value} {xs : List (Nat × Value)} (h : Fl B rp many a prog tp lv0 sv w0 W lv tv todo l seen) (hxs : ThsV W xs l) (hm : MarkV W mv m) (hn : n = l.length) (ho : W.ownsRow 0 114 2 lv n (xs.flatMap encT))
    (hg : W.grownBy W' lv.ownBlock) (hl : lv.ownBlock = some g ∨ g = W.heap.size) (hown : W'.ownsRow 0 114 2 (.slice (some ⟨g, 0, none⟩) (n + 1) c) (n + 1) (xs.flatMap encT ++ [.int .i64 p, mv])) :
    Fl B rp many a prog tp lv0 sv w0 (W'.setCell ⟨tp, 0, none⟩ (.slice (some ⟨g, 0, none⟩) (n + 1) c)) (.slice (some ⟨g, 0, none⟩) (n + 1) c) tv todo (l ++ [(p, m)]) seen := by
  have hg' := GrownIn.of_grownBy hg
  have o : ∀ t : TypeId, (114 : TypeId) ≠ t → Off (fun k => lv.ownBlock = some k) W t := fun t ht => off_own ho ht
  have hbx : W'.heap[tp]? = some (.cells #[lv, sv] 111 (0, 0)) := (hg'.block tp h.thr.lt fun e => o 111 (by decide) tp e (ty_box h.thr.box)).trans h.thr.box
  have hg2 := GrownIn.of_grownBy (grownBy_set1 (w := W') tp (.slice (some ⟨g, 0, none⟩) (n + 1) c))
  have o2 : ∀ t : TypeId, (111 : TypeId) ≠ t → Off (fun k => some tp = some k) W' t := fun t ht k e => by
    injection e with e
    subst e
    rw [ty_box hbx]
    exact fun e => ht (by injection e)
  have htl : ∀ k, tv.ownBlock = some k → ¬ lv.ownBlock = some k := h.apart
  have hR1 := h.rgx.keepS hg' (o _ (by decide)) (o _ (by decide))
  have hT1 := h.todo.keepS hg' (o _ (by decide)) htl
  have hs1 := own_keepS h.thr.seen hg' (o _ (by decide))
  have hx1 := (hxs.keepS hg' (o _ (by decide))).snoc (p := p) (hm.keepS hg' (o _ (by decide)))
  have ho2 : (W'.setCell ⟨tp, 0, none⟩ (.slice (some ⟨g, 0, none⟩) (n + 1) c)).ownsRow 0 114 2 (.slice (some ⟨g, 0, none⟩) (n + 1) c) (n + 1) (xs.flatMap encT ++ [.int .i64 p, mv]) := own_keepS hown hg2 (o2 _ (by decide))
  refine ⟨hR1.keepS hg2 (o2 _ (by decide)) (o2 _ (by decide)), ⟨heap_setCell_same W' tp 0 _ _ _ hbx, ⟨xs ++ [(p, mv)], ?_, hx1.keepS hg2 (o2 _ (by decide))⟩, own_keepS hs1 hg2 (o2 _ (by decide))⟩, ?_, hT1.keepS hg2 (o2 _ (by decide)) fun k hk e => ?_, fun k hk e => ?_⟩
  · rw [flat_snoc, List.length_append, ← hn]
    exact ho2
  · refine h.flw.trans ⟨?_, fun k hk => ?_⟩
    · exact (hg'.mono (T := fun k => k = tp ∨ lv.ownBlock = some k ∨ sv.ownBlock = some k) fun k _ e => .inr (.inl e)).trans hg2 fun k _ e => .inl (by injection e with e; exact e.symm)
    · obtain rfl : g = k := by simpa [Value.ownBlock] using hk
      rcases hl with hl | hl
      · exact .inl hl
      · exact .inr (by omega)
  · have h3 := hT1.ty hk
    injection e with e
    subst e
    rw [ty_box hbx] at h3
    cases h3
  · obtain rfl : g = k := by simpa [Value.ownBlock] using e
    rcases hl with hl | hl
    · exact h.apart g hk hl
    · have := (h.todo.lt hk).2; omega
end
theorem bang_of {α : Type} [Inhabited α] {l : List α} {p : Nat} {x : α} (h : l[p]? = some x) : l[p]! = x := by
  obtain ⟨h1, h2⟩ := List.getElem?_eq_some_iff.1 h
  rw [getElem!_pos l p h1, h2]
/-- The plain part of it. -/
structure FlP (prog : List Stp) (i fin M : Nat) (R : List Bool × List Th) (f : Nat) (todo l : List Th) (seen : List Bool) : Prop where
  law : RX.follow prog i fin f todo seen l = R
  fuel : 2 * seen.count false + todo.length ≤ f
  inb : ∀ t ∈ todo, t.1 < prog.length ∧ t.2.length = M
  inl : ∀ t ∈ l, t.1 < prog.length ∧ t.2.length = M
  len : seen.length = prog.length
  cnt : l.length + seen.count false ≤ prog.length
section
variable {prog : List Stp} {i fin M f p : Nat} {R : List Bool × List Th} {todo l : List Th} {seen : List Bool} {m : List Int} {x : Stp}
theorem FlP.fits (h : FlP prog i fin M R f todo l seen) : todo.length ≤ f ∧ l.length ≤ prog.length := ⟨by have := h.fuel; omega, by have := h.cnt; omega⟩
theorem FlP.some_ (h : FlP prog i fin M R f ((p, m) :: todo) l seen) : (∃ g, f = g + 1) ∧ p < prog.length ∧ m.length = M := by
  have h1 := h.fuel
  have h2 := h.inb (p, m) List.mem_cons_self
  simp only [List.length_cons] at h1
  exact ⟨⟨f - 1, by omega⟩, h2.1, h2.2⟩
theorem FlP.skip (h : FlP prog i fin M R (f + 1) ((p, m) :: todo) l seen) (hs : seen[p]? = some true) : FlP prog i fin M R f todo l seen := by
  have h1 := h.law
  have h2 := h.fuel
  rw [RX.follow, if_pos (by rw [bang_of hs])] at h1
  simp only [List.length_cons] at h2
  exact ⟨h1, by omega, fun t ht => h.inb t (List.mem_cons_of_mem _ ht), h.inl, h.len, h.cnt⟩
theorem FlP.take {todo' l' : List Th} (h : FlP prog i fin M R (f + 1) ((p, m) :: todo) l seen) (hs : seen[p]? = some false) (hl : RX.follow prog i fin (f + 1) ((p, m) :: todo) seen l = RX.follow prog i fin f todo' (seen.set p true) l')
    (hn : todo'.length ≤ todo.length + 2) (hi : ∀ t ∈ todo', t ∈ todo ∨ (t.1 < prog.length ∧ t.2.length = M)) (hk : l' = l ∨ l' = l ++ [(p, m)]) : FlP prog i fin M R f todo' l' (seen.set p true) := by
  have h1 := h.law
  have h2 := h.fuel
  have h3 := h.cnt
  have h4 := RX.count_set hs
  simp only [List.length_cons] at h2
  refine ⟨hl ▸ h1, by omega, fun t ht => ?_, fun t ht => ?_, by rw [List.length_set]; exact h.len, ?_⟩
  · rcases hi t ht with h5 | h5
    · exact h.inb t (List.mem_cons_of_mem _ h5)
    · exact h5
  · rcases hk with rfl | rfl
    · exact h.inl t ht
    · rcases List.mem_append.1 ht with h5 | h5
      · exact h.inl t h5
      · rw [List.mem_singleton.1 h5]
        exact h.inb _ List.mem_cons_self
  · rcases hk with rfl | rfl
    · omega
    · rw [List.length_append, List.length_singleton]; omega
theorem follow_take (hs : seen[p]? = some false) (hx : prog[p]? = some x) : RX.follow prog i fin (f + 1) ((p, m) :: todo) seen l =
    if x.op = 1 then (if i = 0 then RX.follow prog i fin f ((p + 1, m) :: todo) (seen.set p true) l else RX.follow prog i fin f todo (seen.set p true) l)
      else if x.op = 2 then (if i = fin then RX.follow prog i fin f ((p + 1, m) :: todo) (seen.set p true) l else RX.follow prog i fin f todo (seen.set p true) l)
      else if x.op = 3 then RX.follow prog i fin f ((p + 1, m.set x.mark i) :: todo) (seen.set p true) l
      else if x.op = 5 then RX.follow prog i fin f ((x.first, m) :: (x.other, m) :: todo) (seen.set p true) l
      else if x.op = 4 then RX.follow prog i fin f ((x.first, m) :: todo) (seen.set p true) l
      else RX.follow prog i fin f todo (seen.set p true) (l ++ [(p, m)]) := by
  rw [RX.follow, if_neg (by rw [bang_of hs]; simp), bang_of hx]
variable (hs : seen[p]? = some false) (hx : prog[p]? = some x) (h : FlP prog i fin M R (f + 1) ((p, m) :: todo) l seen)
include hs hx h
theorem FlP.on (hw : RX.Within prog) (ho : (x.op = 1 ∧ i = 0) ∨ (x.op = 2 ∧ i = fin)) : FlP prog i fin M R f ((p + 1, m) :: todo) l (seen.set p true) := by
  have hp := (hw.2 p x hx).2.1
  refine h.take hs ?_ (by simp) (fun t ht => ?_) (.inl rfl)
  · rw [follow_take hs hx]
    rcases ho with ⟨e, e2⟩ | ⟨e, e2⟩
    · rw [if_pos e, if_pos e2]
    · rw [if_neg (by omega), if_pos e, if_pos e2]
  · rcases List.mem_cons.1 ht with rfl | ht
    · exact .inr ⟨hp (by omega), h.some_.2.2⟩
    · exact .inl ht
theorem FlP.off (ho : (x.op = 1 ∧ i ≠ 0) ∨ (x.op = 2 ∧ i ≠ fin)) : FlP prog i fin M R f todo l (seen.set p true) := by
  refine h.take hs ?_ (by omega) (fun t ht => .inl ht) (.inl rfl)
  rw [follow_take hs hx]
  rcases ho with ⟨e, e2⟩ | ⟨e, e2⟩
  · rw [if_pos e, if_neg e2]
  · rw [if_neg (by omega), if_pos e, if_neg e2]
theorem FlP.marked (hw : RX.Within prog) (e : x.op = 3) : FlP prog i fin M R f ((p + 1, m.set x.mark i) :: todo) l (seen.set p true) := by
  have hp := (hw.2 p x hx).2.1
  refine h.take hs ?_ (by simp) (fun t ht => ?_) (.inl rfl)
  · rw [follow_take hs hx, if_neg (by omega), if_neg (by omega), if_pos e]
  · rcases List.mem_cons.1 ht with rfl | ht
    · exact .inr ⟨hp (by omega), by rw [List.length_set]; exact h.some_.2.2⟩
    · exact .inl ht
theorem FlP.forked (hw : RX.Within prog) (e : x.op = 5) : FlP prog i fin M R f ((x.first, m) :: (x.other, m) :: todo) l (seen.set p true) := by
  have hp := (hw.2 p x hx).2.2
  refine h.take hs ?_ (by simp) (fun t ht => ?_) (.inl rfl)
  · rw [follow_take hs hx, if_neg (by omega), if_neg (by omega), if_neg (by omega), if_pos e]
  · rcases List.mem_cons.1 ht with rfl | ht
    · exact .inr ⟨hp.1 (.inr e), h.some_.2.2⟩
    · rcases List.mem_cons.1 ht with rfl | ht
      · exact .inr ⟨hp.2 e, h.some_.2.2⟩
      · exact .inl ht
theorem FlP.jumped (hw : RX.Within prog) (e : x.op = 4) : FlP prog i fin M R f ((x.first, m) :: todo) l (seen.set p true) := by
  have hp := (hw.2 p x hx).2.2
  refine h.take hs ?_ (by simp) (fun t ht => ?_) (.inl rfl)
  · rw [follow_take hs hx, if_neg (by omega), if_neg (by omega), if_neg (by omega), if_neg (by omega), if_pos e]
  · rcases List.mem_cons.1 ht with rfl | ht
    · exact .inr ⟨hp.1 (.inl e), h.some_.2.2⟩
    · exact .inl ht
theorem FlP.listed (e : x.op = 0 ∨ 6 ≤ x.op) : FlP prog i fin M R f todo (l ++ [(p, m)]) (seen.set p true) := by
  refine h.take hs ?_ (by omega) (fun t ht => .inl ht) (.inr rfl)
  rw [follow_take hs hx, if_neg (by omega), if_neg (by omega), if_neg (by omega), if_neg (by omega), if_neg (by omega)]
end
theorem FlP.end_ {prog : List Stp} {i fin M f : Nat} {R : List Bool × List Th} {l : List Th} {seen : List Bool} (h : FlP prog i fin M R f [] l seen) : R = (seen, l) := by
  have h1 := h.law
  cases f with
  | zero => rw [RX.follow] at h1; exact h1.symm
  | succ f => rw [RX.follow] at h1; exact h1.symm
end Go.Proofs.YtamlnkmcbbeicaaDoor
