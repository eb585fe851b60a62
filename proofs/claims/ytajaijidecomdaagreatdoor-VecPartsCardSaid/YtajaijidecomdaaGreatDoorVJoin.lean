/- vec.join: the walk. -/
import Derived.Test.YtajaijidecomdaaGreatDoorG35
import Derived.BigQuiet
namespace Go.Proofs.YtajaijidecomdaaGreatDoor
open Go.RowKit Go.Lib
open Go.Maps (Keyed)

section
variable {kf : List Lb → ByteArray} {card : Int} {nf : UInt64 → UInt64 → UInt64 × Bool} {resF : List Lb → List Lb → List Lb} {w w2 wr : World} {b1 r n1 cnt : Nat} {D1 : DataW Value} {left : Lit → Bool} {one many : List Ev} {vis : List ByteArray} {v : Value} {os : List Ev}
/-- While the keys are ranged over; w2 is the world behind the two maps. -/
structure JSt (kf : List Lb → ByteArray) (card : Int) (nf : UInt64 → UInt64 → UInt64 × Bool) (resF : List Lb → List Lb → List Lb) (w w2 wr : World) (b1 r n1 : Nat) (D1 : DataW Value) (one many : List Ev) (left : Lit → Bool) (cnt : Nat) (vis : List ByteArray) (v : Value) (os : List Ev) : Prop where
  rng : wr.ranges Tryz.prog 9 RV b1 r n1 D1 left cnt
  row : wr.ownsRow w2.heap.size 90 2 v os.length (os.flatMap encEv)
  src : ∀ o ∈ os, Src w wr o
  el : os.map Ev.el = vis.flatMap (outK kf card nf resF (one.map Ev.el) (many.map Ev.el))
  nd : vis.Nodup
  good : ∀ s ∈ vis, (∃ z ∈ one, kf z.l = s) ∧ (grp kf s one).length ≤ 1 ∧ (card = 0 → (grp kf s many).length ≤ 1)
  all : ∀ z ∈ one, left (tLit (kf z.l)) = true ∨ kf z.l ∈ vis
  fresh : ∀ kl, left kl = true → ∃ z ∈ one, kl = tLit (kf z.l) ∧ kf z.l ∉ vis
  old : Below w2.heap.size w2 wr
  few : os.length ≤ (vis.flatMap fun s => grp kf s many).length
theorem iter_off {k e : TypeId} {R : Value → Option (DataW Value × List MemPlace)} {s m B : Nat} {D : DataW Value} {xs : List Value} (h : wr.ranges Tryz.prog k R b1 r n1 D left cnt) (hr : wr.ownsRow B e s v m xs) : some r ≠ v.ownBlock := fun e' => by
  obtain ⟨es, clock, since, seen, c0, _, _, _, _, hb, _⟩ := h
  obtain ⟨cs, fz, h1⟩ := owns_typed hr e'.symm
  rw [hb] at h1
  injection h1 with h1
  cases h1
theorem ranges_below {w' : World} {D : DataW Value} (h : wr.ranges Tryz.prog 9 RV b1 r n1 D left cnt) (hb : Below wr.heap.size wr w') : w'.ranges Tryz.prog 9 RV b1 r n1 D left cnt :=
  h.kept (row := none) ⟨hb.os, hb.tape, hb.output, hb.size, fun j hj _ => hb.block j hj⟩ (by simp) (by simp)
/-- A key has come. -/
theorem JSt.took {w3 : World} {s : ByteArray} (h : JSt kf card nf resF w w2 wr b1 r n1 D1 one many left cnt vis v os) (hk : left (tLit s) = true) (hg : wr.grownBy w3 (some r)) (hr0 : w2.heap.size ≤ r) :
    (∃ z ∈ one, kf z.l = s) ∧ s ∉ vis ∧ w3.ownsRow w2.heap.size 90 2 v os.length (os.flatMap encEv) ∧ (∀ o ∈ os, Src w w3 o) ∧ Below w2.heap.size w2 w3 := by
  obtain ⟨z, hz, e, hv⟩ := h.fresh _ hk
  have e := tLit_inj e
  rw [← e] at hv
  have hoff : ∀ {e : TypeId} {B q m : Nat} {u : Value} {xs : List Value}, wr.ownsRow B e q u m xs → w3.ownsRow B e q u m xs := fun ho => ho.kept hg (by
    cases hv : Value.ownBlock _ with
    | none => exact .inl rfl
    | some b => exact .inr fun e => iter_off h.rng ho (hv.trans e).symm)
  exact ⟨⟨z, hz, e.symm⟩, hv, hoff h.row, fun o ho => (h.src o ho).imp_right fun q => ⟨hoff q.1, q.2⟩,
    ⟨hg.os.trans h.old.os, hg.tape.trans h.old.tape, hg.output.trans h.old.output, Nat.le_trans h.old.size hg.size, fun k hk => (hg.block k (Nat.lt_of_lt_of_le hk h.old.size) (fun e => by injection e with e; omega)).trans (h.old.block k hk)⟩⟩
/-- The key is done. -/
theorem JSt.done_ {wz : World} {s : ByteArray} {cnt' : Nat} {v' : Value} {os' : List Ev} (h : JSt kf card nf resF w w2 wr b1 r n1 D1 one many left cnt vis v os) (hd : ∃ z ∈ one, kf z.l = s) (hv : s ∉ vis)
    (hrg : wz.ranges Tryz.prog 9 RV b1 r n1 D1 (fun z => left z && !z.sameKey (tLit s)) cnt') (hrow : wz.ownsRow w2.heap.size 90 2 v' os'.length (os'.flatMap encEv)) (hsrc : ∀ o ∈ os', Src w wz o)
    (hel : os'.map Ev.el = os.map Ev.el ++ outK kf card nf resF (one.map Ev.el) (many.map Ev.el) s) (hg1 : (grp kf s one).length ≤ 1) (hg2 : card = 0 → (grp kf s many).length ≤ 1) (hold : Below w2.heap.size w2 wz) (hfew : os'.length ≤ os.length + (grp kf s many).length) :
    JSt kf card nf resF w w2 wz b1 r n1 D1 one many (fun z => left z && !z.sameKey (tLit s)) cnt' (vis ++ [s]) v' os' := by
  refine ⟨hrg, hrow, hsrc, ?_, ?_, fun t ht => ?_, fun z hz => ?_, fun kl hk => ?_, hold, ?_⟩
  · rw [hel, h.el, List.flatMap_append, List.flatMap_singleton]
  · exact List.nodup_append.2 ⟨h.nd, by simp, fun a ha b hb e => by rw [List.mem_singleton.1 hb] at e; exact hv (e ▸ ha)⟩
  · rcases List.mem_append.1 ht with ht | ht
    · exact h.good t ht
    · rw [List.mem_singleton.1 ht]; exact ⟨hd, hg1, hg2⟩
  · by_cases hl : kf z.l = s
    · exact .inr (by simp [hl])
    · rcases h.all z hz with h1 | h1
      · exact .inl (by rw [h1, Maps.sameKey_ne (fun e => hl (tLit_inj e))]; rfl)
      · exact .inr (by simp [h1])
  · simp only [Bool.and_eq_true, Bool.not_eq_true'] at hk
    obtain ⟨z, hz, e, h1⟩ := h.fresh kl hk.1
    refine ⟨z, hz, e, fun h2 => ?_⟩
    rcases List.mem_append.1 h2 with h2 | h2
    · exact h1 h2
    · have h3 := List.mem_singleton.1 h2
      rw [e, h3, WideAt.sameKey_self (tLit_key s)] at hk
      cases hk.2
  · rw [List.flatMap_append, List.flatMap_singleton, List.length_append]
    have := h.few
    omega
/-- The range has ended. -/
theorem JSt.end_ (h : JSt kf card nf resF w w2 wr b1 r n1 D1 one many left cnt vis v os) (hl : ∀ kl, left kl = false) : joinL kf card nf resF (one.map Ev.el) (many.map Ev.el) = doneL (os.map Ev.el) := by
  refine join_keys h.nd (fun s => ⟨fun hs => ?_, ?_⟩) (fun s hs => ?_) h.el
  · obtain ⟨z, hz, e⟩ := (h.good s hs).1
    exact ⟨z.el, List.mem_map.2 ⟨z, hz, rfl⟩, e⟩
  · rintro ⟨x, hx, e⟩
    obtain ⟨z, hz, rfl⟩ := List.mem_map.1 hx
    rcases h.all z hz with h1 | h1
    · rw [hl] at h1; cases h1
    · rw [← e]; exact h1
  · rw [grpE_len, grpE_len]
    exact (h.good s hs).2
/-- Within a key: the first j of the many side have been looked at. -/
structure JIn (kf : List Lb → ByteArray) (card : Int) (nf : UInt64 → UInt64 → UInt64 × Bool) (resF : List Lb → List Lb → List Lb) (w w2 wz : World) (b1 r n1 : Nat) (D1 : DataW Value) (left : Lit → Bool) (cnt : Nat) (ms : List Ev) (z : Ev) (os : List Ev) (j : Nat) (v : Value) (os' : List Ev) : Prop where
  rng : wz.ranges Tryz.prog 9 RV b1 r n1 D1 left cnt
  row : wz.ownsRow w2.heap.size 90 2 v os'.length (os'.flatMap encEv)
  src : ∀ o ∈ os', Src w wz o
  el : os'.map Ev.el = os.map Ev.el ++ (ms.take j).filterMap fun x => pairE card nf resF x.el z.el
  old : Below w2.heap.size w2 wz
  few : os'.length ≤ os.length + j
section
variable {wz w' wa wy : World} {ms os' : List Ev} {z x o : Ev} {j : Nat} {v' : Value}
theorem JIn.skip (h : JIn kf card nf resF w w2 wz b1 r n1 D1 left cnt ms z os j v os') (hx : ms[j]? = some x) (hb : Below wz.heap.size wz w') (hp : pairE card nf resF x.el z.el = none) : JIn kf card nf resF w w2 w' b1 r n1 D1 left cnt ms z os (j + 1) v os' := by
  obtain ⟨hj, he⟩ := List.getElem?_eq_some_iff.1 hx
  refine ⟨ranges_below h.rng hb, owns_below h.row hb, fun o ho => (h.src o ho).below hb, ?_, h.old.trans (hb.mono h.old.size), by have := h.few; omega⟩
  rw [h.el, List.take_succ_eq_append_getElem hj, he, List.filterMap_append]
  simp [hp]
theorem JIn.add (h : JIn kf card nf resF w w2 wz b1 r n1 D1 left cnt ms z os j v os') (hx : ms[j]? = some x) (hba : Below wz.heap.size wz wa) (ho : Src w wa o) (hr : wy.ownsRow w2.heap.size 90 2 v' (os'.length + 1) (os'.flatMap encEv ++ encEv o)) (hg : wa.grownBy wy v.ownBlock) (hp : pairE card nf resF x.el z.el = some o.el) :
    JIn kf card nf resF w w2 wy b1 r n1 D1 left cnt ms z os (j + 1) v' (os' ++ [o]) := by
  obtain ⟨hj, he⟩ := List.getElem?_eq_some_iff.1 hx
  have hra := owns_below h.row hba
  have hrga := ranges_below h.rng hba
  refine ⟨hrga.kept hg (map_off hrga.owns hra) (iter_off hrga hra), by rw [List.length_append, List.length_singleton, List.flatMap_append, List.flatMap_singleton]; exact hr, fun q hq => ?_, ?_, (h.old.trans (hba.mono h.old.size)).grown hg (Nat.le_trans h.old.size hba.size) (fun k hk => (hra.lt k hk).1), by have := h.few; simp; omega⟩
  · rcases List.mem_append.1 hq with hq | hq
    · exact ((h.src q hq).below hba).kept hra hg
    · rw [List.mem_singleton.1 hq]; exact ho.kept hra hg
  · rw [List.map_append, h.el, List.take_succ_eq_append_getElem hj, he, List.filterMap_append, List.append_assoc]
    congr 1
    simp [hp]
end
end
end Go.Proofs.YtajaijidecomdaaGreatDoor
