/- What stands while the keys are looked at. -/
import Derived.Test.YtajaijidecomdaaGreatDoorG18
import Derived.Test.YtajaijidecomdaaGreatDoorVRefK
import Derived.Test.YtajaijidecomdaaGreatDoorVParts
namespace Go.Proofs.YtajaijidecomdaaGreatDoor
open Go.RowKit Go.Lib

theorem LentEs.kept {w w' : World} {B k : Nat} {v : Value} {ys zs : List Ev} {S : Nat → Prop} (h : LentEs w B ys v k zs) (hly : ys.length = k) (hg : GrownIn S w w') (hv : ∀ b, v.ownBlock = some b → ¬ S b) (hS : ∀ z ∈ zs, ∀ b, (Value.slice z.A z.n z.c).ownBlock = some b → ¬ S b) : LentEs w' B ys v k zs :=
  ⟨hg.owns h.row hv, h.len, fun j y z h1 h2 => (h.each j y z h1 h2).kept hg (hS z (List.mem_of_getElem? h2)), h.apart⟩
structure OthSt (w wr : World) (m : Mv) (B H g n cg bk k : Nat) (xs zs os1 os2 ks : List Ev) (va vb v9 : Value) : Prop where
  kb : KB w m wr
  lent : LentEs wr B xs (.slice (some ⟨g, 0, none⟩) n cg) n zs
  lrow : wr.ownsRow B 90 2 (.slice (some ⟨g, 0, none⟩) (n + 1) cg) (n + 1) ((zs ++ [mE]).flatMap encEv)
  one : OutEv wr H va os1
  twin : OutEv wr H vb os2
  book : Bk wr bk (nils.setIfInBounds 9 v9)
  l9 : wr.ownsRow H 88 1 v9 k (ks.map valE)
  klen : ks.length = k
  keys : ∀ z ∈ ks, wr.ownsRow H 104 2 (valE z) z.n (z.l.flatMap Lb.cells)
  apart : (ks ++ (os1 ++ os2)).Pairwise fun a b => ∀ q, (valE a).ownBlock = some q → (valE b).ownBlock ≠ some q
  dis : ∀ b, va.ownBlock = some b → vb.ownBlock ≠ some b
  small : ∀ z ∈ ks, z.n ≤ 100000
theorem OthSt.step {w wr w' : World} {m : Mv} {B H g n cg bk k : Nat} {xs zs os1 os2 ks : List Ev} {va vb v9 : Value} (h : OthSt w wr m B H g n cg bk k xs zs os1 os2 ks va vb v9) (hb : Below wr.heap.size wr w') : OthSt w w' m B H g n cg bk k xs zs os1 os2 ks va vb v9 where
  kb := h.kb.step hb
  lent := h.lent.below hb
  lrow := owns_below h.lrow hb
  one := h.one.below hb
  twin := h.twin.below hb
  book := h.book.kept (GrownIn.of_below hb) (by have := h.book.lt; omega)
  l9 := owns_below h.l9 hb
  klen := h.klen
  keys := fun z hz => owns_below (h.keys z hz) hb
  apart := h.apart
  dis := h.dis
  small := h.small
theorem KB.kept {w W W' : World} {m : Mv} {S : Nat → Prop} (h : KB w m W) (hg : GrownIn S W W') (hS : ∀ b, S b → w.heap.size < b) : KB w m W' :=
  ⟨h.old.trans (hg.below (fun b hb => Nat.le_of_lt (hS b hb)) h.old.size), (hg.block _ h.lt (fun hs => by have := hS _ hs; omega)).trans h.box, Nat.lt_of_lt_of_le h.lt hg.size⟩
theorem pairwise_mid {α : Type} {R : α → α → Prop} {a b : List α} {z : α} (h : (a ++ b).Pairwise R) (h1 : ∀ y ∈ a, R y z) (h2 : ∀ y ∈ b, R z y) : ((a ++ [z]) ++ b).Pairwise R := by
  obtain ⟨p1, p2, p3⟩ := List.pairwise_append.1 h
  refine List.pairwise_append.2 ⟨List.pairwise_append.2 ⟨p1, List.pairwise_singleton _ _, fun y hy q hq => ?_⟩, p2, fun y hy q hq => ?_⟩
  · rw [List.mem_singleton.1 hq]; exact h1 y hy
  · rcases List.mem_append.1 hy with hy | hy
    · exact p3 y hy q hq
    · rw [List.mem_singleton.1 hy]; exact h2 q hq
/-- What is lent out lies below H; the rest above. -/
structure OthC (w : World) (B H g bk : Nat) (zs : List Ev) : Prop where
  wB : w.heap.size < B
  BH : B ≤ H
  gH : g < H
  zH : ∀ z ∈ zs, ∀ b, (Value.slice z.A z.n z.c).ownBlock = some b → b < H
  Hb : H ≤ bk
theorem OthSt.put {w wr w' : World} {m : Mv} {B H g n cg bk k : Nat} {xs zs os1 os2 ks : List Ev} {va vb v9 : Value} {z : Ev} {e : Ending} (hC : OthC w B H g bk zs) (hly : xs.length = n) (h : OthSt w wr m B H g n cg bk k xs zs os1 os2 ks va vb v9)
    (hz : wr.ownsRow H 104 2 (valE z) z.n (z.l.flatMap Lb.cells)) (hzn : z.n ≤ 100000) (hfr : ∀ y ∈ ks ++ (os1 ++ os2), ∀ b, (valE y).ownBlock = some b → (valE z).ownBlock ≠ some b)
    (hp : PutPost wr bk H k 9 88 (nils.setIfInBounds 9 v9) v9 (valE z) (ks.map valE) e w') : e = .returned (.tuple #[]) ∧ ∃ v9', OthSt w w' m B H g n cg bk (k + 1) xs zs os1 os2 (ks ++ [z]) va vb v9' := by
  obtain ⟨he, g9, c9, ho, hk, hg, hl⟩ := hp
  have h9 : ∀ b, v9.ownBlock = some b → H ≤ b := fun b hb => (h.l9.lt b hb).1
  have hS : ∀ b, (b = bk ∨ v9.ownBlock = some b) → H ≤ b := fun b hb => by
    rcases hb with rfl | hb
    · exact hC.Hb
    · exact h9 b hb
  have hw := hC.wB
  have hBH := hC.BH
  have row : ∀ {e : TypeId} {sz n B' : Nat} {v : Value} {xs : List Value}, wr.ownsRow B' e sz v n xs → e ≠ 76 → e ≠ 88 → w'.ownsRow B' e sz v n xs := fun ho h1 h2 => hg.owns ho fun b hb hs => by
    rcases hs with rfl | hs
    · exact owns_not_bk h.book ho h1 hb
    · exact owns_other ho h.l9 h2 hb hs
  have out : ∀ {v : Value} {os : List Ev}, OutEv wr H v os → OutEv w' H v os := fun ho => ⟨row ho.row (by decide) (by decide), fun z hz => row (ho.each z hz) (by decide) (by decide), ho.apart⟩
  refine ⟨he, .slice (some ⟨g9, 0, none⟩) (k + 1) c9, ?_⟩
  have hbk : (nils.setIfInBounds 9 v9).setIfInBounds 9 (.slice (some ⟨g9, 0, none⟩) (k + 1) c9) = nils.setIfInBounds 9 (.slice (some ⟨g9, 0, none⟩) (k + 1) c9) := by
    apply Array.ext_getElem?
    intro j
    simp only [Array.getElem?_setIfInBounds, Array.size_setIfInBounds]
    by_cases h : 9 = j
    · simp [h]
    · simp [h]
  rw [hbk] at hk
  exact {
    kb := h.kb.kept hg (fun b hb => by have := hS b hb; omega)
    lent := h.lent.kept hly hg (fun b hb hs => by have := hS b hs; have := hC.gH; simp [Value.ownBlock] at hb; omega) (fun z hz b hb hs => by have := hS b hs; have := hC.zH z hz b hb; omega)
    lrow := hg.owns h.lrow (fun b hb hs => by have := hS b hs; have := hC.gH; simp [Value.ownBlock] at hb; omega)
    one := out h.one
    twin := out h.twin
    book := hk
    l9 := by rw [List.map_append]; exact ho
    klen := by rw [List.length_append, h.klen]; rfl
    keys := fun y hy => by
      rcases List.mem_append.1 hy with hy | hy
      · exact row (h.keys y hy) (by decide) (by decide)
      · rw [List.mem_singleton.1 hy]; exact row hz (by decide) (by decide)
    apart := pairwise_mid h.apart (fun y hy q h1 => hfr y (List.mem_append_left _ hy) q h1) (fun y hy q h1 h2 => hfr y (List.mem_append_right _ hy) q h2 h1)
    dis := h.dis
    small := fun y hy => by
      rcases List.mem_append.1 hy with hy | hy
      · exact h.small y hy
      · rw [List.mem_singleton.1 hy]; exact hzn }
/-- All blocks that stand lie in the heap. -/
theorem OthSt.blk {w wr : World} {m : Mv} {B H g n cg bk k : Nat} {xs zs os1 os2 ks : List Ev} {va vb v9 : Value} (h : OthSt w wr m B H g n cg bk k xs zs os1 os2 ks va vb v9) : ∀ y ∈ ks ++ (os1 ++ os2), ∀ b, (valE y).ownBlock = some b → b < wr.heap.size := fun y hy b hb => by
  rcases List.mem_append.1 hy with hy | hy
  · exact ((h.keys y hy).lt b hb).2
  · rcases List.mem_append.1 hy with hy | hy
    · exact ((h.one.each y hy).lt b hb).2
    · exact ((h.twin.each y hy).lt b hb).2
/-- Behind the spoiling: what was lent out is gone. -/
structure OthT (w wr : World) (H bk k : Nat) (os1 os2 ks : List Ev) (va vb v9 : Value) : Prop where
  old : Below w.heap.size w wr
  one : OutEv wr H va os1
  twin : OutEv wr H vb os2
  book : Bk wr bk (nils.setIfInBounds 9 v9)
  l9 : wr.ownsRow H 88 1 v9 k (ks.map valE)
  klen : ks.length = k
  keys : ∀ z ∈ ks, wr.ownsRow H 104 2 (valE z) z.n (z.l.flatMap Lb.cells)
  apart : (ks ++ (os1 ++ os2)).Pairwise fun a b => ∀ q, (valE a).ownBlock = some q → (valE b).ownBlock ≠ some q
  dis : ∀ b, va.ownBlock = some b → vb.ownBlock ≠ some b
  small : ∀ z ∈ ks, z.n ≤ 100000
theorem OthT.step {w wr w' : World} {H bk k : Nat} {os1 os2 ks : List Ev} {va vb v9 : Value} (h : OthT w wr H bk k os1 os2 ks va vb v9) (hb : Below wr.heap.size wr w') : OthT w w' H bk k os1 os2 ks va vb v9 where
  old := h.old.trans (hb.mono h.old.size)
  one := h.one.below hb
  twin := h.twin.below hb
  book := h.book.kept (GrownIn.of_below hb) (by have := h.book.lt; omega)
  l9 := owns_below h.l9 hb
  klen := h.klen
  keys := fun z hz => owns_below (h.keys z hz) hb
  apart := h.apart
  dis := h.dis
  small := h.small
theorem OthSt.spoil {w wr w' : World} {m : Mv} {B H g n cg bk k : Nat} {xs zs os1 os2 ks : List Ev} {va vb v9 : Value} (hC : OthC w B H g bk zs) (h : OthSt w wr m B H g n cg bk k xs zs os1 os2 ks va vb v9) (hg : GrownIn (fun b => B ≤ b ∧ b < H) wr w') : OthT w w' H bk k os1 os2 ks va vb v9 where
  old := h.kb.old.trans (hg.below (fun b hb => by have := hC.wB; have := hb.1; omega) h.kb.old.size)
  one := h.one.kept hg (fun _ hb => hb.2)
  twin := h.twin.kept hg (fun _ hb => hb.2)
  book := h.book.kept hg (fun hb => by have := hC.Hb; have := hb.2; omega)
  l9 := hg.owns h.l9 (fun b hb hs => by have := (h.l9.lt b hb).1; have := hs.2; omega)
  klen := h.klen
  keys := fun z hz => hg.owns (h.keys z hz) (fun b hb hs => by have := ((h.keys z hz).lt b hb).1; have := hs.2; omega)
  apart := h.apart
  dis := h.dis
  small := h.small
theorem numOut_neg (l : List El) : numOut negF true 0 false l = l.map fun x => (lessL x.1 [nameT], FL.negU x.2) := by
  have h : ∀ (a : List El), numOut negF true 0 false (a ++ []) = a.map fun x => (lessL x.1 [nameT], FL.negU x.2) := fun a => by
    rw [List.append_nil]
    unfold numOut negF
    induction a with
    | nil => rfl
    | cons x a ih =>
      rw [List.filterMap_cons, List.map_cons, ← ih]
      rfl
  rw [← h l, List.append_nil]
/-- All but the book's own lists. -/
structure OthR (w wr : World) (H : Nat) (os1 os2 ks : List Ev) (va vb : Value) : Prop where
  old : Below w.heap.size w wr
  one : OutEv wr H va os1
  twin : OutEv wr H vb os2
  keys : ∀ z ∈ ks, wr.ownsRow H 104 2 (valE z) z.n (z.l.flatMap Lb.cells)
theorem OthT.rest {w wr : World} {H bk k : Nat} {os1 os2 ks : List Ev} {va vb v9 : Value} (h : OthT w wr H bk k os1 os2 ks va vb v9) : OthR w wr H os1 os2 ks va vb := ⟨h.old, h.one, h.twin, h.keys⟩
theorem OthR.put {w wi wj : World} {H bk m21 m9 : Nat} {cs : Array Value} {os1 os2 ks : List Ev} {va vb v21 v9 : Value} {L21 L9 : List Value} (h : OthR w wi H os1 os2 ks va vb) (hbk : Bk wi bk cs) (h21 : wi.ownsRow H 33 1 v21 m21 L21) (h9 : wi.ownsRow H 88 1 v9 m9 L9)
    (hg : GrownIn (fun b => b = bk ∨ v21.ownBlock = some b ∨ v9.ownBlock = some b) wi wj) (hH : H ≤ bk) (hw : w.heap.size ≤ H) : OthR w wj H os1 os2 ks va vb := by
  have row : ∀ {e : TypeId} {sz n B' : Nat} {v : Value} {xs : List Value}, wi.ownsRow B' e sz v n xs → e ≠ 76 → e ≠ 33 → e ≠ 88 → wj.ownsRow B' e sz v n xs := fun ho h1 h2 h3 => hg.owns ho fun b hb hs => by
    rcases hs with rfl | hs | hs
    · exact owns_not_bk hbk ho h1 hb
    · exact owns_other ho h21 h2 hb hs
    · exact owns_other ho h9 h3 hb hs
  have out : ∀ {v : Value} {os : List Ev}, OutEv wi H v os → OutEv wj H v os := fun ho => ⟨row ho.row (by decide) (by decide) (by decide), fun z hz => row (ho.each z hz) (by decide) (by decide) (by decide), ho.apart⟩
  refine ⟨h.old.trans (hg.below (fun b hb => ?_) h.old.size), out h.one, out h.twin, fun z hz => row (h.keys z hz) (by decide) (by decide) (by decide)⟩
  rcases hb with rfl | hb | hb
  · omega
  · have := (h21.lt b hb).1; omega
  · have := (h9.lt b hb).1; omega
/-- Both lists of elements in the book: all that is asked. -/
theorem OthR.last {w wk : World} {H bk k : Nat} {os1 os2 ks : List Ev} {va vb v9 v9a v9b : Value} {g21 c21 g21' c21' : Nat} (h : OthR w wk H os1 os2 ks va vb) (hw : w.heap.size ≤ H) (hk : ks.length = k)
    (hap : (ks ++ (os1 ++ os2)).Pairwise fun a b => ∀ q, (valE a).ownBlock = some q → (valE b).ownBlock ≠ some q) (hd : ∀ b, va.ownBlock = some b → vb.ownBlock ≠ some b)
    (hb : Bk wk bk (((((nils.setIfInBounds 9 v9).setIfInBounds 21 (.slice (some ⟨g21, 0, none⟩) 1 c21)).setIfInBounds 9 v9a).setIfInBounds 21 (.slice (some ⟨g21', 0, none⟩) 2 c21')).setIfInBounds 9 v9b))
    (h21 : wk.ownsRow H 33 1 (.slice (some ⟨g21', 0, none⟩) 2 c21') 2 [va, vb]) (h9 : wk.ownsRow H 88 1 v9b (k + os1.length + os2.length) (ks.map valE ++ os1.map valE ++ os2.map valE)) :
    LastE w wk bk (((((nils.setIfInBounds 9 v9).setIfInBounds 21 (.slice (some ⟨g21, 0, none⟩) 1 c21)).setIfInBounds 9 v9a).setIfInBounds 21 (.slice (some ⟨g21', 0, none⟩) 2 c21')).setIfInBounds 9 v9b) va vb ks os1 os2 g21' c21' v9b where
  book := hb
  cells := fun j hj => by
    by_cases k9 : j = 9
    · subst k9; simp [nils]
    · by_cases k21 : j = 21
      · subst k21; simp [nils]
      · rw [if_neg k21, if_neg k9]
        simp only [Array.getElem?_setIfInBounds, if_neg (fun h : 9 = j => k9 h.symm), if_neg (fun h : 21 = j => k21 h.symm)]
        exact nils_at hj
  old := h.old
  keys := fun z hz => owns_base (h.keys z hz) hw
  one := h.one.base hw
  twin := h.twin.base hw
  apart := hap
  dis := hd
  l21 := owns_base h21 hw
  l9 := by
    rw [hk, ← Nat.add_assoc, List.map_append, List.map_append, ← List.append_assoc]
    exact owns_base h9 hw
end Go.Proofs.YtajaijidecomdaaGreatDoor
