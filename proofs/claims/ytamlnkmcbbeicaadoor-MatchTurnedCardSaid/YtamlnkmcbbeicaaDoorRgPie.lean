/- Patterns' reader: a piece. -/
import Derived.Test.YtamlnkmcbbeicaaDoorRgAtom
namespace Go.Proofs.YtamlnkmcbbeicaaDoor
open Go.RowKit Go.Lib
open RX (PS Tr Pr)

/-- A count under way. -/
def RepBox (w : World) (b : Nat) (v : Value) (least : Nat) (most : Int) (plus lazy : Bool) : Prop := w.heap[b]? = some (.cells #[v, .int .i64 least, .int .i64 most, .bool plus, .bool lazy] 96 (0, 0))
section
variable {w w' : World} {b : Nat} {v : Value} {least : Nat} {most : Int} {plus lazy : Bool}
theorem RepBox.c0 (h : RepBox w b v least most plus lazy) : w.cell? ⟨b, 0, none⟩ = some v := by rw [cell_of_row w b 0 _ _ (0, 0) h]; rfl
theorem RepBox.c1 (h : RepBox w b v least most plus lazy) : w.cell? ⟨b, 1, none⟩ = some (.int .i64 least) := by rw [cell_of_row w b 1 _ _ (0, 0) h]; rfl
theorem RepBox.c2 (h : RepBox w b v least most plus lazy) : w.cell? ⟨b, 2, none⟩ = some (.int .i64 most) := by rw [cell_of_row w b 2 _ _ (0, 0) h]; rfl
theorem RepBox.c3 (h : RepBox w b v least most plus lazy) : w.cell? ⟨b, 3, none⟩ = some (.bool plus) := by rw [cell_of_row w b 3 _ _ (0, 0) h]; rfl
theorem RepBox.c4 (h : RepBox w b v least most plus lazy) : w.cell? ⟨b, 4, none⟩ = some (.bool lazy) := by rw [cell_of_row w b 4 _ _ (0, 0) h]; rfl
theorem RepBox.fr (h : RepBox w b v least most plus lazy) (i : Nat) : w.frozen? ⟨b, i, none⟩ = false := by
  unfold World.frozen?
  rw [show w.heap[b]? = _ from h]
  rfl
theorem RepBox.lt (h : RepBox w b v least most plus lazy) : b < w.heap.size := (Array.getElem?_eq_some_iff.1 h).1
end
theorem TreeV.drewN {w : World} {T : Nat → Prop} {t : Tr} {v : Value} (h : TreeV w T t v) (n : Nat) : TreeV (w.drewN n) T t v := TreeV.move (w := w) (w' := w.drewN n) (fun _ h => h) (fun _ _ _ => rfl) t v h
theorem TreeV.wide {w : World} {T T' : Nat → Prop} {t : Tr} {v : Value} (h : TreeV w T t v) (hT : ∀ b, T b → T' b) : TreeV w T' t v := TreeV.move (w := w) (w' := w) hT (fun _ _ _ => rfl) t v h
/-- The reader's cells, and a count under way. -/
structure PieSt (w W : World) (bk : Nat) (s : ByteArray) (st : PS) (b3 : Nat) (t : Tr) (v : Value) (least : Nat) (most : Int) (plus lazy : Bool) : Prop where
  psr : Psr W bk s st
  box : RepBox W b3 v least most plus lazy
  tree : TreeV W (fun b => w.heap.size ≤ b ∧ b < b3) t v
  lo : w.heap.size ≤ b3
  bl : bk < w.heap.size
  grown : GrownIn (fun b => b = bk) w W
section
variable {w W W' : World} {bk b3 : Nat} {s : ByteArray} {st st' : PS} {t : Tr} {v : Value} {least : Nat} {most : Int} {plus lazy : Bool}
theorem PieSt.drewN (h : PieSt w W bk s st b3 t v least most plus lazy) (n : Nat) : PieSt w (W.drewN n) bk s st b3 t v least most plus lazy :=
  ⟨h.psr, h.box, h.tree.drewN n, h.lo, h.bl, h.grown.drewN n⟩
theorem PieSt.call (h : PieSt w W bk s st b3 t v least most plus lazy) (hp : Psr W' bk s st') (hg : GrownIn (fun b => b = bk) W W') : PieSt w W' bk s st' b3 t v least most plus lazy :=
  ⟨hp, (hg.block b3 h.box.lt (by have := h.lo; have := h.bl; omega)).trans h.box, TreeV.move (fun _ h => h) (fun b hb hlt => hg.block b hlt (by have := h.bl; omega)) t v h.tree, h.lo, h.bl, h.grown.trans hg (fun _ _ e => e)⟩
theorem PieSt.below (h : PieSt w W bk s st b3 t v least most plus lazy) (hb : Below W.heap.size W W') : PieSt w W' bk s st b3 t v least most plus lazy :=
  ⟨h.psr.grown (GrownIn.of_below hb) (by have := h.psr.lt; omega), (hb.block b3 h.box.lt).trans h.box, h.tree.below hb, h.lo, h.bl, h.grown.trans (GrownIn.of_below hb) (fun k hk hs => by have := h.grown.size; omega)⟩
theorem PieSt.put (h : PieSt w W bk s st b3 t v least most plus lazy) {l2 : Nat} {m2 : Int} {p2 z2 : Bool} {i : Nat} {u : Value} (hb : RepBox (W.setCell ⟨b3, i, none⟩ u) b3 v l2 m2 p2 z2) : PieSt w (W.setCell ⟨b3, i, none⟩ u) bk s st b3 t v l2 m2 p2 z2 :=
  ⟨h.psr.other (by have := h.lo; have := h.bl; show bk ≠ b3; omega) _, hb, TreeV.move (fun _ h => h) (fun b hb hlt => heap_setCell_other _ _ _ _ (by show b ≠ b3; omega)) t v h.tree, h.lo, h.bl,
    h.grown.trans (T := fun b => b = b3) (grownIn_set (S := fun b => b = b3) (p := ⟨b3, i, none⟩) (GrownIn.refl _ _) rfl _) (fun k hk e => by have := h.lo; omega)⟩
theorem PieSt.setLeast (h : PieSt w W bk s st b3 t v least most plus lazy) (n : Nat) : PieSt w (W.setCell ⟨b3, 1, none⟩ (.int .i64 n)) bk s st b3 t v n most plus lazy := h.put (heap_setCell_same W b3 1 _ _ _ h.box)
theorem PieSt.setMost (h : PieSt w W bk s st b3 t v least most plus lazy) (n : Int) : PieSt w (W.setCell ⟨b3, 2, none⟩ (.int .i64 n)) bk s st b3 t v least n plus lazy := h.put (heap_setCell_same W b3 2 _ _ _ h.box)
theorem PieSt.setPlus (h : PieSt w W bk s st b3 t v least most plus lazy) (n : Bool) : PieSt w (W.setCell ⟨b3, 3, none⟩ (.bool n)) bk s st b3 t v least most n lazy := h.put (heap_setCell_same W b3 3 _ _ _ h.box)
theorem PieSt.setLazy (h : PieSt w W bk s st b3 t v least most plus lazy) (n : Bool) : PieSt w (W.setCell ⟨b3, 4, none⟩ (.bool n)) bk s st b3 t v least most plus n := h.put (heap_setCell_same W b3 4 _ _ _ h.box)
end
theorem pie_end {w W : World} {bk b3 k least : Nat} {s : ByteArray} {st st1 : PS} {t : Tr} {v : Value} {most : Option Nat} {plus lazy : Bool} {r : Pr Tr} (h : PieSt w W bk s (st1.to k) b3 t v least (mostV most) plus lazy) (hr : r = .ok (.rep t least most plus lazy) (st1.to k)) (hok : PsOk s st1) (hk : k ≤ s.size) (hle : st1.at_ ≤ k) (h1 : st.at_ + 1 ≤ st1.at_) (hd : st1.deep = st.deep)
    (hl : least ≤ 1000) (hm : ∀ m, most = some m → least ≤ m ∧ m ≤ 1000) : PrPost w bk s st 1 r (.returned (.iface 96 (.agg #[v, .int .i64 least, .int .i64 (mostV most), .bool plus, .bool lazy]))) W := by
  subst hr
  refine ⟨_, rfl, h.psr, ?_, h.grown, hok.next hk hle, hd, by show st.at_ + 1 ≤ k; omega⟩
  rw [TreeV]
  exact ⟨v, rfl, hl, hm, h.tree.wide (fun b hb => ⟨hb.1, by have := h.box.lt; omega⟩)⟩
theorem skip_not (bk : Nat) (s : ByteArray) (st : PS) (c : UInt8) (w : World) (hS : Psr w bk s st) (hbig : st.at_ ≤ 1000000) (hne : s.data.toList[st.at_]? ≠ some c) :
    Calls Tryd.prog 47 #[.pointer (some ⟨bk, 0, none⟩), .int .u8 c.toNat] w fun e w' => e = .returned (.bool false) ∧ ∃ q, w' = w.drewN q :=
  (skip_any bk s st c w hS hbig).mono fun e w' h => by
    rcases h with ⟨h1, _⟩ | ⟨_, h2, h3⟩
    · exact absurd h1 hne
    · exact ⟨h2, h3⟩
theorem must_yes (bk : Nat) (s : ByteArray) (st : PS) (c : UInt8) (w : World) (hS : Psr w bk s st) (hbig : st.at_ ≤ 1000000) (hc : s.data.toList[st.at_]? = some c) :
    Calls Tryd.prog 68 #[.pointer (some ⟨bk, 0, none⟩), .int .u8 c.toNat] w fun e w' => e = .returned (.tuple #[]) ∧ Psr w' bk s (st.to (st.at_ + 1)) ∧ GrownIn (fun b => b = bk) w w' :=
  (must_any bk s st c w hS hbig).mono fun e w' h => by
    rcases h with ⟨h1, h2, h3, _, h5⟩ | ⟨h1, _⟩
    · exact ⟨h2, h3, h5⟩
    · exact absurd hc h1
theorem must_no (bk : Nat) (s : ByteArray) (st : PS) (c : UInt8) (w : World) (hS : Psr w bk s st) (hbig : st.at_ ≤ 1000000) (hc : s.data.toList[st.at_]? ≠ some c) :
    Calls Tryd.prog 68 #[.pointer (some ⟨bk, 0, none⟩), .int .u8 c.toNat] w fun e w' => e = .panicked [{ v := badV st.at_, recovered := false }] ∧ ∃ q, w' = w.drewN q :=
  (must_any bk s st c w hS hbig).mono fun e w' h => by
    rcases h with ⟨h1, _⟩ | ⟨_, h2, h3⟩
    · exact absurd h1 hc
    · exact ⟨h2, h3⟩
theorem numGo_ge {s : List UInt8} : ∀ (f k n : Nat), k ≤ (RX.numGo s f k n).2
  | 0, k, n => Nat.le_refl _
  | f + 1, k, n => by
    rw [RX.numGo]
    split
    · split
      · exact Nat.le_trans (Nat.le_succ k) (numGo_ge f (k + 1) _)
      · exact Nat.le_refl _
    · exact Nat.le_refl _
theorem number_gt {s : List UInt8} {k n e : Nat} (h : RX.number s k = .ok n e) : k < e := by
  unfold RX.number at h
  split at h
  · cases h
  · rename_i hn
    injection h with _ h
    have := numGo_ge (s := s) 4 k 0
    omega
theorem lazy_eq (s : List UInt8) (t : Tr) (least : Nat) (most : Option Nat) (plus : Bool) (st : PS) (k : Nat) : RX.pLazy s t least most plus st k = .ok (.rep t least most plus (s[k]? == some 63)) (st.to (if (s[k]? == some 63) = true then k + 1 else k)) := by
  unfold RX.pLazy
  by_cases h : s[k]? = some 63
  · have : (s[k]? == some 63) = true := by rw [h]; rfl
    rw [if_pos h, this]; rfl
  · have : (s[k]? == some 63) = false := by rw [beq_eq_false_iff_ne]; exact h
    rw [if_neg h, this]; rfl
theorem lazy_le {s : ByteArray} {k : Nat} (hk : k ≤ s.size) : (if (s.data.toList[k]? == some 63) = true then k + 1 else k) ≤ s.size ∧ k ≤ (if (s.data.toList[k]? == some 63) = true then k + 1 else k) := by
  by_cases h : (s.data.toList[k]? == some 63) = true
  · rw [if_pos h]
    have h1 : s.data.toList[k]? = some 63 := by simpa using h
    have := (List.getElem?_eq_some_iff.1 h1).1
    rw [Array.length_toList] at this
    have h2 : k < s.size := this
    omega
  · rw [if_neg h]; omega
theorem piece_plain {A : PS → Pr Tr} {S : List UInt8} {st st1 : PS} {t : Tr} (h : RX.pAtom A S st = .ok t st1) (h1 : S[st1.at_]? ≠ some 42) (h2 : S[st1.at_]? ≠ some 43) (h3 : S[st1.at_]? ≠ some 63) (h4 : S[st1.at_]? ≠ some 123) : RX.pPiece A S st = .ok t st1 := by
  unfold RX.pPiece
  rw [h]
  simp only
  cases hc : S[st1.at_]? with
  | none => rfl
  | some c =>
    rw [hc] at h1 h2 h3 h4
    have e1 : c ≠ 42 := fun e => h1 (by rw [e])
    have e2 : c ≠ 43 := fun e => h2 (by rw [e])
    have e3 : c ≠ 63 := fun e => h3 (by rw [e])
    have e4 : c ≠ 123 := fun e => h4 (by rw [e])
    simp only
    rw [if_neg (fun e => e.1.elim e1 (fun e => e.elim e2 (fun e => e.elim e3 e4))), if_neg e1, if_neg e2, if_neg e3, if_neg e4]
theorem piece_bad {A : PS → Pr Tr} {S : List UInt8} {st st1 : PS} {t : Tr} {c : UInt8} (h : RX.pAtom A S st = .ok t st1) (hc : S[st1.at_]? = some c) (hm : c = 42 ∨ c = 43 ∨ c = 63 ∨ c = 123) (he : t.empty = true) : RX.pPiece A S st = .bad st1.at_ := by
  unfold RX.pPiece
  rw [h]
  simp only
  rw [hc]
  simp only
  rw [if_pos ⟨hm, he⟩]
theorem piece_star {A : PS → Pr Tr} {S : List UInt8} {st st1 : PS} {t : Tr} (h : RX.pAtom A S st = .ok t st1) (hc : S[st1.at_]? = some 42) (he : t.empty = false) : RX.pPiece A S st = RX.pLazy S t 0 none false st1 (st1.at_ + 1) := by
  unfold RX.pPiece
  rw [h]
  simp only
  rw [hc]
  simp only
  rw [if_neg (by rw [he]; simp), if_pos trivial]
theorem piece_plus {A : PS → Pr Tr} {S : List UInt8} {st st1 : PS} {t : Tr} (h : RX.pAtom A S st = .ok t st1) (hc : S[st1.at_]? = some 43) (he : t.empty = false) : RX.pPiece A S st = RX.pLazy S t 0 none true st1 (st1.at_ + 1) := by
  unfold RX.pPiece
  rw [h]
  simp only
  rw [hc]
  simp only
  rw [if_neg (by rw [he]; simp), if_neg (by decide), if_pos trivial]
theorem piece_maybe {A : PS → Pr Tr} {S : List UInt8} {st st1 : PS} {t : Tr} (h : RX.pAtom A S st = .ok t st1) (hc : S[st1.at_]? = some 63) (he : t.empty = false) : RX.pPiece A S st = RX.pLazy S t 0 (some 1) false st1 (st1.at_ + 1) := by
  unfold RX.pPiece
  rw [h]
  simp only
  rw [hc]
  simp only
  rw [if_neg (by rw [he]; simp), if_neg (by decide), if_neg (by decide), if_pos trivial]
theorem piece_count {A : PS → Pr Tr} {S : List UInt8} {st st1 : PS} {t : Tr} (h : RX.pAtom A S st = .ok t st1) (hc : S[st1.at_]? = some 123) (he : t.empty = false) : RX.pPiece A S st = RX.pCount S t st1 := by
  unfold RX.pPiece
  rw [h]
  simp only
  rw [hc]
  simp only
  rw [if_neg (by rw [he]; simp), if_neg (by decide), if_neg (by decide), if_neg (by decide), if_pos trivial]
set_option maxHeartbeats 8000000 in
set_option maxRecDepth 100000 in
theorem piece_any (bk : Nat) (s : ByteArray) (f : Nat) (hA : AllDoes bk s f) (hbig : s.size ≤ 500) (st : PS) (w : World) (hS : Psr w bk s st) (hok : PsOk s st) (hf : s.size + 1 ≤ f + st.at_ + 1) (c : UInt8) (hc : s.data.toList[st.at_]? = some c) :
    Calls Tryd.prog 59 #[.pointer (some ⟨bk, 0, none⟩)] w (PrPost w bk s st 1 (RX.pPiece (RX.pAll s.data.toList f) s.data.toList st)) := by
  have HA := Lib.hid (atom_any bk s f hA hbig st w hS hok hf c hc)
  have hbl := hS.lt
  clear hA hS hok hf hc
  go_enter Tryd.func59, Tryd.ntmps59
  go_wp2_with fail
  refine HA.out.mono ?_
  rintro e w1 hpost
  unfold PrPost at hpost
  cases hr : RX.pAtom (RX.pAll s.data.toList f) s.data.toList st with
  | bad a =>
    rw [hr] at hpost
    obtain ⟨rfl, hg⟩ := hpost
    have HE := Lib.hid (show _ ∧ _ from ⟨hr, hg⟩)
    clear hr hg
    go_wp2_with fail
    exact ⟨rfl, pr_bad (by unfold RX.pPiece; rw [HE.out.1]) HE.out.2⟩
  | ok t st1 =>
    rw [hr] at hpost
    obtain ⟨v, rfl, hp, ht, hg, hok1, hd, hle⟩ := hpost
    obtain ⟨ty, x, rfl⟩ := ht.iface
    have hat := hok1.at_
    have H1 := Lib.hid (show _ ∧ _ ∧ _ ∧ _ ∧ _ ∧ _ from ⟨hp, ht, hg, hok1, hd, hle⟩)
    have HE := Lib.hid hr
    clear hr hp ht hg hok1 hd hle
    go_wp2_with fail
    have H2a : PieSt w (w1.alloc (.cells #[.iface ty x, .int .i64 0, .int .i64 (-1), .bool false, .bool false] 96)) bk s st1 w1.heap.size t (.iface ty x) 0 (-1) false false :=
      ⟨H1.out.1.alloc _, heap_alloc_new _ _, (TreeV.below H1.out.2.1 ((Below.refl _ _).alloc (Nat.le_refl _) _)), H1.out.2.2.1.size, hbl, H1.out.2.2.1.alloc _⟩
    generalize w1.alloc (.cells #[.iface ty x, .int .i64 0, .int .i64 (-1), .bool false, .bool false] 96) = w2 at H2a ⊢
    obtain ⟨b3, hb3⟩ : ∃ b3, w1.heap.size = b3 := ⟨_, rfl⟩
    rw [hb3] at H2a ⊢
    have H2 := Lib.hid H2a
    clear H2a hb3
    by_cases hq : s.data.toList[st1.at_]? ≠ some 42 ∧ s.data.toList[st1.at_]? ≠ some 43 ∧ s.data.toList[st1.at_]? ≠ some 63 ∧ s.data.toList[st1.at_]? ≠ some 123
    · have HQ := Lib.hid hq
      have n42 := fun (W : World) (h : Psr W bk s st1) => skip_not bk s st1 42 W h (by omega) hq.1
      have n43 := fun (W : World) (h : Psr W bk s st1) => skip_not bk s st1 43 W h (by omega) hq.2.1
      have n63 := fun (W : World) (h : Psr W bk s st1) => skip_not bk s st1 63 W h (by omega) hq.2.2.1
      have n123 := fun (W : World) (h : Psr W bk s st1) => skip_not bk s st1 123 W h (by omega) hq.2.2.2
      have HN := Lib.hid (show _ ∧ _ ∧ _ ∧ _ from ⟨n42, n43, n63, n123⟩)
      clear hq n42 n43 n63 n123
      have z0 := H2.out.box.c0
      cases hc2 : s.data.toList[st1.at_]? with
      | none =>
        refine (peek_none bk s st1 _ H2.out.psr hc2).mono ?_
        rintro e w3 ⟨rfl, q3, rfl⟩
        clear hc2
        go_wp2_with fail
        refine (HN.out.1 _ (H2.out.psr.drewN _)).mono ?_
        rintro e w4 ⟨rfl, q4, rfl⟩
        go_wp2_with fail
        refine (HN.out.2.1 _ (H2.out.psr.drewN _)).mono ?_
        rintro e w5 ⟨rfl, q5, rfl⟩
        go_wp2_with fail
        refine (HN.out.2.2.1 _ (H2.out.psr.drewN _)).mono ?_
        rintro e w6 ⟨rfl, q6, rfl⟩
        go_wp2_with fail
        refine (HN.out.2.2.2 _ (H2.out.psr.drewN _)).mono ?_
        rintro e w7 ⟨rfl, q7, rfl⟩
        go_wp2_with fail
        go_ret
        rw [piece_plain HE.out HQ.out.1 HQ.out.2.1 HQ.out.2.2.1 HQ.out.2.2.2]
        exact ⟨_, rfl, (H2.out.drewN _).psr, (H2.out.tree.wide (fun b hb => ⟨hb.1, by have := H2.out.box.lt; show b < w2.heap.size; omega⟩)).drewN _, (H2.out.drewN _).grown, H1.out.2.2.2.1, H1.out.2.2.2.2.1, H1.out.2.2.2.2.2⟩
      | some c2 =>
        have hc3 : ¬ (c2 = 42 ∨ c2 = 43 ∨ c2 = 63 ∨ c2 = 123) := fun e => by
          have h := HQ.out
          rw [hc2] at h
          rcases e with e | e | e | e <;> subst e <;> simp at h
        obtain ⟨z, hz1, hz2⟩ := idx_in [42, 43, 63, 123] c2
        have iz : ¬ (0 : Int) ≤ z := fun h => hc3 (by simpa using hz2.1 h)
        have HZ := Lib.hid hz1
        refine (peek_some bk s st1 c2 _ H2.out.psr hc2).mono ?_
        rintro e w3 ⟨rfl, q3, rfl⟩
        clear hc2 hc3 hz1 hz2
        go_wp2_with fail
        refine (HZ.out _).mono ?_
        rintro e wz ⟨rfl, rfl⟩
        go_wp2_with fail
        refine (HN.out.1 _ (H2.out.psr.drewN _)).mono ?_
        rintro e w4 ⟨rfl, q4, rfl⟩
        go_wp2_with fail
        refine (HN.out.2.1 _ (H2.out.psr.drewN _)).mono ?_
        rintro e w5 ⟨rfl, q5, rfl⟩
        go_wp2_with fail
        refine (HN.out.2.2.1 _ (H2.out.psr.drewN _)).mono ?_
        rintro e w6 ⟨rfl, q6, rfl⟩
        go_wp2_with fail
        refine (HN.out.2.2.2 _ (H2.out.psr.drewN _)).mono ?_
        rintro e w7 ⟨rfl, q7, rfl⟩
        go_wp2_with fail
        go_ret
        rw [piece_plain HE.out HQ.out.1 HQ.out.2.1 HQ.out.2.2.1 HQ.out.2.2.2]
        exact ⟨_, rfl, (H2.out.drewN _).psr, (H2.out.tree.wide (fun b hb => ⟨hb.1, by have := H2.out.box.lt; show b < w2.heap.size; omega⟩)).drewN _, (H2.out.drewN _).grown, H1.out.2.2.2.1, H1.out.2.2.2.2.1, H1.out.2.2.2.2.2⟩
    · have hc2 : ∃ c2 : UInt8, s.data.toList[st1.at_]? = some c2 ∧ (c2 = 42 ∨ c2 = 43 ∨ c2 = 63 ∨ c2 = 123) := by
        by_cases e1 : s.data.toList[st1.at_]? = some 42
        · exact ⟨42, e1, .inl rfl⟩
        · by_cases e2 : s.data.toList[st1.at_]? = some 43
          · exact ⟨43, e2, .inr (.inl rfl)⟩
          · by_cases e3 : s.data.toList[st1.at_]? = some 63
            · exact ⟨63, e3, .inr (.inr (.inl rfl))⟩
            · by_cases e4 : s.data.toList[st1.at_]? = some 123
              · exact ⟨123, e4, .inr (.inr (.inr rfl))⟩
              · exact absurd ⟨e1, e2, e3, e4⟩ hq
      obtain ⟨c2, hc2, hm⟩ := hc2
      have hlt2 : st1.at_ + 1 ≤ s.size := by
        have := (List.getElem?_eq_some_iff.1 hc2).1
        rw [Array.length_toList] at this
        exact this
      obtain ⟨z, hz1, hz2⟩ := idx_in [42, 43, 63, 123] c2
      have iz : (0 : Int) ≤ z := hz2.2 (by rcases hm with e | e | e | e <;> subst e <;> decide)
      have hmet := metE t (.iface ty x) _ _ H2.out.tree
      obtain ⟨ty', x', fe, he1, hme, heg, hce⟩ := hmet
      injection he1 with et ex
      subst et
      subst ex
      have HZ := Lib.hid (show _ ∧ _ ∧ _ ∧ _ from ⟨hz1, hce, hc2, hm⟩)
      have z0 := H2.out.box.c0
      refine (peek_some bk s st1 c2 _ H2.out.psr hc2).mono ?_
      rintro e w3 ⟨rfl, q3, rfl⟩
      clear hc2 hz1 hz2 hce hm hq
      go_wp2_with fail
      refine (HZ.out.1 _).mono ?_
      rintro e wz ⟨rfl, rfl⟩
      go_wp2_with fail
      refine (HZ.out.2.1 _ _ (H2.out.drewN _).tree).mono ?_
      rintro e w4 ⟨rfl, hb4⟩
      have H4 := Lib.hid ((H2.out.drewN _).below hb4)
      clear hb4 z0 hme heg
      cases hem : t.empty with
      | true =>
        have d1 : w4.cell? ⟨bk, 1, none⟩ = some (.int .i64 (st1.at_ : Int)) := H4.out.psr.c1
        have HB := Lib.hid (piece_bad HE.out HZ.out.2.2.1 HZ.out.2.2.2 hem)
        clear hem
        go_wp2_with fail
        exact ⟨rfl, pr_bad HB.out H4.out.grown⟩
      | false =>
        have HM := Lib.hid hem
        clear hem
        go_wp2_with fail
        have hm := HZ.out.2.2.2
        rcases hm with e | e | e | e
        · subst e
          refine (skip_yes bk s st1 42 _ H4.out.psr (by omega) HZ.out.2.2.1).mono ?_
          rintro e w5 ⟨rfl, hp5, hg5⟩
          have H5 := Lib.hid (show PieSt w w5 bk s (st1.to (st1.at_ + 1)) b3 t (.iface ty x) 0 (-1) false false from H4.out.call hp5 hg5)
          clear hp5 hg5
          go_wp2_with fail

          have HT := Lib.hid (show PieSt w _ bk s (st1.to (st1.at_ + 1)) b3 t (.iface ty x) (0) (mostV (none)) false false from H5.out)
          refine (skip_bool bk s (st1.to (st1.at_ + 1)) 63 _ HT.out.psr (by show st1.at_ + 1 ≤ 1000000; omega)).mono ?_
          rintro e wl ⟨rfl, hpl, hgl⟩
          have HL0 := HT.out.call hpl hgl
          have hlz : RX.pLazy s.data.toList t (0) (none) false st1 (st1.at_ + 1) = .ok (.rep t (0) (none) false (s.data.toList[st1.at_ + 1]? == some 63)) (st1.to (if (s.data.toList[st1.at_ + 1]? == some 63) = true then st1.at_ + 1 + 1 else st1.at_ + 1)) := lazy_eq _ _ _ _ _ _ _
          have hkz : (if (s.data.toList[st1.at_ + 1]? == some 63) = true then st1.at_ + 1 + 1 else st1.at_ + 1) ≤ s.size ∧ st1.at_ + 1 ≤ (if (s.data.toList[st1.at_ + 1]? == some 63) = true then st1.at_ + 1 + 1 else st1.at_ + 1) := lazy_le (by omega)
          simp only [show (st1.to (st1.at_ + 1)).at_ = st1.at_ + 1 from rfl] at HL0 ⊢
          obtain ⟨lz, hlze⟩ : ∃ lz, (s.data.toList[st1.at_ + 1]? == some 63) = lz := ⟨_, rfl⟩
          rw [hlze] at HL0 hlz hkz ⊢
          obtain ⟨kz, hkze⟩ : ∃ kz, (if lz = true then st1.at_ + 1 + 1 else st1.at_ + 1) = kz := ⟨_, rfl⟩
          rw [hkze] at HL0 hlz hkz
          have HL := Lib.hid (show PieSt w (wl.setCell ⟨b3, 4, none⟩ (.bool lz)) bk s (st1.to kz) b3 t (.iface ty x) (0) (mostV (none)) false lz ∧ RX.pLazy s.data.toList t (0) (none) false st1 (st1.at_ + 1) = .ok (.rep t (0) (none) false lz) (st1.to kz) ∧ kz ≤ s.size ∧ st1.at_ + 1 ≤ kz from ⟨PieSt.setLazy (st := st1.to kz) HL0 lz, hlz, hkz.1, hkz.2⟩)
          have z0 := HL0.box.c0
          have z1 := HL0.box.c1
          have z2 := HL0.box.c2
          have z3 := HL0.box.c3
          have z4 := HL0.box.c4
          have zf := HL0.box.fr 4
          clear hlze hkze hpl hgl HL0 hlz hkz
          go_wp2_with fail
          go_ret
          exact pie_end HL.out.1 (by rw [piece_star HE.out HZ.out.2.2.1 HM.out]; exact HL.out.2.1) H1.out.2.2.2.1 HL.out.2.2.1 (by have := HL.out.2.2.2; omega) H1.out.2.2.2.2.2 H1.out.2.2.2.2.1 ((by decide : (0 : Nat) ≤ 1000)) (by simp)
        · subst e
          refine (skip_no bk s st1 42 43 _ H4.out.psr (by omega) HZ.out.2.2.1 (by decide)).mono ?_
          rintro e w50 ⟨rfl, q50, rfl⟩
          go_wp2_with fail
          refine (skip_yes bk s st1 43 _ (H4.out.psr.drewN _) (by omega) HZ.out.2.2.1).mono ?_
          rintro e w5 ⟨rfl, hp5, hg5⟩
          have H5 := Lib.hid (show PieSt w w5 bk s (st1.to (st1.at_ + 1)) b3 t (.iface ty x) 0 (-1) false false from (H4.out.drewN _).call hp5 hg5)
          clear hp5 hg5
          have z3 := H5.out.box.c3
          have zf3 := H5.out.box.fr 3
          go_wp2_with fail
          clear z3 zf3

          have HT := Lib.hid (show PieSt w _ bk s (st1.to (st1.at_ + 1)) b3 t (.iface ty x) (0) (mostV (none)) true false from H5.out.setPlus true)
          refine (skip_bool bk s (st1.to (st1.at_ + 1)) 63 _ HT.out.psr (by show st1.at_ + 1 ≤ 1000000; omega)).mono ?_
          rintro e wl ⟨rfl, hpl, hgl⟩
          have HL0 := HT.out.call hpl hgl
          have hlz : RX.pLazy s.data.toList t (0) (none) true st1 (st1.at_ + 1) = .ok (.rep t (0) (none) true (s.data.toList[st1.at_ + 1]? == some 63)) (st1.to (if (s.data.toList[st1.at_ + 1]? == some 63) = true then st1.at_ + 1 + 1 else st1.at_ + 1)) := lazy_eq _ _ _ _ _ _ _
          have hkz : (if (s.data.toList[st1.at_ + 1]? == some 63) = true then st1.at_ + 1 + 1 else st1.at_ + 1) ≤ s.size ∧ st1.at_ + 1 ≤ (if (s.data.toList[st1.at_ + 1]? == some 63) = true then st1.at_ + 1 + 1 else st1.at_ + 1) := lazy_le (by omega)
          simp only [show (st1.to (st1.at_ + 1)).at_ = st1.at_ + 1 from rfl] at HL0 ⊢
          obtain ⟨lz, hlze⟩ : ∃ lz, (s.data.toList[st1.at_ + 1]? == some 63) = lz := ⟨_, rfl⟩
          rw [hlze] at HL0 hlz hkz ⊢
          obtain ⟨kz, hkze⟩ : ∃ kz, (if lz = true then st1.at_ + 1 + 1 else st1.at_ + 1) = kz := ⟨_, rfl⟩
          rw [hkze] at HL0 hlz hkz
          have HL := Lib.hid (show PieSt w (wl.setCell ⟨b3, 4, none⟩ (.bool lz)) bk s (st1.to kz) b3 t (.iface ty x) (0) (mostV (none)) true lz ∧ RX.pLazy s.data.toList t (0) (none) true st1 (st1.at_ + 1) = .ok (.rep t (0) (none) true lz) (st1.to kz) ∧ kz ≤ s.size ∧ st1.at_ + 1 ≤ kz from ⟨PieSt.setLazy (st := st1.to kz) HL0 lz, hlz, hkz.1, hkz.2⟩)
          have z0 := HL0.box.c0
          have z1 := HL0.box.c1
          have z2 := HL0.box.c2
          have z3 := HL0.box.c3
          have z4 := HL0.box.c4
          have zf := HL0.box.fr 4
          clear hlze hkze hpl hgl HL0 hlz hkz
          go_wp2_with fail
          go_ret
          exact pie_end HL.out.1 (by rw [piece_plus HE.out HZ.out.2.2.1 HM.out]; exact HL.out.2.1) H1.out.2.2.2.1 HL.out.2.2.1 (by have := HL.out.2.2.2; omega) H1.out.2.2.2.2.2 H1.out.2.2.2.2.1 ((by decide : (0 : Nat) ≤ 1000)) (by simp)
        · subst e
          refine (skip_no bk s st1 42 63 _ H4.out.psr (by omega) HZ.out.2.2.1 (by decide)).mono ?_
          rintro e w50 ⟨rfl, q50, rfl⟩
          go_wp2_with fail
          refine (skip_no bk s st1 43 63 _ (H4.out.psr.drewN _) (by omega) HZ.out.2.2.1 (by decide)).mono ?_
          rintro e w51 ⟨rfl, q51, rfl⟩
          go_wp2_with fail
          refine (skip_yes bk s st1 63 _ (H4.out.psr.drewN _) (by omega) HZ.out.2.2.1).mono ?_
          rintro e w5 ⟨rfl, hp5, hg5⟩
          have H5 := Lib.hid (show PieSt w w5 bk s (st1.to (st1.at_ + 1)) b3 t (.iface ty x) 0 (-1) false false from (H4.out.drewN _).call hp5 hg5)
          clear hp5 hg5
          have z2 := H5.out.box.c2
          have zf2 := H5.out.box.fr 2
          go_wp2_with fail
          clear z2 zf2

          have HT := Lib.hid (show PieSt w _ bk s (st1.to (st1.at_ + 1)) b3 t (.iface ty x) (0) (mostV (some 1)) false false from H5.out.setMost 1)
          refine (skip_bool bk s (st1.to (st1.at_ + 1)) 63 _ HT.out.psr (by show st1.at_ + 1 ≤ 1000000; omega)).mono ?_
          rintro e wl ⟨rfl, hpl, hgl⟩
          have HL0 := HT.out.call hpl hgl
          have hlz : RX.pLazy s.data.toList t (0) (some 1) false st1 (st1.at_ + 1) = .ok (.rep t (0) (some 1) false (s.data.toList[st1.at_ + 1]? == some 63)) (st1.to (if (s.data.toList[st1.at_ + 1]? == some 63) = true then st1.at_ + 1 + 1 else st1.at_ + 1)) := lazy_eq _ _ _ _ _ _ _
          have hkz : (if (s.data.toList[st1.at_ + 1]? == some 63) = true then st1.at_ + 1 + 1 else st1.at_ + 1) ≤ s.size ∧ st1.at_ + 1 ≤ (if (s.data.toList[st1.at_ + 1]? == some 63) = true then st1.at_ + 1 + 1 else st1.at_ + 1) := lazy_le (by omega)
          simp only [show (st1.to (st1.at_ + 1)).at_ = st1.at_ + 1 from rfl] at HL0 ⊢
          obtain ⟨lz, hlze⟩ : ∃ lz, (s.data.toList[st1.at_ + 1]? == some 63) = lz := ⟨_, rfl⟩
          rw [hlze] at HL0 hlz hkz ⊢
          obtain ⟨kz, hkze⟩ : ∃ kz, (if lz = true then st1.at_ + 1 + 1 else st1.at_ + 1) = kz := ⟨_, rfl⟩
          rw [hkze] at HL0 hlz hkz
          have HL := Lib.hid (show PieSt w (wl.setCell ⟨b3, 4, none⟩ (.bool lz)) bk s (st1.to kz) b3 t (.iface ty x) (0) (mostV (some 1)) false lz ∧ RX.pLazy s.data.toList t (0) (some 1) false st1 (st1.at_ + 1) = .ok (.rep t (0) (some 1) false lz) (st1.to kz) ∧ kz ≤ s.size ∧ st1.at_ + 1 ≤ kz from ⟨PieSt.setLazy (st := st1.to kz) HL0 lz, hlz, hkz.1, hkz.2⟩)
          have z0 := HL0.box.c0
          have z1 := HL0.box.c1
          have z2 := HL0.box.c2
          have z3 := HL0.box.c3
          have z4 := HL0.box.c4
          have zf := HL0.box.fr 4
          clear hlze hkze hpl hgl HL0 hlz hkz
          go_wp2_with fail
          go_ret
          exact pie_end HL.out.1 (by rw [piece_maybe HE.out HZ.out.2.2.1 HM.out]; exact HL.out.2.1) H1.out.2.2.2.1 HL.out.2.2.1 (by have := HL.out.2.2.2; omega) H1.out.2.2.2.2.2 H1.out.2.2.2.2.1 ((by decide : (0 : Nat) ≤ 1000)) ((show ∀ m, (some 1 : Option Nat) = some m → 0 ≤ m ∧ m ≤ 1000 from fun m h => by obtain rfl := Option.some.inj h; omega))
        · subst e
          refine (skip_no bk s st1 42 123 _ H4.out.psr (by omega) HZ.out.2.2.1 (by decide)).mono ?_
          rintro e w50 ⟨rfl, q50, rfl⟩
          go_wp2_with fail
          refine (skip_no bk s st1 43 123 _ (H4.out.psr.drewN _) (by omega) HZ.out.2.2.1 (by decide)).mono ?_
          rintro e w51 ⟨rfl, q51, rfl⟩
          go_wp2_with fail
          refine (skip_no bk s st1 63 123 _ (H4.out.psr.drewN _) (by omega) HZ.out.2.2.1 (by decide)).mono ?_
          rintro e w52 ⟨rfl, q52, rfl⟩
          go_wp2_with fail
          refine (skip_yes bk s st1 123 _ (H4.out.psr.drewN _) (by omega) HZ.out.2.2.1).mono ?_
          rintro e w5 ⟨rfl, hp5, hg5⟩
          have H5 := Lib.hid (show PieSt w w5 bk s (st1.to (st1.at_ + 1)) b3 t (.iface ty x) 0 (-1) false false from (H4.out.drewN _).call hp5 hg5)
          clear hp5 hg5
          go_wp2_with fail
          refine (number_any bk s (st1.to (st1.at_ + 1)) w5 H5.out.psr hlt2 (by omega)).mono ?_
          rintro e w6 hpost
          unfold NumPost at hpost
          simp only [show (st1.to (st1.at_ + 1)).at_ = st1.at_ + 1 from rfl] at hpost
          cases hn : RX.number s.data.toList (st1.at_ + 1) with
          | bad a =>
            rw [hn] at hpost
            obtain ⟨rfl, hg⟩ := hpost
            have HE2 := Lib.hid (show _ ∧ _ from ⟨hn, hg⟩)
            clear hn hg
            go_wp2_with fail
            exact ⟨rfl, pr_bad (by rw [piece_count HE.out HZ.out.2.2.1 HM.out]; unfold RX.pCount; rw [HE2.out.1]) (H5.out.grown.trans HE2.out.2 (fun _ _ e => e))⟩
          | ok least k =>
            rw [hn] at hpost
            obtain ⟨rfl, hp6, hk6, hl6, hg6⟩ := hpost
            have hgt := number_gt hn
            have HC1 := Lib.hid (show _ ∧ k ≤ s.size ∧ st1.at_ + 1 < k ∧ least ≤ 1000 from ⟨hn, hk6, hgt, hl6⟩)
            have H6a : PieSt w w6 bk s (st1.to k) b3 t (.iface ty x) 0 (-1) false false := H5.out.call hp6 hg6
            have H8 := Lib.hid ((H6a.setLeast least).setMost (least : Int))
            have x1 := H6a.box.c1
            have x2 := H6a.box.c2
            have xf1 := H6a.box.fr 1
            have xf2 := H6a.box.fr 2
            clear hn hp6 hg6 H6a
            go_wp2_with fail
            clear x1 x2 xf1 xf2
            by_cases h44 : s.data.toList[k]? = some 44
            · have hk1 : k + 1 ≤ s.size := by
                have := (List.getElem?_eq_some_iff.1 h44).1
                rw [Array.length_toList] at this
                exact this
              have H44 := Lib.hid h44
              refine (skip_yes bk s (st1.to k) 44 _ H8.out.psr (by show k ≤ 1000000; omega) h44).mono ?_
              rintro e w9 ⟨rfl, hp9, hg9⟩
              have H9a : PieSt w w9 bk s (st1.to (k + 1)) b3 t (.iface ty x) least (least : Int) false false := H8.out.call hp9 hg9
              have H10 := Lib.hid (H9a.setMost (-1))
              have x2 := H9a.box.c2
              have xf2 := H9a.box.fr 2
              clear hp9 hg9 H9a h44
              go_wp2_with fail
              clear x2 xf2
              by_cases h125 : s.data.toList[k + 1]? = some 125
              · refine (peek_some bk s (st1.to (k + 1)) 125 _ H10.out.psr h125).mono ?_
                rintro e w11 ⟨rfl, q11, rfl⟩
                have H125 := Lib.hid h125
                have H11 := Lib.hid (H10.out.drewN q11)
                clear h125
                go_wp2_with fail
                by_cases hK : s.data.toList[k + 1]? = some 125
                · have HK := Lib.hid hK
                  have hKl : k + 1 + 1 ≤ s.size := by
                    have := (List.getElem?_eq_some_iff.1 hK).1
                    rw [Array.length_toList] at this
                    exact this
                  refine (must_yes bk s (st1.to (k + 1)) 125 _ H11.out.psr (by show k + 1 ≤ 1000000; omega) hK).mono ?_
                  rintro e wm ⟨rfl, hpm, hgm⟩
                  have HMM := Lib.hid (show PieSt w wm bk s (st1.to (k + 1 + 1)) b3 t (.iface ty x) (least) (mostV (none)) false false from H11.out.call hpm hgm)
                  clear hpm hgm hK
                  go_wp2_with fail
                  have HT := Lib.hid (show PieSt w _ bk s (st1.to (k + 1 + 1)) b3 t (.iface ty x) (least) (mostV (none)) false false from HMM.out)
                  refine (skip_bool bk s (st1.to (k + 1 + 1)) 63 _ HT.out.psr (by show k + 1 + 1 ≤ 1000000; omega)).mono ?_
                  rintro e wl ⟨rfl, hpl, hgl⟩
                  have HL0 := HT.out.call hpl hgl
                  have hlz : RX.pLazy s.data.toList t (least) (none) false st1 (k + 1 + 1) = .ok (.rep t (least) (none) false (s.data.toList[k + 1 + 1]? == some 63)) (st1.to (if (s.data.toList[k + 1 + 1]? == some 63) = true then k + 1 + 1 + 1 else k + 1 + 1)) := lazy_eq _ _ _ _ _ _ _
                  have hkz : (if (s.data.toList[k + 1 + 1]? == some 63) = true then k + 1 + 1 + 1 else k + 1 + 1) ≤ s.size ∧ k + 1 + 1 ≤ (if (s.data.toList[k + 1 + 1]? == some 63) = true then k + 1 + 1 + 1 else k + 1 + 1) := lazy_le (by omega)
                  simp only [show (st1.to (k + 1 + 1)).at_ = k + 1 + 1 from rfl] at HL0 ⊢
                  obtain ⟨lz, hlze⟩ : ∃ lz, (s.data.toList[k + 1 + 1]? == some 63) = lz := ⟨_, rfl⟩
                  rw [hlze] at HL0 hlz hkz ⊢
                  obtain ⟨kz, hkze⟩ : ∃ kz, (if lz = true then k + 1 + 1 + 1 else k + 1 + 1) = kz := ⟨_, rfl⟩
                  rw [hkze] at HL0 hlz hkz
                  have HL := Lib.hid (show PieSt w (wl.setCell ⟨b3, 4, none⟩ (.bool lz)) bk s (st1.to kz) b3 t (.iface ty x) (least) (mostV (none)) false lz ∧ RX.pLazy s.data.toList t (least) (none) false st1 (k + 1 + 1) = .ok (.rep t (least) (none) false lz) (st1.to kz) ∧ kz ≤ s.size ∧ k + 1 + 1 ≤ kz from ⟨PieSt.setLazy (st := st1.to kz) HL0 lz, hlz, hkz.1, hkz.2⟩)
                  have z0 := HL0.box.c0
                  have z1 := HL0.box.c1
                  have z2 := HL0.box.c2
                  have z3 := HL0.box.c3
                  have z4 := HL0.box.c4
                  have zf := HL0.box.fr 4
                  clear hlze hkze hpl hgl HL0 hlz hkz
                  go_wp2_with fail
                  go_ret
                  exact pie_end HL.out.1 (by rw [piece_count HE.out HZ.out.2.2.1 HM.out]; unfold RX.pCount; rw [HC1.out.1]; simp only; rw [if_pos H44.out, if_pos H125.out]; unfold RX.pBrace; rw [if_pos HK.out]; exact HL.out.2.1) H1.out.2.2.2.1 HL.out.2.2.1 (by have := HL.out.2.2.2; omega) H1.out.2.2.2.2.2 H1.out.2.2.2.2.1 (HC1.out.2.2.2) (by simp)
                · have HK := Lib.hid hK
                  refine (must_no bk s (st1.to (k + 1)) 125 _ H11.out.psr (by show k + 1 ≤ 1000000; omega) hK).mono ?_
                  rintro e wm ⟨rfl, qm, rfl⟩
                  clear hK
                  go_wp2_with fail
                  exact ⟨rfl, pr_bad (by rw [piece_count HE.out HZ.out.2.2.1 HM.out]; unfold RX.pCount; rw [HC1.out.1]; simp only; rw [if_pos H44.out, if_pos H125.out]; unfold RX.pBrace; rw [if_neg HK.out]; try rfl) (H10.out.grown.drewN _)⟩
              · have H125 := Lib.hid h125
                cases hc3 : s.data.toList[k + 1]? with
                | none =>
                  refine (peek_none bk s (st1.to (k + 1)) _ H10.out.psr hc3).mono ?_
                  rintro e w11 ⟨rfl, q11, rfl⟩
                  have H11 := Lib.hid (H10.out.drewN q11)
                  clear h125 hc3
                  go_wp2_with fail
                  refine (number_any bk s (st1.to (k + 1)) _ H11.out.psr hk1 (by omega)).mono ?_
                  rintro e w12 hpost
                  unfold NumPost at hpost
                  simp only [show (st1.to (k + 1)).at_ = k + 1 from rfl] at hpost
                  cases hn2 : RX.number s.data.toList (k + 1) with
                  | bad a =>
                    rw [hn2] at hpost
                    obtain ⟨rfl, hg⟩ := hpost
                    have HE2 := Lib.hid (show _ ∧ _ from ⟨hn2, hg⟩)
                    clear hn2 hg
                    go_wp2_with fail
                    exact ⟨rfl, pr_bad (by rw [piece_count HE.out HZ.out.2.2.1 HM.out]; unfold RX.pCount; rw [HC1.out.1]; simp only; rw [if_pos H44.out, if_neg H125.out]; unfold RX.pMost; rw [HE2.out.1]) (H11.out.grown.trans HE2.out.2 (fun _ _ e => e))⟩
                  | ok most k2 =>
                    rw [hn2] at hpost
                    obtain ⟨rfl, hp12, hk2, hm2, hg12⟩ := hpost
                    have hgt2 := number_gt hn2
                    have HE2 := Lib.hid (show _ ∧ k2 ≤ s.size ∧ most ≤ 1000 ∧ k + 1 < k2 from ⟨hn2, hk2, hm2, hgt2⟩)
                    have H12a : PieSt w w12 bk s (st1.to k2) b3 t (.iface ty x) least (-1) false false := H11.out.call hp12 hg12
                    have H13 := Lib.hid (H12a.setMost (most : Int))
                    have y1 := H12a.box.c1
                    have y2 := H12a.box.c2
                    have yf2 := H12a.box.fr 2
                    have d1 : w12.cell? ⟨bk, 1, none⟩ = some (.int .i64 (k2 : Int)) := H12a.psr.c1
                    have hnb : b3 ≠ bk := by have := H12a.lo; have := H12a.bl; omega
                    have hnb2 : ¬ b3 = bk := hnb
                    clear hn2 hp12 hg12 H12a
                    by_cases hml : most < least
                    · have im : (most : Int) < (least : Int) := by omega
                      have HML := Lib.hid hml
                      clear hml
                      go_wp2_with fail
                      exact ⟨rfl, pr_bad (by rw [piece_count HE.out HZ.out.2.2.1 HM.out]; unfold RX.pCount; rw [HC1.out.1]; simp only; rw [if_pos H44.out, if_neg H125.out]; unfold RX.pMost; rw [HE2.out.1]; simp only; rw [if_pos HML.out]) H13.out.grown⟩
                    · have im : ¬ (most : Int) < (least : Int) := by omega
                      have HML := Lib.hid hml
                      clear hml
                      go_wp2_with fail
                      clear y1 y2 yf2 d1 im
                      by_cases hK : s.data.toList[k2]? = some 125
                      · have HK := Lib.hid hK
                        have hKl : k2 + 1 ≤ s.size := by
                          have := (List.getElem?_eq_some_iff.1 hK).1
                          rw [Array.length_toList] at this
                          exact this
                        refine (must_yes bk s (st1.to (k2)) 125 _ H13.out.psr (by show k2 ≤ 1000000; omega) hK).mono ?_
                        rintro e wm ⟨rfl, hpm, hgm⟩
                        have HMM := Lib.hid (show PieSt w wm bk s (st1.to (k2 + 1)) b3 t (.iface ty x) (least) (mostV (some most)) false false from H13.out.call hpm hgm)
                        clear hpm hgm hK
                        go_wp2_with fail
                        have HT := Lib.hid (show PieSt w _ bk s (st1.to (k2 + 1)) b3 t (.iface ty x) (least) (mostV (some most)) false false from HMM.out)
                        refine (skip_bool bk s (st1.to (k2 + 1)) 63 _ HT.out.psr (by show k2 + 1 ≤ 1000000; omega)).mono ?_
                        rintro e wl ⟨rfl, hpl, hgl⟩
                        have HL0 := HT.out.call hpl hgl
                        have hlz : RX.pLazy s.data.toList t (least) (some most) false st1 (k2 + 1) = .ok (.rep t (least) (some most) false (s.data.toList[k2 + 1]? == some 63)) (st1.to (if (s.data.toList[k2 + 1]? == some 63) = true then k2 + 1 + 1 else k2 + 1)) := lazy_eq _ _ _ _ _ _ _
                        have hkz : (if (s.data.toList[k2 + 1]? == some 63) = true then k2 + 1 + 1 else k2 + 1) ≤ s.size ∧ k2 + 1 ≤ (if (s.data.toList[k2 + 1]? == some 63) = true then k2 + 1 + 1 else k2 + 1) := lazy_le (by omega)
                        simp only [show (st1.to (k2 + 1)).at_ = k2 + 1 from rfl] at HL0 ⊢
                        obtain ⟨lz, hlze⟩ : ∃ lz, (s.data.toList[k2 + 1]? == some 63) = lz := ⟨_, rfl⟩
                        rw [hlze] at HL0 hlz hkz ⊢
                        obtain ⟨kz, hkze⟩ : ∃ kz, (if lz = true then k2 + 1 + 1 else k2 + 1) = kz := ⟨_, rfl⟩
                        rw [hkze] at HL0 hlz hkz
                        have HL := Lib.hid (show PieSt w (wl.setCell ⟨b3, 4, none⟩ (.bool lz)) bk s (st1.to kz) b3 t (.iface ty x) (least) (mostV (some most)) false lz ∧ RX.pLazy s.data.toList t (least) (some most) false st1 (k2 + 1) = .ok (.rep t (least) (some most) false lz) (st1.to kz) ∧ kz ≤ s.size ∧ k2 + 1 ≤ kz from ⟨PieSt.setLazy (st := st1.to kz) HL0 lz, hlz, hkz.1, hkz.2⟩)
                        have z0 := HL0.box.c0
                        have z1 := HL0.box.c1
                        have z2 := HL0.box.c2
                        have z3 := HL0.box.c3
                        have z4 := HL0.box.c4
                        have zf := HL0.box.fr 4
                        clear hlze hkze hpl hgl HL0 hlz hkz
                        go_wp2_with fail
                        go_ret
                        exact pie_end HL.out.1 (by rw [piece_count HE.out HZ.out.2.2.1 HM.out]; unfold RX.pCount; rw [HC1.out.1]; simp only; rw [if_pos H44.out, if_neg H125.out]; unfold RX.pMost; rw [HE2.out.1]; simp only; rw [if_neg HML.out]; unfold RX.pBrace; rw [if_pos HK.out]; exact HL.out.2.1) H1.out.2.2.2.1 HL.out.2.2.1 (by have := HL.out.2.2.2; omega) H1.out.2.2.2.2.2 H1.out.2.2.2.2.1 (HC1.out.2.2.2) (fun m h => by obtain rfl := Option.some.inj h; have := HE2.out.2.2.1; have := HML.out; omega)
                      · have HK := Lib.hid hK
                        refine (must_no bk s (st1.to (k2)) 125 _ H13.out.psr (by show k2 ≤ 1000000; omega) hK).mono ?_
                        rintro e wm ⟨rfl, qm, rfl⟩
                        clear hK
                        go_wp2_with fail
                        exact ⟨rfl, pr_bad (by rw [piece_count HE.out HZ.out.2.2.1 HM.out]; unfold RX.pCount; rw [HC1.out.1]; simp only; rw [if_pos H44.out, if_neg H125.out]; unfold RX.pMost; rw [HE2.out.1]; simp only; rw [if_neg HML.out]; unfold RX.pBrace; rw [if_neg HK.out]; try rfl) (H13.out.grown.drewN _)⟩
                | some c3 =>
                  have h3n : c3 ≠ 125 := fun e => h125 (by rw [hc3, e])
                  have b3n : ((c3.toNat : Int) != 125) = true := congrArg (! ·) (byteI (b := 125) h3n)
                  refine (peek_some bk s (st1.to (k + 1)) c3 _ H10.out.psr hc3).mono ?_
                  rintro e w11 ⟨rfl, q11, rfl⟩
                  have H11 := Lib.hid (H10.out.drewN q11)
                  clear h125 hc3 h3n
                  go_wp2_with fail
                  clear b3n
                  refine (number_any bk s (st1.to (k + 1)) _ H11.out.psr hk1 (by omega)).mono ?_
                  rintro e w12 hpost
                  unfold NumPost at hpost
                  simp only [show (st1.to (k + 1)).at_ = k + 1 from rfl] at hpost
                  cases hn2 : RX.number s.data.toList (k + 1) with
                  | bad a =>
                    rw [hn2] at hpost
                    obtain ⟨rfl, hg⟩ := hpost
                    have HE2 := Lib.hid (show _ ∧ _ from ⟨hn2, hg⟩)
                    clear hn2 hg
                    go_wp2_with fail
                    exact ⟨rfl, pr_bad (by rw [piece_count HE.out HZ.out.2.2.1 HM.out]; unfold RX.pCount; rw [HC1.out.1]; simp only; rw [if_pos H44.out, if_neg H125.out]; unfold RX.pMost; rw [HE2.out.1]) (H11.out.grown.trans HE2.out.2 (fun _ _ e => e))⟩
                  | ok most k2 =>
                    rw [hn2] at hpost
                    obtain ⟨rfl, hp12, hk2, hm2, hg12⟩ := hpost
                    have hgt2 := number_gt hn2
                    have HE2 := Lib.hid (show _ ∧ k2 ≤ s.size ∧ most ≤ 1000 ∧ k + 1 < k2 from ⟨hn2, hk2, hm2, hgt2⟩)
                    have H12a : PieSt w w12 bk s (st1.to k2) b3 t (.iface ty x) least (-1) false false := H11.out.call hp12 hg12
                    have H13 := Lib.hid (H12a.setMost (most : Int))
                    have y1 := H12a.box.c1
                    have y2 := H12a.box.c2
                    have yf2 := H12a.box.fr 2
                    have d1 : w12.cell? ⟨bk, 1, none⟩ = some (.int .i64 (k2 : Int)) := H12a.psr.c1
                    have hnb : b3 ≠ bk := by have := H12a.lo; have := H12a.bl; omega
                    have hnb2 : ¬ b3 = bk := hnb
                    clear hn2 hp12 hg12 H12a
                    by_cases hml : most < least
                    · have im : (most : Int) < (least : Int) := by omega
                      have HML := Lib.hid hml
                      clear hml
                      go_wp2_with fail
                      exact ⟨rfl, pr_bad (by rw [piece_count HE.out HZ.out.2.2.1 HM.out]; unfold RX.pCount; rw [HC1.out.1]; simp only; rw [if_pos H44.out, if_neg H125.out]; unfold RX.pMost; rw [HE2.out.1]; simp only; rw [if_pos HML.out]) H13.out.grown⟩
                    · have im : ¬ (most : Int) < (least : Int) := by omega
                      have HML := Lib.hid hml
                      clear hml
                      go_wp2_with fail
                      clear y1 y2 yf2 d1 im
                      by_cases hK : s.data.toList[k2]? = some 125
                      · have HK := Lib.hid hK
                        have hKl : k2 + 1 ≤ s.size := by
                          have := (List.getElem?_eq_some_iff.1 hK).1
                          rw [Array.length_toList] at this
                          exact this
                        refine (must_yes bk s (st1.to (k2)) 125 _ H13.out.psr (by show k2 ≤ 1000000; omega) hK).mono ?_
                        rintro e wm ⟨rfl, hpm, hgm⟩
                        have HMM := Lib.hid (show PieSt w wm bk s (st1.to (k2 + 1)) b3 t (.iface ty x) (least) (mostV (some most)) false false from H13.out.call hpm hgm)
                        clear hpm hgm hK
                        go_wp2_with fail
                        have HT := Lib.hid (show PieSt w _ bk s (st1.to (k2 + 1)) b3 t (.iface ty x) (least) (mostV (some most)) false false from HMM.out)
                        refine (skip_bool bk s (st1.to (k2 + 1)) 63 _ HT.out.psr (by show k2 + 1 ≤ 1000000; omega)).mono ?_
                        rintro e wl ⟨rfl, hpl, hgl⟩
                        have HL0 := HT.out.call hpl hgl
                        have hlz : RX.pLazy s.data.toList t (least) (some most) false st1 (k2 + 1) = .ok (.rep t (least) (some most) false (s.data.toList[k2 + 1]? == some 63)) (st1.to (if (s.data.toList[k2 + 1]? == some 63) = true then k2 + 1 + 1 else k2 + 1)) := lazy_eq _ _ _ _ _ _ _
                        have hkz : (if (s.data.toList[k2 + 1]? == some 63) = true then k2 + 1 + 1 else k2 + 1) ≤ s.size ∧ k2 + 1 ≤ (if (s.data.toList[k2 + 1]? == some 63) = true then k2 + 1 + 1 else k2 + 1) := lazy_le (by omega)
                        simp only [show (st1.to (k2 + 1)).at_ = k2 + 1 from rfl] at HL0 ⊢
                        obtain ⟨lz, hlze⟩ : ∃ lz, (s.data.toList[k2 + 1]? == some 63) = lz := ⟨_, rfl⟩
                        rw [hlze] at HL0 hlz hkz ⊢
                        obtain ⟨kz, hkze⟩ : ∃ kz, (if lz = true then k2 + 1 + 1 else k2 + 1) = kz := ⟨_, rfl⟩
                        rw [hkze] at HL0 hlz hkz
                        have HL := Lib.hid (show PieSt w (wl.setCell ⟨b3, 4, none⟩ (.bool lz)) bk s (st1.to kz) b3 t (.iface ty x) (least) (mostV (some most)) false lz ∧ RX.pLazy s.data.toList t (least) (some most) false st1 (k2 + 1) = .ok (.rep t (least) (some most) false lz) (st1.to kz) ∧ kz ≤ s.size ∧ k2 + 1 ≤ kz from ⟨PieSt.setLazy (st := st1.to kz) HL0 lz, hlz, hkz.1, hkz.2⟩)
                        have z0 := HL0.box.c0
                        have z1 := HL0.box.c1
                        have z2 := HL0.box.c2
                        have z3 := HL0.box.c3
                        have z4 := HL0.box.c4
                        have zf := HL0.box.fr 4
                        clear hlze hkze hpl hgl HL0 hlz hkz
                        go_wp2_with fail
                        go_ret
                        exact pie_end HL.out.1 (by rw [piece_count HE.out HZ.out.2.2.1 HM.out]; unfold RX.pCount; rw [HC1.out.1]; simp only; rw [if_pos H44.out, if_neg H125.out]; unfold RX.pMost; rw [HE2.out.1]; simp only; rw [if_neg HML.out]; unfold RX.pBrace; rw [if_pos HK.out]; exact HL.out.2.1) H1.out.2.2.2.1 HL.out.2.2.1 (by have := HL.out.2.2.2; omega) H1.out.2.2.2.2.2 H1.out.2.2.2.2.1 (HC1.out.2.2.2) (fun m h => by obtain rfl := Option.some.inj h; have := HE2.out.2.2.1; have := HML.out; omega)
                      · have HK := Lib.hid hK
                        refine (must_no bk s (st1.to (k2)) 125 _ H13.out.psr (by show k2 ≤ 1000000; omega) hK).mono ?_
                        rintro e wm ⟨rfl, qm, rfl⟩
                        clear hK
                        go_wp2_with fail
                        exact ⟨rfl, pr_bad (by rw [piece_count HE.out HZ.out.2.2.1 HM.out]; unfold RX.pCount; rw [HC1.out.1]; simp only; rw [if_pos H44.out, if_neg H125.out]; unfold RX.pMost; rw [HE2.out.1]; simp only; rw [if_neg HML.out]; unfold RX.pBrace; rw [if_neg HK.out]; try rfl) (H13.out.grown.drewN _)⟩
            · have H44 := Lib.hid h44
              refine (skip_not bk s (st1.to k) 44 _ H8.out.psr (by show k ≤ 1000000; omega) h44).mono ?_
              rintro e w9 ⟨rfl, q9, rfl⟩
              have H9 := Lib.hid (H8.out.drewN q9)
              clear h44
              go_wp2_with fail
              by_cases hK : s.data.toList[k]? = some 125
              · have HK := Lib.hid hK
                have hKl : k + 1 ≤ s.size := by
                  have := (List.getElem?_eq_some_iff.1 hK).1
                  rw [Array.length_toList] at this
                  exact this
                refine (must_yes bk s (st1.to (k)) 125 _ H9.out.psr (by show k ≤ 1000000; omega) hK).mono ?_
                rintro e wm ⟨rfl, hpm, hgm⟩
                have HMM := Lib.hid (show PieSt w wm bk s (st1.to (k + 1)) b3 t (.iface ty x) (least) (mostV (some least)) false false from H9.out.call hpm hgm)
                clear hpm hgm hK
                go_wp2_with fail
                have HT := Lib.hid (show PieSt w _ bk s (st1.to (k + 1)) b3 t (.iface ty x) (least) (mostV (some least)) false false from HMM.out)
                refine (skip_bool bk s (st1.to (k + 1)) 63 _ HT.out.psr (by show k + 1 ≤ 1000000; omega)).mono ?_
                rintro e wl ⟨rfl, hpl, hgl⟩
                have HL0 := HT.out.call hpl hgl
                have hlz : RX.pLazy s.data.toList t (least) (some least) false st1 (k + 1) = .ok (.rep t (least) (some least) false (s.data.toList[k + 1]? == some 63)) (st1.to (if (s.data.toList[k + 1]? == some 63) = true then k + 1 + 1 else k + 1)) := lazy_eq _ _ _ _ _ _ _
                have hkz : (if (s.data.toList[k + 1]? == some 63) = true then k + 1 + 1 else k + 1) ≤ s.size ∧ k + 1 ≤ (if (s.data.toList[k + 1]? == some 63) = true then k + 1 + 1 else k + 1) := lazy_le (by omega)
                simp only [show (st1.to (k + 1)).at_ = k + 1 from rfl] at HL0 ⊢
                obtain ⟨lz, hlze⟩ : ∃ lz, (s.data.toList[k + 1]? == some 63) = lz := ⟨_, rfl⟩
                rw [hlze] at HL0 hlz hkz ⊢
                obtain ⟨kz, hkze⟩ : ∃ kz, (if lz = true then k + 1 + 1 else k + 1) = kz := ⟨_, rfl⟩
                rw [hkze] at HL0 hlz hkz
                have HL := Lib.hid (show PieSt w (wl.setCell ⟨b3, 4, none⟩ (.bool lz)) bk s (st1.to kz) b3 t (.iface ty x) (least) (mostV (some least)) false lz ∧ RX.pLazy s.data.toList t (least) (some least) false st1 (k + 1) = .ok (.rep t (least) (some least) false lz) (st1.to kz) ∧ kz ≤ s.size ∧ k + 1 ≤ kz from ⟨PieSt.setLazy (st := st1.to kz) HL0 lz, hlz, hkz.1, hkz.2⟩)
                have z0 := HL0.box.c0
                have z1 := HL0.box.c1
                have z2 := HL0.box.c2
                have z3 := HL0.box.c3
                have z4 := HL0.box.c4
                have zf := HL0.box.fr 4
                clear hlze hkze hpl hgl HL0 hlz hkz
                go_wp2_with fail
                go_ret
                exact pie_end HL.out.1 (by rw [piece_count HE.out HZ.out.2.2.1 HM.out]; unfold RX.pCount; rw [HC1.out.1]; simp only; rw [if_neg H44.out]; unfold RX.pBrace; rw [if_pos HK.out]; exact HL.out.2.1) H1.out.2.2.2.1 HL.out.2.2.1 (by have := HL.out.2.2.2; omega) H1.out.2.2.2.2.2 H1.out.2.2.2.2.1 (HC1.out.2.2.2) (fun m h => by obtain rfl := Option.some.inj h; have := HC1.out.2.2.2; omega)
              · have HK := Lib.hid hK
                refine (must_no bk s (st1.to (k)) 125 _ H9.out.psr (by show k ≤ 1000000; omega) hK).mono ?_
                rintro e wm ⟨rfl, qm, rfl⟩
                clear hK
                go_wp2_with fail
                exact ⟨rfl, pr_bad (by rw [piece_count HE.out HZ.out.2.2.1 HM.out]; unfold RX.pCount; rw [HC1.out.1]; simp only; rw [if_neg H44.out]; unfold RX.pBrace; rw [if_neg HK.out]; try rfl) (H8.out.grown.drewN _)⟩
end Go.Proofs.YtamlnkmcbbeicaaDoor
