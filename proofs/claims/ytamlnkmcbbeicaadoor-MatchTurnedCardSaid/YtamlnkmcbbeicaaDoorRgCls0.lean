/- Patterns' reader: a class: what is wanted of the plain law; skip, said in one way; the reader's cells and two sets. -/
import Derived.Test.YtamlnkmcbbeicaaDoorRgItem2
namespace Go.Proofs.YtamlnkmcbbeicaaDoor
open Go.RowKit Go.Lib
open RX (PS Tr Pr)

theorem skip_bool (bk : Nat) (s : ByteArray) (st : PS) (c : UInt8) (w : World) (hS : Psr w bk s st) (hbig : st.at_ ≤ 1000000) :
    Calls Tryd.prog 47 #[.pointer (some ⟨bk, 0, none⟩), .int .u8 c.toNat] w fun e w' => e = .returned (.bool (s.data.toList[st.at_]? == some c)) ∧ Psr w' bk s (st.to (if (s.data.toList[st.at_]? == some c) = true then st.at_ + 1 else st.at_)) ∧ GrownIn (fun b => b = bk) w w' :=
  (skip_any bk s st c w hS hbig).mono fun e w' h => by
    rcases h with ⟨h1, h2, h3, _, h5⟩ | ⟨h1, h2, q, h3⟩
    · have hb : (s.data.toList[st.at_]? == some c) = true := by rw [h1]; simp
      rw [hb, if_pos rfl]
      exact ⟨h2, h3, h5⟩
    · have hb : (s.data.toList[st.at_]? == some c) = false := by rw [beq_eq_false_iff_ne]; exact h1
      rw [hb, if_neg (by simp)]
      exact ⟨h2, by rw [h3]; exact hS, by rw [h3]; exact (GrownIn.refl _ _).drewN q⟩
theorem ItSt.call {w W W' : World} {bk b0 : Nat} {s : ByteArray} {st st' : PS} {p : Nat → Bool} (h : ItSt w W bk s st b0 p) (hp : Psr W' bk s st') (hg : GrownIn (fun b => b = bk) W W') : ItSt w W' bk s st' b0 p :=
  ⟨hp, h.set.grown hg (by have := h.lo; have := h.bl; omega), h.lo, h.bl, h.grown.trans hg (fun _ _ e => e)⟩
theorem ItSt.fresh {w W W' : World} {bk b0 : Nat} {s : ByteArray} {st : PS} {p : Nat → Bool} (h : ItSt w W bk s st b0 p) (hg : GrownIn (fun _ => False) W W') : ItSt w W' bk s st b0 p :=
  ⟨h.psr.grown hg id, h.set.grown hg id, h.lo, h.bl, h.grown.trans hg (fun _ _ e => e.elim)⟩
theorem ItSt.set0 {w W : World} {bk b0 : Nat} {s : ByteArray} {st : PS} {p : Nat → Bool} (h : ItSt w W bk s st b0 p) {i : Nat} (hi : i < 256) (v : Bool) : ItSt w (W.setCell ⟨b0, i, none⟩ (.bool v)) bk s st b0 (fun j => if j = i then v else p j) :=
  ⟨h.psr.other (by have := h.lo; have := h.bl; show bk ≠ b0; omega) _, h.set.set hi v, h.lo, h.bl, h.grown.trans (T := fun b => b = b0) (grownIn_set (S := fun b => b = b0) (p := ⟨b0, i, none⟩) (GrownIn.refl _ _) rfl _) (fun k hk e => by have := h.lo; omega)⟩
theorem ItSt.congr {w W : World} {bk b0 : Nat} {s : ByteArray} {st : PS} {p q : Nat → Bool} (h : ItSt w W bk s st b0 p) (hp : ∀ i, i < 256 → p i = q i) : ItSt w W bk s st b0 q := ⟨h.psr, h.set.congr hp, h.lo, h.bl, h.grown⟩
/-- The reader's cells, and two sets of the call's own. -/
structure It2 (w W : World) (bk : Nat) (s : ByteArray) (st : PS) (b0 : Nat) (p : Nat → Bool) (b7 : Nat) (q : Nat → Bool) : Prop where
  it : ItSt w W bk s st b0 p
  set7 : SetB W b7 q
  ne : b0 < b7
section
variable {w W W' : World} {bk b0 b7 : Nat} {s : ByteArray} {st st' : PS} {p q r : Nat → Bool}
theorem It2.drewN (h : It2 w W bk s st b0 p b7 q) (n : Nat) : It2 w (W.drewN n) bk s st b0 p b7 q := ⟨h.it.drewN n, h.set7, h.ne⟩
theorem It2.lt (h : It2 w W bk s st b0 p b7 q) : w.heap.size ≤ b0 ∧ bk < w.heap.size := ⟨h.it.lo, h.it.bl⟩
theorem It2.next (h : It2 w W bk s st b0 p b7 q) : It2 w (W.setCell ⟨bk, 1, none⟩ (.int .i64 ((st.at_ : Int) + 1))) bk s (st.to (st.at_ + 1)) b0 p b7 q :=
  ⟨h.it.next, h.set7.other (by have := h.lt; have := h.ne; show b7 ≠ bk; omega) _, h.ne⟩
theorem It2.call (h : It2 w W bk s st b0 p b7 q) (hp : Psr W' bk s st') (hg : GrownIn (fun b => b = bk) W W') : It2 w W' bk s st' b0 p b7 q :=
  ⟨h.it.call hp hg, h.set7.grown hg (by have := h.lt; have := h.ne; omega), h.ne⟩
theorem It2.fresh (h : It2 w W bk s st b0 p b7 q) (hg : GrownIn (fun _ => False) W W') : It2 w W' bk s st b0 p b7 q := ⟨h.it.fresh hg, h.set7.grown hg id, h.ne⟩
theorem It2.other (h : It2 w W bk s st b0 p b7 q) {b : Nat} (hb : b7 < b) (hg : GrownIn (fun k => k = b) W W') : It2 w W' bk s st b0 p b7 q :=
  ⟨⟨h.it.psr.grown hg (by have := h.lt; have := h.ne; omega), h.it.set.grown hg (by have := h.ne; omega), h.it.lo, h.it.bl, h.it.grown.trans hg (fun k hk e => by have := h.lt; have := h.ne; omega)⟩, h.set7.grown hg (by omega), h.ne⟩
theorem It2.store (h : It2 w W bk s st b0 p b7 q) (hb : SetB W' b7 r) (hg : GrownIn (fun k => k = b7) W W') : It2 w W' bk s st b0 p b7 r :=
  ⟨⟨h.it.psr.grown hg (by have := h.lt; have := h.ne; omega), h.it.set.grown hg (by have := h.ne; omega), h.it.lo, h.it.bl, h.it.grown.trans hg (fun k hk e => by have := h.lt; have := h.ne; omega)⟩, hb, h.ne⟩
theorem It2.put7 (h : It2 w W bk s st b0 p b7 q) {i : Nat} (hi : i < 256) (v : Bool) : It2 w (W.setCell ⟨b7, i, none⟩ (.bool v)) bk s st b0 p b7 (fun j => if j = i then v else q j) :=
  h.store (h.set7.set hi v) (grownIn_set (S := fun b => b = b7) (p := ⟨b7, i, none⟩) (GrownIn.refl _ _) rfl _)
theorem It2.put0 (h : It2 w W bk s st b0 p b7 q) {i : Nat} (hi : i < 256) (v : Bool) : It2 w (W.setCell ⟨b0, i, none⟩ (.bool v)) bk s st b0 (fun j => if j = i then v else p j) b7 q :=
  ⟨h.it.set0 hi v, h.set7.other (by have := h.ne; show b7 ≠ b0; omega) _, h.ne⟩
theorem It2.congr7 (h : It2 w W bk s st b0 p b7 q) (hp : ∀ i, i < 256 → q i = r i) : It2 w W bk s st b0 p b7 r := ⟨h.it, h.set7.congr hp, h.ne⟩
theorem ItSt.two (h : ItSt w W bk s st b0 p) (hb : SetB W' W.heap.size q) (hg : GrownIn (fun _ => False) W W') : It2 w W' bk s st b0 p W.heap.size q := ⟨h.fresh hg, hb, h.set.lt⟩
end
/-- What is done of an item of a class. -/
def clsItem (s : List UInt8) (f k : Nat) (p : Nat → Bool) : RX.Cl :=
  match RX.item s k with
  | .bad a => .bad a
  | .ok q from_ k1 =>
    match from_ with
    | none => RX.classGo s f false k1 (fun i => p i || q i)
    | some a =>
      if RX.dash s k1 = true then
        (if s[k1 + 1]? = none then .bad (k1 + 1) else
         match RX.item s (k1 + 1) with
         | .bad a => .bad a
         | .ok _ to k2 => match to with
           | none => .bad (k1 + 1)
           | some b => if b.toNat < a.toNat then .bad (k1 + 1) else RX.classGo s f false k2 (fun i => p i || (q i || decide (a.toNat ≤ i ∧ i ≤ b.toNat))))
      else RX.classGo s f false k1 (fun i => p i || q i)
theorem cg_close {s : List UInt8} {f k : Nat} {p : Nat → Bool} (h : s[k]? = some 93) : RX.classGo s (f + 1) false k p = .ok p (k + 1) := by
  rw [RX.classGo]; exact if_pos ⟨rfl, h⟩
theorem cg_len {s : List UInt8} {f k : Nat} {p : Nat → Bool} (h : s[k]? = some 45) (hk : k + 1 = s.length) : RX.classGo s (f + 1) false k p = .bad s.length := by
  rw [RX.classGo, if_neg (by rw [h]; simp)]; exact if_pos ⟨rfl, h, hk⟩
theorem cg_none {s : List UInt8} {f k : Nat} {b : Bool} {p : Nat → Bool} (h : s[k]? = none) : RX.classGo s (f + 1) b k p = .bad k := by
  rw [RX.classGo, if_neg (by rw [h]; simp), if_neg (by rw [h]; simp)]; exact if_pos (.inl h)
theorem cg_first {s : List UInt8} {f k : Nat} {p : Nat → Bool} (h : s[k]? = some 93) : RX.classGo s (f + 1) true k p = .bad k := by
  rw [RX.classGo, if_neg (by simp), if_neg (by simp)]; exact if_pos (.inr (.inl ⟨rfl, h⟩))
theorem cg_dash {s : List UInt8} {f k : Nat} {p : Nat → Bool} (h1 : s[k]? ≠ some 93) (h2 : ¬ (s[k]? = some 45 ∧ k + 1 = s.length)) (h : RX.dash s k = true) : RX.classGo s (f + 1) false k p = .bad k := by
  rw [RX.classGo, if_neg (fun e => h1 e.2), if_neg (fun e => h2 e.2)]; exact if_pos (.inr (.inr ⟨rfl, h⟩))
theorem cg_item {s : List UInt8} {f k : Nat} {b : Bool} {c : UInt8} {p : Nat → Bool} (h : s[k]? = some c) (h1 : c ≠ 93) (h2 : ¬ (b = false ∧ c = 45 ∧ k + 1 = s.length)) (h3 : ¬ (b = false ∧ RX.dash s k = true)) : RX.classGo s (f + 1) b k p = clsItem s f k p := by
  have e1 : s[k]? ≠ some 93 := by rw [h]; exact fun e => h1 (Option.some.inj e)
  rw [RX.classGo, if_neg (fun e => e1 e.2), if_neg (fun e => h2 ⟨e.1, by have := e.2.1; rw [h] at this; exact Option.some.inj this, e.2.2⟩), if_neg (fun e => by
    rcases e with e | e | e
    · rw [h] at e; cases e
    · exact e1 e.2
    · exact h3 e)]
  rfl
theorem dash_ne {s : List UInt8} {k : Nat} {c : UInt8} (h : s[k]? = some c) (hc : c ≠ 45) : RX.dash s k = false := by
  unfold RX.dash; rw [h, opt_ne hc]; rfl
def ClassPost (w : World) (bk : Nat) (s : ByteArray) (st : PS) (e : Ending) (w' : World) : Prop :=
  match RX.cls s.data.toList st.at_ with
  | .ok p k => e = .returned (.agg (setV p)) ∧ Psr w' bk s (st.to k) ∧ k ≤ s.size ∧ GrownIn (fun b => b = bk) w w'
  | .bad a => e = .panicked [{ v := badV a, recovered := false }] ∧ GrownIn (fun b => b = bk) w w'
theorem class_bad {w W : World} {bk : Nat} {s : ByteArray} {st : PS} {a : Nat} (h : RX.classGo s.data.toList (s.data.toList.length + 1) true (if (s.data.toList[st.at_]? == some 94) = true then st.at_ + 1 else st.at_) (fun _ => false) = .bad a) (hg : GrownIn (fun b => b = bk) w W) : ClassPost w bk s st (.panicked [{ v := badV a, recovered := false }]) W := by
  have : RX.cls s.data.toList st.at_ = .bad a := by unfold RX.cls; simp only; rw [h]
  unfold ClassPost; rw [this]; exact ⟨rfl, hg⟩
theorem class_ok {w W : World} {bk b0 : Nat} {s : ByteArray} {st : PS} {k : Nat} {p : Nat → Bool} (h : RX.classGo s.data.toList (s.data.toList.length + 1) true (if (s.data.toList[st.at_]? == some 94) = true then st.at_ + 1 else st.at_) (fun _ => false) = .ok p k) (hk : k ≤ s.size)
    (hg : ItSt w W bk s (st.to k) b0 (fun i => p i != (s.data.toList[st.at_]? == some 94))) : ClassPost w bk s st (.returned (.agg (setV (fun i => p i != (s.data.toList[st.at_]? == some 94))))) W := by
  have : RX.cls s.data.toList st.at_ = .ok (fun i => p i != (s.data.toList[st.at_]? == some 94)) k := by unfold RX.cls; simp only; rw [h]
  unfold ClassPost; rw [this]; exact ⟨rfl, hg.psr, hk, hg.grown⟩
end Go.Proofs.YtamlnkmcbbeicaaDoor
