/- Patterns' reader: an item. -/
import Derived.Test.YtamlnkmcbbeicaaDoorG09
namespace Go.Proofs.YtamlnkmcbbeicaaDoor
open Go.RowKit Go.Lib
open RX (PS Tr Pr)

section
variable {w : World}
theorem wpList_alloc_set {ops : Array Oper} {rest : List Oper} {op : Oper} {a : Act} {Q : Exit → Act → World → Prop} (hgd : op.guard = none) (ho : op.op = .alloc 61)
    (h : ∀ w', SetB w' w.heap.size (fun _ => false) → w'.heap.size = w.heap.size + 1 → GrownIn (fun _ => False) w w' → wpList Tryd.prog ops Q rest (a.put op.dst (.pointer (some ⟨w.heap.size, 0, none⟩))) w') : wpList Tryd.prog ops Q (op :: rest) a w :=
  wpList_plain hgd fun K hK => by
    have hz := set_zero w
    have h1 := h (w.alloc (.cells (setV fun _ => false) 61)) (SetB.new w _) (by simp) ((GrownIn.refl _ w).alloc _)
    unfold Oper.wp execOp
    simp only [ho]
    simp [Instr.alloc, hz, Result.andThen, Sem.run_bind, Value.cells]
    exact hK _ _ h1
end
/-- The reader's cells, and a set of the call's own. -/
structure ItSt (w W : World) (bk : Nat) (s : ByteArray) (st : PS) (b0 : Nat) (p : Nat → Bool) : Prop where
  psr : Psr W bk s st
  set : SetB W b0 p
  lo : w.heap.size ≤ b0
  bl : bk < w.heap.size
  grown : GrownIn (fun b => b = bk) w W
section
variable {w W W' : World} {bk b0 : Nat} {s : ByteArray} {st : PS} {p q : Nat → Bool}
theorem ItSt.drewN (h : ItSt w W bk s st b0 p) (n : Nat) : ItSt w (W.drewN n) bk s st b0 p := ⟨h.psr, h.set, h.lo, h.bl, h.grown.drewN n⟩
theorem ItSt.next (h : ItSt w W bk s st b0 p) : ItSt w (W.setCell ⟨bk, 1, none⟩ (.int .i64 ((st.at_ : Int) + 1))) bk s (st.to (st.at_ + 1)) b0 p :=
  ⟨h.psr.next, h.set.other (by have := h.lo; have := h.bl; show b0 ≠ bk; omega) _, h.lo, h.bl, grownIn_set (S := fun b => b = bk) (p := ⟨bk, 1, none⟩) h.grown rfl _⟩
theorem ItSt.below (h : ItSt w W bk s st b0 p) (hb : Below W.heap.size W W') : ItSt w W' bk s st b0 p :=
  ⟨h.psr.grown (GrownIn.of_below hb) (by have := h.psr.lt; omega), h.set.grown (GrownIn.of_below hb) (by have := h.set.lt; omega), h.lo, h.bl, h.grown.trans (GrownIn.of_below hb) (fun k hk hs => by have := h.grown.size; omega)⟩
theorem ItSt.store (h : ItSt w W bk s st b0 p) (hb : SetB W' b0 q) (hg : GrownIn (fun k => k = b0) W W') : ItSt w W' bk s st b0 q :=
  ⟨h.psr.grown hg (by have := h.lo; have := h.bl; omega), hb, h.lo, h.bl, h.grown.trans hg (fun k hk e => by have := h.lo; omega)⟩
end
def sngV (c : Option UInt8) : Int := match c with
  | some c => c.toNat
  | none => -1
def ItemPost (w : World) (bk : Nat) (s : ByteArray) (st : PS) (e : Ending) (w' : World) : Prop :=
  match RX.item s.data.toList st.at_ with
  | .ok p c k => e = .returned (.tuple #[.agg (setV p), .int .i64 (sngV c)]) ∧ Psr w' bk s (st.to k) ∧ k ≤ s.size ∧ st.at_ < k ∧ GrownIn (fun b => b = bk) w w'
  | .bad a => e = .panicked [{ v := badV a, recovered := false }] ∧ GrownIn (fun b => b = bk) w w'
theorem it_start {w w1 : World} {bk : Nat} {s : ByteArray} {st : PS} (hS : Psr w bk s st) (hb : SetB w1 w.heap.size (fun _ => false)) (hg : GrownIn (fun _ => False) w w1) : ItSt w w1 bk s st w.heap.size (fun _ => false) :=
  ⟨hS.grown hg id, hb, Nat.le_refl _, hS.lt, hg.mono (fun _ _ h => h.elim)⟩
theorem it_end {w W : World} {bk b0 : Nat} {s : ByteArray} {st : PS} {p : Nat → Bool} {k : Nat} {c : Option UInt8} (h : ItSt w W bk s (st.to k) b0 p) (hr : RX.item s.data.toList st.at_ = .ok p c k) (hk : k ≤ s.size) (hlt : st.at_ < k) : ItemPost w bk s st (.returned (.tuple #[.agg (setV p), .int .i64 (sngV c)])) W := by
  unfold ItemPost; rw [hr]; exact ⟨rfl, h.psr, hk, hlt, h.grown⟩
theorem it_bad {w W : World} {bk : Nat} {s : ByteArray} {st : PS} {a : Nat} (hr : RX.item s.data.toList st.at_ = .bad a) (h : GrownIn (fun b => b = bk) w W) : ItemPost w bk s st (.panicked [{ v := badV a, recovered := false }]) W := by
  unfold ItemPost; rw [hr]; exact ⟨rfl, h⟩
set_option maxHeartbeats 2000000 in
set_option maxRecDepth 100000 in
theorem item_plain (bk : Nat) (s : ByteArray) (st : PS) (w : World) (hS : Psr w bk s st) (hbig : s.size ≤ 1000) (c : UInt8) (hc : s.data.toList[st.at_]? = some c) (h92 : c ≠ 92) : Calls Tryd.prog 73 #[.pointer (some ⟨bk, 0, none⟩)] w (ItemPost w bk s st) := by
  have HS := Lib.hid hS
  have hlt : st.at_ < s.size := by
    have := (List.getElem?_eq_some_iff.1 hc).1
    rw [Array.length_toList] at this
    exact this
  have i0 : (0 : Int) ≤ (st.at_ : Int) := by omega
  have i1 : (st.at_ : Int) < (s.size : Int) := by omega
  have k1 : IntKind.i64.wrap ((st.at_ : Int) + 1) = (st.at_ : Int) + 1 := IntWalk.i64_in _ (by omega)
  have hr : RX.item s.data.toList st.at_ = .ok (RX.only c) (some c) (st.at_ + 1) := by unfold RX.item; rw [hc]; simp only; rw [if_pos h92]
  have hcs : s[st.at_]'hlt = c := Option.some.inj ((byte_at hlt).symm.trans hc)
  have b92 : ((c.toNat : Int) == 92) = false := byteI h92
  have w1 : IntKind.i64.wrap (c.toNat : Int) = (c.toNat : Int) := IntWalk.i64_in _ (by have := UInt8.toNat_lt c; omega)
  have HR := Lib.hid (show _ ∧ st.at_ + 1 ≤ s.size ∧ st.at_ < st.at_ + 1 from ⟨hr, by omega, by omega⟩)
  clear hS hbig hc h92 hr
  go_enter Tryd.func73, Tryd.ntmps73
  go_wp2_with (first
    | (refine wpList_alloc_set rfl rfl ?_; intro w1 hb1 hs1 hg1; have H1 := Lib.hid (it_start HS.out hb1 hg1); have c0 := H1.out.psr.c0; have c1 := H1.out.psr.c1; have f1 := H1.out.psr.fr 1; clear hb1 hs1 hg1)
    | (go_at_call 75; refine (only_any c _).mono ?_; rintro e w2 ⟨rfl, hb2⟩; have H2 := Lib.hid (((H1.out.drewN _).next).below hb2); clear hb2)
    | (refine wpList_store_set rfl _ _ rfl rfl rfl H2.out.set ?_; intro w3 hb3 hs3 hg3; have H4 := Lib.hid (H2.out.store hb3 hg3); clear hb3 hs3 hg3)
    | (go_quiet (fail)))
  have hld := set_result H4.out.set
  refine bodyPost_ret (v := .tuple #[_, _]) ?_ rfl (it_end H4.out HR.out.1 HR.out.2.1 HR.out.2.2)
  simp [results, Tryd.results73, asAddr, Result.andThen, hld, sngV]
set_option maxHeartbeats 2000000 in
set_option maxRecDepth 100000 in
theorem item_end (bk : Nat) (s : ByteArray) (st : PS) (w : World) (hS : Psr w bk s st) (hbig : s.size ≤ 1000) (hc : s.data.toList[st.at_]? = some 92) (hn : s.data.toList[st.at_ + 1]? = none) : Calls Tryd.prog 73 #[.pointer (some ⟨bk, 0, none⟩)] w (ItemPost w bk s st) := by
  have HS := Lib.hid hS
  have hlt : st.at_ < s.size := by
    have := (List.getElem?_eq_some_iff.1 hc).1
    rw [Array.length_toList] at this
    exact this
  have i0 : (0 : Int) ≤ (st.at_ : Int) := by omega
  have i1 : (st.at_ : Int) < (s.size : Int) := by omega
  have k1 : IntKind.i64.wrap ((st.at_ : Int) + 1) = (st.at_ : Int) + 1 := IntWalk.i64_in _ (by omega)
  have hr : RX.item s.data.toList st.at_ = .bad (st.at_ + 1) := by unfold RX.item; rw [hc]; simp only; rw [if_neg (by decide), hn]
  have hcs : s[st.at_]'hlt = 92 := Option.some.inj ((byte_at hlt).symm.trans hc)
  have hp := fun (W : World) (h : Psr W bk s (st.to (st.at_ + 1))) => peek_none bk s (st.to (st.at_ + 1)) W h hn
  have HR := Lib.hid (show _ ∧ _ from ⟨hr, hp⟩)
  clear hS hbig hc hn hr hp
  go_enter Tryd.func73, Tryd.ntmps73
  go_wp2_with (first
    | (refine wpList_alloc_set rfl rfl ?_; intro w1 hb1 hs1 hg1; have H1 := Lib.hid (it_start HS.out hb1 hg1); have c0 := H1.out.psr.c0; have c1 := H1.out.psr.c1; have f1 := H1.out.psr.fr 1; clear hb1 hs1 hg1)
    | (go_at_call 58; refine (HR.out.2 _ ((H1.out.drewN _).next).psr).mono ?_; rintro e w2 ⟨rfl, q, rfl⟩; have H2 := Lib.hid (((H1.out.drewN nq).next).drewN q); have d1 := H2.out.psr.c1)
    | (go_quiet (fail)))
  exact ⟨rfl, it_bad HR.out.1 H2.out.grown⟩
set_option maxHeartbeats 2000000 in
set_option maxRecDepth 100000 in
theorem item_110 (bk : Nat) (s : ByteArray) (st : PS) (w : World) (hS : Psr w bk s st) (hbig : s.size ≤ 1000) (d : UInt8) (hc : s.data.toList[st.at_]? = some 92) (hn : s.data.toList[st.at_ + 1]? = some d) (hd : d = 110) : Calls Tryd.prog 73 #[.pointer (some ⟨bk, 0, none⟩)] w (ItemPost w bk s st) := by
  have HS := Lib.hid hS
  have hlt : st.at_ < s.size := by
    have := (List.getElem?_eq_some_iff.1 hc).1
    rw [Array.length_toList] at this
    exact this
  have i0 : (0 : Int) ≤ (st.at_ : Int) := by omega
  have i1 : (st.at_ : Int) < (s.size : Int) := by omega
  have k1 : IntKind.i64.wrap ((st.at_ : Int) + 1) = (st.at_ : Int) + 1 := IntWalk.i64_in _ (by omega)
  have hcs : s[st.at_]'hlt = 92 := Option.some.inj ((byte_at hlt).symm.trans hc)
  have hp := fun (W : World) (h : Psr W bk s (st.to (st.at_ + 1))) => peek_some bk s (st.to (st.at_ + 1)) d W h hn
  have hlt2 : st.at_ + 1 < s.size := by
    have := (List.getElem?_eq_some_iff.1 hn).1
    rw [Array.length_toList] at this
    exact this
  have k2 : IntKind.i64.wrap ((st.at_ : Int) + 1 + 1) = (st.at_ : Int) + 1 + 1 := IntWalk.i64_in _ (by omega)
  have hr : RX.item s.data.toList st.at_ = .ok (RX.only 10) (some 10) (st.at_ + 2) := by
    unfold RX.item; rw [hc]; simp only; rw [if_neg (by decide), hn]; simp only
    subst hd; rfl
  have b110 : ((d.toNat : Int) == 110) = true := by rw [hd]; rfl
  clear hd
  have HR := Lib.hid (show (_ ∧ st.at_ + 2 ≤ s.size ∧ st.at_ < st.at_ + 2) ∧ _ from ⟨⟨hr, by omega, by omega⟩, hp⟩)
  clear hS hbig hc hn hr hp hlt2
  go_enter Tryd.func73, Tryd.ntmps73
  go_wp2_with (first
    | (refine wpList_alloc_set rfl rfl ?_; intro w1 hb1 hs1 hg1; have H1 := Lib.hid (it_start HS.out hb1 hg1); have c0 := H1.out.psr.c0; have c1 := H1.out.psr.c1; have f1 := H1.out.psr.fr 1; clear hb1 hs1 hg1)
    | (go_at_call 58; refine (HR.out.2 _ ((H1.out.drewN _).next).psr).mono ?_; rintro e w2 ⟨rfl, q, rfl⟩; have H2 := Lib.hid (((H1.out.drewN nq).next).drewN q); have d1 : World.cell? _ _ = some (.int .i64 ((st.at_ : Int) + 1)) := H2.out.psr.c1; have g1 := H2.out.psr.fr 1)
    | (go_at_call 75; refine (only_any 10 _).mono ?_; rintro e w3 ⟨rfl, hb3⟩; have H3 := Lib.hid ((H2.out.next).below hb3); clear hb3)
    | (refine wpList_store_set rfl _ _ rfl rfl rfl H3.out.set ?_; intro w4 hb4 hs4 hg4; have H4 := Lib.hid (H3.out.store hb4 hg4); clear hb4 hs4 hg4)
    | (go_quiet (fail)))
  have hld := set_result H4.out.set
  refine bodyPost_ret (v := .tuple #[_, _]) ?_ rfl (it_end H4.out HR.out.1.1 HR.out.1.2.1 HR.out.1.2.2)
  simp [results, Tryd.results73, asAddr, Result.andThen, hld, sngV]
set_option maxHeartbeats 2000000 in
set_option maxRecDepth 100000 in
theorem item_116 (bk : Nat) (s : ByteArray) (st : PS) (w : World) (hS : Psr w bk s st) (hbig : s.size ≤ 1000) (d : UInt8) (hc : s.data.toList[st.at_]? = some 92) (hn : s.data.toList[st.at_ + 1]? = some d) (hd : d = 116) : Calls Tryd.prog 73 #[.pointer (some ⟨bk, 0, none⟩)] w (ItemPost w bk s st) := by
  have HS := Lib.hid hS
  have hlt : st.at_ < s.size := by
    have := (List.getElem?_eq_some_iff.1 hc).1
    rw [Array.length_toList] at this
    exact this
  have i0 : (0 : Int) ≤ (st.at_ : Int) := by omega
  have i1 : (st.at_ : Int) < (s.size : Int) := by omega
  have k1 : IntKind.i64.wrap ((st.at_ : Int) + 1) = (st.at_ : Int) + 1 := IntWalk.i64_in _ (by omega)
  have hcs : s[st.at_]'hlt = 92 := Option.some.inj ((byte_at hlt).symm.trans hc)
  have hp := fun (W : World) (h : Psr W bk s (st.to (st.at_ + 1))) => peek_some bk s (st.to (st.at_ + 1)) d W h hn
  have hlt2 : st.at_ + 1 < s.size := by
    have := (List.getElem?_eq_some_iff.1 hn).1
    rw [Array.length_toList] at this
    exact this
  have k2 : IntKind.i64.wrap ((st.at_ : Int) + 1 + 1) = (st.at_ : Int) + 1 + 1 := IntWalk.i64_in _ (by omega)
  have hr : RX.item s.data.toList st.at_ = .ok (RX.only 9) (some 9) (st.at_ + 2) := by
    unfold RX.item; rw [hc]; simp only; rw [if_neg (by decide), hn]; simp only
    subst hd; rfl
  have b116 : ((d.toNat : Int) == 116) = true := by rw [hd]; rfl
  have b110 : ((d.toNat : Int) == 110) = false := by rw [hd]; rfl
  clear hd
  have HR := Lib.hid (show (_ ∧ st.at_ + 2 ≤ s.size ∧ st.at_ < st.at_ + 2) ∧ _ from ⟨⟨hr, by omega, by omega⟩, hp⟩)
  clear hS hbig hc hn hr hp hlt2
  go_enter Tryd.func73, Tryd.ntmps73
  go_wp2_with (first
    | (refine wpList_alloc_set rfl rfl ?_; intro w1 hb1 hs1 hg1; have H1 := Lib.hid (it_start HS.out hb1 hg1); have c0 := H1.out.psr.c0; have c1 := H1.out.psr.c1; have f1 := H1.out.psr.fr 1; clear hb1 hs1 hg1)
    | (go_at_call 58; refine (HR.out.2 _ ((H1.out.drewN _).next).psr).mono ?_; rintro e w2 ⟨rfl, q, rfl⟩; have H2 := Lib.hid (((H1.out.drewN nq).next).drewN q); have d1 : World.cell? _ _ = some (.int .i64 ((st.at_ : Int) + 1)) := H2.out.psr.c1; have g1 := H2.out.psr.fr 1)
    | (go_at_call 75; refine (only_any 9 _).mono ?_; rintro e w3 ⟨rfl, hb3⟩; have H3 := Lib.hid ((H2.out.next).below hb3); clear hb3)
    | (refine wpList_store_set rfl _ _ rfl rfl rfl H3.out.set ?_; intro w4 hb4 hs4 hg4; have H4 := Lib.hid (H3.out.store hb4 hg4); clear hb4 hs4 hg4)
    | (go_quiet (fail)))
  have hld := set_result H4.out.set
  refine bodyPost_ret (v := .tuple #[_, _]) ?_ rfl (it_end H4.out HR.out.1.1 HR.out.1.2.1 HR.out.1.2.2)
  simp [results, Tryd.results73, asAddr, Result.andThen, hld, sngV]
set_option maxHeartbeats 2000000 in
set_option maxRecDepth 100000 in
theorem item_114 (bk : Nat) (s : ByteArray) (st : PS) (w : World) (hS : Psr w bk s st) (hbig : s.size ≤ 1000) (d : UInt8) (hc : s.data.toList[st.at_]? = some 92) (hn : s.data.toList[st.at_ + 1]? = some d) (hd : d = 114) : Calls Tryd.prog 73 #[.pointer (some ⟨bk, 0, none⟩)] w (ItemPost w bk s st) := by
  have HS := Lib.hid hS
  have hlt : st.at_ < s.size := by
    have := (List.getElem?_eq_some_iff.1 hc).1
    rw [Array.length_toList] at this
    exact this
  have i0 : (0 : Int) ≤ (st.at_ : Int) := by omega
  have i1 : (st.at_ : Int) < (s.size : Int) := by omega
  have k1 : IntKind.i64.wrap ((st.at_ : Int) + 1) = (st.at_ : Int) + 1 := IntWalk.i64_in _ (by omega)
  have hcs : s[st.at_]'hlt = 92 := Option.some.inj ((byte_at hlt).symm.trans hc)
  have hp := fun (W : World) (h : Psr W bk s (st.to (st.at_ + 1))) => peek_some bk s (st.to (st.at_ + 1)) d W h hn
  have hlt2 : st.at_ + 1 < s.size := by
    have := (List.getElem?_eq_some_iff.1 hn).1
    rw [Array.length_toList] at this
    exact this
  have k2 : IntKind.i64.wrap ((st.at_ : Int) + 1 + 1) = (st.at_ : Int) + 1 + 1 := IntWalk.i64_in _ (by omega)
  have hr : RX.item s.data.toList st.at_ = .ok (RX.only 13) (some 13) (st.at_ + 2) := by
    unfold RX.item; rw [hc]; simp only; rw [if_neg (by decide), hn]; simp only
    subst hd; rfl
  have b114 : ((d.toNat : Int) == 114) = true := by rw [hd]; rfl
  have b110 : ((d.toNat : Int) == 110) = false := by rw [hd]; rfl
  have b116 : ((d.toNat : Int) == 116) = false := by rw [hd]; rfl
  clear hd
  have HR := Lib.hid (show (_ ∧ st.at_ + 2 ≤ s.size ∧ st.at_ < st.at_ + 2) ∧ _ from ⟨⟨hr, by omega, by omega⟩, hp⟩)
  clear hS hbig hc hn hr hp hlt2
  go_enter Tryd.func73, Tryd.ntmps73
  go_wp2_with (first
    | (refine wpList_alloc_set rfl rfl ?_; intro w1 hb1 hs1 hg1; have H1 := Lib.hid (it_start HS.out hb1 hg1); have c0 := H1.out.psr.c0; have c1 := H1.out.psr.c1; have f1 := H1.out.psr.fr 1; clear hb1 hs1 hg1)
    | (go_at_call 58; refine (HR.out.2 _ ((H1.out.drewN _).next).psr).mono ?_; rintro e w2 ⟨rfl, q, rfl⟩; have H2 := Lib.hid (((H1.out.drewN nq).next).drewN q); have d1 : World.cell? _ _ = some (.int .i64 ((st.at_ : Int) + 1)) := H2.out.psr.c1; have g1 := H2.out.psr.fr 1)
    | (go_at_call 75; refine (only_any 13 _).mono ?_; rintro e w3 ⟨rfl, hb3⟩; have H3 := Lib.hid ((H2.out.next).below hb3); clear hb3)
    | (refine wpList_store_set rfl _ _ rfl rfl rfl H3.out.set ?_; intro w4 hb4 hs4 hg4; have H4 := Lib.hid (H3.out.store hb4 hg4); clear hb4 hs4 hg4)
    | (go_quiet (fail)))
  have hld := set_result H4.out.set
  refine bodyPost_ret (v := .tuple #[_, _]) ?_ rfl (it_end H4.out HR.out.1.1 HR.out.1.2.1 HR.out.1.2.2)
  simp [results, Tryd.results73, asAddr, Result.andThen, hld, sngV]
set_option maxHeartbeats 2000000 in
set_option maxRecDepth 100000 in
theorem item_100 (bk : Nat) (s : ByteArray) (st : PS) (w : World) (hS : Psr w bk s st) (hbig : s.size ≤ 1000) (d : UInt8) (hc : s.data.toList[st.at_]? = some 92) (hn : s.data.toList[st.at_ + 1]? = some d) (hd : d = 100) : Calls Tryd.prog 73 #[.pointer (some ⟨bk, 0, none⟩)] w (ItemPost w bk s st) := by
  have HS := Lib.hid hS
  have hlt : st.at_ < s.size := by
    have := (List.getElem?_eq_some_iff.1 hc).1
    rw [Array.length_toList] at this
    exact this
  have i0 : (0 : Int) ≤ (st.at_ : Int) := by omega
  have i1 : (st.at_ : Int) < (s.size : Int) := by omega
  have k1 : IntKind.i64.wrap ((st.at_ : Int) + 1) = (st.at_ : Int) + 1 := IntWalk.i64_in _ (by omega)
  have hcs : s[st.at_]'hlt = 92 := Option.some.inj ((byte_at hlt).symm.trans hc)
  have hp := fun (W : World) (h : Psr W bk s (st.to (st.at_ + 1))) => peek_some bk s (st.to (st.at_ + 1)) d W h hn
  have hlt2 : st.at_ + 1 < s.size := by
    have := (List.getElem?_eq_some_iff.1 hn).1
    rw [Array.length_toList] at this
    exact this
  have k2 : IntKind.i64.wrap ((st.at_ : Int) + 1 + 1) = (st.at_ : Int) + 1 + 1 := IntWalk.i64_in _ (by omega)
  have hr : RX.item s.data.toList st.at_ = .ok (RX.family RX.digL false) none (st.at_ + 2) := by
    unfold RX.item; rw [hc]; simp only; rw [if_neg (by decide), hn]; simp only
    subst hd; rfl
  have b100 : ((d.toNat : Int) == 100) = true := by rw [hd]; rfl
  have b110 : ((d.toNat : Int) == 110) = false := by rw [hd]; rfl
  have b116 : ((d.toNat : Int) == 116) = false := by rw [hd]; rfl
  have b114 : ((d.toNat : Int) == 114) = false := by rw [hd]; rfl
  have b68 : ((d.toNat : Int) == 68) = false := by rw [hd]; rfl
  clear hd
  have HR := Lib.hid (show (_ ∧ st.at_ + 2 ≤ s.size ∧ st.at_ < st.at_ + 2) ∧ _ from ⟨⟨hr, by omega, by omega⟩, hp⟩)
  clear hS hbig hc hn hr hp hlt2
  go_enter Tryd.func73, Tryd.ntmps73
  go_wp2_with (first
    | (refine wpList_alloc_set rfl rfl ?_; intro w1 hb1 hs1 hg1; have H1 := Lib.hid (it_start HS.out hb1 hg1); have c0 := H1.out.psr.c0; have c1 := H1.out.psr.c1; have f1 := H1.out.psr.fr 1; clear hb1 hs1 hg1)
    | (go_at_call 58; refine (HR.out.2 _ ((H1.out.drewN _).next).psr).mono ?_; rintro e w2 ⟨rfl, q, rfl⟩; have H2 := Lib.hid (((H1.out.drewN nq).next).drewN q); have d1 : World.cell? _ _ = some (.int .i64 ((st.at_ : Int) + 1)) := H2.out.psr.c1; have g1 := H2.out.psr.fr 1)
    | (go_at_call 76; refine (family_any RX.digL false _).mono ?_; rintro e w3 ⟨rfl, hb3⟩; have H3 := Lib.hid ((H2.out.next).below hb3); clear hb3)
    | (refine wpList_store_set rfl _ _ rfl rfl rfl H3.out.set ?_; intro w4 hb4 hs4 hg4; have H4 := Lib.hid (H3.out.store hb4 hg4); clear hb4 hs4 hg4)
    | (go_quiet (fail)))
  have hld := set_result H4.out.set
  refine bodyPost_ret (v := .tuple #[_, _]) ?_ rfl (it_end H4.out HR.out.1.1 HR.out.1.2.1 HR.out.1.2.2)
  simp [results, Tryd.results73, asAddr, Result.andThen, hld, sngV]
set_option maxHeartbeats 2000000 in
set_option maxRecDepth 100000 in
theorem item_68 (bk : Nat) (s : ByteArray) (st : PS) (w : World) (hS : Psr w bk s st) (hbig : s.size ≤ 1000) (d : UInt8) (hc : s.data.toList[st.at_]? = some 92) (hn : s.data.toList[st.at_ + 1]? = some d) (hd : d = 68) : Calls Tryd.prog 73 #[.pointer (some ⟨bk, 0, none⟩)] w (ItemPost w bk s st) := by
  have HS := Lib.hid hS
  have hlt : st.at_ < s.size := by
    have := (List.getElem?_eq_some_iff.1 hc).1
    rw [Array.length_toList] at this
    exact this
  have i0 : (0 : Int) ≤ (st.at_ : Int) := by omega
  have i1 : (st.at_ : Int) < (s.size : Int) := by omega
  have k1 : IntKind.i64.wrap ((st.at_ : Int) + 1) = (st.at_ : Int) + 1 := IntWalk.i64_in _ (by omega)
  have hcs : s[st.at_]'hlt = 92 := Option.some.inj ((byte_at hlt).symm.trans hc)
  have hp := fun (W : World) (h : Psr W bk s (st.to (st.at_ + 1))) => peek_some bk s (st.to (st.at_ + 1)) d W h hn
  have hlt2 : st.at_ + 1 < s.size := by
    have := (List.getElem?_eq_some_iff.1 hn).1
    rw [Array.length_toList] at this
    exact this
  have k2 : IntKind.i64.wrap ((st.at_ : Int) + 1 + 1) = (st.at_ : Int) + 1 + 1 := IntWalk.i64_in _ (by omega)
  have hr : RX.item s.data.toList st.at_ = .ok (RX.family RX.digL true) none (st.at_ + 2) := by
    unfold RX.item; rw [hc]; simp only; rw [if_neg (by decide), hn]; simp only
    subst hd; rfl
  have b68 : ((d.toNat : Int) == 68) = true := by rw [hd]; rfl
  have b110 : ((d.toNat : Int) == 110) = false := by rw [hd]; rfl
  have b116 : ((d.toNat : Int) == 116) = false := by rw [hd]; rfl
  have b114 : ((d.toNat : Int) == 114) = false := by rw [hd]; rfl
  have b100 : ((d.toNat : Int) == 100) = false := by rw [hd]; rfl
  clear hd
  have HR := Lib.hid (show (_ ∧ st.at_ + 2 ≤ s.size ∧ st.at_ < st.at_ + 2) ∧ _ from ⟨⟨hr, by omega, by omega⟩, hp⟩)
  clear hS hbig hc hn hr hp hlt2
  go_enter Tryd.func73, Tryd.ntmps73
  go_wp2_with (first
    | (refine wpList_alloc_set rfl rfl ?_; intro w1 hb1 hs1 hg1; have H1 := Lib.hid (it_start HS.out hb1 hg1); have c0 := H1.out.psr.c0; have c1 := H1.out.psr.c1; have f1 := H1.out.psr.fr 1; clear hb1 hs1 hg1)
    | (go_at_call 58; refine (HR.out.2 _ ((H1.out.drewN _).next).psr).mono ?_; rintro e w2 ⟨rfl, q, rfl⟩; have H2 := Lib.hid (((H1.out.drewN nq).next).drewN q); have d1 : World.cell? _ _ = some (.int .i64 ((st.at_ : Int) + 1)) := H2.out.psr.c1; have g1 := H2.out.psr.fr 1)
    | (go_at_call 76; refine (family_any RX.digL true _).mono ?_; rintro e w3 ⟨rfl, hb3⟩; have H3 := Lib.hid ((H2.out.next).below hb3); clear hb3)
    | (refine wpList_store_set rfl _ _ rfl rfl rfl H3.out.set ?_; intro w4 hb4 hs4 hg4; have H4 := Lib.hid (H3.out.store hb4 hg4); clear hb4 hs4 hg4)
    | (go_quiet (fail)))
  have hld := set_result H4.out.set
  refine bodyPost_ret (v := .tuple #[_, _]) ?_ rfl (it_end H4.out HR.out.1.1 HR.out.1.2.1 HR.out.1.2.2)
  simp [results, Tryd.results73, asAddr, Result.andThen, hld, sngV]
set_option maxHeartbeats 2000000 in
set_option maxRecDepth 100000 in
theorem item_119 (bk : Nat) (s : ByteArray) (st : PS) (w : World) (hS : Psr w bk s st) (hbig : s.size ≤ 1000) (d : UInt8) (hc : s.data.toList[st.at_]? = some 92) (hn : s.data.toList[st.at_ + 1]? = some d) (hd : d = 119) : Calls Tryd.prog 73 #[.pointer (some ⟨bk, 0, none⟩)] w (ItemPost w bk s st) := by
  have HS := Lib.hid hS
  have hlt : st.at_ < s.size := by
    have := (List.getElem?_eq_some_iff.1 hc).1
    rw [Array.length_toList] at this
    exact this
  have i0 : (0 : Int) ≤ (st.at_ : Int) := by omega
  have i1 : (st.at_ : Int) < (s.size : Int) := by omega
  have k1 : IntKind.i64.wrap ((st.at_ : Int) + 1) = (st.at_ : Int) + 1 := IntWalk.i64_in _ (by omega)
  have hcs : s[st.at_]'hlt = 92 := Option.some.inj ((byte_at hlt).symm.trans hc)
  have hp := fun (W : World) (h : Psr W bk s (st.to (st.at_ + 1))) => peek_some bk s (st.to (st.at_ + 1)) d W h hn
  have hlt2 : st.at_ + 1 < s.size := by
    have := (List.getElem?_eq_some_iff.1 hn).1
    rw [Array.length_toList] at this
    exact this
  have k2 : IntKind.i64.wrap ((st.at_ : Int) + 1 + 1) = (st.at_ : Int) + 1 + 1 := IntWalk.i64_in _ (by omega)
  have hr : RX.item s.data.toList st.at_ = .ok (RX.family RX.wordL false) none (st.at_ + 2) := by
    unfold RX.item; rw [hc]; simp only; rw [if_neg (by decide), hn]; simp only
    subst hd; rfl
  have b119 : ((d.toNat : Int) == 119) = true := by rw [hd]; rfl
  have b110 : ((d.toNat : Int) == 110) = false := by rw [hd]; rfl
  have b116 : ((d.toNat : Int) == 116) = false := by rw [hd]; rfl
  have b114 : ((d.toNat : Int) == 114) = false := by rw [hd]; rfl
  have b100 : ((d.toNat : Int) == 100) = false := by rw [hd]; rfl
  have b68 : ((d.toNat : Int) == 68) = false := by rw [hd]; rfl
  have b87 : ((d.toNat : Int) == 87) = false := by rw [hd]; rfl
  clear hd
  have HR := Lib.hid (show (_ ∧ st.at_ + 2 ≤ s.size ∧ st.at_ < st.at_ + 2) ∧ _ from ⟨⟨hr, by omega, by omega⟩, hp⟩)
  clear hS hbig hc hn hr hp hlt2
  go_enter Tryd.func73, Tryd.ntmps73
  go_wp2_with (first
    | (refine wpList_alloc_set rfl rfl ?_; intro w1 hb1 hs1 hg1; have H1 := Lib.hid (it_start HS.out hb1 hg1); have c0 := H1.out.psr.c0; have c1 := H1.out.psr.c1; have f1 := H1.out.psr.fr 1; clear hb1 hs1 hg1)
    | (go_at_call 58; refine (HR.out.2 _ ((H1.out.drewN _).next).psr).mono ?_; rintro e w2 ⟨rfl, q, rfl⟩; have H2 := Lib.hid (((H1.out.drewN nq).next).drewN q); have d1 : World.cell? _ _ = some (.int .i64 ((st.at_ : Int) + 1)) := H2.out.psr.c1; have g1 := H2.out.psr.fr 1)
    | (go_at_call 76; refine (family_any RX.wordL false _).mono ?_; rintro e w3 ⟨rfl, hb3⟩; have H3 := Lib.hid ((H2.out.next).below hb3); clear hb3)
    | (refine wpList_store_set rfl _ _ rfl rfl rfl H3.out.set ?_; intro w4 hb4 hs4 hg4; have H4 := Lib.hid (H3.out.store hb4 hg4); clear hb4 hs4 hg4)
    | (go_quiet (fail)))
  have hld := set_result H4.out.set
  refine bodyPost_ret (v := .tuple #[_, _]) ?_ rfl (it_end H4.out HR.out.1.1 HR.out.1.2.1 HR.out.1.2.2)
  simp [results, Tryd.results73, asAddr, Result.andThen, hld, sngV]
set_option maxHeartbeats 2000000 in
set_option maxRecDepth 100000 in
theorem item_87 (bk : Nat) (s : ByteArray) (st : PS) (w : World) (hS : Psr w bk s st) (hbig : s.size ≤ 1000) (d : UInt8) (hc : s.data.toList[st.at_]? = some 92) (hn : s.data.toList[st.at_ + 1]? = some d) (hd : d = 87) : Calls Tryd.prog 73 #[.pointer (some ⟨bk, 0, none⟩)] w (ItemPost w bk s st) := by
  have HS := Lib.hid hS
  have hlt : st.at_ < s.size := by
    have := (List.getElem?_eq_some_iff.1 hc).1
    rw [Array.length_toList] at this
    exact this
  have i0 : (0 : Int) ≤ (st.at_ : Int) := by omega
  have i1 : (st.at_ : Int) < (s.size : Int) := by omega
  have k1 : IntKind.i64.wrap ((st.at_ : Int) + 1) = (st.at_ : Int) + 1 := IntWalk.i64_in _ (by omega)
  have hcs : s[st.at_]'hlt = 92 := Option.some.inj ((byte_at hlt).symm.trans hc)
  have hp := fun (W : World) (h : Psr W bk s (st.to (st.at_ + 1))) => peek_some bk s (st.to (st.at_ + 1)) d W h hn
  have hlt2 : st.at_ + 1 < s.size := by
    have := (List.getElem?_eq_some_iff.1 hn).1
    rw [Array.length_toList] at this
    exact this
  have k2 : IntKind.i64.wrap ((st.at_ : Int) + 1 + 1) = (st.at_ : Int) + 1 + 1 := IntWalk.i64_in _ (by omega)
  have hr : RX.item s.data.toList st.at_ = .ok (RX.family RX.wordL true) none (st.at_ + 2) := by
    unfold RX.item; rw [hc]; simp only; rw [if_neg (by decide), hn]; simp only
    subst hd; rfl
  have b87 : ((d.toNat : Int) == 87) = true := by rw [hd]; rfl
  have b110 : ((d.toNat : Int) == 110) = false := by rw [hd]; rfl
  have b116 : ((d.toNat : Int) == 116) = false := by rw [hd]; rfl
  have b114 : ((d.toNat : Int) == 114) = false := by rw [hd]; rfl
  have b100 : ((d.toNat : Int) == 100) = false := by rw [hd]; rfl
  have b68 : ((d.toNat : Int) == 68) = false := by rw [hd]; rfl
  have b119 : ((d.toNat : Int) == 119) = false := by rw [hd]; rfl
  clear hd
  have HR := Lib.hid (show (_ ∧ st.at_ + 2 ≤ s.size ∧ st.at_ < st.at_ + 2) ∧ _ from ⟨⟨hr, by omega, by omega⟩, hp⟩)
  clear hS hbig hc hn hr hp hlt2
  go_enter Tryd.func73, Tryd.ntmps73
  go_wp2_with (first
    | (refine wpList_alloc_set rfl rfl ?_; intro w1 hb1 hs1 hg1; have H1 := Lib.hid (it_start HS.out hb1 hg1); have c0 := H1.out.psr.c0; have c1 := H1.out.psr.c1; have f1 := H1.out.psr.fr 1; clear hb1 hs1 hg1)
    | (go_at_call 58; refine (HR.out.2 _ ((H1.out.drewN _).next).psr).mono ?_; rintro e w2 ⟨rfl, q, rfl⟩; have H2 := Lib.hid (((H1.out.drewN nq).next).drewN q); have d1 : World.cell? _ _ = some (.int .i64 ((st.at_ : Int) + 1)) := H2.out.psr.c1; have g1 := H2.out.psr.fr 1)
    | (go_at_call 76; refine (family_any RX.wordL true _).mono ?_; rintro e w3 ⟨rfl, hb3⟩; have H3 := Lib.hid ((H2.out.next).below hb3); clear hb3)
    | (refine wpList_store_set rfl _ _ rfl rfl rfl H3.out.set ?_; intro w4 hb4 hs4 hg4; have H4 := Lib.hid (H3.out.store hb4 hg4); clear hb4 hs4 hg4)
    | (go_quiet (fail)))
  have hld := set_result H4.out.set
  refine bodyPost_ret (v := .tuple #[_, _]) ?_ rfl (it_end H4.out HR.out.1.1 HR.out.1.2.1 HR.out.1.2.2)
  simp [results, Tryd.results73, asAddr, Result.andThen, hld, sngV]
set_option maxHeartbeats 2000000 in
set_option maxRecDepth 100000 in
theorem item_115 (bk : Nat) (s : ByteArray) (st : PS) (w : World) (hS : Psr w bk s st) (hbig : s.size ≤ 1000) (d : UInt8) (hc : s.data.toList[st.at_]? = some 92) (hn : s.data.toList[st.at_ + 1]? = some d) (hd : d = 115) : Calls Tryd.prog 73 #[.pointer (some ⟨bk, 0, none⟩)] w (ItemPost w bk s st) := by
  have HS := Lib.hid hS
  have hlt : st.at_ < s.size := by
    have := (List.getElem?_eq_some_iff.1 hc).1
    rw [Array.length_toList] at this
    exact this
  have i0 : (0 : Int) ≤ (st.at_ : Int) := by omega
  have i1 : (st.at_ : Int) < (s.size : Int) := by omega
  have k1 : IntKind.i64.wrap ((st.at_ : Int) + 1) = (st.at_ : Int) + 1 := IntWalk.i64_in _ (by omega)
  have hcs : s[st.at_]'hlt = 92 := Option.some.inj ((byte_at hlt).symm.trans hc)
  have hp := fun (W : World) (h : Psr W bk s (st.to (st.at_ + 1))) => peek_some bk s (st.to (st.at_ + 1)) d W h hn
  have hlt2 : st.at_ + 1 < s.size := by
    have := (List.getElem?_eq_some_iff.1 hn).1
    rw [Array.length_toList] at this
    exact this
  have k2 : IntKind.i64.wrap ((st.at_ : Int) + 1 + 1) = (st.at_ : Int) + 1 + 1 := IntWalk.i64_in _ (by omega)
  have hr : RX.item s.data.toList st.at_ = .ok (RX.family RX.spaceL false) none (st.at_ + 2) := by
    unfold RX.item; rw [hc]; simp only; rw [if_neg (by decide), hn]; simp only
    subst hd; rfl
  have b115 : ((d.toNat : Int) == 115) = true := by rw [hd]; rfl
  have b110 : ((d.toNat : Int) == 110) = false := by rw [hd]; rfl
  have b116 : ((d.toNat : Int) == 116) = false := by rw [hd]; rfl
  have b114 : ((d.toNat : Int) == 114) = false := by rw [hd]; rfl
  have b100 : ((d.toNat : Int) == 100) = false := by rw [hd]; rfl
  have b68 : ((d.toNat : Int) == 68) = false := by rw [hd]; rfl
  have b119 : ((d.toNat : Int) == 119) = false := by rw [hd]; rfl
  have b87 : ((d.toNat : Int) == 87) = false := by rw [hd]; rfl
  have b83 : ((d.toNat : Int) == 83) = false := by rw [hd]; rfl
  clear hd
  have HR := Lib.hid (show (_ ∧ st.at_ + 2 ≤ s.size ∧ st.at_ < st.at_ + 2) ∧ _ from ⟨⟨hr, by omega, by omega⟩, hp⟩)
  clear hS hbig hc hn hr hp hlt2
  go_enter Tryd.func73, Tryd.ntmps73
  go_wp2_with (first
    | (refine wpList_alloc_set rfl rfl ?_; intro w1 hb1 hs1 hg1; have H1 := Lib.hid (it_start HS.out hb1 hg1); have c0 := H1.out.psr.c0; have c1 := H1.out.psr.c1; have f1 := H1.out.psr.fr 1; clear hb1 hs1 hg1)
    | (go_at_call 58; refine (HR.out.2 _ ((H1.out.drewN _).next).psr).mono ?_; rintro e w2 ⟨rfl, q, rfl⟩; have H2 := Lib.hid (((H1.out.drewN nq).next).drewN q); have d1 : World.cell? _ _ = some (.int .i64 ((st.at_ : Int) + 1)) := H2.out.psr.c1; have g1 := H2.out.psr.fr 1)
    | (go_at_call 76; refine (family_any RX.spaceL false _).mono ?_; rintro e w3 ⟨rfl, hb3⟩; have H3 := Lib.hid ((H2.out.next).below hb3); clear hb3)
    | (refine wpList_store_set rfl _ _ rfl rfl rfl H3.out.set ?_; intro w4 hb4 hs4 hg4; have H4 := Lib.hid (H3.out.store hb4 hg4); clear hb4 hs4 hg4)
    | (go_quiet (fail)))
  have hld := set_result H4.out.set
  refine bodyPost_ret (v := .tuple #[_, _]) ?_ rfl (it_end H4.out HR.out.1.1 HR.out.1.2.1 HR.out.1.2.2)
  simp [results, Tryd.results73, asAddr, Result.andThen, hld, sngV]
set_option maxHeartbeats 2000000 in
set_option maxRecDepth 100000 in
theorem item_83 (bk : Nat) (s : ByteArray) (st : PS) (w : World) (hS : Psr w bk s st) (hbig : s.size ≤ 1000) (d : UInt8) (hc : s.data.toList[st.at_]? = some 92) (hn : s.data.toList[st.at_ + 1]? = some d) (hd : d = 83) : Calls Tryd.prog 73 #[.pointer (some ⟨bk, 0, none⟩)] w (ItemPost w bk s st) := by
  have HS := Lib.hid hS
  have hlt : st.at_ < s.size := by
    have := (List.getElem?_eq_some_iff.1 hc).1
    rw [Array.length_toList] at this
    exact this
  have i0 : (0 : Int) ≤ (st.at_ : Int) := by omega
  have i1 : (st.at_ : Int) < (s.size : Int) := by omega
  have k1 : IntKind.i64.wrap ((st.at_ : Int) + 1) = (st.at_ : Int) + 1 := IntWalk.i64_in _ (by omega)
  have hcs : s[st.at_]'hlt = 92 := Option.some.inj ((byte_at hlt).symm.trans hc)
  have hp := fun (W : World) (h : Psr W bk s (st.to (st.at_ + 1))) => peek_some bk s (st.to (st.at_ + 1)) d W h hn
  have hlt2 : st.at_ + 1 < s.size := by
    have := (List.getElem?_eq_some_iff.1 hn).1
    rw [Array.length_toList] at this
    exact this
  have k2 : IntKind.i64.wrap ((st.at_ : Int) + 1 + 1) = (st.at_ : Int) + 1 + 1 := IntWalk.i64_in _ (by omega)
  have hr : RX.item s.data.toList st.at_ = .ok (RX.family RX.spaceL true) none (st.at_ + 2) := by
    unfold RX.item; rw [hc]; simp only; rw [if_neg (by decide), hn]; simp only
    subst hd; rfl
  have b83 : ((d.toNat : Int) == 83) = true := by rw [hd]; rfl
  have b110 : ((d.toNat : Int) == 110) = false := by rw [hd]; rfl
  have b116 : ((d.toNat : Int) == 116) = false := by rw [hd]; rfl
  have b114 : ((d.toNat : Int) == 114) = false := by rw [hd]; rfl
  have b100 : ((d.toNat : Int) == 100) = false := by rw [hd]; rfl
  have b68 : ((d.toNat : Int) == 68) = false := by rw [hd]; rfl
  have b119 : ((d.toNat : Int) == 119) = false := by rw [hd]; rfl
  have b87 : ((d.toNat : Int) == 87) = false := by rw [hd]; rfl
  have b115 : ((d.toNat : Int) == 115) = false := by rw [hd]; rfl
  clear hd
  have HR := Lib.hid (show (_ ∧ st.at_ + 2 ≤ s.size ∧ st.at_ < st.at_ + 2) ∧ _ from ⟨⟨hr, by omega, by omega⟩, hp⟩)
  clear hS hbig hc hn hr hp hlt2
  go_enter Tryd.func73, Tryd.ntmps73
  go_wp2_with (first
    | (refine wpList_alloc_set rfl rfl ?_; intro w1 hb1 hs1 hg1; have H1 := Lib.hid (it_start HS.out hb1 hg1); have c0 := H1.out.psr.c0; have c1 := H1.out.psr.c1; have f1 := H1.out.psr.fr 1; clear hb1 hs1 hg1)
    | (go_at_call 58; refine (HR.out.2 _ ((H1.out.drewN _).next).psr).mono ?_; rintro e w2 ⟨rfl, q, rfl⟩; have H2 := Lib.hid (((H1.out.drewN nq).next).drewN q); have d1 : World.cell? _ _ = some (.int .i64 ((st.at_ : Int) + 1)) := H2.out.psr.c1; have g1 := H2.out.psr.fr 1)
    | (go_at_call 76; refine (family_any RX.spaceL true _).mono ?_; rintro e w3 ⟨rfl, hb3⟩; have H3 := Lib.hid ((H2.out.next).below hb3); clear hb3)
    | (refine wpList_store_set rfl _ _ rfl rfl rfl H3.out.set ?_; intro w4 hb4 hs4 hg4; have H4 := Lib.hid (H3.out.store hb4 hg4); clear hb4 hs4 hg4)
    | (go_quiet (fail)))
  have hld := set_result H4.out.set
  refine bodyPost_ret (v := .tuple #[_, _]) ?_ rfl (it_end H4.out HR.out.1.1 HR.out.1.2.1 HR.out.1.2.2)
  simp [results, Tryd.results73, asAddr, Result.andThen, hld, sngV]
set_option maxHeartbeats 2000000 in
set_option maxRecDepth 100000 in
theorem item_under (bk : Nat) (s : ByteArray) (st : PS) (w : World) (hS : Psr w bk s st) (hbig : s.size ≤ 1000) (d : UInt8) (hc : s.data.toList[st.at_]? = some 92) (hn : s.data.toList[st.at_ + 1]? = some d) (hd : d = 95) : Calls Tryd.prog 73 #[.pointer (some ⟨bk, 0, none⟩)] w (ItemPost w bk s st) := by
  have HS := Lib.hid hS
  have hlt : st.at_ < s.size := by
    have := (List.getElem?_eq_some_iff.1 hc).1
    rw [Array.length_toList] at this
    exact this
  have i0 : (0 : Int) ≤ (st.at_ : Int) := by omega
  have i1 : (st.at_ : Int) < (s.size : Int) := by omega
  have k1 : IntKind.i64.wrap ((st.at_ : Int) + 1) = (st.at_ : Int) + 1 := IntWalk.i64_in _ (by omega)
  have hcs : s[st.at_]'hlt = 92 := Option.some.inj ((byte_at hlt).symm.trans hc)
  have hp := fun (W : World) (h : Psr W bk s (st.to (st.at_ + 1))) => peek_some bk s (st.to (st.at_ + 1)) d W h hn
  have hlt2 : st.at_ + 1 < s.size := by
    have := (List.getElem?_eq_some_iff.1 hn).1
    rw [Array.length_toList] at this
    exact this
  have k2 : IntKind.i64.wrap ((st.at_ : Int) + 1 + 1) = (st.at_ : Int) + 1 + 1 := IntWalk.i64_in _ (by omega)
  have hr : RX.item s.data.toList st.at_ = .ok (RX.only 95) (some 95) (st.at_ + 2) := by
    unfold RX.item; rw [hc]; simp only; rw [if_neg (by decide), hn]; simp only
    subst hd; rfl
  have b95 : ((d.toNat : Int) != 95) = false := by rw [hd]; rfl
  have j1 : ¬ (d.toNat : Int) < 33 := by rw [hd]; decide
  have j2 : ¬ (126 : Int) < (d.toNat : Int) := by rw [hd]; decide
  have hdn : (d.toNat : Int) = 95 := by rw [hd]; rfl
  have b110 : ((d.toNat : Int) == 110) = false := by rw [hd]; rfl
  have b116 : ((d.toNat : Int) == 116) = false := by rw [hd]; rfl
  have b114 : ((d.toNat : Int) == 114) = false := by rw [hd]; rfl
  have b100 : ((d.toNat : Int) == 100) = false := by rw [hd]; rfl
  have b68 : ((d.toNat : Int) == 68) = false := by rw [hd]; rfl
  have b119 : ((d.toNat : Int) == 119) = false := by rw [hd]; rfl
  have b87 : ((d.toNat : Int) == 87) = false := by rw [hd]; rfl
  have b115 : ((d.toNat : Int) == 115) = false := by rw [hd]; rfl
  have b83 : ((d.toNat : Int) == 83) = false := by rw [hd]; rfl
  clear hd
  have HR := Lib.hid (show (_ ∧ st.at_ + 2 ≤ s.size ∧ st.at_ < st.at_ + 2) ∧ _ from ⟨⟨hr, by omega, by omega⟩, hp⟩)
  clear hS hbig hc hn hr hp hlt2
  go_enter Tryd.func73, Tryd.ntmps73
  go_wp2_with (first
    | (refine wpList_alloc_set rfl rfl ?_; intro w1 hb1 hs1 hg1; have H1 := Lib.hid (it_start HS.out hb1 hg1); have c0 := H1.out.psr.c0; have c1 := H1.out.psr.c1; have f1 := H1.out.psr.fr 1; clear hb1 hs1 hg1)
    | (go_at_call 58; refine (HR.out.2 _ ((H1.out.drewN _).next).psr).mono ?_; rintro e w2 ⟨rfl, q, rfl⟩; have H2 := Lib.hid (((H1.out.drewN nq).next).drewN q); have d1 : World.cell? _ _ = some (.int .i64 ((st.at_ : Int) + 1)) := H2.out.psr.c1; have g1 := H2.out.psr.fr 1)
    | (go_at_call 75; refine (only_any 95 _).mono ?_; rintro e w3 ⟨rfl, hb3⟩; have H3 := Lib.hid ((H2.out.next).below hb3); clear hb3)
    | (refine wpList_store_set rfl _ _ rfl rfl rfl H3.out.set ?_; intro w4 hb4 hs4 hg4; have H4 := Lib.hid (H3.out.store hb4 hg4); clear hb4 hs4 hg4)
    | (go_quiet (fail)))
  have hld := set_result H4.out.set
  refine bodyPost_ret (v := .tuple #[_, _]) ?_ rfl (it_end H4.out HR.out.1.1 HR.out.1.2.1 HR.out.1.2.2)
  simp [results, Tryd.results73, asAddr, Result.andThen, hld, sngV]
set_option maxHeartbeats 2000000 in
set_option maxRecDepth 100000 in
theorem item_sign (bk : Nat) (s : ByteArray) (st : PS) (w : World) (hS : Psr w bk s st) (hbig : s.size ≤ 1000) (d : UInt8) (hc : s.data.toList[st.at_]? = some 92) (hn : s.data.toList[st.at_ + 1]? = some d) (hd : d ≠ 110 ∧ d ≠ 116 ∧ d ≠ 114 ∧ d ≠ 100 ∧ d ≠ 68 ∧ d ≠ 119 ∧ d ≠ 87 ∧ d ≠ 115 ∧ d ≠ 83) (hg : ¬ (d.toNat < 33 ∨ 126 < d.toNat ∨ (d ≠ 95 ∧ RX.wordL.contains d = true))) (h95 : d ≠ 95) : Calls Tryd.prog 73 #[.pointer (some ⟨bk, 0, none⟩)] w (ItemPost w bk s st) := by
  have HS := Lib.hid hS
  have hlt : st.at_ < s.size := by
    have := (List.getElem?_eq_some_iff.1 hc).1
    rw [Array.length_toList] at this
    exact this
  have i0 : (0 : Int) ≤ (st.at_ : Int) := by omega
  have i1 : (st.at_ : Int) < (s.size : Int) := by omega
  have k1 : IntKind.i64.wrap ((st.at_ : Int) + 1) = (st.at_ : Int) + 1 := IntWalk.i64_in _ (by omega)
  have hcs : s[st.at_]'hlt = 92 := Option.some.inj ((byte_at hlt).symm.trans hc)
  have hp := fun (W : World) (h : Psr W bk s (st.to (st.at_ + 1))) => peek_some bk s (st.to (st.at_ + 1)) d W h hn
  have hlt2 : st.at_ + 1 < s.size := by
    have := (List.getElem?_eq_some_iff.1 hn).1
    rw [Array.length_toList] at this
    exact this
  have k2 : IntKind.i64.wrap ((st.at_ : Int) + 1 + 1) = (st.at_ : Int) + 1 + 1 := IntWalk.i64_in _ (by omega)
  have hr : RX.item s.data.toList st.at_ = .ok (RX.only d) (some d) (st.at_ + 2) := by
    unfold RX.item; rw [hc]; simp only; rw [if_neg (by decide), hn]; simp only
    have h := hd
    obtain ⟨h1, h2, h3, h4, h5, h6, h7, h8, h9⟩ := h
    rw [if_neg h1, if_neg h2, if_neg h3, if_neg (fun h => h.elim h4 h5), if_neg (fun h => h.elim h6 h7), if_neg (fun h => h.elim h8 h9)]
    exact if_neg hg
  have b110 : ((d.toNat : Int) == 110) = false := byteI hd.1
  have b116 : ((d.toNat : Int) == 116) = false := byteI hd.2.1
  have b114 : ((d.toNat : Int) == 114) = false := byteI hd.2.2.1
  have b100 : ((d.toNat : Int) == 100) = false := byteI hd.2.2.2.1
  have b68 : ((d.toNat : Int) == 68) = false := byteI hd.2.2.2.2.1
  have b119 : ((d.toNat : Int) == 119) = false := byteI hd.2.2.2.2.2.1
  have b87 : ((d.toNat : Int) == 87) = false := byteI hd.2.2.2.2.2.2.1
  have b115 : ((d.toNat : Int) == 115) = false := byteI hd.2.2.2.2.2.2.2.1
  have b83 : ((d.toNat : Int) == 83) = false := byteI hd.2.2.2.2.2.2.2.2
  have j1 : ¬ (d.toNat : Int) < 33 := fun h => hg (.inl (by omega))
  have j2 : ¬ (126 : Int) < (d.toNat : Int) := fun h => hg (.inr (.inl (by omega)))
  have b95 : ((d.toNat : Int) != 95) = true := congrArg (! ·) (byteI (b := 95) h95)
  obtain ⟨z, hz1, hz2⟩ := idx_in RX.wordL d
  have HZ := Lib.hid (show _ ∧ True from ⟨hz1, trivial⟩)
  have iz : ¬ (0 : Int) ≤ z := fun h => hg (.inr (.inr ⟨h95, hz2.1 h⟩))
  clear h95 hz1 hz2
  have w1 : IntKind.i64.wrap (d.toNat : Int) = (d.toNat : Int) := IntWalk.i64_in _ (by have := UInt8.toNat_lt d; omega)
  clear hd hg
  have HR := Lib.hid (show (_ ∧ st.at_ + 2 ≤ s.size ∧ st.at_ < st.at_ + 2) ∧ _ from ⟨⟨hr, by omega, by omega⟩, hp⟩)
  clear hS hbig hc hn hr hp hlt2
  go_enter Tryd.func73, Tryd.ntmps73
  go_wp2_with (first
    | (refine wpList_alloc_set rfl rfl ?_; intro w1 hb1 hs1 hg1; have H1 := Lib.hid (it_start HS.out hb1 hg1); have c0 := H1.out.psr.c0; have c1 := H1.out.psr.c1; have f1 := H1.out.psr.fr 1; clear hb1 hs1 hg1)
    | (go_at_call 58; refine (HR.out.2 _ ((H1.out.drewN _).next).psr).mono ?_; rintro e w2 ⟨rfl, q, rfl⟩; have H2 := Lib.hid (((H1.out.drewN nq).next).drewN q); have d1 : World.cell? _ _ = some (.int .i64 ((st.at_ : Int) + 1)) := H2.out.psr.c1; have g1 := H2.out.psr.fr 1)
    | (go_at_call 75; refine (only_any d _).mono ?_; rintro e w3 ⟨rfl, hb3⟩; have H3 := Lib.hid ((H2.out.next).below hb3); clear hb3)
    | (go_at_call 64; refine (HZ.out.1 _).mono ?_; rintro e wz ⟨rfl, rfl⟩)
    | (refine wpList_store_set rfl _ _ rfl rfl rfl H3.out.set ?_; intro w4 hb4 hs4 hg4; have H4 := Lib.hid (H3.out.store hb4 hg4); clear hb4 hs4 hg4)
    | (go_quiet (fail)))
  have hld := set_result H4.out.set
  refine bodyPost_ret (v := .tuple #[_, _]) ?_ rfl (it_end H4.out HR.out.1.1 HR.out.1.2.1 HR.out.1.2.2)
  simp [results, Tryd.results73, asAddr, Result.andThen, hld, sngV]
set_option maxHeartbeats 2000000 in
set_option maxRecDepth 100000 in
theorem item_low (bk : Nat) (s : ByteArray) (st : PS) (w : World) (hS : Psr w bk s st) (hbig : s.size ≤ 1000) (d : UInt8) (hc : s.data.toList[st.at_]? = some 92) (hn : s.data.toList[st.at_ + 1]? = some d) (hd : d ≠ 110 ∧ d ≠ 116 ∧ d ≠ 114 ∧ d ≠ 100 ∧ d ≠ 68 ∧ d ≠ 119 ∧ d ≠ 87 ∧ d ≠ 115 ∧ d ≠ 83) (hg : d.toNat < 33 ∨ 126 < d.toNat ∨ (d ≠ 95 ∧ RX.wordL.contains d = true)) (h : d.toNat < 33) : Calls Tryd.prog 73 #[.pointer (some ⟨bk, 0, none⟩)] w (ItemPost w bk s st) := by
  have HS := Lib.hid hS
  have hlt : st.at_ < s.size := by
    have := (List.getElem?_eq_some_iff.1 hc).1
    rw [Array.length_toList] at this
    exact this
  have i0 : (0 : Int) ≤ (st.at_ : Int) := by omega
  have i1 : (st.at_ : Int) < (s.size : Int) := by omega
  have k1 : IntKind.i64.wrap ((st.at_ : Int) + 1) = (st.at_ : Int) + 1 := IntWalk.i64_in _ (by omega)
  have hcs : s[st.at_]'hlt = 92 := Option.some.inj ((byte_at hlt).symm.trans hc)
  have hp := fun (W : World) (h : Psr W bk s (st.to (st.at_ + 1))) => peek_some bk s (st.to (st.at_ + 1)) d W h hn
  have hlt2 : st.at_ + 1 < s.size := by
    have := (List.getElem?_eq_some_iff.1 hn).1
    rw [Array.length_toList] at this
    exact this
  have k2 : IntKind.i64.wrap ((st.at_ : Int) + 1 + 1) = (st.at_ : Int) + 1 + 1 := IntWalk.i64_in _ (by omega)
  have hr : RX.item s.data.toList st.at_ = .bad (st.at_ + 1) := by
    unfold RX.item; rw [hc]; simp only; rw [if_neg (by decide), hn]; simp only
    have h := hd
    obtain ⟨h1, h2, h3, h4, h5, h6, h7, h8, h9⟩ := h
    rw [if_neg h1, if_neg h2, if_neg h3, if_neg (fun h => h.elim h4 h5), if_neg (fun h => h.elim h6 h7), if_neg (fun h => h.elim h8 h9)]
    exact if_pos hg
  have b110 : ((d.toNat : Int) == 110) = false := byteI hd.1
  have b116 : ((d.toNat : Int) == 116) = false := byteI hd.2.1
  have b114 : ((d.toNat : Int) == 114) = false := byteI hd.2.2.1
  have b100 : ((d.toNat : Int) == 100) = false := byteI hd.2.2.2.1
  have b68 : ((d.toNat : Int) == 68) = false := byteI hd.2.2.2.2.1
  have b119 : ((d.toNat : Int) == 119) = false := byteI hd.2.2.2.2.2.1
  have b87 : ((d.toNat : Int) == 87) = false := byteI hd.2.2.2.2.2.2.1
  have b115 : ((d.toNat : Int) == 115) = false := byteI hd.2.2.2.2.2.2.2.1
  have b83 : ((d.toNat : Int) == 83) = false := byteI hd.2.2.2.2.2.2.2.2
  have j1 : (d.toNat : Int) < 33 := by omega
  clear h
  have k3 : IntKind.i64.wrap ((st.at_ : Int) + 1 + 1 - 1) = (st.at_ : Int) + 1 := by rw [IntWalk.i64_in _ (by omega)]; omega
  have HR := Lib.hid (show _ ∧ _ from ⟨hr, hp⟩)
  clear hS hbig hc hn hr hp hlt2 hd hg
  go_enter Tryd.func73, Tryd.ntmps73
  go_wp2_with (first
    | (refine wpList_alloc_set rfl rfl ?_; intro w1 hb1 hs1 hg1; have H1 := Lib.hid (it_start HS.out hb1 hg1); have c0 := H1.out.psr.c0; have c1 := H1.out.psr.c1; have f1 := H1.out.psr.fr 1; clear hb1 hs1 hg1)
    | (go_at_call 58; refine (HR.out.2 _ ((H1.out.drewN _).next).psr).mono ?_; rintro e w2 ⟨rfl, q, rfl⟩; have H2 := Lib.hid (((H1.out.drewN nq).next).drewN q); have d1 : World.cell? _ _ = some (.int .i64 ((st.at_ : Int) + 1)) := H2.out.psr.c1; have g1 := H2.out.psr.fr 1)
    | (go_quiet (fail)))
  exact ⟨rfl, it_bad HR.out.1 H2.out.next.grown⟩
set_option maxHeartbeats 2000000 in
set_option maxRecDepth 100000 in
theorem item_high (bk : Nat) (s : ByteArray) (st : PS) (w : World) (hS : Psr w bk s st) (hbig : s.size ≤ 1000) (d : UInt8) (hc : s.data.toList[st.at_]? = some 92) (hn : s.data.toList[st.at_ + 1]? = some d) (hd : d ≠ 110 ∧ d ≠ 116 ∧ d ≠ 114 ∧ d ≠ 100 ∧ d ≠ 68 ∧ d ≠ 119 ∧ d ≠ 87 ∧ d ≠ 115 ∧ d ≠ 83) (hg : d.toNat < 33 ∨ 126 < d.toNat ∨ (d ≠ 95 ∧ RX.wordL.contains d = true)) (h : ¬ d.toNat < 33) (h2 : 126 < d.toNat) : Calls Tryd.prog 73 #[.pointer (some ⟨bk, 0, none⟩)] w (ItemPost w bk s st) := by
  have HS := Lib.hid hS
  have hlt : st.at_ < s.size := by
    have := (List.getElem?_eq_some_iff.1 hc).1
    rw [Array.length_toList] at this
    exact this
  have i0 : (0 : Int) ≤ (st.at_ : Int) := by omega
  have i1 : (st.at_ : Int) < (s.size : Int) := by omega
  have k1 : IntKind.i64.wrap ((st.at_ : Int) + 1) = (st.at_ : Int) + 1 := IntWalk.i64_in _ (by omega)
  have hcs : s[st.at_]'hlt = 92 := Option.some.inj ((byte_at hlt).symm.trans hc)
  have hp := fun (W : World) (h : Psr W bk s (st.to (st.at_ + 1))) => peek_some bk s (st.to (st.at_ + 1)) d W h hn
  have hlt2 : st.at_ + 1 < s.size := by
    have := (List.getElem?_eq_some_iff.1 hn).1
    rw [Array.length_toList] at this
    exact this
  have k2 : IntKind.i64.wrap ((st.at_ : Int) + 1 + 1) = (st.at_ : Int) + 1 + 1 := IntWalk.i64_in _ (by omega)
  have hr : RX.item s.data.toList st.at_ = .bad (st.at_ + 1) := by
    unfold RX.item; rw [hc]; simp only; rw [if_neg (by decide), hn]; simp only
    have h := hd
    obtain ⟨h1, h2, h3, h4, h5, h6, h7, h8, h9⟩ := h
    rw [if_neg h1, if_neg h2, if_neg h3, if_neg (fun h => h.elim h4 h5), if_neg (fun h => h.elim h6 h7), if_neg (fun h => h.elim h8 h9)]
    exact if_pos hg
  have b110 : ((d.toNat : Int) == 110) = false := byteI hd.1
  have b116 : ((d.toNat : Int) == 116) = false := byteI hd.2.1
  have b114 : ((d.toNat : Int) == 114) = false := byteI hd.2.2.1
  have b100 : ((d.toNat : Int) == 100) = false := byteI hd.2.2.2.1
  have b68 : ((d.toNat : Int) == 68) = false := byteI hd.2.2.2.2.1
  have b119 : ((d.toNat : Int) == 119) = false := byteI hd.2.2.2.2.2.1
  have b87 : ((d.toNat : Int) == 87) = false := byteI hd.2.2.2.2.2.2.1
  have b115 : ((d.toNat : Int) == 115) = false := byteI hd.2.2.2.2.2.2.2.1
  have b83 : ((d.toNat : Int) == 83) = false := byteI hd.2.2.2.2.2.2.2.2
  have j1 : ¬ (d.toNat : Int) < 33 := by omega
  have j2 : (126 : Int) < (d.toNat : Int) := by omega
  clear h h2
  have k3 : IntKind.i64.wrap ((st.at_ : Int) + 1 + 1 - 1) = (st.at_ : Int) + 1 := by rw [IntWalk.i64_in _ (by omega)]; omega
  have HR := Lib.hid (show _ ∧ _ from ⟨hr, hp⟩)
  clear hS hbig hc hn hr hp hlt2 hd hg
  go_enter Tryd.func73, Tryd.ntmps73
  go_wp2_with (first
    | (refine wpList_alloc_set rfl rfl ?_; intro w1 hb1 hs1 hg1; have H1 := Lib.hid (it_start HS.out hb1 hg1); have c0 := H1.out.psr.c0; have c1 := H1.out.psr.c1; have f1 := H1.out.psr.fr 1; clear hb1 hs1 hg1)
    | (go_at_call 58; refine (HR.out.2 _ ((H1.out.drewN _).next).psr).mono ?_; rintro e w2 ⟨rfl, q, rfl⟩; have H2 := Lib.hid (((H1.out.drewN nq).next).drewN q); have d1 : World.cell? _ _ = some (.int .i64 ((st.at_ : Int) + 1)) := H2.out.psr.c1; have g1 := H2.out.psr.fr 1)
    | (go_quiet (fail)))
  exact ⟨rfl, it_bad HR.out.1 H2.out.next.grown⟩
set_option maxHeartbeats 2000000 in
set_option maxRecDepth 100000 in
theorem item_word (bk : Nat) (s : ByteArray) (st : PS) (w : World) (hS : Psr w bk s st) (hbig : s.size ≤ 1000) (d : UInt8) (hc : s.data.toList[st.at_]? = some 92) (hn : s.data.toList[st.at_ + 1]? = some d) (hd : d ≠ 110 ∧ d ≠ 116 ∧ d ≠ 114 ∧ d ≠ 100 ∧ d ≠ 68 ∧ d ≠ 119 ∧ d ≠ 87 ∧ d ≠ 115 ∧ d ≠ 83) (hg : d.toNat < 33 ∨ 126 < d.toNat ∨ (d ≠ 95 ∧ RX.wordL.contains d = true)) (h : ¬ d.toNat < 33) (h2 : ¬ 126 < d.toNat) : Calls Tryd.prog 73 #[.pointer (some ⟨bk, 0, none⟩)] w (ItemPost w bk s st) := by
  have HS := Lib.hid hS
  have hlt : st.at_ < s.size := by
    have := (List.getElem?_eq_some_iff.1 hc).1
    rw [Array.length_toList] at this
    exact this
  have i0 : (0 : Int) ≤ (st.at_ : Int) := by omega
  have i1 : (st.at_ : Int) < (s.size : Int) := by omega
  have k1 : IntKind.i64.wrap ((st.at_ : Int) + 1) = (st.at_ : Int) + 1 := IntWalk.i64_in _ (by omega)
  have hcs : s[st.at_]'hlt = 92 := Option.some.inj ((byte_at hlt).symm.trans hc)
  have hp := fun (W : World) (h : Psr W bk s (st.to (st.at_ + 1))) => peek_some bk s (st.to (st.at_ + 1)) d W h hn
  have hlt2 : st.at_ + 1 < s.size := by
    have := (List.getElem?_eq_some_iff.1 hn).1
    rw [Array.length_toList] at this
    exact this
  have k2 : IntKind.i64.wrap ((st.at_ : Int) + 1 + 1) = (st.at_ : Int) + 1 + 1 := IntWalk.i64_in _ (by omega)
  have hr : RX.item s.data.toList st.at_ = .bad (st.at_ + 1) := by
    unfold RX.item; rw [hc]; simp only; rw [if_neg (by decide), hn]; simp only
    have h := hd
    obtain ⟨h1, h2, h3, h4, h5, h6, h7, h8, h9⟩ := h
    rw [if_neg h1, if_neg h2, if_neg h3, if_neg (fun h => h.elim h4 h5), if_neg (fun h => h.elim h6 h7), if_neg (fun h => h.elim h8 h9)]
    exact if_pos hg
  have b110 : ((d.toNat : Int) == 110) = false := byteI hd.1
  have b116 : ((d.toNat : Int) == 116) = false := byteI hd.2.1
  have b114 : ((d.toNat : Int) == 114) = false := byteI hd.2.2.1
  have b100 : ((d.toNat : Int) == 100) = false := byteI hd.2.2.2.1
  have b68 : ((d.toNat : Int) == 68) = false := byteI hd.2.2.2.2.1
  have b119 : ((d.toNat : Int) == 119) = false := byteI hd.2.2.2.2.2.1
  have b87 : ((d.toNat : Int) == 87) = false := byteI hd.2.2.2.2.2.2.1
  have b115 : ((d.toNat : Int) == 115) = false := byteI hd.2.2.2.2.2.2.2.1
  have b83 : ((d.toNat : Int) == 83) = false := byteI hd.2.2.2.2.2.2.2.2
  have j1 : ¬ (d.toNat : Int) < 33 := by omega
  have j2 : ¬ (126 : Int) < (d.toNat : Int) := by omega
  have hw : d ≠ 95 ∧ RX.wordL.contains d = true := (hg.resolve_left h).resolve_left h2
  have b95 : ((d.toNat : Int) != 95) = true := congrArg (! ·) (byteI (b := 95) hw.1)
  obtain ⟨z, hz1, hz2⟩ := idx_in RX.wordL d
  have HZ := Lib.hid (show _ ∧ True from ⟨hz1, trivial⟩)
  have iz : (0 : Int) ≤ z := hz2.2 hw.2
  clear h h2 hw hz1 hz2
  have k3 : IntKind.i64.wrap ((st.at_ : Int) + 1 + 1 - 1) = (st.at_ : Int) + 1 := by rw [IntWalk.i64_in _ (by omega)]; omega
  have HR := Lib.hid (show _ ∧ _ from ⟨hr, hp⟩)
  clear hS hbig hc hn hr hp hlt2 hd hg
  go_enter Tryd.func73, Tryd.ntmps73
  go_wp2_with (first
    | (refine wpList_alloc_set rfl rfl ?_; intro w1 hb1 hs1 hg1; have H1 := Lib.hid (it_start HS.out hb1 hg1); have c0 := H1.out.psr.c0; have c1 := H1.out.psr.c1; have f1 := H1.out.psr.fr 1; clear hb1 hs1 hg1)
    | (go_at_call 58; refine (HR.out.2 _ ((H1.out.drewN _).next).psr).mono ?_; rintro e w2 ⟨rfl, q, rfl⟩; have H2 := Lib.hid (((H1.out.drewN nq).next).drewN q); have d1 : World.cell? _ _ = some (.int .i64 ((st.at_ : Int) + 1)) := H2.out.psr.c1; have g1 := H2.out.psr.fr 1)
    | (go_at_call 64; refine (HZ.out.1 _).mono ?_; rintro e wz ⟨rfl, rfl⟩)
    | (go_quiet (fail)))
  exact ⟨rfl, it_bad HR.out.1 H2.out.next.grown⟩
theorem item_any (bk : Nat) (s : ByteArray) (st : PS) (w : World) (hS : Psr w bk s st) (hbig : s.size ≤ 1000) (c : UInt8) (hc : s.data.toList[st.at_]? = some c) : Calls Tryd.prog 73 #[.pointer (some ⟨bk, 0, none⟩)] w (ItemPost w bk s st) := by
  by_cases h92 : c = 92
  · subst h92
    cases hn : s.data.toList[st.at_ + 1]? with
    | none => exact item_end bk s st w hS hbig hc hn
    | some d =>
      by_cases h110 : d = 110
      · exact item_110 bk s st w hS hbig d hc hn h110
      by_cases h116 : d = 116
      · exact item_116 bk s st w hS hbig d hc hn h116
      by_cases h114 : d = 114
      · exact item_114 bk s st w hS hbig d hc hn h114
      by_cases h100 : d = 100
      · exact item_100 bk s st w hS hbig d hc hn h100
      by_cases h68 : d = 68
      · exact item_68 bk s st w hS hbig d hc hn h68
      by_cases h119 : d = 119
      · exact item_119 bk s st w hS hbig d hc hn h119
      by_cases h87 : d = 87
      · exact item_87 bk s st w hS hbig d hc hn h87
      by_cases h115 : d = 115
      · exact item_115 bk s st w hS hbig d hc hn h115
      by_cases h83 : d = 83
      · exact item_83 bk s st w hS hbig d hc hn h83
      have hd := And.intro h110 (And.intro h116 (And.intro h114 (And.intro h100 (And.intro h68 (And.intro h119 (And.intro h87 (And.intro h115 h83)))))))
      by_cases hg : d.toNat < 33 ∨ 126 < d.toNat ∨ (d ≠ 95 ∧ RX.wordL.contains d = true)
      · by_cases g1 : d.toNat < 33
        · exact item_low bk s st w hS hbig d hc hn hd hg g1
        · by_cases g2 : 126 < d.toNat
          · exact item_high bk s st w hS hbig d hc hn hd hg g1 g2
          · exact item_word bk s st w hS hbig d hc hn hd hg g1 g2
      · by_cases g95 : d = 95
        · exact item_under bk s st w hS hbig d hc hn g95
        · exact item_sign bk s st w hS hbig d hc hn hd hg g95
  · exact item_plain bk s st w hS hbig c hc h92
end Go.Proofs.YtamlnkmcbbeicaaDoor
