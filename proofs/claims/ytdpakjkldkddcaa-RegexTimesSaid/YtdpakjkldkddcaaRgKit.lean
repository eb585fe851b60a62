/- Patterns' reader: its cells; bytes looked for in a text; peek, skip, must. -/
import Derived.Test.YtdpakjkldkddcaaG00
import Derived.Test.YtdpakjkldkddcaaGrow
import Derived.Test.YtdpakjkldkddcaaRx3
import Derived.Lib.Bytealg
import Derived.Lib.IndexAny
import Derived.Deep.RegionHeld3
import Derived.BigQuiet
import Derived.LoopN
namespace Go.Proofs.Ytdpakjkldkddcaa
open Go.RowKit Go.Lib
open RX (PS Tr Pr)

theorem idx_any (s : ByteArray) (c : UInt8) (w : World) : Calls Try.prog 36 #[.string s, .int .u8 c.toNat] w fun e w' => e = .returned (.int .i64 (indexByte s.data.toList c)) ∧ w' = w := by
  have hx : ∀ (u : World), (callFunc 46 #[.string s, .int .u8 c.toNat]).run Try.prog u = .ok (.value (.int .i64 (indexByte s.data.toList c))) u := fun u => by
    rw [run_callFunc_extern Try.func46 (by kernel_rfl) (by kernel_rfl) (by kernel_rfl) (e := Extern.BytealgIndexByte.indexByte) (by kernel_rfl), Lib.run_indexByteString]
    simp [Result.andThen]
  go_enter Try.func36, Try.ntmps36
  go_wp2
  go_ret
  exact ⟨rfl, rfl⟩
/-- The reader's cells. -/
def Psr (w : World) (bk : Nat) (s : ByteArray) (st : PS) : Prop := w.heap[bk]? = some (.cells #[.string s, .int .i64 st.at_, .int .i64 st.groups, .int .i64 st.deep, .int .i64 st.deeper] 63 (0, 0))
section
variable {w w' : World} {bk : Nat} {s : ByteArray} {st : PS}
theorem Psr.c0 (h : Psr w bk s st) : w.cell? ⟨bk, 0, none⟩ = some (.string s) := by rw [cell_of_row w bk 0 _ _ (0, 0) h]; rfl
theorem Psr.c1 (h : Psr w bk s st) : w.cell? ⟨bk, 1, none⟩ = some (.int .i64 st.at_) := by rw [cell_of_row w bk 1 _ _ (0, 0) h]; rfl
theorem Psr.c2 (h : Psr w bk s st) : w.cell? ⟨bk, 2, none⟩ = some (.int .i64 st.groups) := by rw [cell_of_row w bk 2 _ _ (0, 0) h]; rfl
theorem Psr.c3 (h : Psr w bk s st) : w.cell? ⟨bk, 3, none⟩ = some (.int .i64 st.deep) := by rw [cell_of_row w bk 3 _ _ (0, 0) h]; rfl
theorem Psr.c4 (h : Psr w bk s st) : w.cell? ⟨bk, 4, none⟩ = some (.int .i64 st.deeper) := by rw [cell_of_row w bk 4 _ _ (0, 0) h]; rfl
theorem Psr.fr (h : Psr w bk s st) (i : Nat) : w.frozen? ⟨bk, i, none⟩ = false := by
  unfold World.frozen?
  rw [show w.heap[bk]? = _ from h]
  rfl
theorem Psr.lt (h : Psr w bk s st) : bk < w.heap.size := (Array.getElem?_eq_some_iff.1 h).1
theorem Psr.set1 (h : Psr w bk s st) (k : Nat) : Psr (w.setCell ⟨bk, 1, none⟩ (.int .i64 k)) bk s { st with at_ := k } := heap_setCell_same w bk 1 _ _ _ h
theorem Psr.set2 (h : Psr w bk s st) (k : Nat) : Psr (w.setCell ⟨bk, 2, none⟩ (.int .i64 k)) bk s { st with groups := k } := heap_setCell_same w bk 2 _ _ _ h
theorem Psr.set3 (h : Psr w bk s st) (k : Nat) : Psr (w.setCell ⟨bk, 3, none⟩ (.int .i64 k)) bk s { st with deep := k } := heap_setCell_same w bk 3 _ _ _ h
theorem Psr.set4 (h : Psr w bk s st) (k : Nat) : Psr (w.setCell ⟨bk, 4, none⟩ (.int .i64 k)) bk s { st with deeper := k } := heap_setCell_same w bk 4 _ _ _ h
theorem Psr.next (h : Psr w bk s st) : Psr (w.setCell ⟨bk, 1, none⟩ (.int .i64 ((st.at_ : Int) + 1))) bk s (st.to (st.at_ + 1)) := by
  have := h.set1 (st.at_ + 1)
  rwa [Int.natCast_add] at this
theorem Psr.drewN (h : Psr w bk s st) (q : Nat) : Psr (w.drewN q) bk s st := h
theorem Psr.grown {S : Nat → Prop} (h : Psr w bk s st) (hg : GrownIn S w w') (hS : ¬ S bk) : Psr w' bk s st := (hg.block bk h.lt hS).trans h
theorem Psr.alloc (h : Psr w bk s st) (o : Obj) : Psr (w.alloc o) bk s st := (heap_alloc_old w o h.lt).trans h
theorem Psr.other (h : Psr w bk s st) {p : Addr} (hp : bk ≠ p.block) (v : Value) : Psr (w.setCell p v) bk s st := (heap_setCell_other w p bk v hp).trans h
end
theorem grownIn_set {S : Nat → Prop} {a w : World} (h : GrownIn S a w) {p : Addr} (hp : S p.block) (u : Value) : GrownIn S a (w.setCell p u) :=
  h.trans (T := S) ⟨rfl, rfl, rfl, by simp, fun k hk hn => heap_setCell_other _ _ _ _ (fun e => hn (by rw [e]; exact hp))⟩ (fun _ _ h => h)
/-- Where it stands, read off. -/
def atOf (w : World) (bk : Nat) : Nat := match w.cell? ⟨bk, 1, none⟩ with
  | some v => (intOf v).toNat
  | none => 0
theorem Psr.at {w : World} {bk : Nat} {s : ByteArray} {st : PS} (h : Psr w bk s st) : atOf w bk = st.at_ := by
  unfold atOf
  rw [h.c1]
  simp [intOf]
/-- A text's byte. -/
theorem byte_at {s : ByteArray} {k : Nat} (h : k < s.size) : s.data.toList[k]? = some (s[k]'h) := by
  rw [List.getElem?_eq_getElem (by rw [Array.length_toList]; exact h)]
  rfl
theorem byte_none {s : ByteArray} {k : Nat} (h : ¬ k < s.size) : s.data.toList[k]? = none := List.getElem?_eq_none (by rw [Array.length_toList]; exact Nat.le_of_not_lt h)
set_option maxHeartbeats 1000000 in
theorem peek_some (bk : Nat) (s : ByteArray) (st : PS) (c : UInt8) (w : World) (hS : Psr w bk s st) (hc : s.data.toList[st.at_]? = some c) :
    Calls Try.prog 31 #[.pointer (some ⟨bk, 0, none⟩)] w fun e w' => e = .returned (.tuple #[.int .u8 c.toNat, .bool true]) ∧ ∃ q, w' = w.drewN q := by
  have c0 := hS.c0
  have c1 := hS.c1
  have hlt : st.at_ < s.size := by
    obtain ⟨h, _⟩ := List.getElem?_eq_some_iff.1 hc
    rw [Array.length_toList] at h
    exact h
  have i0 : (0 : Int) ≤ (st.at_ : Int) := by omega
  have i1 : (st.at_ : Int) < (s.size : Int) := by omega
  obtain rfl : s[st.at_]'hlt = c := Option.some.inj ((byte_at hlt).symm.trans hc)
  clear hc hS
  go_enter Try.func31, Try.ntmps31
  go_wp2_with (go_quiet (fail))
  refine bodyPost_ret (v := .tuple #[_, _]) ?_ rfl ⟨rfl, _, by first | rfl | exact World.drewN_drewN _ _ _⟩
  simp [results, Try.results31, go_sem]
set_option maxHeartbeats 1000000 in
theorem peek_none (bk : Nat) (s : ByteArray) (st : PS) (w : World) (hS : Psr w bk s st) (hc : s.data.toList[st.at_]? = none) :
    Calls Try.prog 31 #[.pointer (some ⟨bk, 0, none⟩)] w fun e w' => e = .returned (.tuple #[.int .u8 0, .bool false]) ∧ ∃ q, w' = w.drewN q := by
  have c0 := hS.c0
  have c1 := hS.c1
  have i1 : ¬ (st.at_ : Int) < (s.size : Int) := by
    have := List.getElem?_eq_none_iff.1 hc
    rw [Array.length_toList] at this
    have : s.size ≤ st.at_ := this
    omega
  clear hc hS
  go_enter Try.func31, Try.ntmps31
  go_wp2_with (go_quiet (fail))
  refine bodyPost_ret (v := .tuple #[_, _]) ?_ rfl ⟨rfl, _, by first | rfl | exact World.drewN_drewN _ _ _⟩
  simp [results, Try.results31, go_sem]
/-- What skip does. -/
def SkipPost (w : World) (bk : Nat) (s : ByteArray) (st : PS) (c : UInt8) (e : Ending) (w' : World) : Prop :=
  (s.data.toList[st.at_]? = some c ∧ e = .returned (.bool true) ∧ Psr w' bk s (st.to (st.at_ + 1)) ∧ w'.heap.size = w.heap.size ∧ GrownIn (fun b => b = bk) w w') ∨
  (s.data.toList[st.at_]? ≠ some c ∧ e = .returned (.bool false) ∧ ∃ q, w' = w.drewN q)
set_option maxHeartbeats 1000000 in
theorem skip_any (bk : Nat) (s : ByteArray) (st : PS) (c : UInt8) (w : World) (hS : Psr w bk s st) (hbig : st.at_ ≤ 1000000) :
    Calls Try.prog 27 #[.pointer (some ⟨bk, 0, none⟩), .int .u8 c.toNat] w (SkipPost w bk s st c) := by
  cases hc : s.data.toList[st.at_]? with
  | none =>
    have HP := Lib.hid (show _ ∧ _ from ⟨peek_none bk s st w hS hc, hc⟩)
    clear hS
    go_enter Try.func27, Try.ntmps27
    go_wp2_with (go_at_call 31; refine HP.out.1.mono ?_; rintro e w1 ⟨rfl, q, rfl⟩)
    go_ret
    exact .inr ⟨by rw [HP.out.2]; simp, rfl, _, rfl⟩
  | some d =>
    have HP := Lib.hid (show _ ∧ _ ∧ _ from ⟨peek_some bk s st d w hS hc, hc, hS⟩)
    have c1 := hS.c1
    have f1 := hS.fr 1
    have k1 : IntKind.i64.wrap ((st.at_ : Int) + 1) = (st.at_ : Int) + 1 := IntWalk.i64_in _ (by omega)
    clear hS hc
    by_cases h : d = c
    · subst h
      go_enter Try.func27, Try.ntmps27
      go_wp2_with (go_at_call 31; refine HP.out.1.mono ?_; rintro e w1 ⟨rfl, q, rfl⟩)
      go_ret
      exact .inl ⟨HP.out.2.1, rfl, (HP.out.2.2.drewN q).next, by simp, grownIn_set (S := fun b => b = bk) (p := ⟨bk, 1, none⟩) ((GrownIn.refl _ w).drewN q) rfl _⟩
    · have hb : ((d.toNat : Int) == (c.toNat : Int)) = false := by
        rw [beq_eq_false_iff_ne]
        exact fun e => h (UInt8.toNat_inj.1 (by omega))
      have HN := Lib.hid h
      clear h
      go_enter Try.func27, Try.ntmps27
      go_wp2_with (go_at_call 31; refine HP.out.1.mono ?_; rintro e w1 ⟨rfl, q, rfl⟩)
      go_ret
      exact .inr ⟨by rw [HP.out.2.1]; exact fun e => HN.out (Option.some.inj e), rfl, _, rfl⟩
/-- The reader gives up. -/
def badV (a : Nat) : Value := .iface 59 (.agg #[.int .i64 a])
def MustPost (w : World) (bk : Nat) (s : ByteArray) (st : PS) (c : UInt8) (e : Ending) (w' : World) : Prop :=
  (s.data.toList[st.at_]? = some c ∧ e = .returned (.tuple #[]) ∧ Psr w' bk s (st.to (st.at_ + 1)) ∧ w'.heap.size = w.heap.size ∧ GrownIn (fun b => b = bk) w w') ∨
  (s.data.toList[st.at_]? ≠ some c ∧ e = .panicked [{ v := badV st.at_, recovered := false }] ∧ ∃ q, w' = w.drewN q)
set_option maxHeartbeats 1000000 in
theorem must_any (bk : Nat) (s : ByteArray) (st : PS) (c : UInt8) (w : World) (hS : Psr w bk s st) (hbig : st.at_ ≤ 1000000) :
    Calls Try.prog 38 #[.pointer (some ⟨bk, 0, none⟩), .int .u8 c.toNat] w (MustPost w bk s st c) := by
  have HP := Lib.hid (show _ ∧ _ from ⟨skip_any bk s st c w hS hbig, hS⟩)
  clear hS
  go_enter Try.func38, Try.ntmps38
  go_wp2_with fail
  refine HP.out.1.mono ?_
  rintro e w1 (⟨h1, rfl, h2, h3, h4⟩ | ⟨h1, rfl, q, rfl⟩)
  · have H := Lib.hid (show _ ∧ _ ∧ _ ∧ _ from ⟨h1, h2, h3, h4⟩)
    clear h1 h2 h3 h4
    go_wp2
    go_end0
    exact .inl ⟨H.out.1, rfl, H.out.2.1, H.out.2.2.1, H.out.2.2.2⟩
  · have c1 := (HP.out.2.drewN q).c1
    have H := Lib.hid h1
    clear h1
    go_wp2
    exact ⟨rfl, .inr ⟨H.out, rfl, _, rfl⟩⟩
end Go.Proofs.Ytdpakjkldkddcaa
