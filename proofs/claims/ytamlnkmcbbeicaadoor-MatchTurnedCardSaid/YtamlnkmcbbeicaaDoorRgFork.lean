/- Patterns' machine: fork. -/
import Derived.Test.YtamlnkmcbbeicaaDoorRgPut
namespace Go.Proofs.YtamlnkmcbbeicaaDoor
open Go.RowKit Go.Lib
open RX (PS Tr Pr Stp)

theorem Rgx.there {B rp many g n c : Nat} {W : World} {l1 l2 : List Stp} {x : Stp} (h : Rgx B W rp (.slice (some ⟨g, 0, none⟩) n c) (l1 ++ x :: l2) many) : W.there g (l1.length * 260) 260 := fun j hj => by
  obtain ⟨hn, _⟩ := h.own
  subst hn
  have hlt : l1.length * 260 + j < (l1 ++ x :: l2).length * 260 := by rw [List.length_append, List.length_cons, Nat.add_mul, Nat.succ_mul]; omega
  refine ⟨?_, h.row.frozenAt _⟩
  rw [h.row.cellAt _ hlt, List.getElem?_eq_getElem (by rw [flatMap_length encP_len]; exact hlt)]
  rfl
theorem wpList_store_step {B rp many g n c k : Nat} {w : World} {l1 l2 : List Stp} {z z' : Stp} {ops : Array Oper} {rest : List Oper} {op : Oper} {a : Act} {Q : Exit → Act → World → Prop} (hgd : op.guard = none) (x y : Operand) (ho : op.op = .store 63 x y)
    (hx : a.eval x = .pointer (some ⟨g, k * 260, none⟩)) (hy : a.eval y = .agg (stpV z')) (hk : l1.length = k) (h : Rgx B w rp (.slice (some ⟨g, 0, none⟩) n c) (l1 ++ z :: l2) many)
    (hK : ∀ w', Rgx B w' rp (.slice (some ⟨g, 0, none⟩) n c) (l1 ++ z' :: l2) many → Mch rp (.slice (some ⟨g, 0, none⟩) n c) w (.slice (some ⟨g, 0, none⟩) n c) w' → wpList Tryd.prog ops Q rest (a.put op.dst undef) w') : wpList Tryd.prog ops Q (op :: rest) a w := by
  subst hk
  obtain ⟨h1, h2⟩ := h.step_put z'
  exact wpList_store_mid hgd _ x y ho g (l1.length * 260) _ hx hy (by rw [stpV_size]; exact h.there) (by rw [stpV_size]; exact step_size) (stpV_one _) (hK _ h1 h2)
theorem Rgx.form {B rp many : Nat} {W : World} {a : Value} {l1 l2 : List Stp} {x : Stp} (h : Rgx B W rp a (l1 ++ x :: l2) many) : ∃ g c, a = .slice (some ⟨g, 0, none⟩) (l1 ++ x :: l2).length c ∧ (l1 ++ x :: l2).length ≤ c ∧ c ≤ maxLen := by
  obtain ⟨A, c, rfl, h1, h2⟩ := owns_slice h.row
  obtain ⟨g, rfl, _⟩ := owns_some' h.row (by simp; omega)
  exact ⟨g, c, rfl, h1, h2⟩
set_option maxHeartbeats 4000000 in
set_option maxRecDepth 100000 in
theorem fork_any (B rp many : Nat) (a : Value) (l1 l2 : List Stp) (x : Stp) (on by_ : Nat) (lazy : Bool) (w : World) (h : Rgx B w rp a (l1 ++ x :: l2) many) :
    Calls Tryd.prog 48 #[.pointer (some ⟨rp, 0, none⟩), .int .i64 l1.length, .int .i64 on, .int .i64 by_, .bool lazy] w fun e w' => e = .returned (.tuple #[]) ∧ Rgx B w' rp a (l1 ++ Stp.fork on by_ lazy :: l2) many ∧ Mch rp a w a w' := by
  obtain ⟨g, c, rfl, hc1, hc2⟩ := h.form
  have c0 := h.c0
  have hi0 : (0 : Int) ≤ (l1.length : Int) := by omega
  have hi1 : (l1.length : Int) < ((l1 ++ x :: l2).length : Int) := by simp; omega
  obtain ⟨n, hn⟩ : ∃ n, (l1 ++ x :: l2).length = n := ⟨_, rfl⟩
  obtain ⟨k, hk⟩ : ∃ k, l1.length = k := ⟨_, rfl⟩
  rw [hn] at c0 hi1 h ⊢
  rw [hk] at hi0 hi1 ⊢
  have HH := Lib.hid (show _ ∧ _ from ⟨hk, h⟩)
  clear h hn hk hc1 hc2
  cases lazy with
  | false =>
    go_enter Tryd.func48, Tryd.ntmps48
    go_wp2_with (first
      | (refine wpList_build_step rfl _ rfl [(0, .int .i64 5), (2, .int .i64 on), (3, .int .i64 by_)] rfl (built_fork on by_) ?_)
      | (refine wpList_store_step rfl _ _ rfl rfl rfl HH.out.1 HH.out.2 ?_; intro w2 h2 hb2)
      | fail)
    refine bodyPost_end (v := .tuple #[]) (by simp [results, Tryd.results48, go_sem]) rfl ⟨rfl, h2, hb2⟩
  | true =>
    go_enter Tryd.func48, Tryd.ntmps48
    go_wp2_with (first
      | (refine wpList_build_step rfl _ rfl [(0, .int .i64 5), (2, .int .i64 by_), (3, .int .i64 on)] rfl (built_fork by_ on) ?_)
      | (refine wpList_store_step rfl _ _ rfl rfl rfl HH.out.1 HH.out.2 ?_; intro w2 h2 hb2)
      | fail)
    refine bodyPost_end (v := .tuple #[]) (by simp [results, Tryd.results48, go_sem]) rfl ⟨rfl, h2, hb2⟩
end Go.Proofs.YtamlnkmcbbeicaaDoor
