/- Patterns' reader: what is caught. -/
import Derived.Test.YtamlnkmcbbeicaaDoorRgSts2
import Derived.Defers
import Derived.Recover
namespace Go.Proofs.YtamlnkmcbbeicaaDoor
open Go.RowKit Go.Lib
open RX (PS Tr Pr)

theorem bad_assert (a : Nat) (w : World) : (Instr.typeAssert (.iface 77 (.agg #[.int .i64 a])) 20 77 true).run Tryd.prog w = .ok (.tuple #[.agg #[.int .i64 a], .bool true]) w := by kernel_rfl
set_option maxHeartbeats 4000000 in
set_option maxRecDepth 100000 in
theorem catch_panicking (b2 b4 b5 a : Nat) (x2 : Value) (x4 x5 : Int) (w : World) (h2 : w.heap[b2]? = some (.cells #[x2] 52 (0, 0))) (h4 : w.heap[b4]? = some (.cells #[.int .u16 x4] 26 (0, 0))) (h5 : w.heap[b5]? = some (.cells #[.int .i64 x5] 3 (0, 0))) (n24 : b2 ≠ b4) (n25 : b2 ≠ b5) (n45 : b4 ≠ b5) :
    CallsD Tryd.prog 36 #[.pointer (some ⟨b2, 0, none⟩), .pointer (some ⟨b4, 0, none⟩), .pointer (some ⟨b5, 0, none⟩)] (.panicking [{ v := badV a, recovered := false }]) w fun e u' w' =>
      e = .returned (.tuple #[]) ∧ u' = .panicking [{ v := badV a, recovered := true }] ∧ w'.cell? ⟨b2, 0, none⟩ = some .nilIface ∧ w'.cell? ⟨b4, 0, none⟩ = some (.int .u16 80) ∧ w'.cell? ⟨b5, 0, none⟩ = some (.int .i64 a) ∧ GrownIn (fun b => b = b2 ∨ b = b4 ∨ b = b5) w w' := by
  refine callsD_of_wpS Tryd.func36 rfl fun c₀ cs hu => ?_
  apply wpS_seq
  apply wpS_region
  simp [wpOpsS, go_sem, recoverD, hu, Tryd.ntmps36, Exit.thenS]
  have c2 : w.cell? ⟨b2, 0, none⟩ = some x2 := by rw [cell_of_row w b2 0 _ _ (0, 0) h2]; rfl
  have c4 : w.cell? ⟨b4, 0, none⟩ = some (.int .u16 x4) := by rw [cell_of_row w b4 0 _ _ (0, 0) h4]; rfl
  have c5 : w.cell? ⟨b5, 0, none⟩ = some (.int .i64 x5) := by rw [cell_of_row w b5 0 _ _ (0, 0) h5]; rfl
  have f2 : w.frozen? ⟨b2, 0, none⟩ = false := by unfold World.frozen?; rw [h2]; rfl
  have f4 : w.frozen? ⟨b4, 0, none⟩ = false := by unfold World.frozen?; rw [h4]; rfl
  have f5 : w.frozen? ⟨b5, 0, none⟩ = false := by unfold World.frozen?; rw [h5]; rfl
  have HH := Lib.hid (show _ ∧ _ ∧ _ from ⟨h2, h4, h5⟩)
  have HU := Lib.hid hu
  clear h2 h4 h5 hu
  refine wpS_of_wp ?_
  refine Code.wp_mono (Q := fun e a' w' => e = .normal ∧ a'.defers = [] ∧ w'.cell? ⟨b2, 0, none⟩ = some .nilIface ∧ w'.cell? ⟨b4, 0, none⟩ = some (.int .u16 80) ∧ w'.cell? ⟨b5, 0, none⟩ = some (.int .i64 a) ∧ GrownIn (fun b => b = b2 ∨ b = b4 ∨ b = b5) w w') (fun e a' w' ⟨he, hd, hr⟩ => ?_) ?_
  · subst he
    refine ⟨hd, .panicking [{ v := badV a, recovered := true }], ?_, .tuple #[], by simp [results, Tryd.results36], rfl, rfl, hr⟩
    rfl
  · unfold badV
    have hta := fun W => bad_assert a W
    have ht : (#[Value.pointer (some ⟨b2, 0, none⟩), .pointer (some ⟨b4, 0, none⟩), .pointer (some ⟨b5, 0, none⟩)] ++ ((Array.replicate 16 undef).setIfInBounds 3 (Value.iface 77 (.agg #[.int .i64 a]))).setIfInBounds 0 (Value.iface 77 (.agg #[.int .i64 a])) : Array Value) =
        #[.pointer (some ⟨b2, 0, none⟩), .pointer (some ⟨b4, 0, none⟩), .pointer (some ⟨b5, 0, none⟩), .iface 77 (.agg #[.int .i64 a]), undef, undef, .iface 77 (.agg #[.int .i64 a]), undef, undef, undef, undef, undef, undef, undef, undef, undef, undef, undef, undef] := rfl
    rw [ht]
    clear ht
    go_wp2_with fail
    have hb : Below w.heap.size w (w.alloc (.cells #[.int .i64 a] 77)) := (Below.refl _ _).alloc (Nat.le_refl _) _
    have e0 : (w.alloc (.cells #[.int .i64 a] 77)).cell? ⟨w.heap.size, 0, none⟩ = some (.int .i64 a) := by rw [cell_of_row _ w.heap.size 0 _ _ (0, 0) (heap_alloc_new _ _)]; rfl
    have l2 : b2 < w.heap.size := (Array.getElem?_eq_some_iff.1 HH.out.1).1
    have l4 : b4 < w.heap.size := (Array.getElem?_eq_some_iff.1 HH.out.2.1).1
    have l5 : b5 < w.heap.size := (Array.getElem?_eq_some_iff.1 HH.out.2.2).1
    have HB := Lib.hid (show _ ∧ _ ∧ _ ∧ _ from ⟨hb, (hb.block b2 l2).trans HH.out.1, (hb.block b4 l4).trans HH.out.2.1, (hb.block b5 l5).trans HH.out.2.2⟩)
    clear c2 c4 c5 f2 f4 f5 hta hb
    generalize w.alloc (.cells #[.int .i64 a] 77) = W1 at HB e0 ⊢
    have c2 : W1.cell? ⟨b2, 0, none⟩ = some x2 := by rw [cell_of_row W1 b2 0 _ _ (0, 0) HB.out.2.1]; rfl
    have c4 : W1.cell? ⟨b4, 0, none⟩ = some (.int .u16 x4) := by rw [cell_of_row W1 b4 0 _ _ (0, 0) HB.out.2.2.1]; rfl
    have c5 : W1.cell? ⟨b5, 0, none⟩ = some (.int .i64 x5) := by rw [cell_of_row W1 b5 0 _ _ (0, 0) HB.out.2.2.2]; rfl
    have f2 : W1.frozen? ⟨b2, 0, none⟩ = false := by unfold World.frozen?; rw [HB.out.2.1]; rfl
    have f4 : W1.frozen? ⟨b4, 0, none⟩ = false := by unfold World.frozen?; rw [HB.out.2.2.1]; rfl
    have f5 : W1.frozen? ⟨b5, 0, none⟩ = false := by unfold World.frozen?; rw [HB.out.2.2.2]; rfl
    have m2 : b2 ≠ w.heap.size := by omega
    have m4 : b4 ≠ w.heap.size := by omega
    have m5 : b5 ≠ w.heap.size := by omega
    clear l2 l4 l5
    go_region
    have p24 : (⟨b4, 0, none⟩ : Addr) ≠ ⟨b2, 0, none⟩ := fun e => n24 (by injection e with e _ _; exact e.symm)
    have p25 : (⟨b5, 0, none⟩ : Addr) ≠ ⟨b2, 0, none⟩ := fun e => n25 (by injection e with e _ _; exact e.symm)
    have p45 : (⟨b5, 0, none⟩ : Addr) ≠ ⟨b4, 0, none⟩ := fun e => n45 (by injection e with e _ _; exact e.symm)
    have p42 : (⟨b2, 0, none⟩ : Addr) ≠ ⟨b4, 0, none⟩ := fun e => p24 e.symm
    have p52 : (⟨b2, 0, none⟩ : Addr) ≠ ⟨b5, 0, none⟩ := fun e => p25 e.symm
    have p54 : (⟨b4, 0, none⟩ : Addr) ≠ ⟨b5, 0, none⟩ := fun e => p45 e.symm
    refine ⟨rfl, rfl, ?_, ?_, ?_, ?_⟩
    · show ((((W1.setCell ⟨b2, 0, none⟩ .nilIface).setCell ⟨b4, 0, none⟩ (.int .u16 80)).setCell ⟨b5, 0, none⟩ (.int .i64 a))).cell? ⟨b2, 0, none⟩ = _
      rw [World.cell?_setCell_other _ _ _ _ p25, World.cell?_setCell_other _ _ _ _ p24, World.cell?_setCell_same _ _ _ c2]
    · show ((((W1.setCell ⟨b2, 0, none⟩ .nilIface).setCell ⟨b4, 0, none⟩ (.int .u16 80)).setCell ⟨b5, 0, none⟩ (.int .i64 a))).cell? ⟨b4, 0, none⟩ = _
      rw [World.cell?_setCell_other _ _ _ _ p45]
      exact World.cell?_setCell_same _ _ _ (u := .int .u16 x4) (by rw [World.cell?_setCell_other _ _ _ _ p42]; exact c4)
    · show ((((W1.setCell ⟨b2, 0, none⟩ .nilIface).setCell ⟨b4, 0, none⟩ (.int .u16 80)).setCell ⟨b5, 0, none⟩ (.int .i64 a))).cell? ⟨b5, 0, none⟩ = _
      exact World.cell?_setCell_same _ _ _ (u := .int .i64 x5) (by rw [World.cell?_setCell_other _ _ _ _ p54, World.cell?_setCell_other _ _ _ _ p52]; exact c5)
    · exact ((grownIn_set (S := fun b => b = b2 ∨ b = b4 ∨ b = b5) (p := ⟨b5, 0, none⟩) (grownIn_set (S := fun b => b = b2 ∨ b = b4 ∨ b = b5) (p := ⟨b4, 0, none⟩) (grownIn_set (S := fun b => b = b2 ∨ b = b4 ∨ b = b5) (p := ⟨b2, 0, none⟩) ((GrownIn.of_below HB.out.1).mono (fun k hk h => by omega)) (.inl rfl) _) (.inr (.inl rfl)) _) (.inr (.inr rfl)) _).drewN 1)
set_option maxHeartbeats 1000000 in
set_option maxRecDepth 100000 in
theorem catch_idle (p2 p4 p5 : Value) (w : World) :
    CallsD Tryd.prog 36 #[p2, p4, p5] .returning w fun e u' w' => e = .returned (.tuple #[]) ∧ u' = .returning ∧ w' = w := by
  refine callsD_of_wpS Tryd.func36 rfl fun c₀ cs hu => ?_
  apply wpS_seq
  apply wpS_region
  simp [wpOpsS, go_sem, recoverD, hu, Tryd.ntmps36, Exit.thenS]
  refine wpS_of_wp ?_
  have ht : (#[p2, p4, p5] ++ ((Array.replicate 16 undef).setIfInBounds 3 Value.nilIface).setIfInBounds 0 Value.nilIface : Array Value) = #[p2, p4, p5, .nilIface, undef, undef, .nilIface, undef, undef, undef, undef, undef, undef, undef, undef, undef, undef, undef, undef] := rfl
  rw [ht]
  clear ht
  refine Code.wp_mono (Q := fun e a' w' => e = .normal ∧ a'.defers = [] ∧ w' = w) (fun e a' w' ⟨he, hd, hr⟩ => ?_) ?_
  · subst he
    refine ⟨hd, .returning, ?_, .tuple #[], by simp [results, Tryd.results36], rfl, rfl, hr⟩
    cases c₀
    first | rfl | simp_all
  · go_wp2_with fail
end Go.Proofs.YtamlnkmcbbeicaaDoor
