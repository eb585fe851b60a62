/- cmp.Compare at uint32, and the closure by which compact.Plan sorts a group: as the blocks' numbers are. -/
import Derived.Test.YtglafbfbgjihbaaSteps
import Derived.Test.YtglafbfbgjihbaaLst
import Derived.Test.YtglafbfbgjihbaaStabIntD
namespace Go.Proofs.Ytglafbfbgjihbaa
open Go.RowKit Go.Lib Go.Sort

/-- A block's meta. -/
structure Mt where
  id : Int
  frm : Int
  upto : Int
  many : Int
  level : Int
def Mt.cells (m : Mt) : List Value := [.int .u32 m.id, .int .i64 m.frm, .int .i64 m.upto, .int .i64 m.many, .int .i64 m.level]
/-- Its numbers fit their kinds. -/
def Mt.ok (m : Mt) : Prop := 0 ≤ m.id ∧ m.id < 4294967296 ∧ (Lit.int .i64 m.level).wf = true

theorem sortWorld_other {α : Type} [Inhabited α] (enc : α → Value) (w : World) (blk off m : Nat) (dk : Array α) (os : Array Obj) (a : Addr) (h : a.block ≠ blk) (hlt : a.block < w.heap.size) : (sortWorld enc w blk off m dk os).cell? a = w.cell? a := by
  unfold sortWorld
  rw [cell?_grow _ _ _ (by rw [size_putRow]; exact hlt), cell?_putRow_other enc _ blk off dk a (Or.inl h)]
  rfl

theorem compare_u32 (x y : Int) (w : World) : Calls Try.prog 32 #[.int .u32 x, .int .u32 y] w fun e w' => e = .returned (.int .i64 (Lib.compareInt x y)) ∧ w' = w := by
  have nx : (x != x) = false := by simp
  have ny : (y != y) = false := by simp
  unfold Lib.compareInt
  by_cases h1 : x < y
  · rw [if_pos h1]
    go_enter Try.func32, Try.ntmps32
    go_wp2
    go_ret
    exact ⟨rfl, rfl⟩
  · rw [if_neg h1]
    by_cases h2 : y < x
    · rw [if_pos h2]
      go_enter Try.func32, Try.ntmps32
      go_wp2
      go_ret
      exact ⟨rfl, rfl⟩
    · rw [if_neg h2]
      go_enter Try.func32, Try.ntmps32
      go_wp2
      go_ret
      exact ⟨rfl, rfl⟩

set_option maxHeartbeats 1000000 in
set_option maxRecDepth 100000 in
theorem planCmp_any (B b off n c i j : Nat) (x y : Int) (w : World) (hbox : w.cell? ⟨B, 0, none⟩ = some (.slice (some ⟨b, off, none⟩) n c)) (hi : i < n) (hj : j < n) (hx : w.cell? ⟨b, off + i * 5, none⟩ = some (.int .u32 x)) (hy : w.cell? ⟨b, off + j * 5, none⟩ = some (.int .u32 y)) :
    Calls Try.prog 31 #[.int .i64 i, .int .i64 j, .pointer (some ⟨B, 0, none⟩)] w fun e w' => e = .returned (.int .i64 (Lib.compareInt x y)) ∧ ∃ q, w' = w.drewN q := by
  have i0 : (0 : Int) ≤ (i : Int) := by omega
  have i1 : (i : Int) < (n : Int) := by omega
  have j0 : (0 : Int) ≤ (j : Int) := by omega
  have j1 : (j : Int) < (n : Int) := by omega
  go_enter Try.func31, Try.ntmps31
  go_wp2_with fail
  go_quiet ((go_at_call 32; exact Calls.quiet_of_same (compare_u32 _ _ _)))
  go_wp2
  go_ret
  exact ⟨rfl, _, rfl⟩

/-- How a place in a list of n stands as a value. -/
def encFin (n : Nat) (k : Fin n) : Value := .int .i64 (k.val : Int)
def cmpFin (l : List Mt) (n : Nat) (x y : Fin n) : Int := Lib.compareInt ((l[x.val]?.map (·.id)).getD 0) ((l[y.val]?.map (·.id)).getD 0)
theorem lt_compare (x y : Int) : decide (Lib.compareInt x y < 0) = decide (x < y) := by
  unfold Lib.compareInt
  by_cases h1 : x < y
  · simp [h1]
  · by_cases h2 : y < x <;> simp [h1, h2]
theorem swo_fin (l : List Mt) (n : Nat) : SWO (ltOf (cmpFin l n)) where
  irrefl x := by unfold ltOf cmpFin; rw [lt_compare]; simp
  trans x y z h1 h2 := by unfold ltOf cmpFin at *; rw [lt_compare] at *; simp at *; omega
  ntrans x y z h1 h2 := by unfold ltOf cmpFin at *; rw [lt_compare] at *; simp at *; omega
theorem planCmp_lays (B b off n c : Nat) (l : List Mt) (hl : l.length = n) (hn : 0 < n) (w : World) (blk ro size : Nat) (hbox : w.cell? ⟨B, 0, none⟩ = some (.slice (some ⟨b, off, none⟩) n c)) (hB : B ≠ blk) (hb : b ≠ blk) (hBl : B < w.heap.size) (hbl : b < w.heap.size)
    (hc : ∀ k x, l[k]? = some x → ∀ i u, x.cells[i]? = some u → w.cell? ⟨b, off + k * 5 + i, none⟩ = some u) :
    letI : Inhabited (Fin n) := ⟨⟨0, hn⟩⟩
    CmpLays1 Try.prog 31 #[.pointer (some ⟨B, 0, none⟩)] (encFin n) (cmpFin l n) blk ro size w := by
  intro m os dk hs x y
  have hx : x.val < l.length := by have := x.isLt; omega
  have hy : y.val < l.length := by have := y.isLt; omega
  letI : Inhabited (Fin n) := ⟨⟨0, hn⟩⟩
  refine (planCmp_any B b off n c x.val y.val (l[x.val]).id (l[y.val]).id _ ?_ x.isLt y.isLt ?_ ?_).mono ?_
  · rw [sortWorld_other _ _ _ _ _ _ _ _ hB hBl]; exact hbox
  · rw [sortWorld_other _ _ _ _ _ _ _ _ hb hbl]; exact hc x.val _ (List.getElem?_eq_getElem hx) 0 _ rfl
  · rw [sortWorld_other _ _ _ _ _ _ _ _ hb hbl]; exact hc y.val _ (List.getElem?_eq_getElem hy) 0 _ rfl
  · rintro e w' ⟨rfl, q, rfl⟩
    refine ⟨by simp [cmpFin, hx, hy], q, #[], (grow_empty _).symm⟩
end Go.Proofs.Ytglafbfbgjihbaa
