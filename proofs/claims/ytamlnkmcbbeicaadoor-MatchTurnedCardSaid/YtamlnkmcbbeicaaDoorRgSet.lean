/- Patterns: sets of bytes: only. -/
import Derived.Test.YtamlnkmcbbeicaaDoorRgNum
import Derived.Deep.WholeRow
import Derived.Deep.MidRow
import Derived.Laws.ResultCell
namespace Go.Proofs.YtamlnkmcbbeicaaDoor
open Go.RowKit Go.Lib
open RX (PS Tr Pr)

/-- A set's cells. -/
def setV (p : Nat → Bool) : Array Value := ((List.range 256).map fun i => Value.bool (p i)).toArray
theorem setV_size (p : Nat → Bool) : (setV p).size = 256 := by simp [setV]
theorem setV_get (p : Nat → Bool) {i : Nat} (hi : i < 256) : (setV p)[i]? = some (.bool (p i)) := by
  unfold setV
  rw [List.getElem?_toArray, List.getElem?_map, List.getElem?_range hi]; rfl
theorem setV_one (p : Nat → Bool) : (setV p).all (·.oneCell') = true := by
  unfold setV
  simp [Value.oneCell']
theorem setV_congr {p q : Nat → Bool} (h : ∀ i, i < 256 → p i = q i) : setV p = setV q := by
  unfold setV
  congr 1
  apply List.map_congr_left
  intro i hi
  rw [h i (List.mem_range.1 hi)]
theorem setV_set (p : Nat → Bool) {k : Nat} (hk : k < 256) (b : Bool) : (setV p).setIfInBounds k (.bool b) = setV (fun i => if i = k then b else p i) := by
  apply Array.ext_getElem?
  intro i
  rw [Array.getElem?_setIfInBounds]
  by_cases hi : i < 256
  · rw [setV_get _ hi, setV_size]
    by_cases e : k = i
    · subst e; rw [if_pos rfl, if_pos hk, setV_get _ hi, if_pos rfl]
    · rw [if_neg e, setV_get _ hi, if_neg (fun h => e h.symm)]
  · rw [Array.getElem?_eq_none (by rw [setV_size]; omega), Array.getElem?_eq_none (by rw [setV_size]; omega)]
    split <;> (try split) <;> first | rfl | (exfalso; omega)
theorem Tryd.setInfo : (Tryd.prog.info? 61).map (fun i => (i.zero, i.size)) = some (some (.agg (setV fun _ => false)), 256) := by kernel_rfl
theorem set_zero (w : World) : (zeroValue 61).run Tryd.prog w = .ok (.agg (setV fun _ => false)) w := (zero_of_info Tryd.setInfo).1 w
theorem set_size : (Tryd.prog.info? 61).map (·.size) = some 256 := (zero_of_info Tryd.setInfo).2
def SetB (w : World) (b : Nat) (p : Nat → Bool) : Prop := w.heap[b]? = some (.cells (setV p) 61 (0, 0))
section
variable {w w' : World} {b : Nat} {p q : Nat → Bool}
theorem SetB.cell (h : SetB w b p) {i : Nat} (hi : i < 256) : w.cell? ⟨b, i, none⟩ = some (.bool (p i)) := by rw [cell_of_row w b i _ _ (0, 0) h]; exact setV_get p hi
theorem SetB.fr (h : SetB w b p) (i : Nat) : w.frozen? ⟨b, i, none⟩ = false := by
  unfold World.frozen?
  rw [show w.heap[b]? = _ from h]
  rfl
theorem SetB.lt (h : SetB w b p) : b < w.heap.size := (Array.getElem?_eq_some_iff.1 h).1
theorem SetB.grown {S : Nat → Prop} (h : SetB w b p) (hg : GrownIn S w w') (hS : ¬ S b) : SetB w' b p := (hg.block b h.lt hS).trans h
theorem SetB.alloc (h : SetB w b p) (o : Obj) : SetB (w.alloc o) b p := (heap_alloc_old w o h.lt).trans h
theorem SetB.drewN (h : SetB w b p) (n : Nat) : SetB (w.drewN n) b p := h
theorem SetB.other (h : SetB w b p) {a : Addr} (ha : b ≠ a.block) (v : Value) : SetB (w.setCell a v) b p := (heap_setCell_other w a b v ha).trans h
theorem SetB.set (h : SetB w b p) {i : Nat} (hi : i < 256) (v : Bool) : SetB (w.setCell ⟨b, i, none⟩ (.bool v)) b (fun j => if j = i then v else p j) := by
  have := heap_setCell_same w b i _ _ (.bool v) h
  rw [setV_set p hi] at this
  exact this
theorem SetB.new (w : World) (p : Nat → Bool) : SetB (w.alloc (.cells (setV p) 61)) w.heap.size p := heap_alloc_new w _
theorem SetB.congr (h : SetB w b p) (hp : ∀ i, i < 256 → p i = q i) : SetB w b q := by unfold SetB; rw [← setV_congr hp]; exact h
/-- A set is read whole. -/
theorem wpList_load_set {ops : Array Oper} {rest : List Oper} {op : Oper} {a : Act} {Q : Exit → Act → World → Prop} (hgd : op.guard = none) (x : Operand) (ho : op.op = .load 61 x)
    (hx : a.eval x = .pointer (some ⟨b, 0, none⟩)) (hb : SetB w b p) (h : wpList Tryd.prog ops Q rest (a.put op.dst (.agg (setV p))) w) : wpList Tryd.prog ops Q (op :: rest) a w :=
  wpList_plain hgd fun K hK => by
    unfold Oper.wp execOp
    simp only [ho, hx, Instr.loadAt, Instr.sureAddr, Sem.run_bind, Sem.run_pure, Result.andThen_ok, run_loadVar_row w b 61 61 (setV p) (0, 0) _ hb Tryd.underlying61 rfl (by rw [setV_size]; exact set_size)]
    exact hK _ _ h
theorem setRow_grown (w : World) (b : Nat) (cs : Array Value) : GrownIn (fun k => k = b) w (w.setRow b cs) :=
  ⟨rfl, rfl, rfl, by simp [World.setRow], fun k _ hn => by
    unfold World.setRow
    simp only [Array.getElem?_modify]
    rw [if_neg (fun e => hn e.symm)]⟩
theorem setRow_set (h : SetB w b p) : SetB (w.setRow b (setV q)) b q := by
  unfold SetB World.setRow
  simp only [Array.getElem?_modify, if_pos, show w.heap[b]? = _ from h, Option.map_some]
/-- A set is written whole. -/
theorem wpList_store_set {ops : Array Oper} {rest : List Oper} {op : Oper} {a : Act} {Q : Exit → Act → World → Prop} (hgd : op.guard = none) (x y : Operand) (ho : op.op = .store 61 x y)
    (hx : a.eval x = .pointer (some ⟨b, 0, none⟩)) (hy : a.eval y = .agg (setV q)) (hb : SetB w b p) (h : ∀ w', SetB w' b q → w'.heap.size = w.heap.size → GrownIn (fun k => k = b) w w' → wpList Tryd.prog ops Q rest (a.put op.dst undef) w') : wpList Tryd.prog ops Q (op :: rest) a w :=
  wpList_plain hgd fun K hK => by
    unfold Oper.wp execOp
    simp only [ho, hx, hy, Instr.storeAt, Instr.sureAddr, Sem.run_bind, Sem.run_pure, Result.andThen_ok, run_storeVar_row w b 61 61 (setV p) (setV q) hb (by rw [setV_size]; exact set_size) (by rw [setV_size, setV_size]) (setV_one q)]
    exact hK _ _ (h _ (setRow_set hb) (by simp [World.setRow]) (setRow_grown _ _ _))
/-- A set as a result. -/
theorem set_result (hb : SetB w b p) : (loadVar 61 ⟨b, 0, none⟩).run Tryd.prog w = .ok (.agg (setV p)) w :=
  run_loadVar_row w b 61 61 (setV p) (0, 0) _ hb Tryd.underlying61 rfl (by rw [setV_size]; exact set_size)
end
set_option maxHeartbeats 4000000 in
set_option maxRecDepth 1000000 in
theorem only_any (c : UInt8) (w : World) : Calls Tryd.prog 75 #[.int .u8 c.toNat] w fun e w' => e = .returned (.agg (setV (RX.only c))) ∧ Below w.heap.size w w' := by
  have hz := set_zero
  have hlt : c.toNat < 256 := UInt8.toNat_lt c
  have hx256 : (c.toNat : Int) < 256 := by omega
  have hx0 : (0 : Int) ≤ (c.toNat : Int) := by omega
  have hg : (setV fun _ => false)[c.toNat]? = some (.bool false) := setV_get _ hlt
  have hb : SetB (w.alloc (.cells ((setV fun _ => false).setIfInBounds c.toNat (.bool true)) 61)) w.heap.size (RX.only c) := by
    rw [setV_set _ hlt]
    exact (SetB.new w _).congr (fun i _ => by unfold RX.only; by_cases e : i = c.toNat <;> simp [e])
  have hw : Below w.heap.size w (w.alloc (.cells ((setV fun _ => false).setIfInBounds c.toNat (.bool true)) 61)) := (Below.refl _ _).alloc (Nat.le_refl _) _
  have HB := Lib.hid (show _ ∧ _ from ⟨hb, hw⟩)
  clear hb hw hlt
  go_enter Tryd.func75, Tryd.ntmps75
  go_wp2_with (first
    | (refine wpList_load_set rfl _ rfl rfl HB.out.1 ?_)
    | (refine wpList_store_set rfl _ _ rfl rfl rfl HB.out.1 ?_; intro w2 hb2 hs2 hg2))
  refine bodyPost_ret (v := .agg (setV (RX.only c))) ?_ rfl ⟨rfl, HB.out.2.trans (hg2.below (fun k e => by omega) (by have := HB.out.2.size; omega))⟩
  have hld := set_result hb2
  simp [results, Tryd.results75, asAddr, Result.andThen, hld]
end Go.Proofs.YtamlnkmcbbeicaaDoor
