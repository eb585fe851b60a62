/- Patterns' machine: what is laid of bytes, edges, groups. -/
import Derived.Test.YtamlnkmcbbeicaaDoorRgFork
import Derived.Test.YtamlnkmcbbeicaaDoorRgRead
namespace Go.Proofs.YtamlnkmcbbeicaaDoor
open Go.RowKit Go.Lib
open RX (PS Tr Pr Stp)

/-- The machine behind a call of lay. -/
def LayP (B rp many : Nat) (a : Value) (w : World) (l : List Stp) (e : Ending) (w' : World) : Prop := e = .returned (.tuple #[]) ∧ ∃ a', Rgx B w' rp a' l many ∧ Mch rp a w a' w'
/-- What lay does of a tree. -/
def LayOk (t : Tr) : Prop := ∀ (B rp many : Nat) (a : Value) (l : List Stp) (v : Value) (w : World), Rgx B w rp a l many → TreeV w (fun b => b < B) t v → l.length + t.size ≤ 100000 →
  Calls Tryd.prog 23 #[.pointer (some ⟨rp, 0, none⟩), v] w (LayP B rp many a w (l ++ t.lay l.length))
section
variable {B rp many : Nat} {w w' : World} {a a' : Value} {l : List Stp}
theorem Rgx.apart (h : Rgx B w rp a l many) {k : Nat} (hk : w.heap.size ≤ k) : k ≠ rp ∧ a.ownBlock ≠ some k :=
  ⟨fun e => by have := h.lt; omega, fun e => by have := (h.row.lt k e).2; omega⟩
theorem Rgx.tree (h : Rgx B w rp a l many) {t : Tr} {v : Value} (ht : TreeV w (fun b => b < B) t v) (hb : Below B w w') : TreeV w' (fun b => b < B) t v :=
  TreeV.move (fun _ h => h) (fun b hb' _ => hb.block b hb') t v ht
theorem Rgx.size (h : Rgx B w rp a l many) : B ≤ w.heap.size := by have := h.lo; have := h.lt; omega
end
theorem TreeV.face {w : World} {T : Nat → Prop} : ∀ {t : Tr} {v : Value}, TreeV w T t v → ∃ ty x, v = .iface ty x
  | .bytes _, _, h => by rw [TreeV] at h; exact ⟨_, _, h⟩
  | .edge _, _, h => by rw [TreeV] at h; exact ⟨_, _, h⟩
  | .group _ _, _, h => by rw [TreeV] at h; obtain ⟨_, h, _⟩ := h; exact ⟨_, _, h⟩
  | .row _, _, h => by rw [TreeV] at h; obtain ⟨_, _, h, _⟩ := h; exact ⟨_, _, h⟩
  | .alts _, _, h => by rw [TreeV] at h; obtain ⟨_, _, h, _⟩ := h; exact ⟨_, _, h⟩
  | .rep .., _, h => by rw [TreeV] at h; obtain ⟨_, h, _⟩ := h; exact ⟨_, _, h⟩
/-- A block that is not the machine's stays. -/
structure Bx (rp : Nat) (a : Value) (W : World) (k : Nat) (o : Obj) : Prop where
  heap : W.heap[k]? = some o
  ne : k ≠ rp
  off : a.ownBlock ≠ some k
theorem Bx.step {rp k : Nat} {a a1 : Value} {W w1 : World} {o : Obj} (h : Bx rp a W k o) (hm : Mch rp a W a1 w1) : Bx rp a1 w1 k o := by
  have hlt : k < W.heap.size := (Array.getElem?_eq_some_iff.1 h.heap).1
  refine ⟨(hm.grown.block k hlt fun e => ?_).trans h.heap, h.ne, fun e => ?_⟩
  · rcases e with e | e
    · exact h.ne e
    · exact h.off e
  · rcases hm.own k e with e | e
    · exact h.off e
    · omega
theorem Bx.below {rp k : Nat} {a : Value} {W w1 : World} {o : Obj} (h : Bx rp a W k o) (hb : Below W.heap.size W w1) : Bx rp a w1 k o :=
  ⟨(hb.block k (Array.getElem?_eq_some_iff.1 h.heap).1).trans h.heap, h.ne, h.off⟩
theorem Bx.new {B rp many : Nat} {a : Value} {w : World} {l : List Stp} (h : Rgx B w rp a l many) (cs : Array Value) (t : TypeId) : Bx rp a (w.alloc (.cells cs t)) w.heap.size (.cells cs t (0, 0)) :=
  ⟨heap_alloc_new _ _, (h.apart (Nat.le_refl _)).1, (h.apart (Nat.le_refl _)).2⟩
theorem Bx.cell {rp k : Nat} {a : Value} {W : World} {cs : Array Value} {t : TypeId} (h : Bx rp a W k (.cells cs t (0, 0))) (i : Nat) : W.cell? ⟨k, i, none⟩ = cs[i]? := cell_of_row W k i _ _ (0, 0) h.heap
theorem b66_info : (Tryd.prog.info? 85).map (·.size) = some 256 := by kernel_rfl
theorem wpList_alloc_b66 {w : World} {ops : Array Oper} {rest : List Oper} {op : Oper} {a : Act} {Q : Exit → Act → World → Prop} (hgd : op.guard = none) (ho : op.op = .alloc 85)
    (h : ∀ w', w'.heap[w.heap.size]? = some (.cells (setV fun _ => false) 85 (0, 0)) → Below w.heap.size w w' → wpList Tryd.prog ops Q rest (a.put op.dst (.pointer (some ⟨w.heap.size, 0, none⟩))) w') : wpList Tryd.prog ops Q (op :: rest) a w :=
  wpList_plain hgd fun K hK => by
    have hz := bytes_zero w
    have h1 := h (w.alloc (.cells (setV fun _ => false) 85)) (heap_alloc_new w _) ((Below.refl _ _).alloc (Nat.le_refl _) _)
    unfold Oper.wp execOp
    simp only [ho]
    simp [Instr.alloc, hz, Result.andThen, Sem.run_bind, Value.cells]
    exact hK _ _ h1
theorem wpList_store_b66 {w : World} {b : Nat} {p q : Nat → Bool} {ops : Array Oper} {rest : List Oper} {op : Oper} {a : Act} {Q : Exit → Act → World → Prop} (hgd : op.guard = none) (x y : Operand) (ho : op.op = .store 85 x y)
    (hx : a.eval x = .pointer (some ⟨b, 0, none⟩)) (hy : a.eval y = .agg (setV q)) (hb : w.heap[b]? = some (.cells (setV p) 85 (0, 0)))
    (h : ∀ w', w'.heap[b]? = some (.cells (setV q) 85 (0, 0)) → GrownIn (fun k => k = b) w w' → wpList Tryd.prog ops Q rest (a.put op.dst undef) w') : wpList Tryd.prog ops Q (op :: rest) a w :=
  wpList_plain hgd fun K hK => by
    unfold Oper.wp execOp
    simp only [ho, hx, hy, Instr.storeAt, Instr.sureAddr, Sem.run_bind, Sem.run_pure, Result.andThen_ok, run_storeVar_row w b 85 85 (setV p) (setV q) hb (by rw [setV_size]; exact b66_info) (by rw [setV_size, setV_size]) (setV_one q)]
    refine hK _ _ (h _ ?_ (setRow_grown _ _ _))
    unfold World.setRow
    simp only [Array.getElem?_modify, if_pos, hb, Option.map_some]
theorem wpList_load_b66 {w : World} {b : Nat} {p : Nat → Bool} {ops : Array Oper} {rest : List Oper} {op : Oper} {a : Act} {Q : Exit → Act → World → Prop} (hgd : op.guard = none) (x : Operand) (ho : op.op = .load 61 x)
    (hx : a.eval x = .pointer (some ⟨b, 0, none⟩)) (hb : w.heap[b]? = some (.cells (setV p) 85 (0, 0))) (h : wpList Tryd.prog ops Q rest (a.put op.dst (.agg (setV p))) w) : wpList Tryd.prog ops Q (op :: rest) a w :=
  wpList_plain hgd fun K hK => by
    unfold Oper.wp execOp
    simp only [ho, hx, Instr.loadAt, Instr.sureAddr, Sem.run_bind, Sem.run_pure, Result.andThen_ok, run_loadVar_row w b 85 61 (setV p) (0, 0) _ hb Tryd.underlying61 rfl (by rw [setV_size]; exact set_size)]
    exact hK _ _ h
/-! What the switch over a tree's type comes to. -/
theorem is_bytesOf (v : Value) (w : World) : (Instr.typeAssert (.iface 85 v) 52 85 true).run Tryd.prog w = .ok (.tuple #[v, .bool true]) w := by kernel_rfl
theorem is_edge (v : Value) (w : World) : (Instr.typeAssert (.iface 87 v) 52 87 true).run Tryd.prog w = .ok (.tuple #[v, .bool true]) w := by kernel_rfl
theorem edge_not_bytesOf (v : Value) (w : World) : (Instr.typeAssert (.iface 87 v) 52 85 true).run Tryd.prog w = .ok (.tuple #[.agg (setV fun _ => false), .bool false]) w := by kernel_rfl
theorem is_group (v : Value) (w : World) : (Instr.typeAssert (.iface 89 v) 52 89 true).run Tryd.prog w = .ok (.tuple #[v, .bool true]) w := by kernel_rfl
theorem group_not_bytesOf (v : Value) (w : World) : (Instr.typeAssert (.iface 89 v) 52 85 true).run Tryd.prog w = .ok (.tuple #[.agg (setV fun _ => false), .bool false]) w := by kernel_rfl
theorem group_not_edge (v : Value) (w : World) : (Instr.typeAssert (.iface 89 v) 52 87 true).run Tryd.prog w = .ok (.tuple #[.agg #[.bool false], .bool false]) w := by kernel_rfl
theorem is_row (v : Value) (w : World) : (Instr.typeAssert (.iface 92 v) 52 92 true).run Tryd.prog w = .ok (.tuple #[v, .bool true]) w := by kernel_rfl
theorem row_not_bytesOf (v : Value) (w : World) : (Instr.typeAssert (.iface 92 v) 52 85 true).run Tryd.prog w = .ok (.tuple #[.agg (setV fun _ => false), .bool false]) w := by kernel_rfl
theorem row_not_edge (v : Value) (w : World) : (Instr.typeAssert (.iface 92 v) 52 87 true).run Tryd.prog w = .ok (.tuple #[.agg #[.bool false], .bool false]) w := by kernel_rfl
theorem row_not_group (v : Value) (w : World) : (Instr.typeAssert (.iface 92 v) 52 89 true).run Tryd.prog w = .ok (.tuple #[.agg #[.int .i64 0, .nilIface], .bool false]) w := by kernel_rfl
theorem is_branches (v : Value) (w : World) : (Instr.typeAssert (.iface 93 v) 52 93 true).run Tryd.prog w = .ok (.tuple #[v, .bool true]) w := by kernel_rfl
theorem branches_not_bytesOf (v : Value) (w : World) : (Instr.typeAssert (.iface 93 v) 52 85 true).run Tryd.prog w = .ok (.tuple #[.agg (setV fun _ => false), .bool false]) w := by kernel_rfl
theorem branches_not_edge (v : Value) (w : World) : (Instr.typeAssert (.iface 93 v) 52 87 true).run Tryd.prog w = .ok (.tuple #[.agg #[.bool false], .bool false]) w := by kernel_rfl
theorem branches_not_group (v : Value) (w : World) : (Instr.typeAssert (.iface 93 v) 52 89 true).run Tryd.prog w = .ok (.tuple #[.agg #[.int .i64 0, .nilIface], .bool false]) w := by kernel_rfl
theorem branches_not_row (v : Value) (w : World) : (Instr.typeAssert (.iface 93 v) 52 92 true).run Tryd.prog w = .ok (.tuple #[.agg #[.slice none 0 0], .bool false]) w := by kernel_rfl
theorem is_repeat (v : Value) (w : World) : (Instr.typeAssert (.iface 96 v) 52 96 true).run Tryd.prog w = .ok (.tuple #[v, .bool true]) w := by kernel_rfl
theorem repeat_not_bytesOf (v : Value) (w : World) : (Instr.typeAssert (.iface 96 v) 52 85 true).run Tryd.prog w = .ok (.tuple #[.agg (setV fun _ => false), .bool false]) w := by kernel_rfl
theorem repeat_not_edge (v : Value) (w : World) : (Instr.typeAssert (.iface 96 v) 52 87 true).run Tryd.prog w = .ok (.tuple #[.agg #[.bool false], .bool false]) w := by kernel_rfl
theorem repeat_not_group (v : Value) (w : World) : (Instr.typeAssert (.iface 96 v) 52 89 true).run Tryd.prog w = .ok (.tuple #[.agg #[.int .i64 0, .nilIface], .bool false]) w := by kernel_rfl
theorem repeat_not_row (v : Value) (w : World) : (Instr.typeAssert (.iface 96 v) 52 92 true).run Tryd.prog w = .ok (.tuple #[.agg #[.slice none 0 0], .bool false]) w := by kernel_rfl
theorem repeat_not_branches (v : Value) (w : World) : (Instr.typeAssert (.iface 96 v) 52 93 true).run Tryd.prog w = .ok (.tuple #[.agg #[.slice none 0 0], .bool false]) w := by kernel_rfl
set_option maxHeartbeats 4000000 in
set_option maxRecDepth 100000 in
theorem lay_bytes (p : Nat → Bool) : LayOk (.bytes p) := by
  intro B rp many a l v w h ht hn
  rw [TreeV] at ht
  subst ht
  rw [RX.Tr.size] at hn
  rw [RX.Tr.lay]
  have sw0 := is_bytesOf
  have HH := Lib.hid (show _ ∧ _ from ⟨h, hn⟩)
  clear h hn
  go_enter Tryd.func23, Tryd.ntmps23
  go_wp2_with (first
    | (refine wpList_alloc_b66 rfl rfl ?_; intro w1 hx1 hb1; have H1 := Lib.hid (show _ ∧ _ from ⟨hx1, hb1⟩); clear hx1 hb1)
    | (refine wpList_store_b66 rfl _ _ rfl rfl rfl H1.out.1 ?_; intro w2 hx2 hg2; have hb2 : Below w.heap.size w w2 := H1.out.2.trans (hg2.below (fun k e => by omega) H1.out.2.size); have H2 := Lib.hid (show _ ∧ _ from ⟨hx2, hb2⟩); clear hx2 hg2 hb2)
    | (refine wpList_load_b66 rfl _ rfl rfl H2.out.1 ?_)
    | (refine wpList_build_step rfl _ rfl [(0, .int .i64 0), (1, .agg (setV p))] rfl (built_set p) ?_)
    | (go_at_call 24; refine (add_any B rp many a l (Stp.set p) w2 (HH.out.1.below H2.out.2) (by have := HH.out.2; omega)).mono ?_; rintro e w3 ⟨rfl, a3, h3, hm3⟩; have H3 := Lib.hid (show _ ∧ _ from ⟨h3, hm3⟩); clear h3 hm3)
    | fail)
  refine bodyPost_end (v := .tuple #[]) (by simp [results, Tryd.results23, go_sem]) rfl ⟨rfl, a3, H3.out.1, Mch.pre H2.out.2 H3.out.2⟩
set_option maxHeartbeats 4000000 in
set_option maxRecDepth 100000 in
theorem lay_edge (b : Bool) : LayOk (.edge b) := by
  intro B rp many a l v w h ht hn
  rw [TreeV] at ht
  subst ht
  rw [RX.Tr.size] at hn
  rw [RX.Tr.lay]
  have sw1 := is_edge
  have sw0 := edge_not_bytesOf
  have HH := Lib.hid (show _ ∧ _ from ⟨h, hn⟩)
  clear h hn
  cases b with
  | false =>
    have hb1 : Below w.heap.size w (w.alloc (.cells #[.bool false] 87)) := (Below.refl _ _).alloc (Nat.le_refl _) _
    have H1 := Lib.hid hb1
    clear hb1
    go_enter Tryd.func23, Tryd.ntmps23
    go_wp2_with (first
      | (refine wpList_build_step rfl _ rfl [(0, .int .i64 1)] rfl (built_plain 1) ?_)
      | (go_at_call 24; refine (add_any B rp many a l (Stp.plain 1) _ (HH.out.1.below H1.out) (by have := HH.out.2; omega)).mono ?_; rintro e w3 ⟨rfl, a3, h3, hm3⟩; have H3 := Lib.hid (show _ ∧ _ from ⟨h3, hm3⟩); clear h3 hm3)
      | fail)
    refine bodyPost_end (v := .tuple #[]) (by simp [results, Tryd.results23, go_sem]) rfl ⟨rfl, a3, H3.out.1, Mch.pre H1.out H3.out.2⟩
  | true =>
    have hb1 : Below w.heap.size w (w.alloc (.cells #[.bool true] 87)) := (Below.refl _ _).alloc (Nat.le_refl _) _
    have H1 := Lib.hid hb1
    clear hb1
    go_enter Tryd.func23, Tryd.ntmps23
    go_wp2_with (first
      | (refine wpList_build_step rfl _ rfl [(0, .int .i64 2)] rfl (built_plain 2) ?_)
      | (go_at_call 24; refine (add_any B rp many a l (Stp.plain 2) _ (HH.out.1.below H1.out) (by have := HH.out.2; omega)).mono ?_; rintro e w3 ⟨rfl, a3, h3, hm3⟩; have H3 := Lib.hid (show _ ∧ _ from ⟨h3, hm3⟩); clear h3 hm3)
      | fail)
    refine bodyPost_end (v := .tuple #[]) (by simp [results, Tryd.results23, go_sem]) rfl ⟨rfl, a3, H3.out.1, Mch.pre H1.out H3.out.2⟩
set_option maxHeartbeats 4000000 in
set_option maxRecDepth 100000 in
theorem lay_group (n : Nat) (t : Tr) (hl : LayOk t) : LayOk (.group n t) := by
  intro B rp many a l v w h ht hn
  rw [TreeV] at ht
  obtain ⟨u, rfl, hn1, htu⟩ := ht
  obtain ⟨ty, x, rfl⟩ := htu.face
  rw [RX.Tr.size] at hn
  rw [RX.Tr.lay]
  have sw2 := is_group
  have sw0 := group_not_bytesOf
  have sw1 := group_not_edge
  have hb1 : Below w.heap.size w (w.alloc (.cells #[.int .i64 n, .iface ty x] 89)) := (Below.refl _ _).alloc (Nat.le_refl _) _
  have HH := Lib.hid (show _ ∧ _ ∧ _ ∧ _ from ⟨h, hn, htu, hb1⟩)
  have k1 : IntKind.i64.wrap (2 * (n : Int)) = 2 * (n : Int) := IntWalk.i64_in _ (by omega)
  have k2 : IntKind.i64.wrap (2 * (n : Int) + 1) = 2 * (n : Int) + 1 := IntWalk.i64_in _ (by omega)
  have hm1 : Instr.fill stpPl (stpV ⟨0, fun _ => false, 0, 0, 0⟩) [(0, .int .i64 3), (4, .int .i64 (2 * (n : Int)))] = some (stpV (Stp.mk_ (2 * n))) := built_mark (2 * n)
  have hm2 : Instr.fill stpPl (stpV ⟨0, fun _ => false, 0, 0, 0⟩) [(0, .int .i64 3), (4, .int .i64 (2 * (n : Int) + 1))] = some (stpV (Stp.mk_ (2 * n + 1))) := built_mark (2 * n + 1)
  have HX := Lib.hid (Bx.new h #[.int .i64 n, .iface ty x] 89)
  clear h hn htu hb1
  go_enter Tryd.func23, Tryd.ntmps23
  go_wp2_with (first
    | (refine wpList_build_step rfl _ rfl [(0, .int .i64 3), (4, .int .i64 (2 * (n : Int)))] rfl hm1 ?_)
    | (go_at_call 24; refine (add_any B rp many a l (Stp.mk_ (2 * n)) _ (HH.out.1.below HH.out.2.2.2) (by have := HH.out.2; omega)).mono ?_; rintro e w3 ⟨rfl, a3, h3, hm3⟩; have hq3 := HX.out.step hm3; have z0 : w3.cell? ⟨w.heap.size, 0, none⟩ = some (.int .i64 n) := hq3.cell 0; have z1 : w3.cell? ⟨w.heap.size, 1, none⟩ = some (.iface ty x) := hq3.cell 1; have H3 := Lib.hid (show _ ∧ _ ∧ _ from ⟨h3, Mch.pre HH.out.2.2.2 hm3, hq3⟩); clear h3 hm3 hq3)
    | fail)
  refine (hl B rp many a3 (l ++ [Stp.mk_ (2 * n)]) (.iface ty x) w3 H3.out.1 (HH.out.1.tree HH.out.2.2.1 (H3.out.2.1.below HH.out.1)) (by have := HH.out.2.1; rw [List.length_append, List.length_singleton]; omega)).mono ?_
  rintro e w4 ⟨rfl, a4, h4, hm4⟩
  have hq4 := H3.out.2.2.step hm4
  have y0 : w4.cell? ⟨w.heap.size, 0, none⟩ = some (.int .i64 n) := hq4.cell 0
  have H4 := Lib.hid (show _ ∧ _ from ⟨h4, H3.out.2.1.trans hm4⟩)
  clear h4 hm4 hq4 z0 z1
  go_wp2_with (first
    | (refine wpList_build_step rfl _ rfl [(0, .int .i64 3), (4, .int .i64 (2 * (n : Int) + 1))] rfl hm2 ?_)
    | (go_at_call 24; refine (add_any B rp many a4 _ (Stp.mk_ (2 * n + 1)) _ H4.out.1 (by have := HH.out.2.1; rw [List.length_append, List.length_append, t.lay_length, List.length_singleton]; omega)).mono ?_; rintro e w5 ⟨rfl, a5, h5, hm5⟩; have H5 := Lib.hid (show _ ∧ _ from ⟨h5, H4.out.2.trans hm5⟩); clear h5 hm5)
    | fail)
  refine bodyPost_end (v := .tuple #[]) (by simp [results, Tryd.results23, go_sem]) rfl ⟨rfl, a5, ?_, H5.out.2⟩
  have := H5.out.1
  rw [List.length_append, List.length_singleton] at this
  simpa using this
end Go.Proofs.YtamlnkmcbbeicaaDoor
