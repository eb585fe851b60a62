/- Patterns' machine: a step built, a step changed. -/
import Derived.Test.YtamlnkmcbbeicaaDoorRgAdd
namespace Go.Proofs.YtamlnkmcbbeicaaDoor
open Go.RowKit Go.Lib
open RX (PS Tr Pr Stp)

theorem put_off (off : Nat) : ∀ (l : List Value) (k : Nat) (z : Array Value), off + k + l.length ≤ z.size →
    (∀ i, ((l.zipIdx k).foldl (fun cs (x : Value × Nat) => cs.setIfInBounds (off + x.2) x.1) z)[i]? = if i < off + k then z[i]? else if i < off + k + l.length then l[i - (off + k)]? else z[i]?)
  | [], k, z, h => fun i => by
    simp only [List.zipIdx_nil, List.foldl_nil, List.length_nil, Nat.add_zero]
    by_cases hi : i < off + k
    · rw [if_pos hi]
    · rw [if_neg hi, if_neg hi]
  | v :: l, k, z, h => fun i => by
    simp only [List.length_cons] at h ⊢
    rw [List.zipIdx_cons, List.foldl_cons]
    rw [put_off off l (k + 1) (z.setIfInBounds (off + k) v) (by rw [Array.size_setIfInBounds]; omega) i, Array.getElem?_setIfInBounds]
    by_cases h1 : i < off + k
    · rw [if_pos (show i < off + (k + 1) by omega), if_neg (show ¬ off + k = i by omega), if_pos h1]
    · rw [if_neg h1]
      by_cases h2 : i = off + k
      · subst h2
        rw [if_pos (show off + k < off + (k + 1) by omega), if_pos rfl, if_pos (show off + k < z.size by omega), if_pos (show off + k < off + k + (l.length + 1) by omega), Nat.sub_self]
        rfl
      · rw [if_neg (show ¬ i < off + (k + 1) by omega), if_neg (show ¬ off + k = i by omega)]
        obtain ⟨j, rfl⟩ : ∃ j, i = off + k + 1 + j := ⟨i - (off + k + 1), by omega⟩
        by_cases h3 : off + k + 1 + j < off + k + (l.length + 1)
        · rw [if_pos (show off + k + 1 + j < off + (k + 1) + l.length by omega), if_pos h3, show off + k + 1 + j - (off + (k + 1)) = j by omega, show off + k + 1 + j - (off + k) = j + 1 by omega]
          rfl
        · rw [if_neg (show ¬ off + k + 1 + j < off + (k + 1) + l.length by omega), if_neg h3]
theorem put_part (off : Nat) (C z : Array Value) (i : Nat) (h : off + C.size ≤ z.size) :
    (C.zipIdx.foldl (fun cs (x : Value × Nat) => cs.setIfInBounds (off + x.2) x.1) z)[i]? = if i < off then z[i]? else if i < off + C.size then C[i - off]? else z[i]? := by
  have := put_off off C.toList 0 z (by simpa using h) i
  rw [← Array.foldl_toList, Array.toList_zipIdx, this]
  simp
/-- A step's cell. -/
theorem stpV_get (x : Stp) (i : Nat) : (stpV x)[i]? = if i = 0 then some (.int .i64 x.op) else if i < 257 then (setV x.inn)[i - 1]? else if i = 257 then some (.int .i64 x.first) else if i = 258 then some (.int .i64 x.other) else if i = 259 then some (.int .i64 x.mark) else none := by
  unfold stpV
  by_cases h0 : i = 0
  · subst h0
    rw [if_pos rfl, Array.getElem?_append_left (by rw [Array.size_append, setV_size]; simp), Array.getElem?_append_left (by simp)]
    rfl
  · rw [if_neg h0]
    by_cases h1 : i < 257
    · rw [if_pos h1, Array.getElem?_append_left (by rw [Array.size_append, setV_size]; simp; omega), Array.getElem?_append_right (by simp; omega), show #[Value.int .i64 (x.op : Int)].size = 1 from rfl]
    · rw [Array.getElem?_append_right (by rw [Array.size_append, setV_size]; simp; omega), Array.size_append, setV_size]
      obtain ⟨j, rfl⟩ : ∃ j, i = 257 + j := ⟨i - 257, by omega⟩
      have e : 257 + j - (#[Value.int .i64 (x.op : Int)].size + 256) = j := by simp
      rw [e]
      clear h0
      rw [if_neg h1]
      clear h1 e
      by_cases e0 : j = 0
      · subst e0; simp
      · by_cases e1 : j = 1
        · subst e1; simp
        · by_cases e2 : j = 2
          · subst e2; simp
          · rw [if_neg (by omega), if_neg (by omega), if_neg (by omega)]; exact Array.getElem?_eq_none (by simp; omega)
def stpPl : Nat → Option (Nat × Nat) := ((#[(0, 1), (1, 256), (257, 1), (258, 1), (259, 1)] : Array (Nat × Nat))[·]?)
theorem fill_part {pl : Nat → Option (Nat × Nat)} {i : Nat} {v : Value} {rest : List (Nat × Value)} {z z' : Array Value} {off n : Nat} (hp : pl i = some (off, n)) (hv : v.cells.size = n) (hz : off + n ≤ z.size)
    (he : v.cells.zipIdx.foldl (fun cs (y : Value × Nat) => cs.setIfInBounds (off + y.2) y.1) z = z') : Instr.fill pl z ((i, v) :: rest) = Instr.fill pl z' rest := by
  rw [Instr.fill, hp]
  dsimp only
  split
  · rename_i h
    simp [hv] at h
    omega
  · rw [he]
theorem pl0 : stpPl 0 = some (0, 1) := rfl
theorem pl1 : stpPl 1 = some (1, 256) := rfl
theorem pl2 : stpPl 2 = some (257, 1) := rfl
theorem pl3 : stpPl 3 = some (258, 1) := rfl
theorem pl4 : stpPl 4 = some (259, 1) := rfl
section
variable (x : Stp) (rest : List (Nat × Value))
theorem fill_op (n : Nat) : Instr.fill stpPl (stpV x) ((0, .int .i64 n) :: rest) = Instr.fill stpPl (stpV { x with op := n }) rest := by
  have e : Array.foldl (fun (cs : Array Value) (y : Value × Nat) => cs.setIfInBounds (0 + y.2) y.1) (stpV x) (#[Value.int .i64 (n : Int)].zipIdx) = stpV { x with op := n } := by
    apply Array.ext_getElem?
    intro i
    rw [put_part 0 #[.int .i64 n] _ i (by rw [stpV_size]; simp), stpV_get, stpV_get]
    rcases Nat.lt_or_ge i 1 with h | h
    · obtain rfl : i = 0 := by omega
      simp
    · rw [if_neg (show ¬ i < 0 by omega), if_neg (show ¬ i < 0 + #[Value.int .i64 (n : Int)].size by simp; omega)]
      rw [if_neg (show ¬ i = 0 by omega), if_neg (show ¬ i = 0 by omega)]
  exact fill_part pl0 rfl (by rw [stpV_size]; omega) e
theorem fill_inn (p : Nat → Bool) : Instr.fill stpPl (stpV x) ((1, .agg (setV p)) :: rest) = Instr.fill stpPl (stpV { x with inn := p }) rest := by
  have e : Array.foldl (fun (cs : Array Value) (y : Value × Nat) => cs.setIfInBounds (1 + y.2) y.1) (stpV x) ((setV p).zipIdx) = stpV { x with inn := p } := by
    apply Array.ext_getElem?
    intro i
    rw [put_part 1 (setV p) _ i (by rw [stpV_size, setV_size]; omega), stpV_get, stpV_get, setV_size]
    by_cases h : i < 1
    · obtain rfl : i = 0 := by omega
      simp
    · rw [if_neg h, if_neg (show ¬ i = 0 by omega), if_neg (show ¬ i = 0 by omega)]
      by_cases h2 : i < 257
      · rw [if_pos (by omega), if_pos h2]
      · rw [if_neg (by omega), if_neg h2, if_neg h2]
  exact fill_part pl1 (setV_size p) (by rw [stpV_size]; omega) e
theorem fill_first (n : Nat) : Instr.fill stpPl (stpV x) ((2, .int .i64 n) :: rest) = Instr.fill stpPl (stpV { x with first := n }) rest := by
  have e : Array.foldl (fun (cs : Array Value) (y : Value × Nat) => cs.setIfInBounds (257 + y.2) y.1) (stpV x) (#[Value.int .i64 (n : Int)].zipIdx) = stpV { x with first := n } := by
    apply Array.ext_getElem?
    intro i
    rw [put_part 257 #[.int .i64 n] _ i (by rw [stpV_size]; simp), stpV_get, stpV_get]
    by_cases h : i = 257
    · subst h; simp
    · by_cases h1 : i < 257
      · rw [if_pos h1]; simp [h1]
      · rw [if_neg h1, if_neg (show ¬ i < 257 + #[Value.int .i64 (n : Int)].size by simp; omega)]
        simp [h, h1]
  exact fill_part pl2 rfl (by rw [stpV_size]; omega) e
theorem fill_other (n : Nat) : Instr.fill stpPl (stpV x) ((3, .int .i64 n) :: rest) = Instr.fill stpPl (stpV { x with other := n }) rest := by
  have e : Array.foldl (fun (cs : Array Value) (y : Value × Nat) => cs.setIfInBounds (258 + y.2) y.1) (stpV x) (#[Value.int .i64 (n : Int)].zipIdx) = stpV { x with other := n } := by
    apply Array.ext_getElem?
    intro i
    rw [put_part 258 #[.int .i64 n] _ i (by rw [stpV_size]; simp), stpV_get, stpV_get]
    by_cases h : i = 258
    · subst h; simp
    · by_cases h1 : i < 258
      · rw [if_pos h1]; by_cases h3 : i < 257 <;> simp [h, h3]
      · rw [if_neg h1, if_neg (show ¬ i < 258 + #[Value.int .i64 (n : Int)].size by simp; omega)]
        simp [h, show ¬ i < 257 by omega]
  exact fill_part pl3 rfl (by rw [stpV_size]; omega) e
theorem fill_mark (n : Nat) : Instr.fill stpPl (stpV x) ((4, .int .i64 n) :: rest) = Instr.fill stpPl (stpV { x with mark := n }) rest := by
  have e : Array.foldl (fun (cs : Array Value) (y : Value × Nat) => cs.setIfInBounds (259 + y.2) y.1) (stpV x) (#[Value.int .i64 (n : Int)].zipIdx) = stpV { x with mark := n } := by
    apply Array.ext_getElem?
    intro i
    rw [put_part 259 #[.int .i64 n] _ i (by rw [stpV_size]; simp), stpV_get, stpV_get]
    by_cases h : i = 259
    · subst h; simp
    · by_cases h1 : i < 259
      · rw [if_pos h1]; by_cases h3 : i < 257 <;> simp [h, h3]
      · rw [if_neg h1, if_neg (show ¬ i < 259 + #[Value.int .i64 (n : Int)].size by simp; omega)]
        simp [h, show ¬ i < 257 by omega]
  exact fill_part pl4 rfl (by rw [stpV_size]; omega) e
theorem fill_end : Instr.fill stpPl (stpV x) [] = some (stpV x) := rfl
end
set_option maxRecDepth 100000 in
theorem run_build_step {parts : Array (Nat × Value)} {x : Stp} (hf : Instr.fill stpPl (stpV ⟨0, fun _ => false, 0, 0, 0⟩) parts.toList = some (stpV x)) (w : World) : (Instr.build 63 parts).run Tryd.prog w = .ok (.agg (stpV x)) w := by
  have hz := step_zero w
  have hs1 := set_sizeOf w
  unfold Instr.build
  simp only [Sem.run_bind, hz, Result.andThen_ok, run_underlying Tryd.underlying63]
  generalize hm : Sem.run Tryd.prog (Array.mapM _ _) w = r
  have hr : r = .ok #[(0, 1), (1, 256), (257, 1), (258, 1), (259, 1)] w := by rw [← hm]; kernel_rfl
  rw [hr, Result.andThen_ok]
  show (match Instr.fill stpPl (stpV ⟨0, fun _ => false, 0, 0, 0⟩) parts.toList with | some cells => _ | _ => _ : Sem Value).run Tryd.prog w = _
  rw [hf]
  rfl
/-- A step is built. -/
theorem wpList_build_step {w : World} {x : Stp} {ops : Array Oper} {rest : List Oper} {op : Oper} {a : Act} {Q : Exit → Act → World → Prop} (hgd : op.guard = none) (parts : List (Nat × Operand)) (ho : op.op = .build 63 parts.toArray) (ps : List (Nat × Value)) (hps : (parts.map fun (i, y) => (i, a.eval y)) = ps)
    (hf : Instr.fill stpPl (stpV ⟨0, fun _ => false, 0, 0, 0⟩) ps = some (stpV x)) (h : wpList Tryd.prog ops Q rest (a.put op.dst (.agg (stpV x))) w) : wpList Tryd.prog ops Q (op :: rest) a w :=
  wpList_plain hgd fun K hK => by
    have hb := run_build_step (parts := ps.toArray) hf w
    unfold Oper.wp execOp
    simp only [ho, List.map_toArray, hps, Sem.run_bind, Sem.run_pure]
    rw [hb]
    simp only [Result.andThen_ok]
    exact hK _ _ h
theorem built_set (p : Nat → Bool) : Instr.fill stpPl (stpV ⟨0, fun _ => false, 0, 0, 0⟩) [(0, .int .i64 0), (1, .agg (setV p))] = some (stpV (Stp.set p)) := by
  rw [show (0 : Int) = ((0 : Nat) : Int) from rfl, fill_op, fill_inn, fill_end]; rfl
theorem built_plain (n : Nat) : Instr.fill stpPl (stpV ⟨0, fun _ => false, 0, 0, 0⟩) [(0, .int .i64 n)] = some (stpV (Stp.plain n)) := by
  rw [fill_op, fill_end]; rfl
theorem built_mark (n : Nat) : Instr.fill stpPl (stpV ⟨0, fun _ => false, 0, 0, 0⟩) [(0, .int .i64 3), (4, .int .i64 n)] = some (stpV (Stp.mk_ n)) := by
  rw [show (3 : Int) = ((3 : Nat) : Int) from rfl, fill_op, fill_mark, fill_end]; rfl
theorem built_jump (n : Nat) : Instr.fill stpPl (stpV ⟨0, fun _ => false, 0, 0, 0⟩) [(0, .int .i64 4), (2, .int .i64 n)] = some (stpV (Stp.jump n)) := by
  rw [show (4 : Int) = ((4 : Nat) : Int) from rfl, fill_op, fill_first, fill_end]; rfl
theorem built_fork (m n : Nat) : Instr.fill stpPl (stpV ⟨0, fun _ => false, 0, 0, 0⟩) [(0, .int .i64 5), (2, .int .i64 m), (3, .int .i64 n)] = some (stpV ⟨5, fun _ => false, m, n, 0⟩) := by
  rw [show (5 : Int) = ((5 : Nat) : Int) from rfl, fill_op, fill_first, fill_other, fill_end]
theorem built_none : Instr.fill stpPl (stpV ⟨0, fun _ => false, 0, 0, 0⟩) [] = some (stpV ⟨0, fun _ => false, 0, 0, 0⟩) := fill_end _
/-- A step's cells, one of them changed. -/
theorem stpV_first (x : Stp) (n : Nat) : (encP x).set 257 (.int .i64 n) = encP { x with first := n } := by
  apply List.ext_getElem?
  intro i
  unfold encP
  rw [List.getElem?_set, Array.getElem?_toList, Array.getElem?_toList, stpV_get, stpV_get, Array.length_toList, stpV_size]
  by_cases h : i = 257
  · subst h; simp
  · simp [h, Ne.symm h]
theorem stpV_other (x : Stp) (n : Nat) : (encP x).set 258 (.int .i64 n) = encP { x with other := n } := by
  apply List.ext_getElem?
  intro i
  unfold encP
  rw [List.getElem?_set, Array.getElem?_toList, Array.getElem?_toList, stpV_get, stpV_get, Array.length_toList, stpV_size]
  by_cases h : i = 258
  · subst h; simp
  · simp [h, Ne.symm h]
theorem flatMap_set1 {α : Type} {enc : α → List Value} {n : Nat} (hsz : ∀ x, (enc x).length = n) (l1 l2 : List α) (x y : α) (j : Nat) (hj : j < n) (u : Value) (hx : (enc x).set j u = enc y) :
    ((l1 ++ x :: l2).flatMap enc).set (l1.length * n + j) u = (l1 ++ y :: l2).flatMap enc := by
  have hl : (l1.flatMap enc).length = l1.length * n := flatMap_length hsz l1
  rw [List.flatMap_append, List.flatMap_append, List.flatMap_cons, List.flatMap_cons, List.set_append_right _ _ (by rw [hl]; omega), hl, Nat.add_sub_cancel_left, List.set_append_left _ _ (by rw [hsz]; exact hj), hx]
/-- A whole element changed. -/
theorem flatMap_put {α : Type} {enc : α → List Value} {n : Nat} (hsz : ∀ x, (enc x).length = n) (l1 l2 : List α) (x y : α) :
    ((l1 ++ x :: l2).flatMap enc).take (l1.length * n) ++ enc y ++ ((l1 ++ x :: l2).flatMap enc).drop (l1.length * n + n) = (l1 ++ y :: l2).flatMap enc := by
  have hl : (l1.flatMap enc).length = l1.length * n := flatMap_length hsz l1
  rw [List.flatMap_append, List.flatMap_append, List.flatMap_cons, List.flatMap_cons, List.take_left' hl, ← List.append_assoc (l1.flatMap enc) (enc x), List.drop_left' (by rw [List.length_append, hl, hsz]), List.append_assoc]
theorem setCells_owned {base size g n cap : Nat} {e : TypeId} : ∀ (vs : List Value) {w : World} {xs : List Value} (_ : w.ownsRow base e size (.slice (some ⟨g, 0, none⟩) n cap) n xs) (o : Nat) (_ : o + vs.length ≤ xs.length),
    (w.setCells g o vs).ownsRow base e size (.slice (some ⟨g, 0, none⟩) n cap) n (xs.take o ++ vs ++ xs.drop (o + vs.length)) ∧ w.grownBy (w.setCells g o vs) (some g)
  | [], w, xs, h, o, _ => by
    rw [World.setCells]
    refine ⟨?_, World.grownBy.refl _ _⟩
    simpa using h
  | v :: r, w, xs, h, o, hl => by
    rw [World.setCells]
    simp only [List.length_cons] at hl
    obtain ⟨h1, h2⟩ := h.stored o v
    obtain ⟨h3, h4⟩ := setCells_owned r h1 (o + 1) (by rw [List.length_set]; omega)
    refine ⟨?_, grownBy_trans h2 h4⟩
    rw [take_set_next xs o v (by omega), List.drop_set_of_lt (by omega)] at h3
    rw [List.length_cons, show o + (r.length + 1) = o + 1 + r.length by omega]
    simpa using h3
section
variable {B rp many g n c : Nat} {W : World} {l1 l2 : List Stp} {x : Stp}
theorem Rgx.own (h : Rgx B W rp (.slice (some ⟨g, 0, none⟩) n c) l1 many) : n = l1.length ∧ B ≤ g ∧ g < W.heap.size ∧ g ≠ rp := by
  have h1 := h.row.lt g rfl
  obtain ⟨A, c', e, _, _⟩ := owns_slice h.row
  injection e with _ e2 _
  exact ⟨e2, h1.1, h1.2, fun e => h.ne (by rw [e]; rfl)⟩
theorem Mch.of_row {W' : World} (h : W.grownBy W' (some g)) : Mch rp (.slice (some ⟨g, 0, none⟩) n c) W (.slice (some ⟨g, 0, none⟩) n c) W' :=
  ⟨(GrownIn.of_grownBy h).mono fun _ _ e => .inr e, fun _ h => .inl h⟩
theorem Rgx.step_first (h : Rgx B W rp (.slice (some ⟨g, 0, none⟩) n c) (l1 ++ x :: l2) many) (v : Nat) :
    Rgx B (W.setCell ⟨g, l1.length * 260 + 257, none⟩ (.int .i64 v)) rp (.slice (some ⟨g, 0, none⟩) n c) (l1 ++ { x with first := v } :: l2) many ∧ Mch rp (.slice (some ⟨g, 0, none⟩) n c) W (.slice (some ⟨g, 0, none⟩) n c) (W.setCell ⟨g, l1.length * 260 + 257, none⟩ (.int .i64 v)) := by
  obtain ⟨hn, h1, h2, h3⟩ := h.own
  subst hn
  obtain ⟨h4, h5⟩ := h.row.stored (l1.length * 260 + 257) (.int .i64 v)
  rw [flatMap_set1 encP_len l1 l2 x _ 257 (by omega) _ (stpV_first x v)] at h4
  refine ⟨⟨(heap_setCell_other _ _ _ _ (by show rp ≠ g; exact fun e => h3 e.symm)).trans h.box, ?_, h.ne, h.lo⟩, Mch.of_row h5⟩
  have e : (l1 ++ { x with first := v } :: l2).length = (l1 ++ x :: l2).length := by simp
  rw [e]
  exact h4
theorem Rgx.step_other (h : Rgx B W rp (.slice (some ⟨g, 0, none⟩) n c) (l1 ++ x :: l2) many) (v : Nat) :
    Rgx B (W.setCell ⟨g, l1.length * 260 + 258, none⟩ (.int .i64 v)) rp (.slice (some ⟨g, 0, none⟩) n c) (l1 ++ { x with other := v } :: l2) many ∧ Mch rp (.slice (some ⟨g, 0, none⟩) n c) W (.slice (some ⟨g, 0, none⟩) n c) (W.setCell ⟨g, l1.length * 260 + 258, none⟩ (.int .i64 v)) := by
  obtain ⟨hn, h1, h2, h3⟩ := h.own
  subst hn
  obtain ⟨h4, h5⟩ := h.row.stored (l1.length * 260 + 258) (.int .i64 v)
  rw [flatMap_set1 encP_len l1 l2 x _ 258 (by omega) _ (stpV_other x v)] at h4
  refine ⟨⟨(heap_setCell_other _ _ _ _ (by show rp ≠ g; exact fun e => h3 e.symm)).trans h.box, ?_, h.ne, h.lo⟩, Mch.of_row h5⟩
  have e : (l1 ++ { x with other := v } :: l2).length = (l1 ++ x :: l2).length := by simp
  rw [e]
  exact h4
/-- A step is put in another's place. -/
theorem Rgx.step_put (h : Rgx B W rp (.slice (some ⟨g, 0, none⟩) n c) (l1 ++ x :: l2) many) (y : Stp) :
    Rgx B (W.setCells g (l1.length * 260) (encP y)) rp (.slice (some ⟨g, 0, none⟩) n c) (l1 ++ y :: l2) many ∧ Mch rp (.slice (some ⟨g, 0, none⟩) n c) W (.slice (some ⟨g, 0, none⟩) n c) (W.setCells g (l1.length * 260) (encP y)) := by
  obtain ⟨hn, h1, h2, h3⟩ := h.own
  subst hn
  have hlt := h.lt
  have hll : ((l1 ++ x :: l2).flatMap encP).length = (l1 ++ x :: l2).length * 260 := flatMap_length encP_len _
  obtain ⟨h4, h5⟩ := setCells_owned (encP y) h.row (l1.length * 260) (by rw [encP_len, hll, List.length_append, List.length_cons, Nat.add_mul, Nat.succ_mul]; omega)
  refine ⟨⟨(h5.block rp hlt (fun e => h3 (by injection e with e; exact e.symm))).trans h.box, ?_, h.ne, h.lo⟩, Mch.of_row h5⟩
  rw [encP_len, flatMap_put encP_len] at h4
  have e : (l1 ++ y :: l2).length = (l1 ++ x :: l2).length := by simp
  rw [e]
  exact h4
end
end Go.Proofs.YtamlnkmcbbeicaaDoor
