/- Patterns' machine: its steps, and one more. -/
import Derived.Test.YtamlnkmcbbeicaaDoorRgRead
namespace Go.Proofs.YtamlnkmcbbeicaaDoor
open Go.RowKit Go.Lib
open RX (PS Tr Pr Stp)

/-- A step's cells. -/
def stpV (x : Stp) : Array Value := #[.int .i64 x.op] ++ setV x.inn ++ #[.int .i64 x.first, .int .i64 x.other, .int .i64 x.mark]
theorem stpV_size (x : Stp) : (stpV x).size = 260 := by
  unfold stpV
  rw [Array.size_append, Array.size_append, setV_size]; rfl
theorem stpV_one (x : Stp) : (stpV x).all (·.oneCell') = true := by
  unfold stpV
  rw [Array.all_append, Array.all_append, setV_one]
  simp [Value.oneCell']
def encP (x : Stp) : List Value := (stpV x).toList
theorem encP_len (x : Stp) : (encP x).length = 260 := by unfold encP; rw [Array.length_toList, stpV_size]
theorem Tryd.infoStep : (Tryd.prog.info? 63).map (fun i => (i.zero, i.size, i.bytes)) = some (some (.agg (stpV ⟨0, fun _ => false, 0, 0, 0⟩)), 260, 288) := by kernel_rfl
theorem step_size : (Tryd.prog.info? 63).map (·.size) = some 260 := by kernel_rfl
theorem step_zero (w : World) : (zeroValue 63).run Tryd.prog w = .ok (.agg (stpV ⟨0, fun _ => false, 0, 0, 0⟩)) w := by
  obtain ⟨i, hi, h0, h1, h2⟩ := info_parts Tryd.infoStep
  simp [zeroValue, typeInfo, hi, h0]
theorem step_sizeOf (w : World) : (sizeOf 63).run Tryd.prog w = .ok 260 w := by kernel_rfl
theorem fill_one (Z C : Array Value) (n : Nat) (hC : C.size = n) (hZ : Z.size = n) : Instr.fill (fun i => some (i * n, n)) Z [(0, .agg C)] = some C := by
  have h := put_whole_n C Z n hC.symm (by rw [hC, hZ])
  simp [Instr.fill, Value.cells, hC, hZ]
  exact h
set_option maxRecDepth 100000 in
theorem run_build_steps (C : Array Value) (hC : C.size = 260) (w : World) : (Instr.buildSlice 55 1 #[(0, .agg C)]).run Tryd.prog w = .ok (.slice (some ⟨w.heap.size, 0, none⟩) 1 1) (w.alloc (.cells C 63)) := by
  have hz := step_zero w
  have hs := step_sizeOf w
  have hu : (underlying 55).run Tryd.prog w = .ok (.slice 63) w := run_underlying Tryd.underlying55 w
  have h0 := stpV_size ⟨0, fun _ => false, 0, 0, 0⟩
  unfold Instr.buildSlice
  simp only [Sem.run_bind, hu, Result.andThen_ok, hs]
  rw [if_neg (by decide), if_neg (by decide)]
  simp only [Sem.run_bind, hz, Result.andThen_ok, Sem.run_pure]
  rw [fill_one _ C 260 hC (by rw [Array.size_map, Array.size_range])]
  rfl
section
variable {w : World}
theorem step_load_step {ops : Array Oper} {o : Oper} {a : Act} {K : Act → World → Prop} {Q : Exit → Act → World → Prop} {E : Prop} (hgd : o.guard = none) (x : Operand) (ho : o.op = .load 63 x) {b : Nat} {C : Array Value} (hx : a.eval x = .pointer (some ⟨b, 0, none⟩)) (hb : w.heap[b]? = some (.cells C 63 (0, 0))) (hC : C.size = 260)
    (h : K (a.put o.dst (.agg C)) w) : if Region.wanted o (yielded ops a.tmps) = true then Oper.wp Tryd.prog o a w K Q else E := by
  have hw : Region.wanted o (yielded ops a.tmps) = true := by simp [Region.wanted, hgd]
  rw [if_pos hw]
  unfold Oper.wp execOp
  simp only [ho, hx, Instr.loadAt, Instr.sureAddr, Sem.run_bind, Sem.run_pure, Result.andThen_ok, run_loadVar_row w b 63 63 C (0, 0) _ hb Tryd.underlying63 rfl (by rw [hC]; exact step_size)]
  exact h
theorem step_build_step {ops : Array Oper} {o : Oper} {a : Act} {K : Act → World → Prop} {Q : Exit → Act → World → Prop} {E : Prop} (hgd : o.guard = none) (x : Operand) (ho : o.op = .buildSlice 55 1 #[(0, x)]) {C : Array Value} (hx : a.eval x = .agg C) (hC : C.size = 260)
    (h : K (a.put o.dst (.slice (some ⟨w.heap.size, 0, none⟩) 1 1)) (w.alloc (.cells C 63))) : if Region.wanted o (yielded ops a.tmps) = true then Oper.wp Tryd.prog o a w K Q else E := by
  have hw : Region.wanted o (yielded ops a.tmps) = true := by simp [Region.wanted, hgd]
  rw [if_pos hw]
  have hm : Array.map (fun y : Nat × Operand => (y.1, a.eval y.2)) #[(0, x)] = #[(0, .agg C)] := by simp [hx]
  unfold Oper.wp execOp
  simp only [ho]
  rw [hm]
  simp only [Sem.run_bind, run_build_steps C hC w, Result.andThen_ok, Sem.run_pure]
  exact h
end
theorem wpList_box_step {w : World} {ops : Array Oper} {rest : List Oper} {op : Oper} {a : Act} {Q : Exit → Act → World → Prop} (hgd : op.guard = none) (x : Operand) (ho : op.op = .box 63 x) {C : Array Value} (hx : a.eval x = .agg C)
    (h : wpList Tryd.prog ops Q rest (a.put op.dst (.pointer (some ⟨w.heap.size, 0, none⟩))) (w.alloc (.cells C 63))) : wpList Tryd.prog ops Q (op :: rest) a w :=
  wpList_plain hgd fun K hK => by
    unfold Oper.wp execOp
    have hr : (Instr.box 63 (.agg C)).run Tryd.prog w = .ok (.pointer (some ⟨w.heap.size, 0, none⟩)) (w.alloc (.cells C 63)) := rfl
    simp only [ho, hx, Sem.run_bind, hr, Result.andThen_ok, Sem.run_pure]
    exact hK _ _ h
theorem rangeA {w : World} {b : Nat} {C : Array Value} {t : TypeId} (h : w.heap[b]? = some (.cells C t (0, 0))) : w.rangeAt b 0 C.toList := fun j v hv => by
  rw [Nat.zero_add, cell_of_row w b j C t (0, 0) h]
  simpa using hv
theorem cells_newA (w : World) (C : Array Value) (t : TypeId) : ∀ j u, C.toList[j]? = some u → (w.alloc (.cells C t)).cell? ((⟨w.heap.size, 0, none⟩ : Addr).add j) = some u := by
  have := cells_newL w C.toList t
  rwa [Array.toArray_toList] at this
theorem one_list {C : Array Value} (h : C.all (·.oneCell') = true) : ∀ u ∈ C.toList, u.oneCell' = true := fun u hu => (Array.all_eq_true_iff_forall_mem.1 h) u (by simpa using hu)
/-- The machine under way: the variable that holds its steps; all of it lies from block B on. -/
structure Rgx (B : Nat) (W : World) (rp : Nat) (a : Value) (l : List Stp) (many : Nat) : Prop where
  box : W.heap[rp]? = some (.cells #[a, .int .i64 many] 57 (0, 0))
  row : W.ownsRow B 63 260 a l.length (l.flatMap encP)
  ne : a.ownBlock ≠ some rp
  lo : B ≤ rp
section
variable {B rp many : Nat} {W W' : World} {a : Value} {l : List Stp}
theorem Rgx.c0 (h : Rgx B W rp a l many) : W.cell? ⟨rp, 0, none⟩ = some a := by rw [cell_of_row W rp 0 _ _ (0, 0) h.box]; rfl
theorem Rgx.c1 (h : Rgx B W rp a l many) : W.cell? ⟨rp, 1, none⟩ = some (.int .i64 many) := by rw [cell_of_row W rp 1 _ _ (0, 0) h.box]; rfl
theorem Rgx.fr (h : Rgx B W rp a l many) (i : Nat) : W.frozen? ⟨rp, i, none⟩ = false := by
  unfold World.frozen?
  rw [h.box]
  rfl
theorem Rgx.lt (h : Rgx B W rp a l many) : rp < W.heap.size := (Array.getElem?_eq_some_iff.1 h.box).1
theorem grownBy_set1 {w : World} (b : Nat) (v : Value) : w.grownBy (w.setCell ⟨b, 0, none⟩ v) (some b) := ⟨rfl, rfl, rfl, by simp [World.setCell], fun k _ hk => Below.heap_setCell _ _ _ _ (fun e => hk (by rw [e]))⟩
/-- What the machine's making may have changed: its variable, its steps; what is new. -/
structure Mch (rp : Nat) (a : Value) (w : World) (a' : Value) (w' : World) : Prop where
  grown : GrownIn (fun k => k = rp ∨ a.ownBlock = some k) w w'
  own : ∀ k, a'.ownBlock = some k → a.ownBlock = some k ∨ w.heap.size ≤ k
theorem Mch.refl (rp : Nat) (a : Value) (w : World) : Mch rp a w a w := ⟨GrownIn.refl _ _, fun _ h => .inl h⟩
theorem Mch.trans {a1 a2 : Value} {w w1 w2 : World} (h : Mch rp a w a1 w1) (k : Mch rp a1 w1 a2 w2) : Mch rp a w a2 w2 :=
  ⟨h.grown.trans k.grown fun b hb hS => by
    rcases hS with hS | hS
    · exact .inl hS
    · rcases h.own b hS with h1 | h1
      · exact .inr h1
      · omega, fun b hb => by
    rcases k.own b hb with h1 | h1
    · exact h.own b h1
    · have := h.grown.size; exact .inr (by omega)⟩
theorem Mch.pre {a1 : Value} {w V w1 : World} (hb : Below w.heap.size w V) (h : Mch rp a V a1 w1) : Mch rp a w a1 w1 :=
  Mch.trans ⟨(GrownIn.of_below hb).mono fun _ h1 h2 => absurd h1 (by omega), fun _ h => .inl h⟩ h
theorem Mch.post {a1 : Value} {w w1 V : World} (h : Mch rp a w a1 w1) (hb : Below w1.heap.size w1 V) : Mch rp a w a1 V :=
  h.trans ⟨(GrownIn.of_below hb).mono fun _ h1 h2 => absurd h1 (by omega), fun _ h => .inl h⟩
theorem Mch.cell {a1 : Value} {w w1 : World} (h : Mch rp a w a1 w1) {p : Addr} {v : Value} (hc : w.cell? p = some v) (hp : p.block ≠ rp) (ha : a.ownBlock ≠ some p.block) : w1.cell? p = some v :=
  h.grown.cell hc fun e => by rcases e with e | e; exact hp e; exact ha e
theorem Mch.below {a1 : Value} {w w1 : World} (h : Mch rp a w a1 w1) (hr : Rgx B w rp a l many) : Below B w w1 :=
  h.grown.below (fun k e => by
    rcases e with e | e
    · rw [e]; exact hr.lo
    · exact (hr.row.lt k e).1) (by have := hr.lo; have := (Array.getElem?_eq_some_iff.1 hr.box).1; omega)
/-- A step more: the row behind an append is put into the machine's variable. -/
theorem Rgx.push {V w6 : World} {g c : Nat} {x : Stp} (h : Rgx B W rp a l many) (hba : Below W.heap.size W V) (hgr : V.grownBy w6 a.ownBlock) (hl : a.ownBlock = some g ∨ g = V.heap.size)
    (hown : w6.ownsRow B 63 260 (.slice (some ⟨g, 0, none⟩) (l.length + 1) c) (l.length + 1) (l.flatMap encP ++ (stpV x).toList)) :
    Rgx B (w6.setCell ⟨rp, 0, none⟩ (.slice (some ⟨g, 0, none⟩) (l.length + 1) c)) rp (.slice (some ⟨g, 0, none⟩) (l.length + 1) c) (l ++ [x]) many ∧ Mch rp a W (.slice (some ⟨g, 0, none⟩) (l.length + 1) c) (w6.setCell ⟨rp, 0, none⟩ (.slice (some ⟨g, 0, none⟩) (l.length + 1) c)) := by
  have hV := hba.size
  have hlt : rp < W.heap.size := (Array.getElem?_eq_some_iff.1 h.box).1
  have hne : g ≠ rp := by
    rintro rfl
    rcases hl with hl | hl
    · exact h.ne hl
    · omega
  have hb6 : w6.heap[rp]? = some (.cells #[a, .int .i64 many] 57 (0, 0)) := (hgr.block rp (by omega) (fun e => h.ne e.symm)).trans ((hba.block rp hlt).trans h.box)
  refine ⟨⟨?_, ?_, ?_, h.lo⟩, Mch.pre hba ⟨?_, ?_⟩⟩
  · exact heap_setCell_same w6 rp 0 _ _ _ hb6
  · have := hown.kept (grownBy_set1 rp (.slice (some ⟨g, 0, none⟩) (l.length + 1) c)) (.inr (by simp [Value.ownBlock]; exact hne))
    rw [List.length_append, List.flatMap_append]
    simpa [encP] using this
  · simp [Value.ownBlock]; exact hne
  · exact ((GrownIn.of_grownBy hgr).mono (T := fun k => k = rp ∨ a.ownBlock = some k) fun _ _ e => .inr e).trans (GrownIn.of_grownBy (grownBy_set1 rp _)) fun k _ e => .inl (by injection e with e; exact e.symm)
  · intro k hk
    obtain rfl : g = k := by simpa [Value.ownBlock] using hk
    rcases hl with hl | hl
    · exact .inl hl
    · exact .inr (by omega)
theorem Rgx.below (h : Rgx B W rp a l many) (hb : Below W.heap.size W W') : Rgx B W' rp a l many := ⟨(hb.block rp h.lt).trans h.box, owns_below h.row hb, h.ne, h.lo⟩
end
set_option maxHeartbeats 4000000 in
set_option maxRecDepth 100000 in
theorem add_any (B rp many : Nat) (a : Value) (l : List Stp) (x : Stp) (w : World) (h : Rgx B w rp a l many) (hn : l.length ≤ 100000) :
    Calls Tryd.prog 24 #[.pointer (some ⟨rp, 0, none⟩), .agg (stpV x)] w fun e w' => e = .returned (.int .i64 l.length) ∧ ∃ a', Rgx B w' rp a' (l ++ [x]) many ∧ Mch rp a w a' w' := by
  obtain ⟨i0, hi, hz0, hz1, hz2⟩ := info_parts Tryd.infoStep
  have hb : Below w.heap.size w (w.alloc (.cells (stpV x) 63)) := (Below.refl _ _).alloc (Nat.le_refl _) _
  have hC := stpV_size x
  have hone := stpV_one x
  obtain ⟨C, hCe⟩ : ∃ C, stpV x = C := ⟨_, rfl⟩
  rw [hCe] at hb hC hone ⊢
  have hbx := heap_alloc_new w (.cells C 63)
  have hB : B ≤ w.heap.size := by have := h.lo; have := h.lt; omega
  have HB0 := Lib.hid hb
  have H1 := Lib.hid (show Rgx B (w.alloc (.cells C 63)) rp a l many ∧ _ ∧ _ ∧ _ ∧ _ ∧ _ from ⟨h.below hb, trivial, hC, hone, hCe, hbx⟩)
  have HI := Lib.hid (show _ ∧ _ ∧ _ ∧ _ from ⟨hi, hz0, hz1, hz2⟩)
  clear h hb hC hone hCe hbx hi hz0 hz1 hz2
  go_enter Tryd.func24, Tryd.ntmps24
  go_wp2_with (first | (refine wpList_box_step rfl _ rfl rfl ?_) | fail)
  have hBW : B ≤ (w.alloc (.cells C 63)).heap.size := by simp; omega
  generalize w.alloc (.cells C 63) = W at H1 HB0 hBW ⊢
  have c0 := H1.out.1.c0
  have f0 := H1.out.1.fr 0
  obtain ⟨hi, hz0, hz1, hz2⟩ := HI.out
  have hxb : W.heap[w.heap.size]? = some (.cells C 63 (0, 0)) := H1.out.2.2.2.2.2
  have hrow := H1.out.1.row
  have hCs := H1.out.2.2.1
  have c0a : (W.alloc (.cells C 63)).cell? ⟨rp, 0, none⟩ = some a := (H1.out.1.below ((Below.refl _ _).alloc (Nat.le_refl _) _)).c0
  have hba : Below W.heap.size W (W.drew.alloc (.cells C 63)) := ((Below.refl _ _).alloc (Nat.le_refl _) (.cells C 63)).drew
  have hba2 : Below W.heap.size W (W.alloc (.cells C 63)).drew := ((Below.refl _ _).alloc (Nat.le_refl _) (.cells C 63)).drew
  refine wp_region_any (by kernel_rfl) ?_
  change wpAny _ _ _ _ _ _ _ (World.drew _)
  refine wpAny_take (i := 0) (v := (.pointer (some ⟨rp, 0, none⟩))) rfl (by kernel_rfl) (by kernel_rfl) (by kernel_rfl) (fun _ _ _ h => h) (Or.inl ⟨by rfl, by intro w; go_simp⟩) ?_
  try simp only [Act.put, List.setIfInBounds_toArray, List.set_cons_zero, List.set_cons_succ]
  refine wpAny_take (i := 1) (v := (.pointer (some ⟨rp, 0, none⟩))) rfl (by kernel_rfl) (by kernel_rfl) (by kernel_rfl) (fun _ _ _ h => h) (Or.inl ⟨by rfl, by intro w; go_simp⟩) ?_
  try simp only [Act.put, List.setIfInBounds_toArray, List.set_cons_zero, List.set_cons_succ]
  refine wpAny_take (i := 2) (v := (.pointer (some ⟨rp, 0, none⟩))) rfl (by kernel_rfl) (by kernel_rfl) (by kernel_rfl) (fun _ _ _ h => h) (Or.inl ⟨by rfl, by intro w; go_simp⟩) ?_
  try simp only [Act.put, List.setIfInBounds_toArray, List.set_cons_zero, List.set_cons_succ]
  refine wpAny_take (i := 3) (v := (.pointer (some ⟨rp, 0, none⟩))) rfl (by kernel_rfl) (by kernel_rfl) (by kernel_rfl) (fun _ _ _ h => h) (Or.inl ⟨by rfl, by intro w; go_simp⟩) ?_
  try simp only [Act.put, List.setIfInBounds_toArray, List.set_cons_zero, List.set_cons_succ]
  refine wpAny_ready (rs := [4, 5]) (by kernel_rfl) (by simp) ?_
  refine AllReady.cons rfl (fun K hK => ?_) (AllReady.cons rfl (fun K hK => ?_) AllReady.nil)
  · go_simp
    refine hK _ _ ?_
    clear hK K
    try simp only [Act.put, List.setIfInBounds_toArray, List.set_cons_zero, List.set_cons_succ]
    refine wpAny_ready (rs := [5]) (by kernel_rfl) (by simp) ?_
    refine AllReady.cons rfl (fun K hK => ?_) AllReady.nil
    refine step_load_step rfl _ rfl rfl (by exact hxb) hCs ?_
    refine hK _ _ ?_
    clear hK K
    try simp only [Act.put, List.setIfInBounds_toArray, List.set_cons_zero, List.set_cons_succ]
    refine wpAny_ready (rs := [6]) (by kernel_rfl) (by simp) ?_
    refine AllReady.cons rfl (fun K hK => ?_) AllReady.nil
    refine step_build_step rfl _ rfl rfl hCs ?_
    refine hK _ _ ?_
    clear hK K
    try simp only [Act.put, List.setIfInBounds_toArray, List.set_cons_zero, List.set_cons_succ]
    refine wpAny_ready (rs := [7]) (by kernel_rfl) (by simp) ?_
    refine AllReady.cons rfl (fun K hK => ?_) AllReady.nil
    refine step_append_lies _ (by rfl) _ _ _ (by rfl) B 63 i0 _ 260 288 Tryd.underlying55 hi hz0 hz1 hz2 (by rw [Value.cells]; exact stpV_size _) (by omega) a l.length (l.flatMap encP) (by rfl) (by exact owns_below hrow hba) ⟨W.heap.size, 0, none⟩ 1 1 C.toList (by rfl) (by rw [Array.length_toList, hCs]) (by exact cells_newA W C _) (by exact one_list H1.out.2.2.2.1) (by omega) (by unfold maxLen; omega) (by omega) (by simp; omega) (W.heap.size + 1) (by simp) ?_
    intro g6 c6 w6 hown6 hg6 hl6 hlt6
    have hW6 := hba.size
    have hCe := H1.out.2.2.2.2.1
    subst hCe
    obtain ⟨hR7, hb7⟩ := Rgx.push (x := x) H1.out.1 hba hg6 (by rcases hl6 with e | e; exact .inl e; exact .inr (by rw [e]; simp)) hown6
    have hb6 : w6.heap[rp]? = some (.cells #[a, .int .i64 many] 57 (0, 0)) := (hg6.block rp (Nat.lt_of_lt_of_le H1.out.1.lt hba.size) (fun e => H1.out.1.ne e.symm)).trans ((hba.block rp H1.out.1.lt).trans H1.out.1.box)
    have c6 : w6.cell? ⟨rp, 0, none⟩ = some a := by rw [cell_of_row w6 rp 0 _ _ (0, 0) hb6]; rfl
    have f6 : w6.frozen? ⟨rp, 0, none⟩ = false := by unfold World.frozen?; rw [hb6]; rfl
    have hb8 := Mch.pre HB0.out hb7
    have H7 := Lib.hid (show _ ∧ _ from ⟨hR7, hb8⟩)
    clear hown6 hg6 hl6 hR7 hb7 hb6 hb8 hW6
    refine hK _ _ ?_
    clear hK K
    try simp only [Act.put, List.setIfInBounds_toArray, List.set_cons_zero, List.set_cons_succ]
    refine wpAny_take (i := 8) (v := (.pointer (some ⟨rp, 0, none⟩))) rfl (by kernel_rfl) (by kernel_rfl) (by kernel_rfl) (fun _ _ _ h => h) (Or.inl ⟨by rfl, by intro w; go_simp⟩) ?_
    try simp only [Act.put, List.setIfInBounds_toArray, List.set_cons_zero, List.set_cons_succ]
    refine wpAny_take (i := 9) (v := (.pointer (some ⟨rp, 0, none⟩))) rfl (by kernel_rfl) (by kernel_rfl) (by kernel_rfl) (fun _ _ _ h => h) (Or.inl ⟨by rfl, by intro w; go_simp⟩) ?_
    try simp only [Act.put, List.setIfInBounds_toArray, List.set_cons_zero, List.set_cons_succ]
    refine wpAny_ready (rs := [10]) (by kernel_rfl) (by simp) ?_
    refine AllReady.cons rfl (fun K hK => ?_) AllReady.nil
    go_simp
    refine hK _ _ ?_
    clear hK K
    try simp only [Act.put, List.setIfInBounds_toArray, List.set_cons_zero, List.set_cons_succ]
    refine wpAny_done (by kernel_rfl) ?_ _
    have k0 := H7.out.1.c0
    go_wp2
    go_ret
    exact ⟨rfl, _, H7.out.1, H7.out.2⟩
  · refine step_load_step rfl _ rfl rfl (by exact hxb) hCs ?_
    refine hK _ _ ?_
    clear hK K
    try simp only [Act.put, List.setIfInBounds_toArray, List.set_cons_zero, List.set_cons_succ]
    refine wpAny_ready (rs := [4, 6]) (by kernel_rfl) (by simp) ?_
    refine AllReady.cons rfl (fun K hK => ?_) (AllReady.cons rfl (fun K hK => ?_) AllReady.nil)
    · go_simp
      refine hK _ _ ?_
      clear hK K
      try simp only [Act.put, List.setIfInBounds_toArray, List.set_cons_zero, List.set_cons_succ]
      refine wpAny_ready (rs := [6]) (by kernel_rfl) (by simp) ?_
      refine AllReady.cons rfl (fun K hK => ?_) AllReady.nil
      refine step_build_step rfl _ rfl rfl hCs ?_
      refine hK _ _ ?_
      clear hK K
      try simp only [Act.put, List.setIfInBounds_toArray, List.set_cons_zero, List.set_cons_succ]
      refine wpAny_ready (rs := [7]) (by kernel_rfl) (by simp) ?_
      refine AllReady.cons rfl (fun K hK => ?_) AllReady.nil
      refine step_append_lies _ (by rfl) _ _ _ (by rfl) B 63 i0 _ 260 288 Tryd.underlying55 hi hz0 hz1 hz2 (by rw [Value.cells]; exact stpV_size _) (by omega) a l.length (l.flatMap encP) (by rfl) (by exact owns_below hrow hba) ⟨W.heap.size, 0, none⟩ 1 1 C.toList (by rfl) (by rw [Array.length_toList, hCs]) (by exact cells_newA W C _) (by exact one_list H1.out.2.2.2.1) (by omega) (by unfold maxLen; omega) (by omega) (by simp; omega) (W.heap.size + 1) (by simp) ?_
      intro g6 c6 w6 hown6 hg6 hl6 hlt6
      have hW6 := hba.size
      have hCe := H1.out.2.2.2.2.1
      subst hCe
      obtain ⟨hR7, hb7⟩ := Rgx.push (x := x) H1.out.1 hba hg6 (by rcases hl6 with e | e; exact .inl e; exact .inr (by rw [e]; simp)) hown6
      have hb6 : w6.heap[rp]? = some (.cells #[a, .int .i64 many] 57 (0, 0)) := (hg6.block rp (Nat.lt_of_lt_of_le H1.out.1.lt hba.size) (fun e => H1.out.1.ne e.symm)).trans ((hba.block rp H1.out.1.lt).trans H1.out.1.box)
      have c6 : w6.cell? ⟨rp, 0, none⟩ = some a := by rw [cell_of_row w6 rp 0 _ _ (0, 0) hb6]; rfl
      have f6 : w6.frozen? ⟨rp, 0, none⟩ = false := by unfold World.frozen?; rw [hb6]; rfl
      have hb8 := Mch.pre HB0.out hb7
      have H7 := Lib.hid (show _ ∧ _ from ⟨hR7, hb8⟩)
      clear hown6 hg6 hl6 hR7 hb7 hb6 hb8 hW6
      refine hK _ _ ?_
      clear hK K
      try simp only [Act.put, List.setIfInBounds_toArray, List.set_cons_zero, List.set_cons_succ]
      refine wpAny_take (i := 8) (v := (.pointer (some ⟨rp, 0, none⟩))) rfl (by kernel_rfl) (by kernel_rfl) (by kernel_rfl) (fun _ _ _ h => h) (Or.inl ⟨by rfl, by intro w; go_simp⟩) ?_
      try simp only [Act.put, List.setIfInBounds_toArray, List.set_cons_zero, List.set_cons_succ]
      refine wpAny_take (i := 9) (v := (.pointer (some ⟨rp, 0, none⟩))) rfl (by kernel_rfl) (by kernel_rfl) (by kernel_rfl) (fun _ _ _ h => h) (Or.inl ⟨by rfl, by intro w; go_simp⟩) ?_
      try simp only [Act.put, List.setIfInBounds_toArray, List.set_cons_zero, List.set_cons_succ]
      refine wpAny_ready (rs := [10]) (by kernel_rfl) (by simp) ?_
      refine AllReady.cons rfl (fun K hK => ?_) AllReady.nil
      go_simp
      refine hK _ _ ?_
      clear hK K
      try simp only [Act.put, List.setIfInBounds_toArray, List.set_cons_zero, List.set_cons_succ]
      refine wpAny_done (by kernel_rfl) ?_ _
      have k0 := H7.out.1.c0
      go_wp2
      go_ret
      exact ⟨rfl, _, H7.out.1, H7.out.2⟩
    · refine step_build_step rfl _ rfl rfl hCs ?_
      refine hK _ _ ?_
      clear hK K
      try simp only [Act.put, List.setIfInBounds_toArray, List.set_cons_zero, List.set_cons_succ]
      refine wpAny_ready (rs := [4]) (by kernel_rfl) (by simp) ?_
      refine AllReady.cons rfl (fun K hK => ?_) AllReady.nil
      go_simp
      refine hK _ _ ?_
      clear hK K
      try simp only [Act.put, List.setIfInBounds_toArray, List.set_cons_zero, List.set_cons_succ]
      refine wpAny_ready (rs := [7]) (by kernel_rfl) (by simp) ?_
      refine AllReady.cons rfl (fun K hK => ?_) AllReady.nil
      refine step_append_lies _ (by rfl) _ _ _ (by rfl) B 63 i0 _ 260 288 Tryd.underlying55 hi hz0 hz1 hz2 (by rw [Value.cells]; exact stpV_size _) (by omega) a l.length (l.flatMap encP) (by rfl) (by exact owns_below hrow hba) ⟨W.heap.size, 0, none⟩ 1 1 C.toList (by rfl) (by rw [Array.length_toList, hCs]) (by exact cells_newA W C _) (by exact one_list H1.out.2.2.2.1) (by omega) (by unfold maxLen; omega) (by omega) (by simp; omega) (W.heap.size + 1) (by simp) ?_
      intro g6 c6 w6 hown6 hg6 hl6 hlt6
      have hW6 := hba.size
      have hCe := H1.out.2.2.2.2.1
      subst hCe
      obtain ⟨hR7, hb7⟩ := Rgx.push (x := x) H1.out.1 hba hg6 (by rcases hl6 with e | e; exact .inl e; exact .inr (by rw [e]; simp)) hown6
      have hb6 : w6.heap[rp]? = some (.cells #[a, .int .i64 many] 57 (0, 0)) := (hg6.block rp (Nat.lt_of_lt_of_le H1.out.1.lt hba.size) (fun e => H1.out.1.ne e.symm)).trans ((hba.block rp H1.out.1.lt).trans H1.out.1.box)
      have c6 : w6.cell? ⟨rp, 0, none⟩ = some a := by rw [cell_of_row w6 rp 0 _ _ (0, 0) hb6]; rfl
      have f6 : w6.frozen? ⟨rp, 0, none⟩ = false := by unfold World.frozen?; rw [hb6]; rfl
      have hb8 := Mch.pre HB0.out hb7
      have H7 := Lib.hid (show _ ∧ _ from ⟨hR7, hb8⟩)
      clear hown6 hg6 hl6 hR7 hb7 hb6 hb8 hW6
      refine hK _ _ ?_
      clear hK K
      try simp only [Act.put, List.setIfInBounds_toArray, List.set_cons_zero, List.set_cons_succ]
      refine wpAny_take (i := 8) (v := (.pointer (some ⟨rp, 0, none⟩))) rfl (by kernel_rfl) (by kernel_rfl) (by kernel_rfl) (fun _ _ _ h => h) (Or.inl ⟨by rfl, by intro w; go_simp⟩) ?_
      try simp only [Act.put, List.setIfInBounds_toArray, List.set_cons_zero, List.set_cons_succ]
      refine wpAny_take (i := 9) (v := (.pointer (some ⟨rp, 0, none⟩))) rfl (by kernel_rfl) (by kernel_rfl) (by kernel_rfl) (fun _ _ _ h => h) (Or.inl ⟨by rfl, by intro w; go_simp⟩) ?_
      try simp only [Act.put, List.setIfInBounds_toArray, List.set_cons_zero, List.set_cons_succ]
      refine wpAny_ready (rs := [10]) (by kernel_rfl) (by simp) ?_
      refine AllReady.cons rfl (fun K hK => ?_) AllReady.nil
      go_simp
      refine hK _ _ ?_
      clear hK K
      try simp only [Act.put, List.setIfInBounds_toArray, List.set_cons_zero, List.set_cons_succ]
      refine wpAny_done (by kernel_rfl) ?_ _
      have k0 := H7.out.1.c0
      go_wp2
      go_ret
      exact ⟨rfl, _, H7.out.1, H7.out.2⟩
end Go.Proofs.YtamlnkmcbbeicaaDoor
