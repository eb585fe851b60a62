/- Patterns' machine at work: follow. -/
import Derived.Test.YtamlnkmcbbeicaaDoorRgFl
import Derived.Test.YtamlnkmcbbeicaaDoorRgClone
import Derived.Deep.LoopGhost
import Derived.BigRegion
import Derived.Deep.RegionHeld3
import Derived.Deep.MidRow
namespace Go.Proofs.YtamlnkmcbbeicaaDoor
open Go.RowKit Go.Lib
open RX (PS Tr Pr Stp Th)

theorem flat_get {α : Type} {enc : α → List Value} {n : Nat} (hsz : ∀ x, (enc x).length = n) : ∀ {l : List α} {p : Nat} {x : α} (_ : l[p]? = some x) {j : Nat} (_ : j < n), (l.flatMap enc)[p * n + j]? = (enc x)[j]?
  | [], p, x, h, _, _ => by cases p <;> cases h
  | y :: l, 0, x, h, j, hj => by
    obtain rfl : y = x := by simpa using h
    rw [Nat.zero_mul, Nat.zero_add, List.flatMap_cons, List.getElem?_append_left (by rw [hsz]; exact hj)]
  | y :: l, p + 1, x, h, j, hj => by
    rw [List.flatMap_cons, List.getElem?_append_right (by rw [hsz, Nat.succ_mul]; omega), hsz, show (p + 1) * n + j - n = p * n + j by rw [Nat.succ_mul]; omega]
    exact flat_get hsz (by simpa using h) hj
/-- A step, where it lies in the machine. -/
theorem Rgx.range {B rp many g n c p : Nat} {W : World} {l : List Stp} {x : Stp} (h : Rgx B W rp (.slice (some ⟨g, 0, none⟩) n c) l many) (hx : l[p]? = some x) : W.rangeAt g (p * 260) (encP x) := fun j v hv => by
  have hj : j < 260 := by have := (List.getElem?_eq_some_iff.1 hv).1; rwa [encP_len] at this
  exact owns_cell h.row rfl (by rw [flat_get encP_len hx hj]; exact hv)
theorem step_row : (TypeDesc.isRow <$> Tryd.prog.underlying 63) = some true := by kernel_rfl
theorem load_step {W : World} {g o : Nat} {x : Stp} (h : W.rangeAt g o (encP x)) : (Instr.loadAt 63 (.pointer (some ⟨g, o, none⟩))).run Tryd.prog W = .ok (.agg (stpV x)) W := by
  have h2 := step_row
  cases hu : Tryd.prog.underlying 63 with
  | none => rw [hu] at h2; cases h2
  | some d =>
    rw [hu] at h2
    have := run_loadAt_mid (P := Tryd.prog) W g o 63 (encP x) d h hu (by simpa using h2) (by rw [encP_len]; exact step_size)
    rw [this]
    unfold encP
    rw [Array.toArray_toList]
section
variable {w : World} {ops : Array Oper} {o : Oper} {a : Act} {K : Act → World → Prop} {Q : Exit → Act → World → Prop} {E : Prop}
theorem take_dst {P : Program} {md : Region.Mode} {S : World → Prop} {i : Nat} {v : Value} {fuel : Nat} {listed : Array Bool} (d : Option Tmp) (hi : ops[i]? = some o) (hd : o.dst = d)
    (hs : Region.noSelect ops = true) (hf : Region.free md ops listed i = true) (hr : (Region.ready md ops listed).contains i = true)
    (hQ : ∀ c a w, Q (.panic c) (a.put d v) w → Q (.panic c) a w) (hy : YieldsIf P ops S o v a) (hS : S w)
    (h : wpAnyH P md ops Q S fuel (listed.setIfInBounds i true) (a.put d v) w) : wpAnyH P md ops Q S (fuel + 1) listed a w := by
  subst hd
  exact wpAnyH_take hi hs hf hr hQ hy hS h
theorem step_alloc_step (d : Option Tmp) (hd : o.dst = d) (hgd : o.guard = none) (ho : o.op = .alloc 63) {Z : Array Value} (hz : ∀ w, (zeroValue 63).run Tryd.prog w = .ok (.agg Z) w)
    (h : K (a.put d (.pointer (some ⟨w.heap.size, 0, none⟩))) (w.alloc (.cells Z 63))) : if Region.wanted o (yielded ops a.tmps) = true then Oper.wp Tryd.prog o a w K Q else E := by
  subst hd
  have hz := hz w
  rw [if_pos (by simp [Region.wanted, hgd])]
  unfold Oper.wp execOp
  simp only [ho]
  simp [Instr.alloc, hz, Result.andThen, Sem.run_bind, Value.cells]
  exact h
theorem step_store_step (hd : o.dst = none) (hgd : o.guard = none) (x y : Operand) (ho : o.op = .store 63 x y) (b : Nat) (Z C : Array Value) (hx : a.eval x = .pointer (some ⟨b, 0, none⟩)) (hy : a.eval y = .agg C) (hb : w.heap[b]? = some (.cells Z 63 (0, 0))) (hZ : Z.size = 260) (hC : C.size = 260) (h1 : C.all (·.oneCell') = true)
    (h : K a (w.setRow b C)) : if Region.wanted o (yielded ops a.tmps) = true then Oper.wp Tryd.prog o a w K Q else E := by
  rw [if_pos (by simp [Region.wanted, hgd])]
  unfold Oper.wp execOp
  have h' : K (a.put o.dst undef) (w.setRow b C) := by rw [hd]; exact h
  simp only [ho, hx, hy, Instr.storeAt, Instr.sureAddr, Sem.run_bind, Sem.run_pure, Result.andThen_ok, run_storeVar_row w b 63 63 Z C hb (by rw [hC]; exact step_size) (by rw [hC, hZ]) h1]
  exact h'
end
theorem load_exec {w : World} {o : Oper} {a : Act} (y : Operand) (ho : o.op = .load 63 y) {g k : Nat} {x : Stp} {C : Array Value} (hy : a.eval y = .pointer (some ⟨g, k, none⟩)) (h : w.rangeAt g k (encP x)) (hC : stpV x = C) : (execOp a.eval o).run Tryd.prog w = .ok (.value (.agg C)) w := by
  subst hC
  unfold execOp
  simp only [ho, hy, load_step h, Sem.run_bind, Sem.run_pure, Result.andThen_ok]
theorem setRow_same {w : World} {b : Nat} {C D : Array Value} {t : TypeId} (h : w.heap[b]? = some (.cells C t (0, 0))) : (w.setRow b D).heap[b]? = some (.cells D t (0, 0)) := by
  unfold World.setRow
  simp only [Array.getElem?_modify, if_pos, h, Option.map_some]
/-- A step copied into a new block. -/
theorem copied (W : World) (Z C : Array Value) : (((W.drew).alloc (.cells Z 63)).setRow W.heap.size C).heap[W.heap.size]? = some (.cells C 63 (0, 0)) ∧
    Below W.heap.size W (((W.drew).alloc (.cells Z 63)).setRow W.heap.size C) := by
  refine ⟨setRow_same (heap_alloc_new W.drew _), ?_⟩
  exact (((Below.refl W.heap.size W).drew).alloc (Nat.le_refl _) _).trans ((setRow_grown _ _ _).below (fun k e => by omega) (by simp))
theorem grownBy_set1' {w : World} (b o : Nat) (v : Value) : w.grownBy (w.setCell ⟨b, o, none⟩ v) (some b) := ⟨rfl, rfl, rfl, by simp [World.setCell], fun k _ hk => Below.heap_setCell _ _ _ _ (fun e => hk (by rw [e]))⟩
theorem Thr.after {W W1 w6 : World} {tp n : Nat} {lv sv : Value} {l : List Th} {seen : List Bool} {xs : List Value} (h : Thr W tp lv sv l seen) (hb : Below W.heap.size W W1) (ho : W.ownsRow 0 114 2 lv n xs) (hg : W1.grownBy w6 lv.ownBlock) : w6.cell? ⟨tp, 0, none⟩ = some lv ∧ w6.frozen? ⟨tp, 0, none⟩ = false := by
  have h1 : W1.heap[tp]? = _ := (hb.block tp h.lt).trans h.box
  have h2 : w6.heap[tp]? = _ := ((GrownIn.of_grownBy hg).block tp (Array.getElem?_eq_some_iff.1 h1).1 (off_own (owns_below ho hb) (t := 111) (by decide) tp · (ty_box h1))).trans h1
  refine ⟨by rw [cell_of_row w6 tp 0 _ _ (0, 0) h2]; rfl, ?_⟩
  unfold World.frozen?
  rw [h2]; rfl
theorem Fl.listA {B rp many tp : Nat} {a lv0 sv lv tv : Value} {prog : List Stp} {w0 W W1 w6 : World} {todo l : List Th} {seen : List Bool} {g c p n : Nat} {m : List Int} {mv : Value} {xs : List (Nat × Value)} (h : Fl B rp many a prog tp lv0 sv w0 W lv tv todo l seen) (hb : Below W.heap.size W W1) (hxs : ThsV W xs l) (hm : MarkV W mv m) (hn : n = l.length) (ho : W.ownsRow 0 114 2 lv n (xs.flatMap encT))
    (hg : W1.grownBy w6 lv.ownBlock) (hl : lv.ownBlock = some g ∨ g = W1.heap.size) (hown : w6.ownsRow 0 114 2 (.slice (some ⟨g, 0, none⟩) (n + 1) c) (n + 1) (xs.flatMap encT ++ [.int .i64 p, mv])) :
    Fl B rp many a prog tp lv0 sv w0 (w6.setCell ⟨tp, 0, none⟩ (.slice (some ⟨g, 0, none⟩) (n + 1) c)) (.slice (some ⟨g, 0, none⟩) (n + 1) c) tv todo (l ++ [(p, m)]) seen := by
  have hg' := GrownIn.of_below hb
  exact (h.below hb).list (hxs.keepS hg' (off_new _ _)) (hm.keepS hg' (off_new _ _)) hn (owns_below ho hb) hg hl hown
theorem sc_size (w : World) (a : Addr) (v : Value) : (w.setCell a v).heap.size = w.heap.size := by simp [World.setCell]
theorem own_base0 {W : World} {base sz n : Nat} {e : TypeId} {v : Value} {xs : List Value} (h : W.ownsRow base e sz v n xs) : W.ownsRow 0 e sz v n xs := by
  refine ⟨h.1, ?_⟩
  rcases h.2 with h1 | ⟨g, cap, cur, e1, hb, rest⟩
  · exact .inl h1
  · exact .inr ⟨g, cap, cur, e1, Nat.zero_le _, rest⟩
theorem Fl.pushA {B rp many tp : Nat} {a lv0 sv lv tv : Value} {prog : List Stp} {w0 W w6 : World} {todo l : List Th} {seen : List Bool} {g c p n : Nat} {m : List Int} {mv : Value} {xs : List (Nat × Value)} {o : Obj} (h : Fl B rp many a prog tp lv0 sv w0 W lv tv todo l seen) (hxs : ThsV W xs todo.reverse) (hm : MarkV W mv m) (hn : n = todo.length) (ho : W.ownsRow w0.heap.size 114 2 tv n (xs.flatMap encT))
    (hg : (W.alloc o).grownBy w6 tv.ownBlock) (hl : tv.ownBlock = some g ∨ g = (W.alloc o).heap.size) (hown : w6.ownsRow w0.heap.size 114 2 (.slice (some ⟨g, 0, none⟩) (n + 1) c) (n + 1) (xs.flatMap encT ++ [.int .i64 p, mv])) :
    Fl B rp many a prog tp lv0 sv w0 w6 lv (.slice (some ⟨g, 0, none⟩) (n + 1) c) ((p, m) :: todo) l seen ∧ GrownIn (fun k => tv.ownBlock = some k) W w6 := by
  have hb : Below W.heap.size W (W.alloc o) := (Below.refl _ _).alloc (Nat.le_refl _) _
  have hg' := GrownIn.of_below hb
  refine ⟨(h.below hb).push (hxs.keepS hg' (off_new _ _)) (hm.keepS hg' (off_new _ _)) hn (owns_below ho hb) hg hl hown, ?_⟩
  exact (((GrownIn.refl _ W).alloc o).trans (GrownIn.of_grownBy hg)) fun _ _ e => e
theorem Fl.start {B rp many tp p : Nat} {a lv sv mv : Value} {prog : List Stp} {w : World} {l : List Th} {seen : List Bool} {m : List Int} (h : Rgx B w rp a prog many) (hth : Thr w tp lv sv l seen) (hm : MarkV w mv m) :
    Fl B rp many a prog tp lv sv w ((w.alloc (.cells #[.int .i64 p, mv] 114)).alloc (.cells #[.int .i64 p, mv] 114)) lv (.slice (some ⟨w.heap.size + 1, 0, none⟩) 1 1) [(p, m)] l seen := by
  have hb : Below w.heap.size w ((w.alloc (.cells #[.int .i64 p, mv] 114)).alloc (.cells #[.int .i64 p, mv] 114)) := ((Below.refl _ _).alloc (Nat.le_refl _) _).alloc (by simp) _
  have hg := GrownIn.of_below hb
  have hs : (w.alloc (.cells #[.int .i64 p, mv] 114)).heap.size = w.heap.size + 1 := by simp
  refine ⟨h.below hb, hth.keepS hg (off_new _ _) (off_new _ _) (off_new _ _) (fun k hk hS => by have := (hth.row.lt hk).2; omega), (Flw.refl tp lv sv w).more hg (fun k e => e), ⟨[(p, mv)], ⟨rfl, .inr ⟨w.heap.size + 1, 1, #[.int .i64 p, mv], rfl, by omega, ?_, Nat.le_refl _, by unfold maxLen; omega, rfl, rfl⟩⟩, ?_⟩, fun k hk e => ?_⟩
  · rw [← hs, heap_alloc_new]
  · simp only [List.reverse_cons, List.reverse_nil, List.nil_append, ThsV]
    exact ⟨m, [], rfl, hm.keepS hg (off_new _ _), rfl⟩
  · obtain rfl : w.heap.size + 1 = k := by simpa [Value.ownBlock] using hk
    have := (hth.row.lt e).2
    omega
set_option maxHeartbeats 16000000 in
set_option maxRecDepth 100000 in
theorem follow_any (B rp many tp : Nat) (a lv sv mv : Value) (prog : List Stp) (w : World) (l : List Th) (seen : List Bool) (p i fin M F : Nat) (m : List Int) (R : List Bool × List Th)
    (h : Rgx B w rp a prog many) (hth : Thr w tp lv sv l seen) (hm : MarkV w mv m) (hP : FlP prog i fin M R F [(p, m)] l seen) (hw : RX.Within prog) (hmk : RX.MarksLt M prog) (hF : F ≤ 100000) (hn : prog.length ≤ 10000) (hM : M ≤ 10000) (hi : i ≤ 100000) (hfin : fin ≤ 100000) :
    Calls Tryd.prog 50 #[.pointer (some ⟨rp, 0, none⟩), .pointer (some ⟨tp, 0, none⟩), .agg #[.int .i64 p, mv], .int .i64 i, .int .i64 fin] w fun e w' => e = .returned (.tuple #[]) ∧ ∃ lv', Rgx B w' rp a prog many ∧ Thr w' tp lv' sv R.2 R.1 ∧ Flw tp lv sv w lv' w' ∧ (∀ t ∈ R.2, t.1 < prog.length ∧ t.2.length = M) ∧ R.1.length = prog.length ∧ R.2.length + R.1.count false ≤ prog.length := by
  obtain ⟨i0, hi0, hz0, hz1, hz2⟩ := info_parts Tryd.infoThread
  have HI := Lib.hid (show _ ∧ _ ∧ _ ∧ _ from ⟨hi0, hz0, hz1, hz2⟩)
  have HH := Lib.hid (show _ ∧ _ ∧ _ ∧ _ ∧ _ ∧ _ from ⟨h, hth, hm, hP, hw, hmk⟩)
  have HN := Lib.hid (show _ ∧ _ ∧ _ from ⟨hF, hn, hM⟩)
  clear h hth hm hP hw hmk hi0 hz0 hz1 hz2 hF hn hM
  obtain ⟨Am, cm, rfl, _, _⟩ := HH.out.2.2.1.form
  obtain ⟨As, cs, rfl, _, _⟩ := owns_slice HH.out.2.1.seen
  have hN : seen.length = prog.length := HH.out.2.2.2.1.len
  have hN0 : 0 < prog.length := HH.out.2.2.2.2.1.1
  rw [hN] at HH ⊢
  obtain ⟨N, hNe⟩ : ∃ N, prog.length = N := ⟨_, rfl⟩
  obtain ⟨sb, rfl, _⟩ := owns_some' (n := N) (by have := HH.out.2.1.seen; rw [hN, hNe] at this; exact this) (by omega)
  obtain ⟨Aa, ca, rfl, _, _⟩ := owns_slice HH.out.1.row
  obtain ⟨ab, rfl, _⟩ := owns_some' HH.out.1.row hN0
  clear hN hN0
  have HE := Lib.hid hNe
  rw [hNe] at HH ⊢
  have HS := Lib.hid (Fl.start (p := p) HH.out.1 HH.out.2.1 HH.out.2.2.1)
  go_enter Tryd.func50, Tryd.ntmps50
  go_wp2_with fail
  go_loopg [10] F (fun gk tv wr => ∃ (todo l' : List Th) (seen' : List Bool) (lv' : Value) (A : Option Addr) (c : Nat), tv = .slice A todo.length c ∧ gk ≤ F ∧ Hid (Fl B rp many (.slice (some ⟨ab, 0, none⟩) N ca) prog tp lv (.slice (some ⟨sb, 0, none⟩) N cs) w wr lv' (.slice A todo.length c) todo l' seen' ∧ FlP prog i fin M R gk todo l' seen'))
  case atStart => exact ⟨[(p, m)], l, seen, lv, _, _, rfl, Nat.le_refl _, Lib.hid ⟨HS.out, HH.out.2.2.2.1⟩⟩
  case round =>
    clear HS
    obtain ⟨todo, l', seen', lv', A, c, rfl, hgk, HR⟩ := hrel
    cases todo with
    | nil =>
      go_wp2_with fail
      have hR := HR.out.2.end_
      refine bodyPost_end (v := .tuple #[]) (by simp [results, Tryd.results50, go_sem]) rfl ⟨rfl, lv', HR.out.1.rgx, ?_, HR.out.1.flw, ?_, ?_, ?_⟩
      · rw [hR]; exact HR.out.1.thr
      · rw [hR, ← HE.out]; exact HR.out.2.inl
      · rw [hR, ← HE.out]; exact HR.out.2.len
      · rw [hR, ← HE.out]; exact HR.out.2.cnt
    | cons t todo =>
      obtain ⟨p', m'⟩ := t
      obtain ⟨⟨g, rfl⟩, hp', hm'⟩ := HR.out.2.some_
      obtain ⟨xs0, ho0, hx0⟩ := HR.out.1.todo
      rw [List.length_reverse, List.length_cons] at ho0
      obtain ⟨tb, rfl, htb⟩ := owns_some' ho0 (Nat.succ_pos _)
      have hkc : todo.length + 1 ≤ c := by
        obtain ⟨A', c', e0, h1, _⟩ := owns_slice ho0
        cases e0
        exact h1
      have hc0 : ¬ c = 0 := by omega
      clear ho0 hx0 xs0
      rw [List.length_cons] at HR ⊢
      obtain ⟨k, hk⟩ : ∃ k, todo.length = k := ⟨_, rfl⟩
      rw [hk] at HR hkc ⊢
      have hkF : k ≤ 100000 := by
        have h1 := HR.out.2.fits.1
        simp only [List.length_cons] at h1
        have := HN.out.1
        omega
      obtain ⟨mv, y0, y1, hmv, hF0⟩ := HR.out.1.pop hk
      obtain ⟨Am', cm', rfl, _, _⟩ := hmv.form
      have kc : k ≤ c := by omega
      have k0 : (0 : Int) ≤ (k : Int) := by omega
      have k1 : IntKind.i64.wrap (k : Int) = (k : Int) := IntWalk.i64_in _ (by omega)
      clear hkc
      have HK := Lib.hid (show _ ∧ _ ∧ _ from ⟨hk, hmv, hF0⟩)
      clear hk hmv hF0
      go_wp2_with fail
      have hb1 : Below wr.heap.size wr (wr.alloc (.cells #[.int .i64 p', .slice Am' m'.length cm'] 114)) := (Below.refl _ _).alloc (Nat.le_refl _) _
      have hx1 := heap_alloc_new wr (.cells #[.int .i64 p', .slice Am' m'.length cm'] 114)
      have hF1 := HK.out.2.2.below hb1
      have hm1 := HK.out.2.1.keepS (GrownIn.of_below hb1) (off_new _ _)
      rw [hm'] at hb1 hx1 hF1 hm1
      generalize wr.alloc (.cells #[.int .i64 p', .slice Am' M cm'] 114) = W1 at hb1 hx1 hF1 hm1 ⊢
      have hpN : p' < N := by have := HE.out; omega
      have p0 : (0 : Int) ≤ (p' : Int) := by omega
      have p1 : (p' : Int) < (N : Int) := by omega
      have c1 := hF1.thr.c1
      have z0 : W1.cell? ⟨wr.heap.size, 0, none⟩ = some (.int .i64 p') := by rw [cell_of_row W1 wr.heap.size 0 _ _ (0, 0) hx1]; rfl
      have hsl : p' < seen'.length := by rw [HR.out.2.len]; exact hp'
      obtain ⟨b, hb⟩ : ∃ b, seen'[p']? = some b := ⟨_, List.getElem?_eq_getElem hsl⟩
      have s0 : W1.cell? ⟨sb, p', none⟩ = some (.bool b) := owns_cell hF1.thr.seen rfl (by rw [List.getElem?_map, hb]; rfl)
      have H1 := Lib.hid (show _ ∧ _ ∧ _ ∧ _ ∧ _ ∧ _ from ⟨hb1, hx1, hF1, hm1, hb, HR.out.2⟩)
      clear hb1 hx1 hF1 hm1 hb hsl HR y0 y1 hp'
      cases b with
      | true =>
        go_wp2_with (go_quiet (fail))
        go_roundg g
        case measure => omega
        case rel =>
          refine ⟨todo, l', seen', lv', some ⟨tb, 0, none⟩, c, by rw [HK.out.1], by omega, Lib.hid ⟨?_, H1.out.2.2.2.2.2.skip H1.out.2.2.2.2.1⟩⟩
          rw [HK.out.1]
          exact H1.out.2.2.1.below (bdN _ _)
      | false =>
        go_wp2_with (go_quiet (fail))
        have hF2 := H1.out.2.2.1.below (bdN W1 nq)
        have hm2 := H1.out.2.2.2.1.keepS (GrownIn.of_below (bdN W1 nq)) (off_new _ _)
        have hx2 : (W1.drewN nq).heap[wr.heap.size]? = _ := H1.out.2.1
        generalize W1.drewN nq = W2 at hF2 hm2 hx2 ⊢
        have d1 := hF2.thr.c1
        have z2 : W2.cell? ⟨wr.heap.size, 0, none⟩ = some (.int .i64 p') := by rw [cell_of_row W2 wr.heap.size 0 _ _ (0, 0) hx2]; rfl
        have s2 : W2.cell? ⟨sb, p', none⟩ = some (.bool false) := owns_cell hF2.thr.seen rfl (by rw [List.getElem?_map, H1.out.2.2.2.2.1]; rfl)
        have hse := hF2.thr.seen
        rw [H1.out.2.2.2.2.2.len, HE.out] at hse
        have fz2 := hse.frozenAt p'
        clear hse
        have HQ := Lib.hid (show _ ∧ _ ∧ _ from ⟨hF2, hm2, hx2⟩)
        clear hF2 hm2 hx2 c1 z0 s0
        go_region
        clear d1 z2 s2 fz2
        have hne : wr.heap.size ≠ sb := fun e => by
          have h1 := ty_box HQ.out.2.2
          have h2 := ty_own (k := sb) HQ.out.1.thr.seen rfl
          rw [e, h2] at h1
          cases h1
        have hb3 : Below W2.heap.size (W2.setCell ⟨sb, p', none⟩ (.bool true)) (W2.setCell ⟨sb, p', none⟩ (.bool true)).drew := (Below.refl _ _).drew
        have hF3 := (HQ.out.1.mark p').below (by simpa using hb3)
        have hm3 := (HQ.out.2.1.keepS (GrownIn.of_grownBy (grownBy_set1' sb p' (.bool true))) (fun k e => by injection e with e; subst e; rw [ty_own (k := sb) HQ.out.1.thr.seen rfl]; decide)).keepS (GrownIn.of_below hb3) (fun k hk => by rw [ty_none (by simpa using hk)]; simp)
        have hx3 : (W2.setCell ⟨sb, p', none⟩ (.bool true)).drew.heap[wr.heap.size]? = _ := (heap_setCell_other _ _ _ _ hne).trans HQ.out.2.2
        generalize (W2.setCell ⟨sb, p', none⟩ (.bool true)).drew = W3 at hF3 hm3 hx3 ⊢
        have hpl : p' < prog.length := by rw [HE.out]; exact hpN
        obtain ⟨x, hstep⟩ : ∃ x, prog[p']? = some x := ⟨_, List.getElem?_eq_getElem hpl⟩
        go_wp2_with fail
        obtain ⟨Z, hZe⟩ : ∃ Z, stpV ⟨0, fun _ => false, 0, 0, 0⟩ = Z := ⟨_, rfl⟩
        obtain ⟨C, hCe⟩ : ∃ C, stpV x = C := ⟨_, rfl⟩
        have hzr : ∀ w, (zeroValue 63).run Tryd.prog w = .ok (.agg Z) w := fun w => by rw [← hZe]; exact step_zero w
        have hZs : Z.size = 260 := by rw [← hZe]; exact stpV_size _
        have hCs : C.size = 260 := by rw [← hCe]; exact stpV_size _
        have hC1 : C.all (·.oneCell') = true := by rw [← hCe]; exact stpV_one _
        clear hZe
        have cp := copied W3 Z C
        refine wp_region_held_drew (S := fun w' => Below (W3).heap.size W3 w') (by kernel_rfl) ((Below.refl _ _).drew) (fun hHeld => ?_)
        refine take_dst (i := 0) (v := (.pointer (some ⟨rp, 0, none⟩))) (some 45) rfl rfl (by kernel_rfl) (by kernel_rfl) (by kernel_rfl) (fun _ _ _ h => h) (Or.inl ⟨by rfl, by
          intro w' hSw; clear hSw hHeld cp hzr hZs hCs hC1 hCe; go_simp⟩) hHeld ?_
        try simp only [Act.put, List.setIfInBounds_toArray, List.set_cons_zero, List.set_cons_succ]
        refine take_dst (i := 1) (v := (.pointer (some ⟨rp, 0, none⟩))) (some 46) rfl rfl (by kernel_rfl) (by kernel_rfl) (by kernel_rfl) (fun _ _ _ h => h) (Or.inl ⟨by rfl, by
          intro w' hSw; clear hSw hHeld cp hzr hZs hCs hC1 hCe; go_simp⟩) hHeld ?_
        try simp only [Act.put, List.setIfInBounds_toArray, List.set_cons_zero, List.set_cons_succ]
        refine take_dst (i := 2) (v := (.pointer (some ⟨rp, 0, none⟩))) (some 47) rfl rfl (by kernel_rfl) (by kernel_rfl) (by kernel_rfl) (fun _ _ _ h => h) (Or.inl ⟨by rfl, by
          intro w' hSw; clear hSw hHeld cp hzr hZs hCs hC1 hCe; go_simp⟩) hHeld ?_
        try simp only [Act.put, List.setIfInBounds_toArray, List.set_cons_zero, List.set_cons_succ]
        refine take_dst (i := 3) (v := (.slice (some ⟨ab, 0, none⟩) N ca)) (some 48) rfl rfl (by kernel_rfl) (by kernel_rfl) (by kernel_rfl) (fun _ _ _ h => h) (Or.inl ⟨by rfl, by
          intro w' hSw; have q0 := ((hF3.rgx).below hSw).c0; clear hSw hHeld cp hzr hZs hCs hC1 hCe; go_simp⟩) hHeld ?_
        try simp only [Act.put, List.setIfInBounds_toArray, List.set_cons_zero, List.set_cons_succ]
        refine take_dst (i := 4) (v := (.pointer (some ⟨wr.heap.size, 0, none⟩))) (some 49) rfl rfl (by kernel_rfl) (by kernel_rfl) (by kernel_rfl) (fun _ _ _ h => h) (Or.inl ⟨by rfl, by
          intro w' hSw; clear hSw hHeld cp hzr hZs hCs hC1 hCe; go_simp⟩) hHeld ?_
        try simp only [Act.put, List.setIfInBounds_toArray, List.set_cons_zero, List.set_cons_succ]
        refine take_dst (i := 5) (v := (.int .i64 p')) (some 50) rfl rfl (by kernel_rfl) (by kernel_rfl) (by kernel_rfl) (fun _ _ _ h => h) (Or.inl ⟨by rfl, by
          intro w' hSw; have q1 : w'.cell? ⟨wr.heap.size, 0, none⟩ = some (.int .i64 p') := by (rw [cell_of_row w' (wr.heap.size) 0 _ _ (0, 0) ((hSw.block _ (Array.getElem?_eq_some_iff.1 hx3).1).trans hx3)]; rfl)
          clear hSw hHeld cp hzr hZs hCs hC1 hCe; go_simp⟩) hHeld ?_
        try simp only [Act.put, List.setIfInBounds_toArray, List.set_cons_zero, List.set_cons_succ]
        refine take_dst (i := 6) (v := (.pointer (some ⟨ab, p' * 260, none⟩))) (some 51) rfl rfl (by kernel_rfl) (by kernel_rfl) (by kernel_rfl) (fun _ _ _ h => h) (Or.inl ⟨by rfl, by
          intro w' hSw; clear hSw hHeld cp hzr hZs hCs hC1 hCe; go_simp⟩) hHeld ?_
        try simp only [Act.put, List.setIfInBounds_toArray, List.set_cons_zero, List.set_cons_succ]
        refine take_dst (i := 7) (v := .agg C) (some 52) rfl rfl (by kernel_rfl) (by kernel_rfl) (by kernel_rfl) (fun _ _ _ h => h) (Or.inl ⟨by rfl, by
          intro w' hSw
          refine load_exec (.tmp 51) (by rfl) (by rfl) (((hF3.rgx).below hSw).range hstep) hCe⟩) hHeld ?_
        try simp only [Act.put, List.setIfInBounds_toArray, List.set_cons_zero, List.set_cons_succ]
        refine wpAnyH_ready (rs := [8]) (by kernel_rfl) (by simp) ?_
        refine AllReadyH.cons rfl (fun K hK => ?_) AllReadyH.nil
        refine step_alloc_step (some 12) rfl rfl rfl hzr ?_
        refine hK.out _ _ (((Below.refl _ _).drew).alloc (Nat.le_refl _) _) (fun hHeld => ?_)
        clear hK K
        try simp only [Act.put, List.setIfInBounds_toArray, List.set_cons_zero, List.set_cons_succ]
        refine wpAnyH_ready (rs := [9]) (by kernel_rfl) (by simp) ?_
        refine AllReadyH.cons rfl (fun K hK => ?_) AllReadyH.nil
        refine step_store_step rfl rfl _ _ rfl (W3).heap.size Z C rfl rfl (heap_alloc_new (W3).drew _) hZs hCs hC1 ?_
        refine hK.out _ _ cp.2 (fun hHeld => ?_)
        clear hK K
        try simp only [Act.put, List.setIfInBounds_toArray, List.set_cons_zero, List.set_cons_succ]
        refine wpAnyH_done (by kernel_rfl) ?_ _
        have hF4 := hF3.below cp.2
        have hm4 := hm3.keepS (GrownIn.of_below cp.2) (off_new _ _)
        have hx4 := (cp.2.block _ (Array.getElem?_eq_some_iff.1 hx3).1).trans hx3
        have hs4 := cp.1
        generalize (W3.drew.alloc (.cells Z 63)).setRow W3.heap.size C = W4 at hF4 hm4 hx4 hs4 ⊢
        have hnn : wr.heap.size ≠ W3.heap.size := by have := (Array.getElem?_eq_some_iff.1 hx3).1; omega
        obtain ⟨n12, hn12⟩ : ∃ n, W3.heap.size = n := ⟨_, rfl⟩
        rw [hn12] at hs4 hnn
        rw [show W3.drew.heap.size = n12 from hn12]
        have hn12w : wr.heap.size < n12 := by have := (Array.getElem?_eq_some_iff.1 hx3).1; omega
        have z0 : W4.cell? ⟨wr.heap.size, 0, none⟩ = some (.int .i64 p') := by rw [cell_of_row W4 wr.heap.size 0 _ _ (0, 0) hx4]; rfl
        have z1 : W4.cell? ⟨wr.heap.size, 1, none⟩ = some (.slice Am' M cm') := by rw [cell_of_row W4 wr.heap.size 1 _ _ (0, 0) hx4]; rfl
        have s0 : W4.cell? ⟨n12, 0, none⟩ = some (.int .i64 x.op) := by rw [cell_of_row W4 n12 0 _ _ (0, 0) hs4, ← hCe, stpV_get]; rfl
        have s1 : W4.cell? ⟨n12, 257, none⟩ = some (.int .i64 x.first) := by rw [cell_of_row W4 n12 257 _ _ (0, 0) hs4, ← hCe, stpV_get]; rfl
        have s2 : W4.cell? ⟨n12, 258, none⟩ = some (.int .i64 x.other) := by rw [cell_of_row W4 n12 258 _ _ (0, 0) hs4, ← hCe, stpV_get]; rfl
        have s3 : W4.cell? ⟨n12, 259, none⟩ = some (.int .i64 x.mark) := by rw [cell_of_row W4 n12 259 _ _ (0, 0) hs4, ← hCe, stpV_get]; rfl
        have k2 : IntKind.i64.wrap ((p' : Int) + 1) = ((p' + 1 : Nat) : Int) := by rw [IntWalk.i64_in _ (by have := HN.out.2.1; have := HE.out; omega)]; omega
        have hop := HH.out.2.2.2.2.1.2 p' x hstep
        have HQ4 := Lib.hid (show _ ∧ _ ∧ _ ∧ _ from ⟨hF4, hm4, hx4, hs4⟩)
        have HP4 := Lib.hid (show _ ∧ _ ∧ _ ∧ _ from ⟨hstep, hop, H1.out.2.2.2.2.1, H1.out.2.2.2.2.2⟩)
        obtain ⟨ys, hoy, hys⟩ := hF4.todo
        rw [List.length_reverse, HK.out.1] at hoy
        have HY := Lib.hid (show _ ∧ _ from ⟨hys, HK.out.1⟩)
        have hbase : w.heap.size ≤ W4.heap.size := hF4.flw.grown.size
        clear hF4 hm4 hx4 hs4 hF3 hm3 hx3 cp hHeld hzr hZs hCs hC1 hCe hn12 hpl hne hstep hys hb3 hop
        have hop := HP4.out.2.1.1
        obtain ⟨q, hq⟩ : ∃ q, x.op = q := ⟨_, rfl⟩
        rw [hq] at s0 hop
        have hqc : q = 0 ∨ q = 1 ∨ q = 2 ∨ q = 3 ∨ q = 4 ∨ q = 5 ∨ q = 6 := by omega
        obtain ⟨hi0, hz0, hz1, hz2⟩ := HI.out
        have HO := Lib.hid hq
        clear hq hop
        rcases hqc with rfl | rfl | rfl | rfl | rfl | rfl | rfl
        · obtain ⟨zs, hoz, hzs⟩ := HQ4.out.1.thr.row
          have hll : l'.length ≤ 10000 := by have := HP4.out.2.2.2.fits.2; have := HN.out.2.1; omega
          obtain ⟨ln, hln⟩ : ∃ ln, l'.length = ln := ⟨_, rfl⟩
          rw [hln] at hoz hll
          have t0 := HQ4.out.1.thr.c0
          have hba : Below W4.heap.size W4 (W4.alloc (.cells #[.int .i64 p', .slice Am' M cm'] 114)) := (Below.refl _ _).alloc (Nat.le_refl _) _
          have t1 := (HQ4.out.1.below hba).thr.c0
          have HZ := Lib.hid (show _ ∧ _ ∧ _ from ⟨hzs, hln, hba⟩)
          clear hzs hln hba s1 s2 s3 k2
          go_wp2_with fail
          go_region_law
            (first
              | (refine step_append_lies _ (by rfl) _ _ _ (by rfl) 0 114 i0 _ 2 32 Tryd.underlying109 hi0 hz0 hz1 hz2 rfl (by omega) lv' ln (zs.flatMap encT) (by rfl) (by exact owns_below hoz HZ.out.2.2.drew) ⟨W4.heap.size, 0, none⟩ 1 1 [.int .i64 p', .slice Am' M cm'] (by rfl) (by rfl) (by exact cells_newL W4 [.int .i64 p', .slice Am' M cm'] _) (by simp [Value.oneCell']) (by omega) (by unfold maxLen; omega) (by omega) (Nat.zero_le _) (W4.heap.size + 1) (by simp) ?_; intro g6 c6 w6 hown6 hg6 hl6 hlt6; obtain ⟨t6, f6⟩ := HQ4.out.1.thr.after HZ.out.2.2.drew hoz hg6)
              | fail)
          all_goals
            have hF7 := HQ4.out.1.listA HZ.out.2.2.drew HZ.out.1 HQ4.out.2.1 HZ.out.2.1.symm hoz hg6 (by rcases hl6 with e | e; exact .inl e; exact .inr (by rw [e]; simp)) hown6
            have H7 := Lib.hid hF7
            clear hF7 hown6 hg6 hl6 hlt6 t6 f6 t0 t1 z0 z1
            go_wp2_with fail
            go_roundg g
            case measure => omega
            case rel =>
              refine ⟨todo, l' ++ [(p', m')], seen'.set p' true, (.slice (some ⟨g6, 0, none⟩) (ln + 1) c6), some ⟨tb, 0, none⟩, c, by rw [HK.out.1], by omega, Lib.hid ⟨?_, HP4.out.2.2.2.listed HP4.out.2.2.1 HP4.out.1 (by rw [HO.out]; omega)⟩⟩
              rw [HK.out.1]
              exact H7.out
        · by_cases e : i = 0
          · have HEi := Lib.hid e
            have be : ((i : Int) != 0) = false := by rw [e]; simp
            clear e
            go_wp2_with (first
              | (at_builtin; refine wpList_append_full _ rfl _ _ 109 rfl w.heap.size 114 i0 _ 2 32 Tryd.underlying109 hi0 hz0 hz1 hz2 rfl (by omega) (.slice (some ⟨tb, 0, none⟩) k c) k (ys.flatMap encT) rfl (hoy.alloc _) ⟨(W4).heap.size, 0, none⟩ 1 1 [.int .i64 ((p' + 1 : Nat) : Int), .slice Am' M cm'] rfl rfl (cells_newL (W4) [.int .i64 ((p' + 1 : Nat) : Int), .slice Am' M cm'] _) (by simp [Value.oneCell']) (by omega) (by unfold maxLen; omega) (by omega) (by simp; omega) ?_; intro g6 c6 w6 hown6 hg6 hl6 _; have H6 := Lib.hid (HQ4.out.1.pushA HY.out.1 HQ4.out.2.1 HY.out.2.symm hoy hg6 hl6 hown6); clear hown6 hg6 hl6)
              | fail)
            go_roundg g
            case measure => omega
            case rel =>
              refine ⟨(p' + 1, m') :: todo, l', seen'.set p' true, lv', some ⟨g6, 0, none⟩, c6, by rw [List.length_cons, HK.out.1], by omega, Lib.hid ⟨?_, HP4.out.2.2.2.on HP4.out.2.2.1 HP4.out.1 HH.out.2.2.2.2.1 (.inl ⟨HO.out, HEi.out⟩)⟩⟩
              rw [List.length_cons, HK.out.1]
              exact H6.out.1
          · have HEi := Lib.hid e
            have be : ((i : Int) != 0) = true := by simp; omega
            clear e
            go_wp2_with fail
            go_roundg g
            case measure => omega
            case rel =>
              refine ⟨todo, l', seen'.set p' true, lv', some ⟨tb, 0, none⟩, c, by rw [HK.out.1], by omega, Lib.hid ⟨?_, HP4.out.2.2.2.off HP4.out.2.2.1 HP4.out.1 (.inl ⟨HO.out, HEi.out⟩)⟩⟩
              rw [HK.out.1]
              exact HQ4.out.1
        · by_cases e : i = fin
          · have HEi := Lib.hid e
            have be : ((i : Int) != (fin : Int)) = false := by rw [e]; simp
            clear e
            go_wp2_with (first
              | (at_builtin; refine wpList_append_full _ rfl _ _ 109 rfl w.heap.size 114 i0 _ 2 32 Tryd.underlying109 hi0 hz0 hz1 hz2 rfl (by omega) (.slice (some ⟨tb, 0, none⟩) k c) k (ys.flatMap encT) rfl (hoy.alloc _) ⟨(W4).heap.size, 0, none⟩ 1 1 [.int .i64 ((p' + 1 : Nat) : Int), .slice Am' M cm'] rfl rfl (cells_newL (W4) [.int .i64 ((p' + 1 : Nat) : Int), .slice Am' M cm'] _) (by simp [Value.oneCell']) (by omega) (by unfold maxLen; omega) (by omega) (by simp; omega) ?_; intro g6 c6 w6 hown6 hg6 hl6 _; have H6 := Lib.hid (HQ4.out.1.pushA HY.out.1 HQ4.out.2.1 HY.out.2.symm hoy hg6 hl6 hown6); clear hown6 hg6 hl6)
              | fail)
            go_roundg g
            case measure => omega
            case rel =>
              refine ⟨(p' + 1, m') :: todo, l', seen'.set p' true, lv', some ⟨g6, 0, none⟩, c6, by rw [List.length_cons, HK.out.1], by omega, Lib.hid ⟨?_, HP4.out.2.2.2.on HP4.out.2.2.1 HP4.out.1 HH.out.2.2.2.2.1 (.inr ⟨HO.out, HEi.out⟩)⟩⟩
              rw [List.length_cons, HK.out.1]
              exact H6.out.1
          · have HEi := Lib.hid e
            have be : ((i : Int) != (fin : Int)) = true := by simp; omega
            clear e
            go_wp2_with fail
            go_roundg g
            case measure => omega
            case rel =>
              refine ⟨todo, l', seen'.set p' true, lv', some ⟨tb, 0, none⟩, c, by rw [HK.out.1], by omega, Lib.hid ⟨?_, HP4.out.2.2.2.off HP4.out.2.2.1 HP4.out.1 (.inr ⟨HO.out, HEi.out⟩)⟩⟩
              rw [HK.out.1]
              exact HQ4.out.1
        · have hmk0 := HH.out.2.2.2.2.2 x (List.mem_of_getElem? HP4.out.1) HO.out
          have hM0 : 0 < M := by omega
          obtain ⟨bm, rfl, _⟩ := owns_some' (show W4.ownsRow 0 3 1 (.slice Am' M cm') M (m'.map (Value.int .i64)) from by have h := HQ4.out.2.1; unfold MarkV at h; rw [hm'] at h; exact h) hM0
          have hMn := HN.out.2.2
          go_wp2_with fail
          refine (clone_marks bm M cm' m' _ HQ4.out.2.1 hM0 (by omega)).mono ?_
          rintro e w5 ⟨g5, c5, rfl, ho5, hb5⟩
          have hg5 : W4.heap.size ≤ g5 := (ho5.lt g5 rfl).1
          have s5 : w5.cell? ⟨n12, 259, none⟩ = some (.int .i64 x.mark) := (hb5.cell (World.block_lt_of_cell? _ _ s3)).trans s3
          have z5 : w5.cell? ⟨wr.heap.size, 0, none⟩ = some (.int .i64 p') := (hb5.cell (World.block_lt_of_cell? _ _ z0)).trans z0
          have hml : x.mark < (m'.map (Value.int .i64)).length := by rw [List.length_map, hm']; exact hmk0
          have q5 : ∃ v, w5.cell? ⟨g5, x.mark, none⟩ = some v := ⟨_, owns_cell ho5 rfl (List.getElem?_eq_getElem hml)⟩
          obtain ⟨v5, q5⟩ := q5
          have f5 := ho5.frozenAt x.mark
          obtain ⟨ho6, hgr6⟩ := ho5.stored x.mark (.int .i64 i)
          have hb6 : Below W4.heap.size W4 (w5.setCell ⟨g5, x.mark, none⟩ (.int .i64 i)) := hb5.setCell (p := ⟨g5, x.mark, none⟩) hg5 _
          rw [← List.map_set] at ho6
          have hmk6 : MarkV (w5.setCell ⟨g5, x.mark, none⟩ (.int .i64 i)) (.slice (some ⟨g5, 0, none⟩) M c5) (m'.set x.mark i) := by
            unfold MarkV
            rw [List.length_set, hm']
            exact own_base0 ho6
          have i0' : (0 : Int) ≤ (x.mark : Int) := by omega
          have i1 : (x.mark : Int) < (M : Int) := by omega
          have hne6 : wr.heap.size ≠ g5 := by have := World.block_lt_of_cell? _ _ z0; dsimp only at this; omega
          have H5 := Lib.hid (show _ ∧ _ ∧ _ ∧ _ from ⟨hmk6, HQ4.out.1.below hb6, HY.out.1.keepS (GrownIn.of_below hb6) (off_new _ _), owns_below hoy hb6⟩)
          have hb5s := hb5.size
          clear ho5 hb5 hgr6 ho6 hmk6 hb6 hml
          go_wp2_with (first
            | (at_builtin; refine wpList_append_full _ rfl _ _ 109 rfl w.heap.size 114 i0 _ 2 32 Tryd.underlying109 hi0 hz0 hz1 hz2 rfl (by omega) (.slice (some ⟨tb, 0, none⟩) k c) k (ys.flatMap encT) rfl (H5.out.2.2.2.alloc _) ⟨w5.heap.size, 0, none⟩ 1 1 [.int .i64 ((p' + 1 : Nat) : Int), .slice (some ⟨g5, 0, none⟩) M c5] rfl rfl (by have hcn := cells_newL (w5.setCell ⟨g5, x.mark, none⟩ (.int .i64 i)) [.int .i64 ((p' + 1 : Nat) : Int), .slice (some ⟨g5, 0, none⟩) M c5] 114; rw [sc_size] at hcn; exact hcn) (by simp [Value.oneCell']) (by omega) (by unfold maxLen; omega) (by omega) (by simp; omega) ?_; intro g6 c6 w6 hown6 hg6 hl6 _; have H6 := Lib.hid (H5.out.2.1.pushA H5.out.2.2.1 H5.out.1 HY.out.2.symm H5.out.2.2.2 hg6 hl6 hown6); clear hown6 hg6 hl6)
            | fail)
          go_roundg g
          case measure => omega
          case rel =>
            refine ⟨(p' + 1, m'.set x.mark i) :: todo, l', seen'.set p' true, lv', some ⟨g6, 0, none⟩, c6, by rw [List.length_cons, HK.out.1], by omega, Lib.hid ⟨?_, HP4.out.2.2.2.marked HP4.out.2.2.1 HP4.out.1 HH.out.2.2.2.2.1 HO.out⟩⟩
            rw [List.length_cons, HK.out.1]
            exact H6.out.1
        · go_wp2_with (first
            | (at_builtin; refine wpList_append_full _ rfl _ _ 109 rfl w.heap.size 114 i0 _ 2 32 Tryd.underlying109 hi0 hz0 hz1 hz2 rfl (by omega) (.slice (some ⟨tb, 0, none⟩) k c) k (ys.flatMap encT) rfl (hoy.alloc _) ⟨(W4).heap.size, 0, none⟩ 1 1 [.int .i64 ((x.first : Nat) : Int), .slice Am' M cm'] rfl rfl (cells_newL (W4) [.int .i64 ((x.first : Nat) : Int), .slice Am' M cm'] _) (by simp [Value.oneCell']) (by omega) (by unfold maxLen; omega) (by omega) (by simp; omega) ?_; intro g6 c6 w6 hown6 hg6 hl6 _; have H6 := Lib.hid (HQ4.out.1.pushA HY.out.1 HQ4.out.2.1 HY.out.2.symm hoy hg6 hl6 hown6); clear hown6 hg6 hl6)
            | fail)
          go_roundg g
          case measure => omega
          case rel =>
            refine ⟨(x.first, m') :: todo, l', seen'.set p' true, lv', some ⟨g6, 0, none⟩, c6, by rw [List.length_cons, HK.out.1], by omega, Lib.hid ⟨?_, HP4.out.2.2.2.jumped HP4.out.2.2.1 HP4.out.1 HH.out.2.2.2.2.1 HO.out⟩⟩
            rw [List.length_cons, HK.out.1]
            exact H6.out.1
        · have hnb : tb < n12 := by omega
          go_wp2_with (first
            | (at_builtin; refine wpList_append_full _ rfl _ _ 109 rfl w.heap.size 114 i0 _ 2 32 Tryd.underlying109 hi0 hz0 hz1 hz2 rfl (by omega) (.slice (some ⟨tb, 0, none⟩) k c) k (ys.flatMap encT) rfl (hoy.alloc _) ⟨(W4).heap.size, 0, none⟩ 1 1 [.int .i64 ((x.other : Nat) : Int), .slice Am' M cm'] rfl rfl (cells_newL (W4) [.int .i64 ((x.other : Nat) : Int), .slice Am' M cm'] _) (by simp [Value.oneCell']) (by omega) (by unfold maxLen; omega) (by omega) (by simp; omega) ?_; intro g6 c6 w6 hown6 hg6 hl6 _; obtain ⟨h6, hg7⟩ := HQ4.out.1.pushA HY.out.1 HQ4.out.2.1 HY.out.2.symm hoy hg6 hl6 hown6; have z6 : w6.cell? ⟨wr.heap.size, 1, none⟩ = some (.slice Am' M cm') := hg7.cell z1 (fun e => by (have e := Option.some.inj e; dsimp only at e; omega)); have y6 : w6.cell? ⟨n12, 257, none⟩ = some (.int .i64 x.first) := hg7.cell s1 (fun e => by (have e := Option.some.inj e; dsimp only at e; omega)); have hm6 := HQ4.out.2.1.keepS hg7 (off_own hoy (by decide)); obtain ⟨zs, hoz, hzs⟩ := h6.todo; rw [List.length_reverse, List.length_cons, HK.out.1] at hoz; have hb6 : w.heap.size ≤ w6.heap.size := h6.flw.grown.size; have H6 := Lib.hid (show _ ∧ _ ∧ _ from ⟨h6, hm6, hzs⟩); clear h6 hg7 hm6 hzs; clear hown6 hg6 hl6)
            | (at_builtin; refine wpList_append_full _ rfl _ _ 109 rfl w.heap.size 114 i0 _ 2 32 Tryd.underlying109 hi0 hz0 hz1 hz2 rfl (by omega) (.slice (some ⟨g6, 0, none⟩) (k + 1) c6) (k + 1) (zs.flatMap encT) rfl (hoz.alloc _) ⟨(w6).heap.size, 0, none⟩ 1 1 [.int .i64 ((x.first : Nat) : Int), .slice Am' M cm'] rfl rfl (cells_newL (w6) [.int .i64 ((x.first : Nat) : Int), .slice Am' M cm'] _) (by simp [Value.oneCell']) (by omega) (by unfold maxLen; omega) (by omega) (by simp; omega) ?_; intro g7 c7 w7 hown6 hg6 hl6 _; have H7 := Lib.hid (H6.out.1.pushA H6.out.2.2 H6.out.2.1 (by rw [List.length_cons, HK.out.1]) hoz hg6 hl6 hown6); clear hown6 hg6 hl6)
            | fail)
          go_roundg g
          case measure => omega
          case rel =>
            refine ⟨(x.first, m') :: (x.other, m') :: todo, l', seen'.set p' true, lv', some ⟨g7, 0, none⟩, c7, by rw [List.length_cons, List.length_cons, HK.out.1], by omega, Lib.hid ⟨?_, HP4.out.2.2.2.forked HP4.out.2.2.1 HP4.out.1 HH.out.2.2.2.2.1 HO.out⟩⟩
            rw [List.length_cons, List.length_cons, HK.out.1]
            exact H7.out.1
        · obtain ⟨zs, hoz, hzs⟩ := HQ4.out.1.thr.row
          have hll : l'.length ≤ 10000 := by have := HP4.out.2.2.2.fits.2; have := HN.out.2.1; omega
          obtain ⟨ln, hln⟩ : ∃ ln, l'.length = ln := ⟨_, rfl⟩
          rw [hln] at hoz hll
          have t0 := HQ4.out.1.thr.c0
          have hba : Below W4.heap.size W4 (W4.alloc (.cells #[.int .i64 p', .slice Am' M cm'] 114)) := (Below.refl _ _).alloc (Nat.le_refl _) _
          have t1 := (HQ4.out.1.below hba).thr.c0
          have HZ := Lib.hid (show _ ∧ _ ∧ _ from ⟨hzs, hln, hba⟩)
          clear hzs hln hba s1 s2 s3 k2
          go_wp2_with fail
          go_region_law
            (first
              | (refine step_append_lies _ (by rfl) _ _ _ (by rfl) 0 114 i0 _ 2 32 Tryd.underlying109 hi0 hz0 hz1 hz2 rfl (by omega) lv' ln (zs.flatMap encT) (by rfl) (by exact owns_below hoz HZ.out.2.2.drew) ⟨W4.heap.size, 0, none⟩ 1 1 [.int .i64 p', .slice Am' M cm'] (by rfl) (by rfl) (by exact cells_newL W4 [.int .i64 p', .slice Am' M cm'] _) (by simp [Value.oneCell']) (by omega) (by unfold maxLen; omega) (by omega) (Nat.zero_le _) (W4.heap.size + 1) (by simp) ?_; intro g6 c6 w6 hown6 hg6 hl6 hlt6; obtain ⟨t6, f6⟩ := HQ4.out.1.thr.after HZ.out.2.2.drew hoz hg6)
              | fail)
          all_goals
            have hF7 := HQ4.out.1.listA HZ.out.2.2.drew HZ.out.1 HQ4.out.2.1 HZ.out.2.1.symm hoz hg6 (by rcases hl6 with e | e; exact .inl e; exact .inr (by rw [e]; simp)) hown6
            have H7 := Lib.hid hF7
            clear hF7 hown6 hg6 hl6 hlt6 t6 f6 t0 t1 z0 z1
            go_wp2_with fail
            go_roundg g
            case measure => omega
            case rel =>
              refine ⟨todo, l' ++ [(p', m')], seen'.set p' true, (.slice (some ⟨g6, 0, none⟩) (ln + 1) c6), some ⟨tb, 0, none⟩, c, by rw [HK.out.1], by omega, Lib.hid ⟨?_, HP4.out.2.2.2.listed HP4.out.2.2.1 HP4.out.1 (by rw [HO.out]; omega)⟩⟩
              rw [HK.out.1]
              exact H7.out
end Go.Proofs.YtamlnkmcbbeicaaDoor
