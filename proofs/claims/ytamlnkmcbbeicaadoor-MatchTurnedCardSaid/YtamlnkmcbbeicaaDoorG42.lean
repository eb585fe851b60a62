/- Patterns: Match, States, Many; whether a pattern is one, and fits. Matchers: what they ask, a map of functions by kind. -/
import Derived.Test.YtamlnkmcbbeicaaDoorRgRun
import Derived.Test.YtamlnkmcbbeicaaDoorRx5
import Derived.Test.YtamlnkmcbbeicaaDoorG03
import Derived.MapKept
import Derived.Carry
namespace Go.Proofs.YtamlnkmcbbeicaaDoor
open Go.RowKit Go.Lib
open RX (PS Tr Pr Stp Th)

/-- A compiled pattern. -/
structure RxOk (w : World) (rp : Nat) (t : Tr) (g : Nat) : Prop where
  rgx : ∃ B a, Rgx B w rp a (RX.machine t) g
  size : t.size + 1 ≤ 1000
  many : g ≤ 500
  gle : t.GLe g
theorem RxOk.below {w w' : World} {rp : Nat} {t : Tr} {g : Nat} (h : RxOk w rp t g) (hb : Below w.heap.size w w') : RxOk w' rp t g := by
  obtain ⟨⟨B, a, hr⟩, h1, h2, h3⟩ := h
  exact ⟨⟨B, a, hr.below hb⟩, h1, h2, h3⟩
theorem run_ok (rp : Nat) (t : Tr) (g : Nat) (s : ByteArray) (w : World) (h : RxOk w rp t g) (hs : s.size ≤ 50000) :
    Calls Tryd.prog 40 #[.pointer (some ⟨rp, 0, none⟩), .string s] w (RunP w (2 * g + 2) (RX.runRx (RX.machine t) (2 * g + 2) s.data.toList)) := by
  obtain ⟨⟨B, a, hr⟩, h1, h2, h3⟩ := h
  exact run_any B rp g a (RX.machine t) s w hr (RX.machine_within t) (RX.machine_marks h3) (by rw [RX.machine_length]; omega) (by omega) hs
set_option maxHeartbeats 4000000 in
set_option maxRecDepth 100000 in
theorem match_any (rp : Nat) (t : Tr) (g : Nat) (s : ByteArray) (w : World) (h : RxOk w rp t g) (hs : s.size ≤ 50000) :
    Calls Tryd.prog 27 #[.pointer (some ⟨rp, 0, none⟩), .string s] w fun e w' => e = .returned (.bool (RX.runRx (RX.machine t) (2 * g + 2) s.data.toList).isSome) ∧ Below w.heap.size w w' := by
  have HR := Lib.hid (run_ok rp t g s w h hs)
  clear h hs
  cases hr : RX.runRx (RX.machine t) (2 * g + 2) s.data.toList with
  | none =>
    have HRR := Lib.hid hr
    clear hr
    go_enter Tryd.func27, Tryd.ntmps27
    go_wp2_with fail
    refine HR.out.mono ?_
    intro e w1 h1
    unfold RunP at h1
    rw [HRR.out] at h1
    obtain ⟨rfl, hb⟩ := h1
    have H1 := Lib.hid hb
    clear hb
    go_wp2_with fail
    exact bodyPost_ret (v := .bool false) (by simp [results, Tryd.results27, go_sem]) rfl ⟨rfl, H1.out⟩
  | some m =>
    have HRR := Lib.hid hr
    clear hr
    go_enter Tryd.func27, Tryd.ntmps27
    go_wp2_with fail
    refine HR.out.mono ?_
    intro e w1 h1
    unfold RunP at h1
    rw [HRR.out] at h1
    obtain ⟨⟨mv, rfl, hm, _⟩, hb⟩ := h1
    have H1 := Lib.hid hb
    clear hb hm
    go_wp2_with fail
    exact bodyPost_ret (v := .bool true) (by simp [results, Tryd.results27, go_sem]) rfl ⟨rfl, H1.out⟩
/-- What Compile answers, in short. -/
theorem compile_ok (s : ByteArray) (w : World) : Calls Tryd.prog 12 #[.string s] w fun e w' => Below w.heap.size w w' ∧
    ((∃ t g rp, RX.compileRx s.data.toList = some (t, g) ∧ e = .returned (.tuple #[.pointer (some ⟨rp, 0, none⟩), .int .u16 0, .int .i64 0]) ∧ RxOk w' rp t g) ∨
     (∃ (x : Int) (a : Nat), RX.compileRx s.data.toList = none ∧ (x = 80 ∨ x = 81) ∧ (s.size ≤ 500 → RX.readRx s.data.toList = .bad x a) ∧ e = .returned (.tuple #[.pointer none, .int .u16 x, .int .i64 a]))) := by
  refine (compile_any s w).mono ?_
  intro e w' h
  have hl : s.data.toList.length = s.size := Array.length_toList
  unfold CompPost at h
  unfold RX.compileRx
  rw [hl]
  by_cases hs : s.size ≤ 500
  · rw [if_pos hs] at h
    rw [if_neg (by omega)]
    cases hr : RX.readRx s.data.toList with
    | ok t g =>
      rw [hr] at h
      obtain ⟨B, rp, a, h1, h2, _, h4, h5⟩ := h
      exact ⟨h5, .inl ⟨t, g, rp, rfl, h1, ⟨B, a, h2⟩, read_size hr, h4, RX.read_gle hr⟩⟩
    | bad x a =>
      rw [hr] at h
      exact ⟨h.2, .inr ⟨x, a, rfl, rd_bad hr, fun _ => rfl, h.1⟩⟩
  · rw [if_neg hs] at h
    rw [if_pos (by omega)]
    exact ⟨h.2, .inr ⟨81, 0, rfl, .inr rfl, fun h' => absurd h' hs, h.1⟩⟩
/-- Does a text fit a pattern? -/
def fitA (p s : ByteArray) : Bool := (RX.fitsRx p.data.toList s.data.toList).isSome
def fitB (p s : ByteArray) : Bool := (RX.fitsRx p.data.toList s.data.toList).getD false
end Go.Proofs.YtamlnkmcbbeicaaDoor
namespace Go.Proofs.YtamlnkmcbbeicaaDoor
open Go.RowKit Go.Lib

def tMap : TypeId := 37
theorem u8_key (k : Int) (e : Bool) (w : World) : (Instr.checkKey e 10000 5 (.int .u8 k)).run Tryd.prog w = .ok () w := MapKept.run_checkKey (k := .int .u8 k) Tryd.underlying5 (show IntKind.u8 = IntKind.u8 from rfl) e 9999
theorem ins_run {w : World} {g clock : Nat} {es : Array MapEntry} {k : Int} {v : Value} (h : w.heap[g]? = some (.map es clock)) (hf : Instr.findNow (.int .u8) (.int .u8 k) es.toList 0 = some none) :
    (Instr.mapUpdate 37 (.map (some g)) (.int .u8 k) v).run Tryd.prog w = .ok () { w with heap := w.heap.setIfInBounds g (.map (es.push ⟨.int .u8 k, v, clock⟩) (clock + 1)) } := by
  unfold Instr.mapUpdate
  simp [Sem.run_bind, run_underlying Tryd.underlying37, run_underlying Tryd.underlying5, MapKept.run_getObj_map h, u8_key k, Instr.findKey, hf, MapKept.run_setObj_map _ h, Result.andThen]
theorem look_run {w : World} {g clock : Nat} {es : Array MapEntry} {k : Int} {i : Nat} {v : Value} (h : w.heap[g]? = some (.map es clock)) (hf : Instr.findNow (.int .u8) (.int .u8 k) es.toList 0 = some (some (i, v))) (c : Bool) :
    (Instr.lookup 37 (.map (some g)) (.int .u8 k) c).run Tryd.prog w = .ok (if c then .tuple #[v, .bool true] else v) w := by
  unfold Instr.lookup
  simp [Sem.run_bind, run_underlying Tryd.underlying37, run_underlying Tryd.underlying5, MapKept.run_getObj_map h, u8_key k, Instr.findKey, hf, Result.andThen]
theorem kind_zero (w : World) : (zeroValue 35).run Tryd.prog w = .ok (.agg #[.nilFunc, .string ⟨#[]⟩]) w := by kernel_rfl
theorem look_none {w : World} {g clock : Nat} {es : Array MapEntry} {k : Int} (h : w.heap[g]? = some (.map es clock)) (hf : Instr.findNow (.int .u8) (.int .u8 k) es.toList 0 = some none) :
    (Instr.lookup 37 (.map (some g)) (.int .u8 k) true).run Tryd.prog w = .ok (.tuple #[.agg #[.nilFunc, .string ⟨#[]⟩], .bool false]) w := by
  unfold Instr.lookup
  simp [Sem.run_bind, run_underlying Tryd.underlying37, run_underlying Tryd.underlying5, MapKept.run_getObj_map h, u8_key k, Instr.findKey, hf, kind_zero, Result.andThen]
/-- An entry laid into a map that is being made. -/
theorem wpList_insert_kind {w : World} {g clock : Nat} {es : Array MapEntry} {k : Int} {v : Value} {ops : Array Oper} {rest : List Oper} {o : Oper} {a : Act} {Q : Exit → Act → World → Prop} (hgd : o.guard = none) (m x y : Operand) (ho : o.op = .insert 37 m x y)
    (hm : a.eval m = .map (some g)) (hx : a.eval x = .int .u8 k) (hy : a.eval y = v) (h : w.heap[g]? = some (.map es clock)) (hf : Instr.findNow (.int .u8) (.int .u8 k) es.toList 0 = some none)
    (hK : ∀ w', w'.heap[g]? = some (.map (es.push ⟨.int .u8 k, v, clock⟩) (clock + 1)) → w.grownBy w' (some g) → wpList Tryd.prog ops Q rest (a.put o.dst undef) w') : wpList Tryd.prog ops Q (o :: rest) a w :=
  wpList_plain hgd fun K hK' => by
    have hlt : g < w.heap.size := (Array.getElem?_eq_some_iff.1 h).1
    have hr := ins_run (v := v) h hf
    unfold Oper.wp execOp
    simp only [ho, hm, hx, hy, hr, Sem.run_bind, Sem.run_pure, Result.andThen_ok]
    refine hK' _ _ (hK _ ?_ ?_)
    · simp [hlt]
    · refine ⟨rfl, rfl, rfl, by simp, fun j hj hn => ?_⟩
      have hne : g ≠ j := fun e => hn (by rw [e])
      simp [Array.getElem?_setIfInBounds_ne hne]
/-- The map of the four kinds. -/
def kindsM (f2 f4 : Value) : Array MapEntry := #[⟨.int .u8 1, .agg #[.func (.func 17) #[] #[], .string ⟨#[61]⟩], 0⟩, ⟨.int .u8 2, .agg #[f2, .string ⟨#[33, 61]⟩], 1⟩, ⟨.int .u8 3, .agg #[.func (.func 19) #[] #[], .string ⟨#[61, 126]⟩], 2⟩, ⟨.int .u8 4, .agg #[f4, .string ⟨#[33, 126]⟩], 3⟩]
def notV (b : Nat) : Value := .func (.func 26) #[] #[.pointer (some ⟨b, 0, none⟩)]
set_option maxHeartbeats 4000000 in
set_option maxRecDepth 100000 in
theorem not_any (fn : Fn) (w : World) : Calls Tryd.prog 18 #[.func fn #[] #[]] w fun e w' => e = .returned (.func (.func 26) #[] #[.pointer (some ⟨w.heap.size, 0, none⟩)]) ∧ w'.heap[w.heap.size]? = some (.cells #[.func fn #[] #[]] 33 (0, 0)) ∧ Below w.heap.size w w' := by
  have hmf : ∀ (fn : Fn) (first cap : Array Value) (w : World), (Instr.makeFunc fn first cap).run Tryd.prog w = .ok (.func fn first cap) w := fun _ _ _ _ => rfl
  go_enter Tryd.func18, Tryd.ntmps18
  go_wp2_with fail
  exact bodyPost_ret (v := .func (.func 26) #[] #[.pointer (some ⟨w.heap.size, 0, none⟩)]) (by simp [results, Tryd.results18, go_sem]) rfl ⟨rfl, heap_alloc_new _ _, (Below.refl _ _).alloc (Nat.le_refl _) _⟩
/-- The map of the kinds, in memory. -/
structure Kinds (w : World) (g b2 b4 : Nat) : Prop where
  map : w.heap[g]? = some (.map (kindsM (notV b2) (notV b4)) 4)
  f2 : w.heap[b2]? = some (.cells #[.func (.func 17) #[] #[]] 33 (0, 0))
  f4 : w.heap[b4]? = some (.cells #[.func (.func 19) #[] #[]] 33 (0, 0))
theorem Kinds.below {w w' : World} {g b2 b4 : Nat} (h : Kinds w g b2 b4) (hb : Below w.heap.size w w') : Kinds w' g b2 b4 :=
  ⟨(hb.block _ (Array.getElem?_eq_some_iff.1 h.map).1).trans h.map, (hb.block _ (Array.getElem?_eq_some_iff.1 h.f2).1).trans h.f2, (hb.block _ (Array.getElem?_eq_some_iff.1 h.f4).1).trans h.f4⟩
set_option maxHeartbeats 4000000 in
set_option maxRecDepth 100000 in
theorem kinds_any (w : World) : Calls Tryd.prog 10 #[] w fun e w' => ∃ g b2 b4, e = .returned (.map (some g)) ∧ Kinds w' g b2 b4 ∧ Below w.heap.size w w' := by
  have hmm := @run_makeMap Tryd.prog
  have h1 := heap_alloc_new w (.map #[] 0)
  have hb1 : Below w.heap.size w (w.alloc (.map #[] 0)) := (Below.refl _ _).alloc (Nat.le_refl _) _
  have HA := Lib.hid (show _ ∧ _ from ⟨h1, hb1⟩)
  clear h1 hb1
  go_enter Tryd.func10, Tryd.ntmps10
  go_wp2_with (first
    | (refine wpList_insert_kind rfl _ _ _ rfl rfl rfl rfl HA.out.1 rfl ?_; intro w2 h2 hg2; have H2 := Lib.hid (show _ ∧ _ from ⟨h2, HA.out.2.grown hg2 (by simp) (by intro k hk; cases hk; exact Nat.le_refl _)⟩); clear h2 hg2)
    | fail)
  refine (not_any _ w2).mono ?_
  rintro e w3 ⟨rfl, hf3, hb3⟩
  have hm3 := (hb3.block _ (Array.getElem?_eq_some_iff.1 H2.out.1).1).trans H2.out.1
  have hge : w.heap.size < w2.heap.size := (Array.getElem?_eq_some_iff.1 H2.out.1).1
  have H3 := Lib.hid (show _ ∧ _ ∧ _ from ⟨hm3, hf3, H2.out.2.trans (hb3.mono H2.out.2.size)⟩)
  clear hf3 hb3 hm3
  go_wp2_with (first
    | (refine wpList_insert_kind rfl _ _ _ rfl rfl rfl rfl H3.out.1 rfl ?_; intro w4 h4 hg4; have hf4 := (hg4.block _ (Array.getElem?_eq_some_iff.1 H3.out.2.1).1 (by intro e; have e := Option.some.inj e; omega)).trans H3.out.2.1; have H4 := Lib.hid (show _ ∧ _ ∧ _ from ⟨h4, hf4, H3.out.2.2.grown hg4 H3.out.2.2.size (by intro k hk; cases hk; exact Nat.le_refl _)⟩); clear h4 hg4 hf4)
    | (refine wpList_insert_kind rfl _ _ _ rfl rfl rfl rfl H4.out.1 rfl ?_; intro w5 h5 hg5; have hf5 := (hg5.block _ (Array.getElem?_eq_some_iff.1 H4.out.2.1).1 (by intro e; have e := Option.some.inj e; omega)).trans H4.out.2.1; have H5 := Lib.hid (show _ ∧ _ ∧ _ from ⟨h5, hf5, H4.out.2.2.grown hg5 H4.out.2.2.size (by intro k hk; cases hk; exact Nat.le_refl _)⟩); clear h5 hg5 hf5)
    | fail)
  refine (not_any _ w5).mono ?_
  rintro e w6 ⟨rfl, hf6, hb6⟩
  have hm6 := (hb6.block _ (Array.getElem?_eq_some_iff.1 H5.out.1).1).trans H5.out.1
  have hg6 := (hb6.block _ (Array.getElem?_eq_some_iff.1 H5.out.2.1).1).trans H5.out.2.1
  have hge5 : w.heap.size < w5.heap.size := (Array.getElem?_eq_some_iff.1 H5.out.1).1
  have H6 := Lib.hid (show _ ∧ _ ∧ _ ∧ _ from ⟨hm6, hg6, hf6, H5.out.2.2.trans (hb6.mono H5.out.2.2.size)⟩)
  clear hf6 hb6 hm6 hg6
  go_wp2_with (first
    | (refine wpList_insert_kind rfl _ _ _ rfl rfl rfl rfl H6.out.1 rfl ?_; intro w7 h7 hg7; have hf7 := (hg7.block _ (Array.getElem?_eq_some_iff.1 H6.out.2.1).1 (by intro e; have e := Option.some.inj e; omega)).trans H6.out.2.1; have hf8 := (hg7.block _ (Array.getElem?_eq_some_iff.1 H6.out.2.2.1).1 (by intro e; have e := Option.some.inj e; omega)).trans H6.out.2.2.1; have H7 := Lib.hid (show _ ∧ _ ∧ _ ∧ _ from ⟨h7, hf7, hf8, H6.out.2.2.2.grown hg7 H6.out.2.2.2.size (by intro k hk; cases hk; exact Nat.le_refl _)⟩); clear h7 hg7 hf7 hf8)
    | fail)
  exact bodyPost_ret (v := .map (some w.heap.size)) (by simp [results, Tryd.results10, go_sem]) rfl ⟨w.heap.size, w2.heap.size, w5.heap.size, rfl, ⟨H7.out.1, H7.out.2.1, H7.out.2.2.1⟩, H7.out.2.2.2⟩
end Go.Proofs.YtamlnkmcbbeicaaDoor
