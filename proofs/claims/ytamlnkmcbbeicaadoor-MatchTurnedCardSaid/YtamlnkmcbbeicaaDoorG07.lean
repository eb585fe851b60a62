/- Rows of elements of two cells; clear; what a predicate handed to the library has to do. Patterns' trees as the program has them; their methods. Patterns' trees: empty. -/
import Derived.Test.YtamlnkmcbbeicaaDoorG00
import Derived.Test.YtamlnkmcbbeicaaDoorRowset
import Derived.Laws.CopyOwn
import Derived.Test.YtamlnkmcbbeicaaDoorRgSet
namespace Go.Proofs.YtamlnkmcbbeicaaDoor
open Go.RowKit Go.Lib

theorem cells_at (W : World) {b : Nat} (hb : W.heap.size = b) (cs : List Value) (t : TypeId) : ∀ j u, cs[j]? = some u → (W.alloc (.cells cs.toArray t)).cell? ((⟨b, 0, none⟩ : Addr).add j) = some u := by
  subst hb
  exact cells_newL W cs t
section
variable {α : Type} {enc : α → List Value}
theorem flatMap_set2 (hsz : ∀ x, (enc x).length = 2) (x : α) (a b : Value) (hx : enc x = [a, b]) : ∀ (l : List α) (i : Nat), i < l.length → ((l.flatMap enc).set (i * 2) a).set (i * 2 + 1) b = (l.set i x).flatMap enc
  | [], i, h => by simp at h
  | y :: l, 0, _ => by
    have hy := hsz y
    match hq : enc y, hy with
    | [c, d], _ => simp [hq, hx]
  | y :: l, i + 1, h => by
    have ih := flatMap_set2 hsz x a b hx l i (by simpa using h)
    have hy := hsz y
    match hq : enc y, hy with
    | [c, d], _ =>
      simp only [List.flatMap_cons, hq, List.set_cons_succ, List.cons_append, List.nil_append]
      rw [show (i + 1) * 2 = i * 2 + 1 + 1 by omega]
      simp only [List.set_cons_succ]
      rw [ih]
theorem flatMap_take {n : Nat} (hsz : ∀ x, (enc x).length = n) : ∀ (l : List α) (k : Nat), (l.flatMap enc).take (k * n) = (l.take k).flatMap enc
  | [], k => by simp
  | y :: l, 0 => by simp
  | y :: l, k + 1 => by
    rw [List.flatMap_cons, List.take_succ_cons, List.flatMap_cons, ← flatMap_take hsz l k, Nat.succ_mul, Nat.add_comm, List.take_append, hsz, List.take_of_length_le (by rw [hsz]; omega), Nat.add_sub_cancel_left]
variable {w w' : World} {B n cap g : Nat} {e : TypeId} {l : List α}
/-- One element is stored. -/
theorem owns_set2 (h : w.ownsRow B e 2 (.slice (some ⟨g, 0, none⟩) n cap) n (l.flatMap enc)) (hsz : ∀ x, (enc x).length = 2) {i : Nat} (hi : i < l.length) {x : α} {a b : Value} (hx : enc x = [a, b]) :
    ((w.setCell ⟨g, i * 2, none⟩ a).setCell ⟨g, i * 2 + 1, none⟩ b).ownsRow B e 2 (.slice (some ⟨g, 0, none⟩) n cap) n ((l.set i x).flatMap enc) ∧ w.grownBy ((w.setCell ⟨g, i * 2, none⟩ a).setCell ⟨g, i * 2 + 1, none⟩ b) (some g) := by
  obtain ⟨h1, h2⟩ := h.stored (i * 2) a
  obtain ⟨h3, h4⟩ := h1.stored (i * 2 + 1) b
  rw [flatMap_set2 hsz x a b hx l i hi] at h3
  exact ⟨h3, grownBy_trans h2 h4⟩
/-- An owned row's element. -/
theorem owns_at {size : Nat} (h : w.ownsRow B e size (.slice (some ⟨g, 0, none⟩) n cap) n (l.flatMap enc)) (hsz : ∀ x, (enc x).length = size) {i : Nat} {x : α} (hx : l[i]? = some x) {j : Nat} {u : Value} (hu : (enc x)[j]? = some u) : w.cell? ⟨g, i * size + j, none⟩ = some u :=
  owns_cell h rfl (flatMap_at hsz l i x hx j u hu)
theorem owns_len {size : Nat} {v : Value} (h : w.ownsRow B e size v n (l.flatMap enc)) (hsz : ∀ x, (enc x).length = size) (h0 : 0 < size) : l.length = n := by
  have := h.1
  rw [flatMap_length hsz] at this
  exact Nat.eq_of_mul_eq_mul_right h0 this
/-- The row's beginning, by itself. -/
theorem owns_take {size : Nat} {xs : List Value} (h : w.ownsRow B e size (.slice (some ⟨g, 0, none⟩) n cap) n xs) {i : Nat} (hi : i ≤ n) : w.ownsRow B e size (.slice (some ⟨g, 0, none⟩) i cap) i (xs.take (i * size)) := by
  refine ⟨by rw [List.length_take, h.1]; exact Nat.min_eq_left (Nat.mul_le_mul_right _ hi), ?_⟩
  rcases h.2 with ⟨h', _⟩ | ⟨g', cap', cur, h', hb, hg, hnc, hcm, hcs, htake⟩
  · cases h'
  · cases h'
    refine .inr ⟨g, cap, cur, rfl, hb, hg, by omega, hcm, hcs, ?_⟩
    rw [← htake, List.take_take, Nat.min_eq_left (Nat.mul_le_mul_right _ hi)]
theorem owns_some' {size : Nat} {A : Option Addr} {c : Nat} {xs : List Value} (h : w.ownsRow B e size (.slice A n c) n xs) (hn : 0 < n) : ∃ g, A = some ⟨g, 0, none⟩ ∧ g < w.heap.size := by
  obtain ⟨g, cap, hv, _, hlt⟩ := h.form hn
  injection hv with hA _ _
  exact ⟨g, hA, hlt⟩
theorem owns_cap {size : Nat} {A : Option Addr} {c : Nat} {xs : List Value} (h : w.ownsRow B e size (.slice A n c) n xs) : c ≤ maxLen ∧ n ≤ c := by
  obtain ⟨A', c', e, h1, h2⟩ := owns_slice h
  injection e with _ _ e3
  omega
theorem owns_base {B' size : Nat} {v : Value} {xs : List Value} (h : w.ownsRow B e size v n xs) (hB : B' ≤ B) : w.ownsRow B' e size v n xs := by
  refine ⟨h.1, ?_⟩
  rcases h.2 with h2 | ⟨g, cap, cur, hv, hb, r⟩
  · exact .inl h2
  · exact .inr ⟨g, cap, cur, hv, by omega, r⟩
/-- clear of the row's end. -/
theorem run_clear_own {P : Program} {size : Nat} {xs : List Value} (h : w.ownsRow B e size (.slice (some ⟨g, 0, none⟩) n cap) n xs) {i c : Nat} (hi : i ≤ n) (t ty : TypeId) (ht : P.underlying t = some (.slice e)) (z : Value) (hz : ∀ W, (zeroValue e).run P W = .ok z W) (hzs : z.cells.size = size) (hz1 : ∀ u ∈ z.cells.toList, u.oneCell' = true) (h0 : 0 < size) :
    ∃ w', (Builtin.clear_ #[t] ty #[.slice (some ⟨g, i * size, none⟩) (n - i) c]).run P w = .ok (.tuple #[]) w' ∧ w'.ownsRow B e size (.slice (some ⟨g, 0, none⟩) i cap) i (xs.take (i * size)) ∧ w.grownBy w' (some g) := by
  by_cases hni : n - i = 0
  · rw [hni]
    exact ⟨w, by simp [Builtin.clear_, run_underlying ht], owns_take h hi, grownBy_refl _ _⟩
  · rcases h.2 with ⟨h', _⟩ | ⟨g', cap', cur, h', hb, hg, hnc, hcm, hcs, htake⟩
    · cases h'
    · cases h'
      have hlen : (Builtin.zeroCells z.cells (n - i)).toList.length = (n - i) * size := by rw [Array.length_toList, size_zeroCells, hzs]
      have hfit : i * size + (n - i) * size ≤ cur.size := by rw [← Nat.add_mul, hcs]; exact Nat.mul_le_mul_right _ (by omega)
      have h1 : ∀ u ∈ (Builtin.zeroCells z.cells (n - i)).toList, u.oneCell' = true := by
        intro u hu
        rw [Array.mem_toList_iff] at hu
        simp only [Builtin.zeroCells, Array.mem_map] at hu
        obtain ⟨k, _, rfl⟩ := hu
        have hk : k % z.cells.size < z.cells.size := Nat.mod_lt _ (by omega)
        rw [getElem!_pos z.cells _ hk]
        exact hz1 _ (by simp)
      have hst := run_storeCells_at P g (i * size) e (Builtin.zeroCells z.cells (n - i)).toList 0 cur w hg (by rw [hlen]; omega) h1
      simp only [Nat.add_zero] at hst
      obtain ⟨m, hm⟩ : ∃ m, n - i = m + 1 := ⟨n - i - 1, by omega⟩
      refine ⟨w.setRow g (cur.toList.take (i * size) ++ (Builtin.zeroCells z.cells (n - i)).toList ++ cur.toList.drop (i * size + (Builtin.zeroCells z.cells (n - i)).toList.length)).toArray, ?_, ?_, ?_⟩
      · rw [hm] at hst ⊢
        simp [Builtin.clear_, run_underlying ht, hz, hst]
      · refine ⟨by rw [List.length_take, h.1]; exact Nat.min_eq_left (Nat.mul_le_mul_right _ hi), .inr ⟨g, cap, _, rfl, hb, setRow_heap w g cur _ e _ hg, by omega, hcm, ?_, ?_⟩⟩
        · simp only [List.size_toArray, List.length_append, List.length_take, List.length_drop, Array.length_toList]
          rw [Array.length_toList] at hlen
          omega
        · have hil : i * size ≤ cur.size := by rw [hcs]; exact Nat.mul_le_mul_right _ (by omega)
          rw [← htake, List.take_take, Nat.min_eq_left (Nat.mul_le_mul_right _ hi), List.append_assoc, List.take_append_of_le_length (by rw [List.length_take, Array.length_toList]; omega), List.take_take, Nat.min_self]
      · exact ⟨rfl, rfl, rfl, by simp, fun k _ hk => setRow_other w g k _ (fun e => hk (by rw [e]))⟩
end
end Go.Proofs.YtamlnkmcbbeicaaDoor
namespace Go.Proofs.YtamlnkmcbbeicaaDoor
open Go.RowKit Go.Lib
open RX (PS Tr Pr)

def mostV : Option Nat → Int
  | none => -1
  | some m => m
mutual
/-- The value stands for the tree; its lists lie in blocks of T. -/
def TreeV (w : World) (T : Nat → Prop) : Tr → Value → Prop
  | .bytes p, v => v = .iface 85 (.agg (setV p))
  | .edge e, v => v = .iface 87 (.agg #[.bool e])
  | .group n t, v => ∃ u, v = .iface 89 (.agg #[.int .i64 n, u]) ∧ n ≤ 1000 ∧ TreeV w T t u
  | .row l, v => ∃ a vs, v = .iface 92 (.agg #[a]) ∧ w.ownsRow 0 52 1 a vs.length vs ∧ (∀ b, a.ownBlock = some b → T b) ∧ vs.length ≤ 1000 ∧ TreesV w T l vs
  | .alts l, v => ∃ a vs, v = .iface 93 (.agg #[a]) ∧ w.ownsRow 0 52 1 a vs.length vs ∧ (∀ b, a.ownBlock = some b → T b) ∧ (1 ≤ vs.length ∧ vs.length ≤ 1000) ∧ TreesV w T l vs
  | .rep t least most plus lazy, v => ∃ u, v = .iface 96 (.agg #[u, .int .i64 least, .int .i64 (mostV most), .bool plus, .bool lazy]) ∧ least ≤ 1000 ∧ (∀ m, most = some m → least ≤ m ∧ m ≤ 1000) ∧ TreeV w T t u
def TreesV (w : World) (T : Nat → Prop) : List Tr → List Value → Prop
  | [], vs => vs = []
  | t :: l, vs => ∃ v us, vs = v :: us ∧ TreeV w T t v ∧ TreesV w T l us
end
theorem owns_move {w w' : World} {base : Nat} {e : TypeId} {sz n : Nat} {v : Value} {xs : List Value} (h : w.ownsRow base e sz v n xs) (hk : ∀ b, v.ownBlock = some b → b < w.heap.size → w'.heap[b]? = w.heap[b]?) : w'.ownsRow base e sz v n xs := by
  refine ⟨h.1, ?_⟩
  rcases h.2 with h2 | ⟨b, cap, cur, rfl, hb, hg, rest⟩
  · exact .inl h2
  · refine .inr ⟨b, cap, cur, rfl, hb, ?_, rest⟩
    rw [hk b rfl (Array.getElem?_eq_some_iff.1 hg).1]
    exact hg
mutual
theorem TreeV.move {w w' : World} {T T' : Nat → Prop} (hT : ∀ b, T b → T' b) (hk : ∀ b, T b → b < w.heap.size → w'.heap[b]? = w.heap[b]?) : ∀ (t : Tr) (v : Value), TreeV w T t v → TreeV w' T' t v
  | .bytes _, _, h => by rw [TreeV] at h ⊢; exact h
  | .edge _, _, h => by rw [TreeV] at h ⊢; exact h
  | .group n t, v, h => by
    rw [TreeV] at h ⊢
    obtain ⟨u, e, h1, h2⟩ := h
    exact ⟨u, e, h1, TreeV.move hT hk t u h2⟩
  | .row l, v, h => by
    rw [TreeV] at h ⊢
    obtain ⟨a, vs, e, ho, hb, hl, h2⟩ := h
    exact ⟨a, vs, e, owns_move ho (fun b hb' hlt => hk b (hb b hb') hlt), fun b hb' => hT b (hb b hb'), hl, TreesV.move hT hk l vs h2⟩
  | .alts l, v, h => by
    rw [TreeV] at h ⊢
    obtain ⟨a, vs, e, ho, hb, hl, h2⟩ := h
    exact ⟨a, vs, e, owns_move ho (fun b hb' hlt => hk b (hb b hb') hlt), fun b hb' => hT b (hb b hb'), hl, TreesV.move hT hk l vs h2⟩
  | .rep t least most plus lazy, v, h => by
    rw [TreeV] at h ⊢
    obtain ⟨u, e, h1, h3, h2⟩ := h
    exact ⟨u, e, h1, h3, TreeV.move hT hk t u h2⟩
theorem TreesV.move {w w' : World} {T T' : Nat → Prop} (hT : ∀ b, T b → T' b) (hk : ∀ b, T b → b < w.heap.size → w'.heap[b]? = w.heap[b]?) : ∀ (l : List Tr) (vs : List Value), TreesV w T l vs → TreesV w' T' l vs
  | [], _, h => by rw [TreesV] at h ⊢; exact h
  | t :: l, vs, h => by
    rw [TreesV] at h ⊢
    obtain ⟨v, us, e, h1, h2⟩ := h
    exact ⟨v, us, e, TreeV.move hT hk t v h1, TreesV.move hT hk l us h2⟩
end
end Go.Proofs.YtamlnkmcbbeicaaDoor
namespace Go.Proofs.YtamlnkmcbbeicaaDoor
open Go.RowKit Go.Lib
open RX (PS Tr Pr)

theorem mEmptyB (x : Value) (w : World) : (method 260 85 x "barograph/regex.empty").run Tryd.prog w = .ok (94, x) w := by kernel_rfl
theorem mEmptyE (x : Value) (w : World) : (method 260 87 x "barograph/regex.empty").run Tryd.prog w = .ok (96, x) w := by kernel_rfl
theorem mEmptyG (x : Value) (w : World) : (method 260 89 x "barograph/regex.empty").run Tryd.prog w = .ok (98, x) w := by kernel_rfl
theorem mEmptyR (x : Value) (w : World) : (method 260 92 x "barograph/regex.empty").run Tryd.prog w = .ok (100, x) w := by kernel_rfl
theorem mEmptyA (x : Value) (w : World) : (method 260 93 x "barograph/regex.empty").run Tryd.prog w = .ok (106, x) w := by kernel_rfl
theorem mEmptyP (x : Value) (w : World) : (method 260 96 x "barograph/regex.empty").run Tryd.prog w = .ok (108, x) w := by kernel_rfl
/-- What a method does of a tree's value. -/
def MetE (t : Tr) (v : Value) : Prop := ∃ ty x f, v = .iface ty x ∧ (∀ W, (method 260 ty x "barograph/regex.empty").run Tryd.prog W = .ok (f, x) W) ∧ (∀ args W, (callFunc f args).run Tryd.prog W = .ok (.enter f args) W) ∧
  ∀ W T, TreeV W T t v → Calls Tryd.prog f #[x] W fun e w' => e = .returned (.bool t.empty) ∧ Below W.heap.size W w'
/-- Trees in new memory beside it. -/
theorem TreeV.below {w w' : World} {T : Nat → Prop} {t : Tr} {v : Value} (h : TreeV w T t v) (hb : Below w.heap.size w w') : TreeV w' T t v := h.move (fun _ h => h) (fun b _ hlt => hb.block b hlt) t v
theorem TreesV.below {w w' : World} {T : Nat → Prop} {t : List Tr} {v : List Value} (h : TreesV w T t v) (hb : Below w.heap.size w w') : TreesV w' T t v := TreesV.move (fun _ h => h) (fun b _ hlt => hb.block b hlt) t v h
set_option maxHeartbeats 1000000 in
set_option maxRecDepth 100000 in
theorem empty_bytes (p : Nat → Bool) (w : World) : Calls Tryd.prog 94 #[.agg (setV p)] w fun e w' => e = .returned (.bool false) ∧ Below w.heap.size w w' := by
  go_enter Tryd.func94, Tryd.ntmps94
  go_wp2
  go_ret
  exact ⟨rfl, (Below.refl _ _).alloc (Nat.le_refl _) _⟩
set_option maxHeartbeats 1000000 in
set_option maxRecDepth 100000 in
theorem empty_edge (b : Bool) (w : World) : Calls Tryd.prog 96 #[.agg #[.bool b]] w fun e w' => e = .returned (.bool true) ∧ Below w.heap.size w w' := by
  go_enter Tryd.func96, Tryd.ntmps96
  go_wp2
  go_ret
  exact ⟨rfl, (Below.refl _ _).alloc (Nat.le_refl _) _⟩
set_option maxHeartbeats 1000000 in
set_option maxRecDepth 100000 in
theorem empty_group (n : Nat) (t : Tr) (u : Value) (hm : MetE t u) (w : World) (T : Nat → Prop) (ht : TreeV w T t u) : Calls Tryd.prog 98 #[.agg #[.int .i64 n, u]] w fun e w' => e = .returned (.bool t.empty) ∧ Below w.heap.size w w' := by
  obtain ⟨ty, x, f, rfl, hmet, heg, hc⟩ := hm
  have hb := (Below.refl w.heap.size w).alloc (Nat.le_refl _) (.cells #[.int .i64 n, .iface ty x] 89)
  have HC := Lib.hid (show _ ∧ _ ∧ _ from ⟨hc, ht, hb⟩)
  clear hc ht hb
  go_enter Tryd.func98, Tryd.ntmps98
  go_wp2_with fail
  refine (HC.out.1 _ T (HC.out.2.1.below HC.out.2.2)).mono ?_
  rintro e w2 ⟨rfl, hb2⟩
  have HB := Lib.hid hb2
  clear hb2
  go_wp2
  go_ret
  exact ⟨rfl, HC.out.2.2.trans (HB.out.mono (by have := HC.out.2.2.size; omega))⟩
set_option maxHeartbeats 1000000 in
set_option maxRecDepth 100000 in
theorem empty_rep (least : Nat) (m : Int) (plus lazy : Bool) (u : Value) (w : World) : Calls Tryd.prog 108 #[.agg #[u, .int .i64 least, .int .i64 m, .bool plus, .bool lazy]] w fun e w' => e = .returned (.bool (least == 0 && !plus)) ∧ Below w.heap.size w w' := by
  have hb := (Below.refl w.heap.size w).alloc (Nat.le_refl _) (.cells #[u, .int .i64 least, .int .i64 m, .bool plus, .bool lazy] 96)
  have HB := Lib.hid hb
  clear hb
  by_cases h : least = 0
  · have h1 : ((least : Int) == 0) = true := by rw [h]; rfl
    have h2 : (least == 0) = true := by rw [h]; rfl
    rw [h2]
    clear h h2
    go_enter Tryd.func108, Tryd.ntmps108
    go_wp2
    go_ret
    exact ⟨by simp, HB.out⟩
  · have h1 : ((least : Int) == 0) = false := by rw [beq_eq_false_iff_ne]; omega
    have h2 : (least == 0) = false := by rw [beq_eq_false_iff_ne]; exact h
    rw [h2]
    clear h h2
    go_enter Tryd.func108, Tryd.ntmps108
    go_wp2
    go_ret
    exact ⟨by simp, HB.out⟩
end Go.Proofs.YtamlnkmcbbeicaaDoor
