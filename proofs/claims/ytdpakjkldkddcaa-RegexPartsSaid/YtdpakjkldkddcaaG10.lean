/- Patterns' trees as the program has them; their methods. Patterns' trees: empty. -/
import Derived.Test.YtdpakjkldkddcaaRgSet
import Derived.Test.YtdpakjkldkddcaaRow2
namespace Go.Proofs.Ytdpakjkldkddcaa
open Go.RowKit Go.Lib
open RX (PS Tr Pr)

def mostV : Option Nat → Int
  | none => -1
  | some m => m
mutual
/-- The value stands for the tree; its lists lie in blocks of T. -/
def TreeV (w : World) (T : Nat → Prop) : Tr → Value → Prop
  | .bytes p, v => v = .iface 66 (.agg (setV p))
  | .edge e, v => v = .iface 68 (.agg #[.bool e])
  | .group n t, v => ∃ u, v = .iface 70 (.agg #[.int .i64 n, u]) ∧ n ≤ 1000 ∧ TreeV w T t u
  | .row l, v => ∃ a vs, v = .iface 73 (.agg #[a]) ∧ w.ownsRow 0 43 1 a vs.length vs ∧ (∀ b, a.ownBlock = some b → T b) ∧ vs.length ≤ 1000 ∧ TreesV w T l vs
  | .alts l, v => ∃ a vs, v = .iface 74 (.agg #[a]) ∧ w.ownsRow 0 43 1 a vs.length vs ∧ (∀ b, a.ownBlock = some b → T b) ∧ (1 ≤ vs.length ∧ vs.length ≤ 1000) ∧ TreesV w T l vs
  | .rep t least most plus lazy, v => ∃ u, v = .iface 77 (.agg #[u, .int .i64 least, .int .i64 (mostV most), .bool plus, .bool lazy]) ∧ least ≤ 1000 ∧ (∀ m, most = some m → least ≤ m ∧ m ≤ 1000) ∧ TreeV w T t u
def TreesV (w : World) (T : Nat → Prop) : List Tr → List Value → Prop
  | [], vs => vs = []
  | t :: l, vs => ∃ v us, vs = v :: us ∧ TreeV w T t v ∧ TreesV w T l us
end
theorem owns_move {w w' : World} {base : Nat} {e : TypeId} {sz n : Nat} {v : Value} {xs : List Value} (h : w.ownsRow base e sz v n xs) (hk : ∀ b, v.ownBlock = some b → b < w.heap.size → w'.heap[b]? = w.heap[b]?) : w'.ownsRow base e sz v n xs := by
  refine ⟨h.1, ?_⟩
  rcases h.2 with h2 | ⟨b, cap, cur, rfl, hb, hg, rest⟩
  · exact .inl h2
  · refine .inr ⟨b, cap, cur, rfl, hb, ?_, rest⟩
    rw [hk b rfl (Array.getElem?_eq_some_iff.1 hg).1]
    exact hg
mutual
theorem TreeV.move {w w' : World} {T T' : Nat → Prop} (hT : ∀ b, T b → T' b) (hk : ∀ b, T b → b < w.heap.size → w'.heap[b]? = w.heap[b]?) : ∀ (t : Tr) (v : Value), TreeV w T t v → TreeV w' T' t v
  | .bytes _, _, h => by rw [TreeV] at h ⊢; exact h
  | .edge _, _, h => by rw [TreeV] at h ⊢; exact h
  | .group n t, v, h => by
    rw [TreeV] at h ⊢
    obtain ⟨u, e, h1, h2⟩ := h
    exact ⟨u, e, h1, TreeV.move hT hk t u h2⟩
  | .row l, v, h => by
    rw [TreeV] at h ⊢
    obtain ⟨a, vs, e, ho, hb, hl, h2⟩ := h
    exact ⟨a, vs, e, owns_move ho (fun b hb' hlt => hk b (hb b hb') hlt), fun b hb' => hT b (hb b hb'), hl, TreesV.move hT hk l vs h2⟩
  | .alts l, v, h => by
    rw [TreeV] at h ⊢
    obtain ⟨a, vs, e, ho, hb, hl, h2⟩ := h
    exact ⟨a, vs, e, owns_move ho (fun b hb' hlt => hk b (hb b hb') hlt), fun b hb' => hT b (hb b hb'), hl, TreesV.move hT hk l vs h2⟩
  | .rep t least most plus lazy, v, h => by
    rw [TreeV] at h ⊢
    obtain ⟨u, e, h1, h3, h2⟩ := h
    exact ⟨u, e, h1, h3, TreeV.move hT hk t u h2⟩
theorem TreesV.move {w w' : World} {T T' : Nat → Prop} (hT : ∀ b, T b → T' b) (hk : ∀ b, T b → b < w.heap.size → w'.heap[b]? = w.heap[b]?) : ∀ (l : List Tr) (vs : List Value), TreesV w T l vs → TreesV w' T' l vs
  | [], _, h => by rw [TreesV] at h ⊢; exact h
  | t :: l, vs, h => by
    rw [TreesV] at h ⊢
    obtain ⟨v, us, e, h1, h2⟩ := h
    exact ⟨v, us, e, TreeV.move hT hk t v h1, TreesV.move hT hk l us h2⟩
end
end Go.Proofs.Ytdpakjkldkddcaa
namespace Go.Proofs.Ytdpakjkldkddcaa
open Go.RowKit Go.Lib
open RX (PS Tr Pr)

theorem mEmptyB (x : Value) (w : World) : (method 228 66 x "barograph/regex.empty").run Try.prog w = .ok (63, x) w := by kernel_rfl
theorem mEmptyE (x : Value) (w : World) : (method 228 68 x "barograph/regex.empty").run Try.prog w = .ok (65, x) w := by kernel_rfl
theorem mEmptyG (x : Value) (w : World) : (method 228 70 x "barograph/regex.empty").run Try.prog w = .ok (67, x) w := by kernel_rfl
theorem mEmptyR (x : Value) (w : World) : (method 228 73 x "barograph/regex.empty").run Try.prog w = .ok (69, x) w := by kernel_rfl
theorem mEmptyA (x : Value) (w : World) : (method 228 74 x "barograph/regex.empty").run Try.prog w = .ok (75, x) w := by kernel_rfl
theorem mEmptyP (x : Value) (w : World) : (method 228 77 x "barograph/regex.empty").run Try.prog w = .ok (77, x) w := by kernel_rfl
/-- What a method does of a tree's value. -/
def MetE (t : Tr) (v : Value) : Prop := ∃ ty x f, v = .iface ty x ∧ (∀ W, (method 228 ty x "barograph/regex.empty").run Try.prog W = .ok (f, x) W) ∧ (∀ args W, (callFunc f args).run Try.prog W = .ok (.enter f args) W) ∧
  ∀ W T, TreeV W T t v → Calls Try.prog f #[x] W fun e w' => e = .returned (.bool t.empty) ∧ Below W.heap.size W w'
/-- Trees in new memory beside it. -/
theorem TreeV.below {w w' : World} {T : Nat → Prop} {t : Tr} {v : Value} (h : TreeV w T t v) (hb : Below w.heap.size w w') : TreeV w' T t v := h.move (fun _ h => h) (fun b _ hlt => hb.block b hlt) t v
theorem TreesV.below {w w' : World} {T : Nat → Prop} {t : List Tr} {v : List Value} (h : TreesV w T t v) (hb : Below w.heap.size w w') : TreesV w' T t v := TreesV.move (fun _ h => h) (fun b _ hlt => hb.block b hlt) t v h
set_option maxHeartbeats 1000000 in
set_option maxRecDepth 100000 in
theorem empty_bytes (p : Nat → Bool) (w : World) : Calls Try.prog 63 #[.agg (setV p)] w fun e w' => e = .returned (.bool false) ∧ Below w.heap.size w w' := by
  go_enter Try.func63, Try.ntmps63
  go_wp2
  go_ret
  exact ⟨rfl, (Below.refl _ _).alloc (Nat.le_refl _) _⟩
set_option maxHeartbeats 1000000 in
set_option maxRecDepth 100000 in
theorem empty_edge (b : Bool) (w : World) : Calls Try.prog 65 #[.agg #[.bool b]] w fun e w' => e = .returned (.bool true) ∧ Below w.heap.size w w' := by
  go_enter Try.func65, Try.ntmps65
  go_wp2
  go_ret
  exact ⟨rfl, (Below.refl _ _).alloc (Nat.le_refl _) _⟩
set_option maxHeartbeats 1000000 in
set_option maxRecDepth 100000 in
theorem empty_group (n : Nat) (t : Tr) (u : Value) (hm : MetE t u) (w : World) (T : Nat → Prop) (ht : TreeV w T t u) : Calls Try.prog 67 #[.agg #[.int .i64 n, u]] w fun e w' => e = .returned (.bool t.empty) ∧ Below w.heap.size w w' := by
  obtain ⟨ty, x, f, rfl, hmet, heg, hc⟩ := hm
  have hb := (Below.refl w.heap.size w).alloc (Nat.le_refl _) (.cells #[.int .i64 n, .iface ty x] 70)
  have HC := Lib.hid (show _ ∧ _ ∧ _ from ⟨hc, ht, hb⟩)
  clear hc ht hb
  go_enter Try.func67, Try.ntmps67
  go_wp2_with fail
  refine (HC.out.1 _ T (HC.out.2.1.below HC.out.2.2)).mono ?_
  rintro e w2 ⟨rfl, hb2⟩
  have HB := Lib.hid hb2
  clear hb2
  go_wp2
  go_ret
  exact ⟨rfl, HC.out.2.2.trans (HB.out.mono (by have := HC.out.2.2.size; omega))⟩
set_option maxHeartbeats 1000000 in
set_option maxRecDepth 100000 in
theorem empty_rep (least : Nat) (m : Int) (plus lazy : Bool) (u : Value) (w : World) : Calls Try.prog 77 #[.agg #[u, .int .i64 least, .int .i64 m, .bool plus, .bool lazy]] w fun e w' => e = .returned (.bool (least == 0 && !plus)) ∧ Below w.heap.size w w' := by
  have hb := (Below.refl w.heap.size w).alloc (Nat.le_refl _) (.cells #[u, .int .i64 least, .int .i64 m, .bool plus, .bool lazy] 77)
  have HB := Lib.hid hb
  clear hb
  by_cases h : least = 0
  · have h1 : ((least : Int) == 0) = true := by rw [h]; rfl
    have h2 : (least == 0) = true := by rw [h]; rfl
    rw [h2]
    clear h h2
    go_enter Try.func77, Try.ntmps77
    go_wp2
    go_ret
    exact ⟨by simp, HB.out⟩
  · have h1 : ((least : Int) == 0) = false := by rw [beq_eq_false_iff_ne]; omega
    have h2 : (least == 0) = false := by rw [beq_eq_false_iff_ne]; exact h
    rw [h2]
    clear h h2
    go_enter Try.func77, Try.ntmps77
    go_wp2
    go_ret
    exact ⟨by simp, HB.out⟩
end Go.Proofs.Ytdpakjkldkddcaa
