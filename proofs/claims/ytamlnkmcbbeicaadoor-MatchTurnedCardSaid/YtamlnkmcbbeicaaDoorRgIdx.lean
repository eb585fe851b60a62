/- Patterns' trees: empty of rows and branches. -/
import Derived.Test.YtamlnkmcbbeicaaDoorG07
import Derived.Shelf.Abstract
namespace Go.Proofs.YtamlnkmcbbeicaaDoor
open Go.RowKit Go.Lib
open RX (PS Tr Pr)

theorem seenB {w w' : World} (hb : Below w.heap.size w w') {p : Addr} {v : Value} (h : w.cell? p = some v) : w'.cell? p = some v := (hb.cell (World.block_lt_of_cell? w _ h)).trans h
theorem TreesV.length {w : World} {T : Nat → Prop} : ∀ {l : List Tr} {vs : List Value}, TreesV w T l vs → l.length = vs.length
  | [], _, h => by rw [TreesV] at h; subst h; rfl
  | t :: l, vs, h => by
    rw [TreesV] at h
    obtain ⟨v, us, rfl, _, h2⟩ := h
    simp [TreesV.length h2]
theorem TreesV.at {w : World} {T : Nat → Prop} : ∀ {l : List Tr} {vs : List Value}, TreesV w T l vs → ∀ {i : Nat} {t : Tr} {v : Value}, l[i]? = some t → vs[i]? = some v → TreeV w T t v
  | [], _, _, i, t, v, h1, _ => by simp at h1
  | t :: l, vs, h, i, t', v', h1, h2 => by
    rw [TreesV] at h
    obtain ⟨v, us, rfl, h3, h4⟩ := h
    cases i with
    | zero =>
      obtain rfl := Option.some.inj h1
      obtain rfl := Option.some.inj h2
      exact h3
    | succ i => exact TreesV.at h4 h1 h2
theorem TreesV.snoc {w : World} {T : Nat → Prop} : ∀ {l : List Tr} {vs : List Value} {t : Tr} {v : Value}, TreesV w T l vs → TreeV w T t v → TreesV w T (l ++ [t]) (vs ++ [v])
  | [], vs, t, v, h, h2 => by
    rw [TreesV] at h
    subst h
    show TreesV w T [t] [v]
    rw [TreesV]
    exact ⟨v, [], rfl, h2, by rw [TreesV]⟩
  | t :: l, vs, t', v', h, h2 => by
    rw [TreesV] at h
    obtain ⟨v, us, rfl, h3, h4⟩ := h
    show TreesV w T (t :: (l ++ [t'])) (v :: (us ++ [v']))
    rw [TreesV]
    exact ⟨v, _, rfl, h3, TreesV.snoc h4 h2⟩
/-- Each of the list's values has its method. -/
def MetEs (l : List Tr) (vs : List Value) : Prop := ∀ (i : Nat) t v, l[i]? = some t → vs[i]? = some v → MetE t v
theorem all_at : ∀ {l : List Tr}, (∀ (i : Nat) t, l[i]? = some t → t.empty = true) → RX.allEmpty l = true
  | [], _ => rfl
  | t :: l, h => by
    rw [RX.allEmpty, h 0 t rfl, all_at fun i t' h1 => h (i + 1) t' h1]; rfl
theorem all_not : ∀ {l : List Tr} {i : Nat} {t : Tr}, l[i]? = some t → t.empty = false → RX.allEmpty l = false
  | [], _, _, h, _ => by simp at h
  | t :: l, 0, t', h, he => by
    obtain rfl := Option.some.inj h
    rw [RX.allEmpty, he]; rfl
  | t :: l, i + 1, t', h, he => by
    rw [RX.allEmpty, all_not (l := l) h he, Bool.and_false]
theorem any_at : ∀ {l : List Tr}, (∀ (i : Nat) t, l[i]? = some t → t.empty = false) → RX.anyEmpty l = false
  | [], _ => rfl
  | t :: l, h => by
    rw [RX.anyEmpty, h 0 t rfl, any_at fun i t' h1 => h (i + 1) t' h1]; rfl
theorem any_yes : ∀ {l : List Tr} {i : Nat} {t : Tr}, l[i]? = some t → t.empty = true → RX.anyEmpty l = true
  | [], _, _, h, _ => by simp at h
  | t :: l, 0, t', h, he => by
    obtain rfl := Option.some.inj h
    rw [RX.anyEmpty, he]; rfl
  | t :: l, i + 1, t', h, he => by
    rw [RX.anyEmpty, any_yes (l := l) h he, Bool.or_true]
set_option maxHeartbeats 1000000 in
set_option maxRecDepth 100000 in
theorem rowEmpty1 (t : Tr) (u : Value) (hm : MetE t u) (w : World) (T : Nat → Prop) (ht : TreeV w T t u) : Calls Tryd.prog 103 #[u] w fun e w' => e = .returned (.bool (!t.empty)) ∧ Below w.heap.size w w' := by
  obtain ⟨ty, x, f, rfl, hmet, heg, hc⟩ := hm
  have HC := Lib.hid (show _ ∧ _ from ⟨hc, ht⟩)
  clear hc ht
  go_enter Tryd.func103, Tryd.ntmps103
  go_wp2_with fail
  refine (HC.out.1 _ T HC.out.2).mono ?_
  rintro e w2 ⟨rfl, hb2⟩
  have HB := Lib.hid hb2
  clear hb2
  go_wp2
  go_ret
  exact ⟨rfl, HB.out⟩
set_option maxHeartbeats 2000000 in
set_option maxRecDepth 100000 in
theorem idx_row (l : List Tr) (vs : List Value) (a : Value) (w : World) (T : Nat → Prop) (ho : w.ownsRow 0 52 1 a vs.length vs) (hl : TreesV w T l vs) (hm : MetEs l vs) (hn : vs.length ≤ 1000) :
    Calls Tryd.prog 105 #[a, .func (.func 103) #[] #[]] w fun e w' => (∃ z : Int, e = .returned (.int .i64 z) ∧ (0 ≤ z ↔ RX.allEmpty l = false)) ∧ Below w.heap.size w w' := by
  obtain ⟨A, c, rfl, _, _⟩ := owns_slice ho
  have hll := hl.length
  have HH := Lib.hid (show _ ∧ _ ∧ _ ∧ _ from ⟨ho, hl, hm, hll⟩)
  clear ho hl hm hll
  go_enter Tryd.func105, Tryd.ntmps105
  go_wp2_with fail
  go_loopw [8] (fun iv wr => ∃ i : Nat, i ≤ vs.length ∧ iv = .int .i64 i ∧ Hid (Below w.heap.size w wr ∧ ∀ (j : Nat) t, j < i → l[j]? = some t → t.empty = true)) (fun iv _ => vs.length - (intOf iv).toNat)
  case atStart => exact ⟨0, Nat.zero_le _, rfl, Lib.hid ⟨Below.refl _ _, fun j t h => by omega⟩⟩
  case round =>
    obtain ⟨i, hi, rfl, HR⟩ := hrel
    have w2 : IntKind.i64.wrap ((i : Int) + 1) = (i : Int) + 1 := IntWalk.i64_in _ (by omega)
    by_cases hlt : i < vs.length
    · have i1 : (i : Int) < (vs.length : Int) := by omega
      have i0 : (0 : Int) ≤ (i : Int) := by omega
      obtain ⟨g, hg⟩ : ∃ g, A = some ⟨g, 0, none⟩ := by
        rcases HH.out.1.2 with ⟨e, h0⟩ | ⟨g, _, _, e, _⟩
        · omega
        · injection e with e1 _ _; exact ⟨g, e1⟩
      subst hg
      have hv : vs[i]? = some (vs[i]'hlt) := List.getElem?_eq_getElem _
      have ht : l[i]? = some (l[i]'(by have := HH.out.2.2.2; omega)) := List.getElem?_eq_getElem _
      obtain ⟨v, hve⟩ : ∃ v, vs[i]'hlt = v := ⟨_, rfl⟩
      obtain ⟨t, hte⟩ : ∃ t, l[i]'(by have := HH.out.2.2.2; omega) = t := ⟨_, rfl⟩
      rw [hve] at hv
      rw [hte] at ht
      have c0 := seenB HR.out.1 (owns_cell HH.out.1 rfl hv)
      have hmt := HH.out.2.2.1 i t v ht hv
      have htv := (HH.out.2.1.at ht hv).below HR.out.1
      have HV := Lib.hid (show _ ∧ _ ∧ _ from ⟨hmt, htv, ht⟩)
      clear hve hte hv ht hmt htv
      have hcall := fun W (hW : TreeV W T t v) => rowEmpty1 t v HV.out.1 W T hW
      cases hb : t.empty with
      | false =>
        simp only [hb] at hcall
        have HC := Lib.hid (show _ ∧ _ from ⟨hcall, hb⟩)
        clear hcall hb
        go_wp2_with fail
        refine (HC.out.1 _ HV.out.2.1).mono ?_
        rintro e w3 ⟨rfl, hb3⟩
        have HB := Lib.hid hb3
        clear hb3
        go_wp2
        go_ret
        exact ⟨⟨_, rfl, ⟨fun _ => all_not HV.out.2.2 HC.out.2, fun _ => by omega⟩⟩, HR.out.1.trans (HB.out.mono HR.out.1.size)⟩
      | true =>
        simp only [hb] at hcall
        have HC := Lib.hid (show _ ∧ _ from ⟨hcall, hb⟩)
        clear hcall hb
        go_wp2_with fail
        refine (HC.out.1 _ HV.out.2.1).mono ?_
        rintro e w3 ⟨rfl, hb3⟩
        have HB := Lib.hid hb3
        clear hb3
        go_wp2
        go_roundw
        case measure => simp [intOf]; omega
        case rel => exact ⟨i + 1, hlt, by simp, Lib.hid ⟨HR.out.1.trans (HB.out.mono HR.out.1.size), fun j t' hj hjt => by
          by_cases e : j = i
          · subst e
            rw [HV.out.2.2] at hjt
            obtain rfl := Option.some.inj hjt
            exact HC.out.2
          · exact HR.out.2 j t' (by omega) hjt⟩⟩

    · obtain rfl : i = vs.length := by omega
      have i1 : ¬ ((vs.length : Nat) : Int) < (vs.length : Int) := by omega
      have HE := Lib.hid HR.out.2
      go_wp2
      go_ret
      exact ⟨⟨-1, rfl, by
        have hb : ∀ (j : Nat) t, l[j]? = some t → t.empty = true := fun j t h => HE.out j t (by have h1 := (List.getElem?_eq_some_iff.1 h).1; have := HH.out.2.2.2; omega) h
        constructor
        · intro h; omega
        · intro h
          have h2 := all_at hb
          rw [h2] at h; cases h⟩, HR.out.1⟩
set_option maxHeartbeats 2000000 in
set_option maxRecDepth 100000 in
theorem idx_brs (l : List Tr) (vs : List Value) (a : Value) (w : World) (T : Nat → Prop) (ho : w.ownsRow 0 52 1 a vs.length vs) (hl : TreesV w T l vs) (hm : MetEs l vs) (hn : vs.length ≤ 1000) :
    Calls Tryd.prog 105 #[a, .func (.methodOf 52 "barograph/regex.empty") #[] #[]] w fun e w' => (∃ z : Int, e = .returned (.int .i64 z) ∧ (0 ≤ z ↔ RX.anyEmpty l = true)) ∧ Below w.heap.size w w' := by
  obtain ⟨A, c, rfl, _, _⟩ := owns_slice ho
  have hll := hl.length
  have HH := Lib.hid (show _ ∧ _ ∧ _ ∧ _ from ⟨ho, hl, hm, hll⟩)
  clear ho hl hm hll
  go_enter Tryd.func105, Tryd.ntmps105
  go_wp2_with fail
  go_loopw [8] (fun iv wr => ∃ i : Nat, i ≤ vs.length ∧ iv = .int .i64 i ∧ Hid (Below w.heap.size w wr ∧ ∀ (j : Nat) t, j < i → l[j]? = some t → t.empty = false)) (fun iv _ => vs.length - (intOf iv).toNat)
  case atStart => exact ⟨0, Nat.zero_le _, rfl, Lib.hid ⟨Below.refl _ _, fun j t h => by omega⟩⟩
  case round =>
    obtain ⟨i, hi, rfl, HR⟩ := hrel
    have w2 : IntKind.i64.wrap ((i : Int) + 1) = (i : Int) + 1 := IntWalk.i64_in _ (by omega)
    by_cases hlt : i < vs.length
    · have i1 : (i : Int) < (vs.length : Int) := by omega
      have i0 : (0 : Int) ≤ (i : Int) := by omega
      obtain ⟨g, hg⟩ : ∃ g, A = some ⟨g, 0, none⟩ := by
        rcases HH.out.1.2 with ⟨e, h0⟩ | ⟨g, _, _, e, _⟩
        · omega
        · injection e with e1 _ _; exact ⟨g, e1⟩
      subst hg
      have hv : vs[i]? = some (vs[i]'hlt) := List.getElem?_eq_getElem _
      have ht : l[i]? = some (l[i]'(by have := HH.out.2.2.2; omega)) := List.getElem?_eq_getElem _
      obtain ⟨v, hve⟩ : ∃ v, vs[i]'hlt = v := ⟨_, rfl⟩
      obtain ⟨t, hte⟩ : ∃ t, l[i]'(by have := HH.out.2.2.2; omega) = t := ⟨_, rfl⟩
      rw [hve] at hv
      rw [hte] at ht
      have c0 := seenB HR.out.1 (owns_cell HH.out.1 rfl hv)
      have hmt := HH.out.2.2.1 i t v ht hv
      have htv := (HH.out.2.1.at ht hv).below HR.out.1
      have HV := Lib.hid (show _ ∧ _ ∧ _ from ⟨hmt, htv, ht⟩)
      clear hve hte hv ht hmt htv
      obtain ⟨ty, x, f, rfl, hmet, heg, hc⟩ := HV.out.1
      cases hb : t.empty with
      | true =>
        simp only [hb] at hc
        have HC := Lib.hid (show _ ∧ _ from ⟨hc, hb⟩)
        clear hc hb
        go_wp2_with fail
        refine (HC.out.1 _ _ HV.out.2.1).mono ?_
        rintro e w3 ⟨rfl, hb3⟩
        have HB := Lib.hid hb3
        clear hb3
        go_wp2
        go_ret
        exact ⟨⟨_, rfl, ⟨fun _ => any_yes HV.out.2.2 HC.out.2, fun _ => by omega⟩⟩, HR.out.1.trans (HB.out.mono HR.out.1.size)⟩
      | false =>
        simp only [hb] at hc
        have HC := Lib.hid (show _ ∧ _ from ⟨hc, hb⟩)
        clear hc hb
        go_wp2_with fail
        refine (HC.out.1 _ _ HV.out.2.1).mono ?_
        rintro e w3 ⟨rfl, hb3⟩
        have HB := Lib.hid hb3
        clear hb3
        go_wp2
        go_roundw
        case measure => simp [intOf]; omega
        case rel => exact ⟨i + 1, hlt, by simp, Lib.hid ⟨HR.out.1.trans (HB.out.mono HR.out.1.size), fun j t' hj hjt => by
          by_cases e : j = i
          · subst e
            rw [HV.out.2.2] at hjt
            obtain rfl := Option.some.inj hjt
            exact HC.out.2
          · exact HR.out.2 j t' (by omega) hjt⟩⟩

    · obtain rfl : i = vs.length := by omega
      have i1 : ¬ ((vs.length : Nat) : Int) < (vs.length : Int) := by omega
      have HE := Lib.hid HR.out.2
      go_wp2
      go_ret
      exact ⟨⟨-1, rfl, by
        have hb : ∀ (j : Nat) t, l[j]? = some t → t.empty = false := fun j t h => HE.out j t (by have h1 := (List.getElem?_eq_some_iff.1 h).1; have := HH.out.2.2.2; omega) h
        constructor
        · intro h; omega
        · intro h
          have h2 := any_at hb
          rw [h2] at h; cases h⟩, HR.out.1⟩
theorem dec_not {p : Prop} [Decidable p] {b : Bool} (h : p ↔ b = false) : decide p = !b := by
  cases b with
  | true => exact decide_eq_false (fun e => by have := h.1 e; cases this)
  | false => exact decide_eq_true (h.2 rfl)
theorem dec_yes {p : Prop} [Decidable p] {b : Bool} (h : p ↔ b = true) : decide p = b := by
  cases b with
  | false => exact decide_eq_false (fun e => by have := h.1 e; cases this)
  | true => exact decide_eq_true (h.2 rfl)
set_option maxHeartbeats 1000000 in
set_option maxRecDepth 100000 in
theorem con_row (l : List Tr) (vs : List Value) (a : Value) (w : World) (T : Nat → Prop) (ho : w.ownsRow 0 52 1 a vs.length vs) (hl : TreesV w T l vs) (hm : MetEs l vs) (hn : vs.length ≤ 1000) :
    Calls Tryd.prog 102 #[a, .func (.func 103) #[] #[]] w fun e w' => e = .returned (.bool (!RX.allEmpty l)) ∧ Below w.heap.size w w' := by
  have HC := Lib.hid (idx_row l vs a w T ho hl hm hn)
  clear ho hl hm
  go_enter Tryd.func102, Tryd.ntmps102
  go_wp2_with fail
  refine HC.out.mono ?_
  rintro e w2 ⟨⟨z, rfl, hz⟩, hb⟩
  have HB := Lib.hid (show _ ∧ _ from ⟨hz, hb⟩)
  clear hz hb
  go_wp2
  go_ret
  exact ⟨congrArg (fun b => Ending.returned (Value.bool b)) (dec_not HB.out.1), HB.out.2⟩
set_option maxHeartbeats 1000000 in
set_option maxRecDepth 100000 in
theorem con_brs (l : List Tr) (vs : List Value) (a : Value) (w : World) (T : Nat → Prop) (ho : w.ownsRow 0 52 1 a vs.length vs) (hl : TreesV w T l vs) (hm : MetEs l vs) (hn : vs.length ≤ 1000) :
    Calls Tryd.prog 102 #[a, .func (.methodOf 52 "barograph/regex.empty") #[] #[]] w fun e w' => e = .returned (.bool (RX.anyEmpty l)) ∧ Below w.heap.size w w' := by
  have HC := Lib.hid (idx_brs l vs a w T ho hl hm hn)
  clear ho hl hm
  go_enter Tryd.func102, Tryd.ntmps102
  go_wp2_with fail
  refine HC.out.mono ?_
  rintro e w2 ⟨⟨z, rfl, hz⟩, hb⟩
  have HB := Lib.hid (show _ ∧ _ from ⟨hz, hb⟩)
  clear hz hb
  go_wp2
  go_ret
  exact ⟨congrArg (fun b => Ending.returned (Value.bool b)) (dec_yes HB.out.1), HB.out.2⟩
set_option maxHeartbeats 1000000 in
set_option maxRecDepth 100000 in
theorem empty_row (l : List Tr) (vs : List Value) (a : Value) (w : World) (T : Nat → Prop) (ho : w.ownsRow 0 52 1 a vs.length vs) (hl : TreesV w T l vs) (hm : MetEs l vs) (hn : vs.length ≤ 1000) :
    Calls Tryd.prog 100 #[.agg #[a]] w fun e w' => e = .returned (.bool (RX.allEmpty l)) ∧ Below w.heap.size w w' := by
  have hb := (Below.refl w.heap.size w).alloc (Nat.le_refl _) (.cells #[a] 92)
  have HC := Lib.hid (show _ ∧ _ from ⟨con_row l vs a _ T (owns_below ho hb) (hl.below hb) hm hn, hb⟩)
  clear ho hl hm hb
  go_enter Tryd.func100, Tryd.ntmps100
  go_wp2_with fail
  refine HC.out.1.mono ?_
  rintro e w2 ⟨rfl, hb⟩
  have HB := Lib.hid hb
  clear hb
  go_wp2
  go_ret
  exact ⟨by simp, HC.out.2.trans (HB.out.mono HC.out.2.size)⟩
set_option maxHeartbeats 1000000 in
set_option maxRecDepth 100000 in
theorem empty_brs (l : List Tr) (vs : List Value) (a : Value) (w : World) (T : Nat → Prop) (ho : w.ownsRow 0 52 1 a vs.length vs) (hl : TreesV w T l vs) (hm : MetEs l vs) (hn : vs.length ≤ 1000) :
    Calls Tryd.prog 106 #[.agg #[a]] w fun e w' => e = .returned (.bool (RX.anyEmpty l)) ∧ Below w.heap.size w w' := by
  have hb := (Below.refl w.heap.size w).alloc (Nat.le_refl _) (.cells #[a] 93)
  have HC := Lib.hid (show _ ∧ _ from ⟨con_brs l vs a _ T (owns_below ho hb) (hl.below hb) hm hn, hb⟩)
  clear ho hl hm hb
  go_enter Tryd.func106, Tryd.ntmps106
  go_wp2_with fail
  refine HC.out.1.mono ?_
  rintro e w2 ⟨rfl, hb⟩
  have HB := Lib.hid hb
  clear hb
  go_wp2
  go_ret
  exact ⟨rfl, HC.out.2.trans (HB.out.mono HC.out.2.size)⟩
mutual
theorem metE : ∀ (t : Tr) (v : Value) (w : World) (T : Nat → Prop), TreeV w T t v → MetE t v
  | .bytes p, v, w, T, h => by
    rw [TreeV] at h
    subst h
    exact ⟨_, _, _, rfl, fun W => mEmptyB _ W, enters_of Tryd.func94 (by kernel_rfl) rfl, fun W T _ => empty_bytes p W⟩
  | .edge e, v, w, T, h => by
    rw [TreeV] at h
    subst h
    exact ⟨_, _, _, rfl, fun W => mEmptyE _ W, enters_of Tryd.func96 (by kernel_rfl) rfl, fun W T _ => empty_edge e W⟩
  | .group n t, v, w, T, h => by
    rw [TreeV] at h
    obtain ⟨u, rfl, _, h2⟩ := h
    refine ⟨_, _, _, rfl, fun W => mEmptyG _ W, enters_of Tryd.func98 (by kernel_rfl) rfl, fun W T' hW => ?_⟩
    rw [TreeV] at hW
    obtain ⟨u', e, _, h3⟩ := hW
    obtain rfl : u' = u := by injection e with _ e; injection e with e; simp at e; exact e.symm
    exact empty_group n t u' (metE t u' W T' h3) W T' h3
  | .row l, v, w, T, h => by
    rw [TreeV] at h
    obtain ⟨a, vs, rfl, _, _, _, h2⟩ := h
    refine ⟨_, _, _, rfl, fun W => mEmptyR _ W, enters_of Tryd.func100 (by kernel_rfl) rfl, fun W T' hW => ?_⟩
    rw [TreeV] at hW
    obtain ⟨a', vs', e, ho, _, hn, h3⟩ := hW
    obtain rfl : a' = a := by injection e with _ e; injection e with e; simp at e; exact e.symm
    exact empty_row l vs' a' W T' ho h3 (metEs l vs' W T' h3) hn
  | .alts l, v, w, T, h => by
    rw [TreeV] at h
    obtain ⟨a, vs, rfl, _, _, _, h2⟩ := h
    refine ⟨_, _, _, rfl, fun W => mEmptyA _ W, enters_of Tryd.func106 (by kernel_rfl) rfl, fun W T' hW => ?_⟩
    rw [TreeV] at hW
    obtain ⟨a', vs', e, ho, _, hn, h3⟩ := hW
    obtain rfl : a' = a := by injection e with _ e; injection e with e; simp at e; exact e.symm
    exact empty_brs l vs' a' W T' ho h3 (metEs l vs' W T' h3) hn.2
  | .rep t least most plus lazy, v, w, T, h => by
    rw [TreeV] at h
    obtain ⟨u, rfl, _, _, h2⟩ := h
    refine ⟨_, _, _, rfl, fun W => mEmptyP _ W, enters_of Tryd.func108 (by kernel_rfl) rfl, fun W T' hW => ?_⟩
    exact empty_rep least (mostV most) plus lazy u W
theorem metEs : ∀ (l : List Tr) (vs : List Value) (w : World) (T : Nat → Prop), TreesV w T l vs → MetEs l vs
  | [], _, _, _, _ => fun i t v h _ => by simp at h
  | t :: l, vs, w, T, h => by
    rw [TreesV] at h
    obtain ⟨v, us, rfl, h1, h2⟩ := h
    have m1 := metE t v w T h1
    have m2 := metEs l us w T h2
    intro i t' v' e1 e2
    cases i with
    | zero =>
      obtain rfl := Option.some.inj e1
      obtain rfl := Option.some.inj e2
      exact m1
    | succ i => exact m2 i t' v' e1 e2
end
end Go.Proofs.YtamlnkmcbbeicaaDoor
