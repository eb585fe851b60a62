/- Patterns' trees: states. -/
import Derived.Test.YtamlnkmcbbeicaaDoorRgAll
namespace Go.Proofs.YtamlnkmcbbeicaaDoor
open Go.RowKit Go.Lib
open RX (PS Tr Pr)

theorem mStsB (x : Value) (w : World) : (method 260 85 x "barograph/regex.states").run Tryd.prog w = .ok (95, x) w := by kernel_rfl
theorem mStsE (x : Value) (w : World) : (method 260 87 x "barograph/regex.states").run Tryd.prog w = .ok (97, x) w := by kernel_rfl
theorem mStsG (x : Value) (w : World) : (method 260 89 x "barograph/regex.states").run Tryd.prog w = .ok (99, x) w := by kernel_rfl
theorem mStsR (x : Value) (w : World) : (method 260 92 x "barograph/regex.states").run Tryd.prog w = .ok (101, x) w := by kernel_rfl
theorem mStsA (x : Value) (w : World) : (method 260 93 x "barograph/regex.states").run Tryd.prog w = .ok (107, x) w := by kernel_rfl
theorem mStsP (x : Value) (w : World) : (method 260 96 x "barograph/regex.states").run Tryd.prog w = .ok (109, x) w := by kernel_rfl
/-- How many, but no more than that. -/
def cut (n : Nat) : Nat := if n < 1048576 then n else 1048576
theorem cut_le (n : Nat) : cut n ≤ 1048576 := by unfold cut; split <;> omega
/-- Go's min. -/
theorem cut_int {n : Nat} {x : Int} (hx : x = n) : (if x < 1048576 then x else 1048576) = ((cut n : Nat) : Int) := by
  subst hx
  unfold cut
  by_cases h : n < 1048576
  · rw [if_pos h, if_pos (by omega)]
  · rw [if_neg h, if_neg (by omega)]; rfl
theorem cut_add {n k : Nat} : cut (cut n + k) = cut (n + k) := by
  unfold cut
  by_cases h : n < 1048576
  · simp only [if_pos h]
  · rw [if_neg h, if_neg (by omega), if_neg (by omega)]
theorem cut_add2 {n k : Nat} : cut (cut n + cut k) = cut (n + k) := by
  rw [cut_add, Nat.add_comm, cut_add, Nat.add_comm]
theorem cut_mul {a b n k : Nat} : cut (a * cut n + b * (cut n + 1) + k) = cut (a * n + b * (n + 1) + k) := by
  by_cases h : n < 1048576
  · have : cut n = n := by unfold cut; rw [if_pos h]
    rw [this]
  · have hn : cut n = 1048576 := by unfold cut; rw [if_neg h]
    rw [hn]
    cases a with
    | zero =>
      cases b with
      | zero => simp
      | succ b =>
        have h1 : 1048577 ≤ (b + 1) * (1048576 + 1) := by rw [Nat.succ_mul]; omega
        have h2 : 1048577 ≤ (b + 1) * (n + 1) := by rw [Nat.succ_mul]; omega
        unfold cut
        rw [if_neg (by omega), if_neg (by omega)]
    | succ a =>
      have h1 : 1048576 ≤ (a + 1) * 1048576 := by rw [Nat.succ_mul]; omega
      have h2 : 1048576 ≤ (a + 1) * n := by rw [Nat.succ_mul]; omega
      unfold cut
      rw [if_neg (by omega), if_neg (by omega)]
/-- What the method does of a tree's value. -/
def MetS (t : Tr) (v : Value) : Prop := ∃ ty x f, v = .iface ty x ∧ (∀ W, (method 260 ty x "barograph/regex.states").run Tryd.prog W = .ok (f, x) W) ∧ (∀ args W, (callFunc f args).run Tryd.prog W = .ok (.enter f args) W) ∧
  ∀ W T, TreeV W T t v → Calls Tryd.prog f #[x] W fun e w' => e = .returned (.int .i64 (cut t.size : Nat)) ∧ Below W.heap.size W w'
def MetSs (l : List Tr) (vs : List Value) : Prop := ∀ (i : Nat) t v, l[i]? = some t → vs[i]? = some v → MetS t v
set_option maxHeartbeats 1000000 in
set_option maxRecDepth 100000 in
theorem sts_bytes (p : Nat → Bool) (w : World) : Calls Tryd.prog 95 #[.agg (setV p)] w fun e w' => e = .returned (.int .i64 1) ∧ Below w.heap.size w w' := by
  go_enter Tryd.func95, Tryd.ntmps95
  go_wp2
  go_ret
  exact ⟨rfl, (Below.refl _ _).alloc (Nat.le_refl _) _⟩
set_option maxHeartbeats 1000000 in
set_option maxRecDepth 100000 in
theorem sts_edge (b : Bool) (w : World) : Calls Tryd.prog 97 #[.agg #[.bool b]] w fun e w' => e = .returned (.int .i64 1) ∧ Below w.heap.size w w' := by
  go_enter Tryd.func97, Tryd.ntmps97
  go_wp2
  go_ret
  exact ⟨rfl, (Below.refl _ _).alloc (Nat.le_refl _) _⟩
set_option maxHeartbeats 1000000 in
set_option maxRecDepth 100000 in
theorem sts_group (n : Nat) (t : Tr) (u : Value) (hm : MetS t u) (w : World) (T : Nat → Prop) (ht : TreeV w T t u) : Calls Tryd.prog 99 #[.agg #[.int .i64 n, u]] w fun e w' => e = .returned (.int .i64 (cut (t.size + 2) : Nat)) ∧ Below w.heap.size w w' := by
  obtain ⟨ty, x, f, rfl, hmet, heg, hc⟩ := hm
  have hb := (Below.refl w.heap.size w).alloc (Nat.le_refl _) (.cells #[.int .i64 n, .iface ty x] 89)
  have HC := Lib.hid (show _ ∧ _ ∧ _ from ⟨hc, ht, hb⟩)
  have hcl := cut_le t.size
  clear hc ht hb
  have k1 : IntKind.i64.wrap ((cut t.size : Nat) + 2 : Int) = ((cut t.size : Nat) : Int) + 2 := IntWalk.i64_in _ (by omega)
  go_enter Tryd.func99, Tryd.ntmps99
  go_wp2_with fail
  refine (HC.out.1 _ T (HC.out.2.1.below HC.out.2.2)).mono ?_
  rintro e w2 ⟨rfl, hb2⟩
  have HB := Lib.hid hb2
  clear hb2
  have hfin : (if ((cut t.size : Nat) : Int) + 2 < 1048576 then ((cut t.size : Nat) : Int) + 2 else 1048576) = ((cut (t.size + 2) : Nat) : Int) := by
    rw [cut_int (n := cut t.size + 2) (by simp), cut_add]
  by_cases hh : ((cut t.size : Nat) : Int) + 2 < 1048576
  · rw [if_pos hh] at hfin
    have HF := Lib.hid hfin
    clear hfin
    go_wp2
    go_ret
    exact ⟨congrArg (fun z => Ending.returned (Value.int .i64 z)) HF.out, HC.out.2.2.trans (HB.out.mono (by have := HC.out.2.2.size; omega))⟩
  · rw [if_neg hh] at hfin
    have HF := Lib.hid hfin
    clear hfin
    go_wp2
    go_ret
    exact ⟨congrArg (fun z => Ending.returned (Value.int .i64 z)) HF.out, HC.out.2.2.trans (HB.out.mono (by have := HC.out.2.2.size; omega))⟩
theorem sizes_le : ∀ {l : List Tr} {i : Nat}, RX.sizes (l.take i) ≤ RX.sizes l
  | [], i => by simp [RX.sizes]
  | t :: l, 0 => by simp [RX.sizes]
  | t :: l, i + 1 => by simp only [List.take_succ_cons, RX.sizes]; have := sizes_le (l := l) (i := i); omega
theorem sizes_snoc : ∀ {l : List Tr} {t : Tr}, RX.sizes (l ++ [t]) = RX.sizes l + t.size
  | [], t => by simp [RX.sizes]
  | x :: l, t => by simp only [List.cons_append, RX.sizes, sizes_snoc]; omega
set_option maxHeartbeats 2000000 in
set_option maxRecDepth 100000 in
theorem sum_any (l : List Tr) (vs : List Value) (a : Value) (w : World) (T : Nat → Prop) (ho : w.ownsRow 0 52 1 a vs.length vs) (hl : TreesV w T l vs) (hm : MetSs l vs) (hn : vs.length ≤ 1000) :
    Calls Tryd.prog 104 #[a] w fun e w' => e = .returned (.int .i64 (cut (RX.sizes l) : Nat)) ∧ Below w.heap.size w w' := by
  obtain ⟨A, c, rfl, _, _⟩ := owns_slice ho
  have hll := hl.length
  have HH := Lib.hid (show _ ∧ _ ∧ _ ∧ _ from ⟨ho, hl, hm, hll⟩)
  clear ho hl hm hll
  go_enter Tryd.func104, Tryd.ntmps104
  go_wp2_with fail
  go_loopw [3, 8] (fun nv iv wr => ∃ i : Nat, i ≤ vs.length ∧ nv = .int .i64 (cut (RX.sizes (l.take i)) : Nat) ∧ iv = .int .i64 i ∧ Hid (Below w.heap.size w wr)) (fun _ iv _ => vs.length - (intOf iv).toNat)
  case atStart => exact ⟨0, Nat.zero_le _, rfl, rfl, Lib.hid (Below.refl _ _)⟩
  case round =>
    obtain ⟨i, hi, rfl, rfl, HR⟩ := hrel
    have w2 : IntKind.i64.wrap ((i : Int) + 1) = (i : Int) + 1 := IntWalk.i64_in _ (by omega)
    by_cases hlt : i < vs.length
    · have i1 : (i : Int) < (vs.length : Int) := by omega
      have i0 : (0 : Int) ≤ (i : Int) := by omega
      obtain ⟨g, hg⟩ : ∃ g, A = some ⟨g, 0, none⟩ := by
        rcases HH.out.1.2 with ⟨e, h0⟩ | ⟨g, _, _, e, _⟩
        · omega
        · injection e with e1 _ _; exact ⟨g, e1⟩
      subst hg
      have hv : vs[i]? = some (vs[i]'hlt) := List.getElem?_eq_getElem _
      have hlt2 : i < l.length := by have := HH.out.2.2.2; omega
      have ht : l[i]? = some (l[i]'hlt2) := List.getElem?_eq_getElem _
      obtain ⟨v, hve⟩ : ∃ v, vs[i]'hlt = v := ⟨_, rfl⟩
      obtain ⟨t, hte⟩ : ∃ t, l[i]'hlt2 = t := ⟨_, rfl⟩
      have hsz : RX.sizes (l.take (i + 1)) = RX.sizes (l.take i) + t.size := by rw [List.take_succ_eq_append_getElem hlt2, hte, sizes_snoc]
      rw [hve] at hv
      rw [hte] at ht
      have c0 := seenB HR.out (owns_cell HH.out.1 rfl hv)
      obtain ⟨ty, x, f, rfl, hmet, heg, hc⟩ := HH.out.2.2.1 i t v ht hv
      have htv := (HH.out.2.1.at ht hv).below HR.out
      have HV := Lib.hid (show _ ∧ _ from ⟨hc, htv⟩)
      have q1 := cut_le (RX.sizes (l.take i))
      have q2 := cut_le t.size
      obtain ⟨a1, ha1⟩ : ∃ a1, cut (RX.sizes (l.take i)) = a1 := ⟨_, rfl⟩
      obtain ⟨a2, ha2⟩ : ∃ a2, cut t.size = a2 := ⟨_, rfl⟩
      have hfin : (if ((a1 : Nat) : Int) + (a2 : Int) < 1048576 then ((a1 : Nat) : Int) + (a2 : Int) else 1048576) = ((cut (RX.sizes (l.take (i + 1))) : Nat) : Int) := by
        rw [cut_int (n := a1 + a2) (by simp), ← ha1, ← ha2, cut_add2, hsz]
      rw [ha1] at q1 ⊢
      rw [ha2] at q2
      have k1 : IntKind.i64.wrap ((a1 : Int) + (a2 : Int)) = (a1 : Int) + (a2 : Int) := IntWalk.i64_in _ (by omega)
      have HA2 := Lib.hid ha2
      clear hve hte hv ht htv hc hsz ha1 ha2
      by_cases hh : (a1 : Int) + (a2 : Int) < 1048576
      · rw [if_pos hh] at hfin
        have HF := Lib.hid hfin
        clear hfin
        go_wp2_with fail
        refine (HV.out.1 _ T HV.out.2).mono ?_
        rintro e w3 ⟨rfl, hb3⟩
        rw [HA2.out]
        have HB := Lib.hid hb3
        clear hb3
        go_wp2_with fail
        go_roundw
        case measure => simp [intOf]; omega
        case rel => exact ⟨i + 1, hlt, congrArg (Value.int .i64) HF.out, by simp, Lib.hid (HR.out.trans (HB.out.mono HR.out.size))⟩
      · rw [if_neg hh] at hfin
        have HF := Lib.hid hfin
        clear hfin
        go_wp2_with fail
        refine (HV.out.1 _ T HV.out.2).mono ?_
        rintro e w3 ⟨rfl, hb3⟩
        rw [HA2.out]
        have HB := Lib.hid hb3
        clear hb3
        go_wp2_with fail
        go_roundw
        case measure => simp [intOf]; omega
        case rel => exact ⟨i + 1, hlt, congrArg (Value.int .i64) HF.out, by simp, Lib.hid (HR.out.trans (HB.out.mono HR.out.size))⟩
    · obtain rfl : i = vs.length := by omega
      have i1 : ¬ ((vs.length : Nat) : Int) < (vs.length : Int) := by omega
      have htk : l.take vs.length = l := List.take_of_length_le (by have := HH.out.2.2.2; omega)
      rw [htk]
      clear htk
      go_wp2
      go_ret
      exact ⟨rfl, HR.out⟩
set_option maxHeartbeats 1000000 in
set_option maxRecDepth 100000 in
theorem sts_row (l : List Tr) (vs : List Value) (a : Value) (w : World) (T : Nat → Prop) (ho : w.ownsRow 0 52 1 a vs.length vs) (hl : TreesV w T l vs) (hm : MetSs l vs) (hn : vs.length ≤ 1000) :
    Calls Tryd.prog 101 #[.agg #[a]] w fun e w' => e = .returned (.int .i64 (cut (RX.sizes l) : Nat)) ∧ Below w.heap.size w w' := by
  have hb := (Below.refl w.heap.size w).alloc (Nat.le_refl _) (.cells #[a] 92)
  have HC := Lib.hid (show _ ∧ _ from ⟨sum_any l vs a _ T (owns_below ho hb) (hl.below hb) hm hn, hb⟩)
  clear ho hl hm hb
  go_enter Tryd.func101, Tryd.ntmps101
  go_wp2_with fail
  refine HC.out.1.mono ?_
  rintro e w2 ⟨rfl, hb⟩
  have HB := Lib.hid hb
  clear hb
  go_wp2
  go_ret
  exact ⟨rfl, HC.out.2.trans (HB.out.mono HC.out.2.size)⟩
end Go.Proofs.YtamlnkmcbbeicaaDoor
