/- much of chapter 25: whether elements are more than is looked at. The document's Cmp of two lists of labels. -/
import Derived.Test.YtajaijidecomdaaGreatDoorVEl
import Derived.Deep.QuietTactic
import Derived.BigQuiet
import Derived.Test.YtajaijidecomdaaGreatDoorG03
namespace Go.Proofs.YtajaijidecomdaaGreatDoor
open Go.RowKit Go.Lib

/-- An element that came in, of any size. -/
structure EBig (w : World) (y : Ev) : Prop where
  lst : Lst Lb.cells 2 w w.heap.size y.A y.n y.l
  nil : y.A = none → y.n = 0 ∧ y.c = 0
  few : y.n ≤ 140737488355328
  txt : ∀ x ∈ y.l, x.nm.size ≤ 140737488351232 ∧ x.vl.size ≤ 140737488351232
def labW : List Lb → Nat
  | [] => 0
  | x :: l => (x.nm.size + x.vl.size) / 64 + labW l
theorem labW_append (a b : List Lb) : labW (a ++ b) = labW a + labW b := by
  induction a with
  | nil => simp [labW]
  | cons x a ih => simp only [List.cons_append, labW, ih]; omega
def elsW : List Ev → Nat
  | [] => 0
  | y :: l => y.n + labW y.l + elsW l
theorem elsW_append (a b : List Ev) : elsW (a ++ b) = elsW a + elsW b := by
  induction a with
  | nil => simp [elsW]
  | cons x a ih => simp only [List.cons_append, elsW, ih]; omega
theorem labW_mem {l : List Lb} {x : Lb} (h : x ∈ l) : (x.nm.size + x.vl.size) / 64 ≤ labW l := by
  induction l with
  | nil => cases h
  | cons y l ih =>
    simp only [labW]
    rcases List.mem_cons.1 h with rfl | h
    · omega
    · have := ih h; omega
theorem elsW_mem {ys : List Ev} {y : Ev} (h : y ∈ ys) : y.n + labW y.l ≤ elsW ys := by
  induction ys with
  | nil => cases h
  | cons x ys ih =>
    simp only [elsW]
    rcases List.mem_cons.1 h with rfl | h
    · omega
    · have := ih h; omega
def muchB (n : Nat) (ys : List Ev) : Bool := decide (1000 < n + elsW ys)
/-- No more than is looked at. -/
theorem muchB_els {w : World} {A : Option Addr} {n c : Nat} {ys : List Ev} (hL : Lst encEv 2 w w.heap.size A n ys) (hnil : A = none → n = 0 ∧ c = 0) (hT : ∀ y ∈ ys, EBig w y) (h : muchB n ys = false) : Els w w.heap.size A n c ys ∧ n ≤ 1000 ∧ ∀ y ∈ ys, y.n ≤ 1000 := by
  have h1 := of_decide_eq_false h
  refine ⟨⟨hL, hnil, by omega, fun y hy => ?_⟩, by omega, fun y hy => ?_⟩
  · have h2 := elsW_mem hy
    refine ⟨(hT y hy).lst, (hT y hy).nil, by omega, fun x hx => ?_⟩
    have := labW_mem hx
    omega
  · have h2 := elsW_mem hy
    omega
theorem elsW_take {ys : List Ev} (i : Nat) : elsW (ys.take i) ≤ elsW ys := by
  have h : elsW ys = elsW (ys.take i) + elsW (ys.drop i) := by rw [← elsW_append, List.take_append_drop]
  omega
/-- How the count stands behind the first i. -/
def CountE (n : Nat) (ys : List Ev) (i s : Nat) : Prop := (s ≤ 1000 → s = n + elsW (ys.take i)) ∧ (1000 < s → 1000 < n + elsW ys)
def MuchPost (w : World) (n : Nat) (ys : List Ev) (e : Ending) (w' : World) : Prop := e = .returned (.bool (muchB n ys)) ∧ ∃ q, w' = w.drewN q
set_option maxHeartbeats 4000000 in
set_option maxRecDepth 100000 in
theorem much_any (A : Option Addr) (n c : Nat) (ys : List Ev) (w : World) (hL : Lst encEv 2 w w.heap.size A n ys) (hn : n ≤ 140737488355328) (hT : ∀ y ∈ ys, EBig w y) :
    Calls Tryz.prog 13 #[.slice A n c] w (MuchPost w n ys) := by
  have HL := Lib.hid (show _ ∧ _ from ⟨hL, hT⟩)
  have hln := hL.1
  clear hL hT
  go_enter Tryz.func13, Tryz.ntmps13
  go_wp2
  go_loopw [3, 4, 5] (fun nv iv _ wr => ∃ (i s q : Nat), i ≤ n ∧ iv = .int .i64 i ∧ nv = .int .i64 s ∧ wr = w.drewN q ∧ Hid (CountE n ys i s) ∧ s ≤ 1125899906842624) (fun _ iv _ _ => n - (intOf iv).toNat)
  case atStart => exact ⟨0, n, 0, Nat.zero_le _, rfl, rfl, rfl, Lib.hid ⟨fun _ => by simp [elsW], fun h => by omega⟩, by omega⟩
  case round =>
    obtain ⟨i, s, q, hi, rfl, rfl, rfl, HS, hs63⟩ := hrel
    by_cases hlt : i < n
    · by_cases hs3 : s ≤ 1000
      · obtain ⟨b, off, y, rfl, hb, hy, hc⟩ := HL.out.1.at hlt
        have hyT := HL.out.2 y (List.mem_of_getElem? hy)
        have c0 := hc 0 _ rfl
        simp only [Nat.add_zero] at c0
        have hyn := hyT.few
        have htk : elsW (ys.take (i + 1)) = elsW (ys.take i) + (y.n + labW y.l) := by
          obtain ⟨g1, g2⟩ := List.getElem?_eq_some_iff.1 hy
          rw [List.take_succ_eq_append_getElem g1, g2, elsW_append]
          simp only [elsW]
          omega
        have hnext : ∀ t, (t ≤ 1000 → t = s + y.n + labW y.l) → (1000 < t → t ≤ s + y.n + labW y.l) → CountE n ys (i + 1) t := fun t ht ht2 => by
          have h5 := HS.out.1 hs3
          have h6 := elsW_take (ys := ys) (i + 1)
          refine ⟨fun h3 => ?_, fun h3 => ?_⟩
          · have h4 := ht h3; omega
          · have h4 := ht2 h3; omega
        have HY := Lib.hid (show _ ∧ _ ∧ _ ∧ _ from ⟨hy, hyT, hb, hnext⟩)
        have C0 := Lib.hid c0
        have ii : (i : Int) < (n : Int) := by omega
        have ss : (s : Int) ≤ 1000 := by omega
        clear hy hyT hc hb hnext htk
        go_wp2_with (go_quiet (fail))
        go_loopw [3, 5] (fun nv jv wr => ∃ (j s2 q2 : Nat), j ≤ y.n ∧ jv = .int .i64 j ∧ nv = .int .i64 s2 ∧ wr = w.drewN q2 ∧ Hid ((s2 ≤ 1000 → s2 = s + y.n + labW (y.l.take j)) ∧ s2 ≤ s + y.n + labW y.l) ∧ s2 ≤ 1125899906842624) (fun _ jv _ => y.n - (intOf jv).toNat)
        case atStart => exact ⟨0, s + y.n, _, Nat.zero_le _, rfl, by simp, (by first | rfl | exact World.drewN_drewN _ _ _), Lib.hid ⟨fun _ => by simp [labW], by omega⟩, by omega⟩
        case round =>
          obtain ⟨j, s2, q2, hj, rfl, rfl, rfl, h1, h3⟩ := hrel
          have c0 := C0.out
          by_cases hjl : j < y.n
          · by_cases hs4 : s2 ≤ 1000
            · obtain ⟨b2, off2, x, hA2, hb2, hx, hc2⟩ := HY.out.2.1.lst.at hjl
              rw [hA2] at c0
              have e0 := hc2 0 _ rfl
              have e1 := hc2 1 _ rfl
              simp only [Nat.add_zero] at e0
              obtain ⟨t0, t1⟩ := HY.out.2.1.txt x (List.mem_of_getElem? hx)
              have hlk : labW (y.l.take (j + 1)) = labW (y.l.take j) + (x.nm.size + x.vl.size) / 64 := by
                obtain ⟨g1, g2⟩ := List.getElem?_eq_some_iff.1 hx
                rw [List.take_succ_eq_append_getElem g1, g2, labW_append]
                simp only [labW]
                omega
              have hll : labW (y.l.take (j + 1)) ≤ labW y.l := by
                have h : labW y.l = labW (y.l.take (j + 1)) + labW (y.l.drop (j + 1)) := by rw [← labW_append, List.take_append_drop]
                omega
              have hnx : (s2 + (x.nm.size + x.vl.size) / 64 ≤ 1000 → s2 + (x.nm.size + x.vl.size) / 64 = s + y.n + labW (y.l.take (j + 1))) ∧ s2 + (x.nm.size + x.vl.size) / 64 ≤ s + y.n + labW y.l := by
                have := h1.out.1 hs4
                exact ⟨fun _ => by omega, by omega⟩
              have HN := Lib.hid hnx
              have jj : (j : Int) < (y.n : Int) := by omega
              have jj0 : (0 : Int) ≤ (j : Int) := by omega
              have ss2 : (s2 : Int) ≤ 1000 := by omega
              clear hx hc2 hnx hlk hll
              go_wp2_with (go_quiet (fail))
              go_roundw
              case measure => simp [intOf]; omega
              case rel => exact ⟨j + 1, s2 + (x.nm.size + x.vl.size) / 64, _, hjl, by simp, by simp, by first | rfl | exact World.drewN_drewN _ _ _, HN, by omega⟩
            · have ss2 : (1000 : Int) < (s2 : Int) := by omega
              have hbn : Hid (CountE n ys (i + 1) s2) := Lib.hid (HY.out.2.2.2 s2 (fun h => absurd h hs4) (fun _ => h1.out.2))
              go_wp2_with (go_quiet (fail))
              go_roundw
              case measure => simp [intOf]; omega
              case rel => exact ⟨i + 1, s2, _, hlt, by simp, rfl, by first | rfl | exact World.drewN_drewN _ _ _, hbn, h3⟩
          · have jj : ¬ (j : Int) < (y.n : Int) := by omega
            have hbn : Hid (CountE n ys (i + 1) s2) := Lib.hid (HY.out.2.2.2 s2 (fun h => by
              have := h1.out.1 h
              rwa [List.take_of_length_le (by rw [HY.out.2.1.lst.1]; omega)] at this) (fun _ => h1.out.2))
            go_wp2_with (go_quiet (fail))
            go_roundw
            case measure => simp [intOf]; omega
            case rel => exact ⟨i + 1, s2, _, hlt, by simp, rfl, by first | rfl | exact World.drewN_drewN _ _ _, hbn, h3⟩
      · have ss : (1000 : Int) < (s : Int) := by omega
        have HM := Lib.hid (show muchB n ys = true from decide_eq_true (HS.out.2 (by omega)))
        go_wp2_with (go_quiet (fail))
        go_ret
        exact ⟨by rw [HM.out]; first | rfl | (show Ending.returned (.bool (decide (1000 < (s : Int)))) = _; rw [decide_eq_true ss]), _, (by first | rfl | exact World.drewN_drewN _ _ _)⟩
    · obtain rfl : i = n := by omega
      have hM : muchB i ys = decide ((1000 : Int) < (s : Int)) := by
        unfold muchB
        apply decide_eq_decide.2
        have h1 := HS.out.1
        have h2 := HS.out.2
        rw [List.take_of_length_le (by omega)] at h1
        constructor
        · intro h; by_cases hs : s ≤ 1000
          · have := h1 hs; omega
          · omega
        · intro h; exact h2 (by omega)
      have HM := Lib.hid hM
      clear hM HS
      go_wp2_with (go_quiet (fail))
      go_ret
      exact ⟨by rw [HM.out]; rfl, _, (by first | rfl | exact World.drewN_drewN _ _ _)⟩
end Go.Proofs.YtajaijidecomdaaGreatDoor
namespace Go.Proofs.YtajaijidecomdaaGreatDoor
open Go.RowKit Go.Lib

/-- Two labels, by what the document asks of them. -/
theorem labelC_cases (x y : Lb) :
    (labelC x y = -1 ∧ Op.bytesLess x.nm.toList y.nm.toList = true) ∨
    (labelC x y = -1 ∧ Op.bytesLess x.nm.toList y.nm.toList = false ∧ (x.nm.toList == y.nm.toList) = true ∧ Op.bytesLess x.vl.toList y.vl.toList = true) ∨
    (labelC x y = 0 ∧ Op.bytesLess x.nm.toList y.nm.toList = false ∧ (x.nm.toList == y.nm.toList) = true ∧ Op.bytesLess x.vl.toList y.vl.toList = false ∧ (x.vl.toList == y.vl.toList) = true) ∨
    (labelC x y = 1 ∧ Op.bytesLess x.nm.toList y.nm.toList = false ∧ (x.nm.toList == y.nm.toList) = true ∧ Op.bytesLess x.vl.toList y.vl.toList = false ∧ (x.vl.toList == y.vl.toList) = false) ∨
    (labelC x y = 1 ∧ Op.bytesLess x.nm.toList y.nm.toList = false ∧ (x.nm.toList == y.nm.toList) = false) := by
  unfold labelC textC
  cases h1 : Op.bytesLess x.nm.toList y.nm.toList with
  | true => exact .inl ⟨by simp, rfl⟩
  | false =>
    cases h2 : Op.bytesLess y.nm.toList x.nm.toList with
    | true =>
      have h3 : (x.nm.toList == y.nm.toList) = false := by rw [Bool.beq_comm]; exact less_ne h2
      exact .inr (.inr (.inr (.inr ⟨by simp, rfl, h3⟩)))
    | false =>
      have h3 := less_eq h1 h2
      cases g1 : Op.bytesLess x.vl.toList y.vl.toList with
      | true => exact .inr (.inl ⟨by simp, rfl, h3, rfl⟩)
      | false =>
        cases g2 : Op.bytesLess y.vl.toList x.vl.toList with
        | true =>
          have g3 : (x.vl.toList == y.vl.toList) = false := by rw [Bool.beq_comm]; exact less_ne g2
          exact .inr (.inr (.inr (.inl ⟨by simp, rfl, h3, rfl, g3⟩)))
        | false => exact .inr (.inr (.inl ⟨by simp, rfl, h3, rfl, less_eq g1 g2⟩))
set_option maxHeartbeats 4000000 in
set_option maxRecDepth 100000 in
theorem refCmp_any (A A' : Option Addr) (n c n' c' : Nat) (la lb : List Lb) (w : World) (hA : Lst Lb.cells 2 w w.heap.size A n la) (hB : Lst Lb.cells 2 w w.heap.size A' n' lb) (hn : n ≤ 1099511627776) (hn' : n' ≤ 1099511627776) :
    Calls Tryz.prog 28 #[.slice A n c, .slice A' n' c'] w fun e w' => e = .returned (.int .i64 (labelsC la lb)) ∧ Below w.heap.size w w' := by
  obtain ⟨r, hr⟩ : ∃ r, labelsC la lb = r := ⟨_, rfl⟩
  rw [hr]
  have HL := Lib.hid (show _ ∧ _ ∧ _ from ⟨hA, hB, hr⟩)
  clear hA hB hr
  go_enter Tryz.func28, Tryz.ntmps28
  go_wp2
  go_loopw [5] (fun iv wr => ∃ k q : Nat, k ≤ n ∧ k ≤ n' ∧ iv = .int .i64 k ∧ wr = w.drewN q ∧ Hid (lexC labelC (la.drop k) (lb.drop k) = r)) (fun iv _ => n - (intOf iv).toNat)
  case atStart => exact ⟨0, 0, Nat.zero_le _, Nat.zero_le _, rfl, rfl, Lib.hid HL.out.2.2⟩
  case round =>
    obtain ⟨k, q, hk, hk', rfl, rfl, HE⟩ := hrel
    have i0 : (0 : Int) ≤ (k : Int) := by omega
    by_cases hlt : k < n
    · have i1 : (k : Int) < (n : Int) := by omega
      by_cases hlt2 : k < n'
      · have i2 : (k : Int) < (n' : Int) := by omega
        obtain ⟨b, off, x, rfl, hb, hx, hc⟩ := HL.out.1.at hlt
        obtain ⟨b', off', y, rfl, hb', hy, hc'⟩ := HL.out.2.1.at hlt2
        have c0 := hc 0 _ rfl
        have c1 := hc 1 _ rfl
        have d0 := hc' 0 _ rfl
        have d1 := hc' 1 _ rfl
        simp only [Nat.add_zero] at c0 d0
        have hdr := lexC_drop (c := labelC) hx hy
        have HD := Lib.hid hdr
        clear hc hc' hx hy hdr
        rcases labelC_cases x y with ⟨hl, p1⟩ | ⟨hl, p1, p2, p3⟩ | ⟨hl, p1, p2, p3, p4⟩ | ⟨hl, p1, p2, p3, p4⟩ | ⟨hl, p1, p2⟩
        case inr.inr.inl =>
          have HG : Hid (lexC labelC (la.drop (k + 1)) (lb.drop (k + 1)) = r) := Lib.hid (by rw [← HE.out, HD.out, if_pos hl])
          clear hl
          go_wp2_with (go_quiet (fail))
          go_roundw
          case measure => simp [intOf]; omega
          case rel => exact ⟨k + 1, _, hlt, hlt2, by simp, by first | rfl | exact World.drewN_drewN _ _ _, HG⟩
        all_goals
          have hr := HE.out.symm.trans HD.out
          rw [hl] at hr
          simp at hr
          subst hr
          clear hl
          go_wp2_with (go_quiet (fail))
          go_ret
          exact ⟨rfl, by first | exact below_drewN (Below.refl _ _) _ | exact below_drewN (below_drewN (Below.refl _ _) _) _ | exact below_drewN (below_drewN (below_drewN (Below.refl _ _) _) _) _⟩
      · have i2 : ¬ (k : Int) < (n' : Int) := by omega
        obtain rfl : k = n' := by omega
        have hr : r = 1 := by
          rw [← HE.out, List.drop_eq_nil_of_le (by have := HL.out.2.1.1; omega : lb.length ≤ k), List.drop_eq_getElem_cons (by have := HL.out.1.1; omega : k < la.length)]
          rfl
        subst hr
        have i3 : ¬ (n : Int) < (k : Int) := by omega
        go_wp2_with (go_quiet (fail))
        go_ret
        exact ⟨rfl, by first | exact below_drewN (Below.refl _ _) _ | exact below_drewN (below_drewN (Below.refl _ _) _) _ | exact below_drewN (below_drewN (below_drewN (Below.refl _ _) _) _) _⟩
    · have i1 : ¬ (k : Int) < (n : Int) := by omega
      obtain rfl : k = n := by omega
      have hd : la.drop k = [] := List.drop_eq_nil_of_le (by have := HL.out.1.1; omega)
      by_cases hlt2 : k < n'
      · have hr : r = -1 := by
          rw [← HE.out, hd, List.drop_eq_getElem_cons (by have := HL.out.2.1.1; omega : k < lb.length)]
          rfl
        subst hr
        have i3 : (k : Int) < (n' : Int) := by omega
        clear hd
        go_wp2_with (go_quiet (fail))
        go_ret
        exact ⟨rfl, by first | exact below_drewN (Below.refl _ _) _ | exact below_drewN (below_drewN (Below.refl _ _) _) _ | exact below_drewN (below_drewN (below_drewN (Below.refl _ _) _) _) _⟩
      · obtain rfl : k = n' := by omega
        have hr : r = 0 := by
          rw [← HE.out, hd, List.drop_eq_nil_of_le (by have := HL.out.2.1.1; omega : lb.length ≤ k)]
          rfl
        subst hr
        clear hd
        go_wp2_with (go_quiet (fail))
        go_ret
        exact ⟨rfl, by first | exact below_drewN (Below.refl _ _) _ | exact below_drewN (below_drewN (Below.refl _ _) _) _ | exact below_drewN (below_drewN (below_drewN (Below.refl _ _) _) _) _⟩
end Go.Proofs.YtajaijidecomdaaGreatDoor
