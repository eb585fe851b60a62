/- The document's Cmp of two lists of labels. slices.Clone at rows of Samples. Written off a master by mk2.py. What merge.Intervals hands back as a row; the words for what the document's answers hand back. -/
import Derived.Test.YtihidnmpngeohaaGreatG02
import Derived.Test.YtihidnmpngeohaaGreatG04
import Derived.Deep.DeepCutAuto
import Derived.OwnWalk
import Derived.WalkLawsBesides
import Derived.Test.YtihidnmpngeohaaGreatG13
import Derived.Test.YtihidnmpngeohaaGreatIvs
import Derived.Test.YtihidnmpngeohaaGreatIvLaw
import Derived.Test.YtihidnmpngeohaaGreatG11
import Derived.BigQuiet
namespace Go.Proofs.YtihidnmpngeohaaGreat
open Go.RowKit Go.Lib

/-- Two labels, by what the document asks of them. -/
theorem labelC_cases (x y : Lb) :
    (labelC x y = -1 ∧ Op.bytesLess x.nm.toList y.nm.toList = true) ∨
    (labelC x y = -1 ∧ Op.bytesLess x.nm.toList y.nm.toList = false ∧ (x.nm.toList == y.nm.toList) = true ∧ Op.bytesLess x.vl.toList y.vl.toList = true) ∨
    (labelC x y = 0 ∧ Op.bytesLess x.nm.toList y.nm.toList = false ∧ (x.nm.toList == y.nm.toList) = true ∧ Op.bytesLess x.vl.toList y.vl.toList = false ∧ (x.vl.toList == y.vl.toList) = true) ∨
    (labelC x y = 1 ∧ Op.bytesLess x.nm.toList y.nm.toList = false ∧ (x.nm.toList == y.nm.toList) = true ∧ Op.bytesLess x.vl.toList y.vl.toList = false ∧ (x.vl.toList == y.vl.toList) = false) ∨
    (labelC x y = 1 ∧ Op.bytesLess x.nm.toList y.nm.toList = false ∧ (x.nm.toList == y.nm.toList) = false) := by
  unfold labelC textC
  cases h1 : Op.bytesLess x.nm.toList y.nm.toList with
  | true => exact .inl ⟨by simp, rfl⟩
  | false =>
    cases h2 : Op.bytesLess y.nm.toList x.nm.toList with
    | true =>
      have h3 : (x.nm.toList == y.nm.toList) = false := by rw [Bool.beq_comm]; exact less_ne h2
      exact .inr (.inr (.inr (.inr ⟨by simp, rfl, h3⟩)))
    | false =>
      have h3 := less_eq h1 h2
      cases g1 : Op.bytesLess x.vl.toList y.vl.toList with
      | true => exact .inr (.inl ⟨by simp, rfl, h3, rfl⟩)
      | false =>
        cases g2 : Op.bytesLess y.vl.toList x.vl.toList with
        | true =>
          have g3 : (x.vl.toList == y.vl.toList) = false := by rw [Bool.beq_comm]; exact less_ne g2
          exact .inr (.inr (.inr (.inl ⟨by simp, rfl, h3, rfl, g3⟩)))
        | false => exact .inr (.inr (.inl ⟨by simp, rfl, h3, rfl, less_eq g1 g2⟩))
set_option maxHeartbeats 4000000 in
set_option maxRecDepth 100000 in
theorem refCmp_any (A A' : Option Addr) (n c n' c' : Nat) (la lb : List Lb) (w : World) (hA : Lst Lb.cells 2 w w.heap.size A n la) (hB : Lst Lb.cells 2 w w.heap.size A' n' lb) (hn : n ≤ 1099511627776) (hn' : n' ≤ 1099511627776) :
    Calls Tryz.prog 43 #[.slice A n c, .slice A' n' c'] w fun e w' => e = .returned (.int .i64 (labelsC la lb)) ∧ Below w.heap.size w w' := by
  obtain ⟨r, hr⟩ : ∃ r, labelsC la lb = r := ⟨_, rfl⟩
  rw [hr]
  have HL := Lib.hid (show _ ∧ _ ∧ _ from ⟨hA, hB, hr⟩)
  clear hA hB hr
  go_enter Tryz.func43, Tryz.ntmps43
  go_wp2
  go_loopw [5] (fun iv wr => ∃ k q : Nat, k ≤ n ∧ k ≤ n' ∧ iv = .int .i64 k ∧ wr = w.drewN q ∧ Hid (lexC labelC (la.drop k) (lb.drop k) = r)) (fun iv _ => n - (intOf iv).toNat)
  case atStart => exact ⟨0, 0, Nat.zero_le _, Nat.zero_le _, rfl, rfl, Lib.hid HL.out.2.2⟩
  case round =>
    obtain ⟨k, q, hk, hk', rfl, rfl, HE⟩ := hrel
    have i0 : (0 : Int) ≤ (k : Int) := by omega
    by_cases hlt : k < n
    · have i1 : (k : Int) < (n : Int) := by omega
      by_cases hlt2 : k < n'
      · have i2 : (k : Int) < (n' : Int) := by omega
        obtain ⟨b, off, x, rfl, hb, hx, hc⟩ := HL.out.1.at hlt
        obtain ⟨b', off', y, rfl, hb', hy, hc'⟩ := HL.out.2.1.at hlt2
        have c0 := hc 0 _ rfl
        have c1 := hc 1 _ rfl
        have d0 := hc' 0 _ rfl
        have d1 := hc' 1 _ rfl
        simp only [Nat.add_zero] at c0 d0
        have hdr := lexC_drop (c := labelC) hx hy
        have HD := Lib.hid hdr
        clear hc hc' hx hy hdr
        rcases labelC_cases x y with ⟨hl, p1⟩ | ⟨hl, p1, p2, p3⟩ | ⟨hl, p1, p2, p3, p4⟩ | ⟨hl, p1, p2, p3, p4⟩ | ⟨hl, p1, p2⟩
        case inr.inr.inl =>
          have HG : Hid (lexC labelC (la.drop (k + 1)) (lb.drop (k + 1)) = r) := Lib.hid (by rw [← HE.out, HD.out, if_pos hl])
          clear hl
          go_wp2_with (go_quiet (fail))
          go_roundw
          case measure => simp [intOf]; omega
          case rel => exact ⟨k + 1, _, hlt, hlt2, by simp, by first | rfl | exact World.drewN_drewN _ _ _, HG⟩
        all_goals
          have hr := HE.out.symm.trans HD.out
          rw [hl] at hr
          simp at hr
          subst hr
          clear hl
          go_wp2_with (go_quiet (fail))
          go_ret
          exact ⟨rfl, by first | exact below_drewN (Below.refl _ _) _ | exact below_drewN (below_drewN (Below.refl _ _) _) _ | exact below_drewN (below_drewN (below_drewN (Below.refl _ _) _) _) _⟩
      · have i2 : ¬ (k : Int) < (n' : Int) := by omega
        obtain rfl : k = n' := by omega
        have hr : r = 1 := by
          rw [← HE.out, List.drop_eq_nil_of_le (by have := HL.out.2.1.1; omega : lb.length ≤ k), List.drop_eq_getElem_cons (by have := HL.out.1.1; omega : k < la.length)]
          rfl
        subst hr
        have i3 : ¬ (n : Int) < (k : Int) := by omega
        go_wp2_with (go_quiet (fail))
        go_ret
        exact ⟨rfl, by first | exact below_drewN (Below.refl _ _) _ | exact below_drewN (below_drewN (Below.refl _ _) _) _ | exact below_drewN (below_drewN (below_drewN (Below.refl _ _) _) _) _⟩
    · have i1 : ¬ (k : Int) < (n : Int) := by omega
      obtain rfl : k = n := by omega
      have hd : la.drop k = [] := List.drop_eq_nil_of_le (by have := HL.out.1.1; omega)
      by_cases hlt2 : k < n'
      · have hr : r = -1 := by
          rw [← HE.out, hd, List.drop_eq_getElem_cons (by have := HL.out.2.1.1; omega : k < lb.length)]
          rfl
        subst hr
        have i3 : (k : Int) < (n' : Int) := by omega
        clear hd
        go_wp2_with (go_quiet (fail))
        go_ret
        exact ⟨rfl, by first | exact below_drewN (Below.refl _ _) _ | exact below_drewN (below_drewN (Below.refl _ _) _) _ | exact below_drewN (below_drewN (below_drewN (Below.refl _ _) _) _) _⟩
      · obtain rfl : k = n' := by omega
        have hr : r = 0 := by
          rw [← HE.out, hd, List.drop_eq_nil_of_le (by have := HL.out.2.1.1; omega : lb.length ≤ k)]
          rfl
        subst hr
        clear hd
        go_wp2_with (go_quiet (fail))
        go_ret
        exact ⟨rfl, by first | exact below_drewN (Below.refl _ _) _ | exact below_drewN (below_drewN (Below.refl _ _) _) _ | exact below_drewN (below_drewN (below_drewN (Below.refl _ _) _) _) _⟩
end Go.Proofs.YtihidnmpngeohaaGreat
namespace Go.Proofs.YtihidnmpngeohaaGreat
open Go.RowKit Go.Lib

/-- An element of two numbers, as the program has it. -/
def encS (x : Int × Int) : List Value := [.int .i64 x.1, .int .u64 x.2]
theorem encS_len (x : Int × Int) : (encS x).length = 2 := rfl
theorem Tryz.infoSample : (Tryz.prog.info? 95).map (fun i => (i.zero, i.size, i.bytes)) = some (some (.agg #[.int .i64 0, .int .u64 0]), 2, 16) := by kernel_rfl
theorem oneSample (l : List (Int × Int)) : ∀ u ∈ l.flatMap encS, u.oneCell' = true := by
  intro u hu
  obtain ⟨m, _, h⟩ := List.mem_flatMap.1 hu
  simp only [encS, List.mem_cons, List.not_mem_nil, or_false] at h
  rcases h with rfl | rfl <;> rfl
def OwnPostSample (B n : Nat) (l : List (Int × Int)) (w : World) (e : Ending) (w' : World) : Prop := ∃ v', e = .returned v' ∧ w'.ownsRow B 95 2 v' n (l.flatMap encS) ∧ Below w.heap.size w w'
set_option maxHeartbeats 2000000 in
set_option maxRecDepth 100000 in
theorem cloneSample (A : Option Addr) (n c : Nat) (l : List (Int × Int)) (w : World) (hL : Lst encS 2 w w.heap.size A n l) (hnil : A = none → n = 0 ∧ c = 0) (hn : n ≤ 1099511627776) :
    Calls Tryz.prog 102 #[.slice A n c] w (OwnPostSample w.heap.size n l w) := by
  obtain ⟨i0, hi, hz0, hz1, hz2⟩ := info_parts Tryz.infoSample
  cases A with
  | none =>
    obtain ⟨rfl, rfl⟩ := hnil rfl
    have hl0 : l = [] := List.length_eq_zero_iff.1 hL.1
    clear hi hz0 hz1 hz2 hL hnil
    have hq := fun w : World => Lib.run_eql_slice_nil w 90 95 none 0 0 0 0 Tryz.underlying90
    go_enter Tryz.func102, Tryz.ntmps102
    go_wp2
    go_ret
    exact ⟨_, rfl, by rw [hl0]; exact World.ownsRow_nil _ _ _ _, Below.refl _ _⟩
  | some ad =>
    have hcells := fun w1 (hb : Below w.heap.size w w1) => (hL.below hb).flat encS_len
    have HC := Lib.hid hcells
    have HLL := Lib.hid hL.1
    have hq := fun w : World => Lib.run_eql_slice_nil w 90 95 (some ad) n c 0 0 Tryz.underlying90
    clear hcells hL hnil
    go_enter Tryz.func102, Tryz.ntmps102
    go_wp2_with (at_builtin; refine wpList_append_own _ rfl _ _ 90 rfl w.heap.size 95 i0 _ 2 16 Tryz.underlying90 hi hz0 hz1 hz2 rfl (by omega) _ _ _ rfl (World.ownsRow_made w #[] 0 (Nat.le_refl _) (Nat.zero_le _) (by simp)) ad n c (l.flatMap encS) rfl (by rw [flatMap_length (enc := encS) (size := 2) (fun _ => rfl), HLL.out]) (HC.out _ ((Below.refl _ w).alloc (Nat.le_refl _) _)) (oneSample _) (by unfold maxLen; omega) (by omega) (by simp) ?_)
    intro v' w1 hown hgrow _
    have HF := Lib.hid (show _ ∧ _ from ⟨hown, ((Below.refl w.heap.size w).alloc (Nat.le_refl _) _).grown hgrow (by simp) (by intro k hk; simp [Value.ownBlock] at hk; omega)⟩)
    clear hi hz0 hz1 hz2 hown hgrow hq
    go_wp2
    go_ret
    exact ⟨v', rfl, by simpa using HF.out.1, HF.out.2⟩
end Go.Proofs.YtihidnmpngeohaaGreat
namespace Go.Proofs.YtihidnmpngeohaaGreat
open Go.RowKit Go.Lib

def PutS (r : List (Int × Int)) (w : World) (e : Ending) (w' : World) : Prop := ∃ v, e = .returned v ∧ w'.ownsRow w.heap.size 95 2 v r.length (r.flatMap encS) ∧ Below w.heap.size w w'
def PutI (r : List (Int × Int)) (w : World) (e : Ending) (w' : World) : Prop := ∃ v, e = .returned v ∧ w'.ownsRow w.heap.size 25 2 v r.length (r.flatMap encI) ∧ Below w.heap.size w w'
theorem Lst.kept {α : Type} {enc : α → List Value} {size n : Nat} {A : Option Addr} {l : List α} {w w' : World} (h : Lst enc size w w.heap.size A n l) (hb : Below w.heap.size w w') : Lst enc size w' w'.heap.size A n l := (h.below hb).more hb.size
/-- merge.Intervals, in the document's words. -/
theorem ivs_row (A : Option Addr) (n c : Nat) (l : List (Int × Int)) (w : World) (hL : Lst encI 2 w w.heap.size A n l) (hnil : A = none → n = 0 ∧ c = 0) (hn : n ≤ 1099511627776) (hw : ∀ x ∈ l, -9223372036854775808 ≤ x.1 ∧ x.1 ≤ 9223372036854775807 ∧ -9223372036854775808 ≤ x.2 ∧ x.2 ≤ 9223372036854775807) :
    Calls Tryz.prog 34 #[.slice A n c] w (PutI (l.foldl refIv []) w) := by
  refine (ivs_any A n c l w hL hnil hn hw).mono ?_
  rintro e w' ⟨v, d, h1, hp, hs, h2, h3⟩
  rw [ivs_ref hp hs] at h2
  exact ⟨v, h1, h2, h3⟩
theorem refIvs_len (l : List (Int × Int)) (w w' : World) (B n : Nat) (v : Value) (h : w.ownsRow B 25 2 v (l.foldl refIv []).length ((l.foldl refIv []).flatMap encI)) : (l.foldl refIv []).length ≤ maxLen := by
  obtain ⟨_, _, _, h, _⟩ := ownsRow_lst h rfl encI_len
  exact h
end Go.Proofs.YtihidnmpngeohaaGreat
