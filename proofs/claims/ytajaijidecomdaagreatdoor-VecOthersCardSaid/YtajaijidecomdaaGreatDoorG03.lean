/- labels.Cmp: two lists of labels, label by label, each by name, then by value. SameLabels: whether two lists of labels are the same. Rows of elements of two cells; clear; what a predicate handed to the library has to do. Rows of labels: what the walks over them ask. The book's marks as texts: mark. -/
import Derived.Test.YtajaijidecomdaaGreatDoorG02
import Derived.Deep.RegionHeld3
import Derived.LoopN
import Derived.Below
import Derived.BigQuiet
import Derived.Test.YtajaijidecomdaaGreatDoorRowset
import Derived.Laws.CopyOwn
import Derived.Laws.BytesArg
namespace Go.Proofs.YtajaijidecomdaaGreatDoor
open Go.RowKit Go.Lib

/-- A label, as the program has it. -/
def Lb.cells (x : Lb) : List Value := [.string x.nm, .string x.vl]
theorem Lb.len (x : Lb) : x.cells.length = 2 := rfl
theorem less_self (x : List UInt8) : Op.bytesLess x x = false := by
  rw [bytesLess_lex, (lexC_cmp3 byteC_cmp3).self]
  decide
theorem less_ne {x y : List UInt8} (h : Op.bytesLess x y = true) : (x == y) = false := by
  rw [beq_eq_false_iff_ne]
  rintro rfl
  rw [less_self] at h
  cases h
theorem less_eq {x y : List UInt8} (h : Op.bytesLess x y = false) (g : Op.bytesLess y x = false) : (x == y) = true := by
  rw [beq_iff_eq, ← lexC_zero byteC_cmp3]
  rw [bytesLess_lex] at h g
  have h1 := of_decide_eq_false h
  have h2 := of_decide_eq_false g
  have h3 := lexC_swap byteC_cmp3 x y
  omega
theorem compare_str (x y : ByteArray) (w : World) : Calls Tryz.prog 217 #[.string x, .string y] w fun e w' => e = .returned (.int .i64 (textC x y)) ∧ w' = w := by
  have nx : (x.toList == x.toList) = true := by simp
  have ny : (y.toList == y.toList) = true := by simp
  unfold textC
  cases h1 : Op.bytesLess x.toList y.toList with
  | true =>
    rw [if_pos rfl]
    go_enter Tryz.func217, Tryz.ntmps217
    go_wp2
    go_ret
    exact ⟨rfl, rfl⟩
  | false =>
    rw [if_neg (by decide)]
    cases h2 : Op.bytesLess y.toList x.toList with
    | true =>
      have h3 : (x.toList == y.toList) = false := by rw [Bool.beq_comm]; exact less_ne h2
      rw [if_pos rfl]
      go_enter Tryz.func217, Tryz.ntmps217
      go_wp2
      go_ret
      exact ⟨rfl, rfl⟩
    | false =>
      have h3 := less_eq h1 h2
      rw [if_neg (by decide)]
      go_enter Tryz.func217, Tryz.ntmps217
      go_wp2
      go_ret
      exact ⟨rfl, rfl⟩
/-- The first of two that is not 0. -/
def orC (a b : Int) : Int := if a = 0 then b else a
theorem or_two (a b : Int) (g : Nat) (w : World) (h0 : w.cell? ⟨g, 0, none⟩ = some (.int .i64 a)) (h1 : w.cell? ⟨g, 1, none⟩ = some (.int .i64 b)) : Calls Tryz.prog 216 #[.slice (some ⟨g, 0, none⟩) 2 2] w fun e w' => e = .returned (.int .i64 (orC a b)) ∧ w' = w := by
  unfold orC
  by_cases ha : a = 0
  · subst ha
    rw [if_pos rfl]
    by_cases hb : b = 0
    · subst hb
      go_enter Tryz.func216, Tryz.ntmps216
      go_wp2
      refine wp_loop_rounds 3 ?_
      rw [rounds_succ]
      go_wp2
      rw [rounds_succ]
      go_wp2
      rw [rounds_succ]
      go_wp2
      go_ret
      exact ⟨rfl, rfl⟩
    · have z1 : (b != 0) = true := by rw [bne_iff_ne]; exact hb
      go_enter Tryz.func216, Tryz.ntmps216
      go_wp2
      refine wp_loop_rounds 3 ?_
      rw [rounds_succ]
      go_wp2
      rw [rounds_succ]
      go_wp2
      go_ret
      exact ⟨rfl, rfl⟩
  · have z1 : (a != 0) = true := by rw [bne_iff_ne]; exact ha
    rw [if_neg ha]
    go_enter Tryz.func216, Tryz.ntmps216
    go_wp2
    refine wp_loop_rounds 3 ?_
    rw [rounds_succ]
    go_wp2
    go_ret
    exact ⟨rfl, rfl⟩
set_option maxHeartbeats 2000000 in
set_option maxRecDepth 100000 in
theorem labelCmp (x y : Lb) (W : World) : Calls Tryz.prog 215 #[.agg #[.string x.nm, .string x.vl], .agg #[.string y.nm, .string y.vl]] W fun e w' => e = .returned (.int .i64 (labelC x y)) ∧ Below W.heap.size W w' := by
  have hlc : labelC x y = orC (textC x.nm y.nm) (textC x.vl y.vl) := rfl
  rw [hlc]
  clear hlc
  go_enter Tryz.func215, Tryz.ntmps215
  go_wp2_with fail
  have hbx : Below W.heap.size W ((W.alloc (.cells #[.string x.nm, .string x.vl] 104)).alloc (.cells #[.string y.nm, .string y.vl] 104)) := ((Below.refl _ _).alloc (Nat.le_refl _) _).alloc (by simp) _
  have hx0 : ((W.alloc (.cells #[.string x.nm, .string x.vl] 104)).alloc (.cells #[.string y.nm, .string y.vl] 104)).cell? ⟨W.heap.size, 0, none⟩ = some (.string x.nm) := by simp
  have hx1 : ((W.alloc (.cells #[.string x.nm, .string x.vl] 104)).alloc (.cells #[.string y.nm, .string y.vl] 104)).cell? ⟨W.heap.size, 1, none⟩ = some (.string x.vl) := by simp
  have hy0 : ((W.alloc (.cells #[.string x.nm, .string x.vl] 104)).alloc (.cells #[.string y.nm, .string y.vl] 104)).cell? ⟨W.heap.size + 1, 0, none⟩ = some (.string y.nm) := by simp
  have hy1 : ((W.alloc (.cells #[.string x.nm, .string x.vl] 104)).alloc (.cells #[.string y.nm, .string y.vl] 104)).cell? ⟨W.heap.size + 1, 1, none⟩ = some (.string y.vl) := by simp
  have hs : ((W.alloc (.cells #[.string x.nm, .string x.vl] 104)).alloc (.cells #[.string y.nm, .string y.vl] 104)).heap.size = W.heap.size + 2 := by simp
  generalize (W.alloc (.cells #[.string x.nm, .string x.vl] 104)).alloc (.cells #[.string y.nm, .string y.vl] 104) = w1 at hbx hx0 hx1 hy0 hy1 hs ⊢
  have H := Lib.hid (show _ ∧ _ from ⟨hbx, hs⟩)
  have n0 : W.heap.size ≠ w1.heap.size := by omega
  have n1 : W.heap.size + 1 ≠ w1.heap.size := by omega
  have n0' : w1.heap.size ≠ W.heap.size := by omega
  have n1' : w1.heap.size ≠ W.heap.size + 1 := by omega
  clear hbx hs
  go_region_held3 (fun w' => w'.cell? ⟨W.heap.size, 0, none⟩ = some (.string x.nm) ∧ w'.cell? ⟨W.heap.size, 1, none⟩ = some (.string x.vl) ∧ w'.cell? ⟨W.heap.size + 1, 0, none⟩ = some (.string y.nm) ∧ w'.cell? ⟨W.heap.size + 1, 1, none⟩ = some (.string y.vl)) (go_keep)
    (first | (go_at_call 216; refine (or_two (textC x.nm y.nm) (textC x.vl y.vl) _ _ (by simp) (by simp)).mono ?_; rintro e w' ⟨rfl, rfl⟩) | (go_at_call 217; refine (compare_str _ _ _).mono ?_; rintro e w' ⟨rfl, rfl⟩))
  all_goals
    go_wp2
    go_ret
    exact ⟨rfl, (H.out.1.alloc (by have := H.out.2; omega) _).drew⟩
theorem lexC_drop {c : Lb → Lb → Int} {la lb : List Lb} {k : Nat} {x y : Lb} (hx : la[k]? = some x) (hy : lb[k]? = some y) : lexC c (la.drop k) (lb.drop k) = if c x y = 0 then lexC c (la.drop (k + 1)) (lb.drop (k + 1)) else c x y := by
  obtain ⟨h1, e1⟩ := List.getElem?_eq_some_iff.1 hx
  obtain ⟨h2, e2⟩ := List.getElem?_eq_some_iff.1 hy
  rw [List.drop_eq_getElem_cons h1, List.drop_eq_getElem_cons h2, e1, e2, lexC]
set_option maxHeartbeats 2000000 in
set_option maxRecDepth 100000 in
theorem compareFunc_any (A A' : Option Addr) (n c n' c' : Nat) (la lb : List Lb) (w : World) (hA : Lst Lb.cells 2 w w.heap.size A n la) (hB : Lst Lb.cells 2 w w.heap.size A' n' lb) (hn : n ≤ 1099511627776) (_hn' : n' ≤ 1099511627776) :
    Calls Tryz.prog 214 #[.slice A n c, .slice A' n' c', .func (.func 215) #[] #[]] w fun e w' => e = .returned (.int .i64 (labelsC la lb)) ∧ Below w.heap.size w w' := by
  have HA := Lib.hid (show _ ∧ _ from ⟨hA, hB⟩)
  clear hA hB
  go_enter Tryz.func214, Tryz.ntmps214
  go_wp2
  go_loopw [7, 8, 9, 10, 13] (fun _ _ _ _ iv wr => ∃ k : Nat, k ≤ n ∧ iv = .int .i64 k ∧ Hid (labelsC la lb = lexC labelC (la.drop k) (lb.drop k)) ∧ Below w.heap.size w wr ∧ k ≤ n') (fun _ _ _ _ iv _ => n - (intOf iv).toNat)
  case atStart => exact ⟨0, Nat.zero_le _, rfl, Lib.hid rfl, Below.refl _ _, Nat.zero_le _⟩
  case round =>
    obtain ⟨k, hk, rfl, HE, hbl, hk'⟩ := hrel
    have hsz := hbl.size
    by_cases hlt : k < n
    · obtain ⟨b, off, x, rfl, hb, hx, hc⟩ := HA.out.1.at hlt
      have c0 := (hbl.cell (p := ⟨b, off + k * 2 + 0, none⟩) hb).trans (hc 0 _ rfl)
      have c1 := (hbl.cell (p := ⟨b, off + k * 2 + 1, none⟩) hb).trans (hc 1 _ rfl)
      simp only [Nat.add_zero] at c0
      have i1 : (0 : Int) ≤ (k : Int) := by omega
      have i2 : (k : Int) < (n : Int) := by omega
      by_cases hlt2 : k < n'
      · obtain ⟨b', off', y, rfl, hb', hy, hc'⟩ := HA.out.2.at hlt2
        have d0 := (hbl.cell (p := ⟨b', off' + k * 2 + 0, none⟩) hb').trans (hc' 0 _ rfl)
        have d1 := (hbl.cell (p := ⟨b', off' + k * 2 + 1, none⟩) hb').trans (hc' 1 _ rfl)
        simp only [Nat.add_zero] at d0
        have i3 : (k : Int) < (n' : Int) := by omega
        have n0 : b' ≠ wr.heap.size := by omega
        have n0' : wr.heap.size ≠ b' := by omega
        have n1 : b' < wr.heap.size := by omega
        have hdr := lexC_drop (c := labelC) hx hy
        have HD := Lib.hid (show _ ∧ _ from ⟨hdr, HE.out⟩)
        have hcall := fun W' => labelCmp x y W'
        obtain ⟨cv, hcv⟩ : ∃ cv, labelC x y = cv := ⟨_, rfl⟩
        rw [hcv] at HD
        have hcall2 : ∀ W', Calls Tryz.prog 215 #[.agg #[.string x.nm, .string x.vl], .agg #[.string y.nm, .string y.vl]] W' fun e w' => e = .returned (.int .i64 cv) ∧ Below W'.heap.size W' w' := by rw [← hcv]; exact hcall
        have HC := Lib.hid hcall2
        clear hcall hcall2 hcv hc hc' hx hy hdr HE
        by_cases hz : cv = 0
        · subst hz
          go_wp2_with fail
          refine (HC.out _).mono ?_
          rintro e w2 ⟨rfl, hb2⟩
          have hb3 : Below w.heap.size w w2 := ((hbl.alloc hsz _).alloc (by simp; omega) _).trans (hb2.mono (by simp; omega))
          have HB := Lib.hid hb3
          clear hb2 hb3 c0 c1 d0 d1
          go_wp2
          go_roundw
          case measure => simp [intOf]; omega
          case rel => exact ⟨k + 1, hlt, by simp, Lib.hid (by rw [HD.out.2, HD.out.1]; simp), HB.out, hlt2⟩
        · have z1 : (cv != 0) = true := by rw [bne_iff_ne]; exact hz
          go_wp2_with fail
          refine (HC.out _).mono ?_
          rintro e w2 ⟨rfl, hb2⟩
          have hb3 : Below w.heap.size w w2 := ((hbl.alloc hsz _).alloc (by simp; omega) _).trans (hb2.mono (by simp; omega))
          have HB := Lib.hid hb3
          clear hb2 hb3 c0 c1 d0 d1
          go_wp2
          go_ret
          exact ⟨by rw [HD.out.2, HD.out.1, if_neg hz]; rfl, HB.out⟩
      · have i3 : ¬ (k : Int) < (n' : Int) := by omega
        have i4 : (n' : Int) ≤ (k : Int) := by omega
        have he : labelsC la lb = 1 := by
          rw [HE.out, List.drop_eq_nil_of_le (by have := HA.out.2.1; omega : lb.length ≤ k)]
          obtain ⟨h1, e1⟩ := List.getElem?_eq_some_iff.1 hx
          rw [List.drop_eq_getElem_cons h1]
          rfl
        have HX := Lib.hid he
        clear he hc hx HE
        go_wp2
        go_ret
        exact ⟨by rw [HX.out]; rfl, hbl.alloc hsz _⟩
    · obtain rfl : k = n := by omega
      have hda : la.drop k = [] := List.drop_eq_nil_of_le (by have := HA.out.1.1; omega)
      by_cases hlt2 : k < n'
      · have i3 : (k : Int) < (n' : Int) := by omega
        have he : labelsC la lb = -1 := by
          rw [HE.out, hda, List.drop_eq_getElem_cons (by have := HA.out.2.1; omega)]
          rfl
        have HX := Lib.hid he
        clear he hda HE
        go_wp2
        go_ret
        exact ⟨by rw [HX.out]; rfl, hbl⟩
      · have i3 : ¬ (k : Int) < (n' : Int) := by omega
        have he : labelsC la lb = 0 := by
          rw [HE.out, hda, List.drop_eq_nil_of_le (by have := HA.out.2.1; omega)]
          rfl
        have HX := Lib.hid he
        clear he hda HE
        go_wp2
        go_ret
        exact ⟨by rw [HX.out]; rfl, hbl⟩
theorem labelsCmp_any (A A' : Option Addr) (n c n' c' : Nat) (la lb : List Lb) (w : World) (hA : Lst Lb.cells 2 w w.heap.size A n la) (hB : Lst Lb.cells 2 w w.heap.size A' n' lb) (hn : n ≤ 1099511627776) (hn' : n' ≤ 1099511627776) :
    Calls Tryz.prog 164 #[.slice A n c, .slice A' n' c'] w fun e w' => e = .returned (.int .i64 (labelsC la lb)) ∧ Below w.heap.size w w' := by
  have HC := Lib.hid (compareFunc_any A A' n c n' c' la lb w hA hB hn hn')
  clear hA hB
  go_enter Tryz.func164, Tryz.ntmps164
  go_wp2_with fail
  refine HC.out.mono ?_
  rintro e w' ⟨rfl, hb⟩
  go_wp2
  go_ret
  exact ⟨rfl, hb⟩
end Go.Proofs.YtajaijidecomdaaGreatDoor
namespace Go.Proofs.YtajaijidecomdaaGreatDoor
open Go.RowKit Go.Lib

theorem labelsC_len {la lb : List Lb} (h : labelsC la lb = 0) : la.length = lb.length := by rw [(labelsC_cmp3.zero la lb).1 h]
set_option maxHeartbeats 1000000 in
set_option maxRecDepth 100000 in
theorem sameLabels_any (A A' : Option Addr) (n c n' c' : Nat) (la lb : List Lb) (w : World) (hA : Lst Lb.cells 2 w w.heap.size A n la) (hB : Lst Lb.cells 2 w w.heap.size A' n' lb) (hn : n ≤ 1099511627776) (hn' : n' ≤ 1099511627776) :
    Calls Tryz.prog 29 #[.slice A n c, .slice A' n' c'] w fun e w' => e = .returned (.bool (decide (labelsC la lb = 0))) ∧ ∃ q, w' = w.drewN q := by
  by_cases hnn : n = n'
  · subst hnn
    have HA := Lib.hid (show _ ∧ _ from ⟨hA, hB⟩)
    clear hA hB
    go_enter Tryz.func29, Tryz.ntmps29
    go_wp2
    go_loopw [5] (fun iv wr => ∃ k q : Nat, k ≤ n ∧ iv = .int .i64 k ∧ wr = w.drewN q ∧ Hid (labelsC la lb = lexC labelC (la.drop k) (lb.drop k))) (fun iv _ => n - (intOf iv).toNat)
    case atStart => exact ⟨0, 0, Nat.zero_le _, rfl, rfl, Lib.hid rfl⟩
    case round =>
      obtain ⟨k, q, hk, rfl, rfl, HE⟩ := hrel
      by_cases hlt : k < n
      · obtain ⟨b, off, x, rfl, hb, hx, hc⟩ := HA.out.1.at hlt
        obtain ⟨b', off', y, rfl, hb', hy, hc'⟩ := HA.out.2.at hlt
        have c0 := hc 0 _ rfl
        have c1 := hc 1 _ rfl
        have d0 := hc' 0 _ rfl
        have d1 := hc' 1 _ rfl
        simp only [Nat.add_zero] at c0 d0
        have i1 : (0 : Int) ≤ (k : Int) := by omega
        have i2 : (k : Int) < (n : Int) := by omega
        have hdr := lexC_drop (c := labelC) hx hy
        have HD := Lib.hid (show _ ∧ _ from ⟨hdr, HE.out⟩)
        clear hc hc' hx hy hdr HE
        by_cases h1 : x.nm = y.nm
        · have e1 : (x.nm.toList == y.nm.toList) = true := by rw [beq_iff_eq, h1]
          by_cases h2 : x.vl = y.vl
          · have e2 : (x.vl.toList == y.vl.toList) = true := by rw [beq_iff_eq, h2]
            have hxy : x = y := by cases x; cases y; simp_all
            go_wp2_with (go_quiet (fail))
            go_roundw
            case measure => simp [intOf]; omega
            case rel => exact ⟨k + 1, _, hlt, by simp, by first | rfl | exact World.drewN_drewN _ _ _, Lib.hid (by rw [HD.out.2, HD.out.1, if_pos ((labelC_cmp3.zero x y).2 hxy)])⟩
          · have e2 : (x.vl.toList == y.vl.toList) = false := by rw [beq_eq_false_iff_ne]; exact fun h => h2 (toList_inj h)
            have hxy : ¬ labelC x y = 0 := fun h => h2 (by rw [(labelC_cmp3.zero x y).1 h])
            go_wp2_with (go_quiet (fail))
            go_ret
            exact ⟨by rw [decide_eq_false (by rw [HD.out.2, HD.out.1, if_neg hxy]; exact hxy)]; rfl, _, by first | rfl | exact World.drewN_drewN _ _ _⟩
        · have e1 : (x.nm.toList == y.nm.toList) = false := by rw [beq_eq_false_iff_ne]; exact fun h => h1 (toList_inj h)
          have hxy : ¬ labelC x y = 0 := fun h => h1 (by rw [(labelC_cmp3.zero x y).1 h])
          go_wp2_with (go_quiet (fail))
          go_ret
          exact ⟨by rw [decide_eq_false (by rw [HD.out.2, HD.out.1, if_neg hxy]; exact hxy)]; rfl, _, by first | rfl | exact World.drewN_drewN _ _ _⟩
      · have he : labelsC la lb = 0 := by
          rw [HE.out, List.drop_eq_nil_of_le (by have := HA.out.1.1; omega), List.drop_eq_nil_of_le (by have := HA.out.2.1; omega)]
          rfl
        have HX := Lib.hid he
        clear he HE
        go_wp2
        go_ret
        exact ⟨by rw [decide_eq_true HX.out]; rfl, q, rfl⟩
  · have he : ¬ labelsC la lb = 0 := fun h => hnn (by rw [← hA.1, ← hB.1]; exact labelsC_len h)
    have hne : ¬ (n : Int) = (n' : Int) := by omega
    have HX := Lib.hid he
    clear hA hB he
    go_enter Tryz.func29, Tryz.ntmps29
    go_wp2
    go_ret
    exact ⟨by rw [decide_eq_false HX.out]; rfl, 0, rfl⟩
end Go.Proofs.YtajaijidecomdaaGreatDoor
namespace Go.Proofs.YtajaijidecomdaaGreatDoor
open Go.RowKit Go.Lib

theorem cells_at (W : World) {b : Nat} (hb : W.heap.size = b) (cs : List Value) (t : TypeId) : ∀ j u, cs[j]? = some u → (W.alloc (.cells cs.toArray t)).cell? ((⟨b, 0, none⟩ : Addr).add j) = some u := by
  subst hb
  exact cells_newL W cs t
section
variable {α : Type} {enc : α → List Value}
theorem flatMap_set2 (hsz : ∀ x, (enc x).length = 2) (x : α) (a b : Value) (hx : enc x = [a, b]) : ∀ (l : List α) (i : Nat), i < l.length → ((l.flatMap enc).set (i * 2) a).set (i * 2 + 1) b = (l.set i x).flatMap enc
  | [], i, h => by simp at h
  | y :: l, 0, _ => by
    have hy := hsz y
    match hq : enc y, hy with
    | [c, d], _ => simp [hq, hx]
  | y :: l, i + 1, h => by
    have ih := flatMap_set2 hsz x a b hx l i (by simpa using h)
    have hy := hsz y
    match hq : enc y, hy with
    | [c, d], _ =>
      simp only [List.flatMap_cons, hq, List.set_cons_succ, List.cons_append, List.nil_append]
      rw [show (i + 1) * 2 = i * 2 + 1 + 1 by omega]
      simp only [List.set_cons_succ]
      rw [ih]
theorem flatMap_take {n : Nat} (hsz : ∀ x, (enc x).length = n) : ∀ (l : List α) (k : Nat), (l.flatMap enc).take (k * n) = (l.take k).flatMap enc
  | [], k => by simp
  | y :: l, 0 => by simp
  | y :: l, k + 1 => by
    rw [List.flatMap_cons, List.take_succ_cons, List.flatMap_cons, ← flatMap_take hsz l k, Nat.succ_mul, Nat.add_comm, List.take_append, hsz, List.take_of_length_le (by rw [hsz]; omega), Nat.add_sub_cancel_left]
variable {w w' : World} {B n cap g : Nat} {e : TypeId} {l : List α}
/-- One element is stored. -/
theorem owns_set2 (h : w.ownsRow B e 2 (.slice (some ⟨g, 0, none⟩) n cap) n (l.flatMap enc)) (hsz : ∀ x, (enc x).length = 2) {i : Nat} (hi : i < l.length) {x : α} {a b : Value} (hx : enc x = [a, b]) :
    ((w.setCell ⟨g, i * 2, none⟩ a).setCell ⟨g, i * 2 + 1, none⟩ b).ownsRow B e 2 (.slice (some ⟨g, 0, none⟩) n cap) n ((l.set i x).flatMap enc) ∧ w.grownBy ((w.setCell ⟨g, i * 2, none⟩ a).setCell ⟨g, i * 2 + 1, none⟩ b) (some g) := by
  obtain ⟨h1, h2⟩ := h.stored (i * 2) a
  obtain ⟨h3, h4⟩ := h1.stored (i * 2 + 1) b
  rw [flatMap_set2 hsz x a b hx l i hi] at h3
  exact ⟨h3, grownBy_trans h2 h4⟩
/-- An owned row's element. -/
theorem owns_at {size : Nat} (h : w.ownsRow B e size (.slice (some ⟨g, 0, none⟩) n cap) n (l.flatMap enc)) (hsz : ∀ x, (enc x).length = size) {i : Nat} {x : α} (hx : l[i]? = some x) {j : Nat} {u : Value} (hu : (enc x)[j]? = some u) : w.cell? ⟨g, i * size + j, none⟩ = some u :=
  owns_cell h rfl (flatMap_at hsz l i x hx j u hu)
theorem owns_len {size : Nat} {v : Value} (h : w.ownsRow B e size v n (l.flatMap enc)) (hsz : ∀ x, (enc x).length = size) (h0 : 0 < size) : l.length = n := by
  have := h.1
  rw [flatMap_length hsz] at this
  exact Nat.eq_of_mul_eq_mul_right h0 this
/-- The row's beginning, by itself. -/
theorem owns_take {size : Nat} {xs : List Value} (h : w.ownsRow B e size (.slice (some ⟨g, 0, none⟩) n cap) n xs) {i : Nat} (hi : i ≤ n) : w.ownsRow B e size (.slice (some ⟨g, 0, none⟩) i cap) i (xs.take (i * size)) := by
  refine ⟨by rw [List.length_take, h.1]; exact Nat.min_eq_left (Nat.mul_le_mul_right _ hi), ?_⟩
  rcases h.2 with ⟨h', _⟩ | ⟨g', cap', cur, h', hb, hg, hnc, hcm, hcs, htake⟩
  · cases h'
  · cases h'
    refine .inr ⟨g, cap, cur, rfl, hb, hg, by omega, hcm, hcs, ?_⟩
    rw [← htake, List.take_take, Nat.min_eq_left (Nat.mul_le_mul_right _ hi)]
theorem owns_some' {size : Nat} {A : Option Addr} {c : Nat} {xs : List Value} (h : w.ownsRow B e size (.slice A n c) n xs) (hn : 0 < n) : ∃ g, A = some ⟨g, 0, none⟩ ∧ g < w.heap.size := by
  obtain ⟨g, cap, hv, _, hlt⟩ := h.form hn
  injection hv with hA _ _
  exact ⟨g, hA, hlt⟩
theorem owns_cap {size : Nat} {A : Option Addr} {c : Nat} {xs : List Value} (h : w.ownsRow B e size (.slice A n c) n xs) : c ≤ maxLen ∧ n ≤ c := by
  obtain ⟨A', c', e, h1, h2⟩ := owns_slice h
  injection e with _ _ e3
  omega
theorem owns_base {B' size : Nat} {v : Value} {xs : List Value} (h : w.ownsRow B e size v n xs) (hB : B' ≤ B) : w.ownsRow B' e size v n xs := by
  refine ⟨h.1, ?_⟩
  rcases h.2 with h2 | ⟨g, cap, cur, hv, hb, r⟩
  · exact .inl h2
  · exact .inr ⟨g, cap, cur, hv, by omega, r⟩
/-- clear of the row's end. -/
theorem run_clear_own {P : Program} {size : Nat} {xs : List Value} (h : w.ownsRow B e size (.slice (some ⟨g, 0, none⟩) n cap) n xs) {i c : Nat} (hi : i ≤ n) (t ty : TypeId) (ht : P.underlying t = some (.slice e)) (z : Value) (hz : ∀ W, (zeroValue e).run P W = .ok z W) (hzs : z.cells.size = size) (hz1 : ∀ u ∈ z.cells.toList, u.oneCell' = true) (h0 : 0 < size) :
    ∃ w', (Builtin.clear_ #[t] ty #[.slice (some ⟨g, i * size, none⟩) (n - i) c]).run P w = .ok (.tuple #[]) w' ∧ w'.ownsRow B e size (.slice (some ⟨g, 0, none⟩) i cap) i (xs.take (i * size)) ∧ w.grownBy w' (some g) := by
  by_cases hni : n - i = 0
  · rw [hni]
    exact ⟨w, by simp [Builtin.clear_, run_underlying ht], owns_take h hi, grownBy_refl _ _⟩
  · rcases h.2 with ⟨h', _⟩ | ⟨g', cap', cur, h', hb, hg, hnc, hcm, hcs, htake⟩
    · cases h'
    · cases h'
      have hlen : (Builtin.zeroCells z.cells (n - i)).toList.length = (n - i) * size := by rw [Array.length_toList, size_zeroCells, hzs]
      have hfit : i * size + (n - i) * size ≤ cur.size := by rw [← Nat.add_mul, hcs]; exact Nat.mul_le_mul_right _ (by omega)
      have h1 : ∀ u ∈ (Builtin.zeroCells z.cells (n - i)).toList, u.oneCell' = true := by
        intro u hu
        rw [Array.mem_toList_iff] at hu
        simp only [Builtin.zeroCells, Array.mem_map] at hu
        obtain ⟨k, _, rfl⟩ := hu
        have hk : k % z.cells.size < z.cells.size := Nat.mod_lt _ (by omega)
        rw [getElem!_pos z.cells _ hk]
        exact hz1 _ (by simp)
      have hst := run_storeCells_at P g (i * size) e (Builtin.zeroCells z.cells (n - i)).toList 0 cur w hg (by rw [hlen]; omega) h1
      simp only [Nat.add_zero] at hst
      obtain ⟨m, hm⟩ : ∃ m, n - i = m + 1 := ⟨n - i - 1, by omega⟩
      refine ⟨w.setRow g (cur.toList.take (i * size) ++ (Builtin.zeroCells z.cells (n - i)).toList ++ cur.toList.drop (i * size + (Builtin.zeroCells z.cells (n - i)).toList.length)).toArray, ?_, ?_, ?_⟩
      · rw [hm] at hst ⊢
        simp [Builtin.clear_, run_underlying ht, hz, hst]
      · refine ⟨by rw [List.length_take, h.1]; exact Nat.min_eq_left (Nat.mul_le_mul_right _ hi), .inr ⟨g, cap, _, rfl, hb, setRow_heap w g cur _ e _ hg, by omega, hcm, ?_, ?_⟩⟩
        · simp only [List.size_toArray, List.length_append, List.length_take, List.length_drop, Array.length_toList]
          rw [Array.length_toList] at hlen
          omega
        · have hil : i * size ≤ cur.size := by rw [hcs]; exact Nat.mul_le_mul_right _ (by omega)
          rw [← htake, List.take_take, Nat.min_eq_left (Nat.mul_le_mul_right _ hi), List.append_assoc, List.take_append_of_le_length (by rw [List.length_take, Array.length_toList]; omega), List.take_take, Nat.min_self]
      · exact ⟨rfl, rfl, rfl, by simp, fun k _ hk => setRow_other w g k _ (fun e => hk (by rw [e]))⟩
end
end Go.Proofs.YtajaijidecomdaaGreatDoor
namespace Go.Proofs.YtajaijidecomdaaGreatDoor
open Go.RowKit Go.Lib

theorem Tryz.infoLabel : (Tryz.prog.info? 104).map (fun i => (i.zero, i.size, i.bytes)) = some (some (.agg #[.string ByteArray.empty, .string ByteArray.empty]), 2, 32) := by kernel_rfl
theorem oneLabel (l : List Lb) : ∀ u ∈ l.flatMap Lb.cells, u.oneCell' = true := by
  intro u hu
  obtain ⟨m, _, h⟩ := List.mem_flatMap.1 hu
  simp only [Lb.cells, List.mem_cons, List.not_mem_nil, or_false] at h
  rcases h with rfl | rfl <;> rfl
theorem below_drewLabel {w w' : World} (h : ∃ q, w' = w.drewN q) : Below w.heap.size w w' := by
  obtain ⟨q, rfl⟩ := h
  exact below_drewN (Below.refl _ _) q
theorem sameLabel_q (A B : Option Addr) (n ca cb : Nat) (l : List Lb) (w : World) (ha : Lst Lb.cells 2 w w.heap.size A n l) (hb : Lst Lb.cells 2 w w.heap.size B n l) (hbig : n ≤ 1000000000) :
    Calls Tryz.prog 29 #[.slice A n ca, .slice B n cb] w fun e w' => e = .returned (.bool true) ∧ ∃ q, w' = w.drewN q := by
  refine (sameLabels_any A B n ca n cb l l w ha hb (by omega) (by omega)).mono ?_
  rintro e w' ⟨h1, h2⟩
  rw [decide_eq_true (labelsC_cmp3.self l)] at h1
  exact ⟨h1, h2⟩
end Go.Proofs.YtajaijidecomdaaGreatDoor
namespace Go.Proofs.YtajaijidecomdaaGreatDoor
open Go.RowKit Go.Lib

/-- The text of list a and place b. -/
def markP (a b : Int) : ByteArray := strOfNums [97 + a % 26, 97 + a / 26 % 26, 97 + a / 676 % 26, 97 + b % 26, 97 + b / 26 % 26]
set_option maxRecDepth 100000 in
theorem five_text (x0 x1 x2 x3 x4 : Int) (t : TypeId) (w : World) : (convert 176 9 (.slice (some ⟨w.heap.size, 0, none⟩) 5 5)).run Tryz.prog (w.alloc (.cells #[.int .u8 x0, .int .u8 x1, .int .u8 x2, .int .u8 x3, .int .u8 x4] t)) = .ok (.string (strOfNums [x0, x1, x2, x3, x4])) (w.alloc (.cells #[.int .u8 x0, .int .u8 x1, .int .u8 x2, .int .u8 x3, .int .u8 x4] t)) :=
  run_convert_bytes_arg (P := Tryz.prog) _ 176 5 (by kernel_rfl) (by kernel_rfl) w.heap.size 0 5 5 [x0, x1, x2, x3, x4] rfl (by
      intro i hi
      have : i = 0 ∨ i = 1 ∨ i = 2 ∨ i = 3 ∨ i = 4 := by omega
      have hcl := cells_newL w [.int .u8 x0, .int .u8 x1, .int .u8 x2, .int .u8 x3, .int .u8 x4] t i
      rcases this with rfl | rfl | rfl | rfl | rfl <;> exact hcl _ rfl) 9 (by kernel_rfl)
set_option maxHeartbeats 1000000 in
set_option maxRecDepth 100000 in
theorem mark_pos (a b : Nat) (ha : a ≤ 1000000) (hb : b ≤ 1000000) (w : World) : Calls Tryz.prog 151 #[.int .i64 a, .int .i64 b] w fun e w' => e = .returned (.string (markP a b)) ∧ Below w.heap.size w w' := by
  have h0 : ¬ (a : Int) < 0 := by omega
  have hc := five_text (97 + (a : Int) % 26) (97 + (a : Int) / 26 % 26) (97 + (a : Int) / 676 % 26) (97 + (b : Int) % 26) (97 + (b : Int) / 26 % 26) 5 w
  go_enter Tryz.func151, Tryz.ntmps151
  go_wp2
  go_ret
  exact ⟨rfl, (Below.refl _ _).alloc (Nat.le_refl _) _⟩

/-- The text of list a and place b, below zero too. -/
def markB (a : Int) (b : Nat) : ByteArray := if a < 0 then ⟨#[45]⟩ ++ markP (-(a + 1)) b else markP a b
set_option maxHeartbeats 1000000 in
set_option maxRecDepth 100000 in
theorem mark_any (a : Int) (b : Nat) (ha : -1000000 ≤ a) (ha' : a ≤ 1000000) (hb : b ≤ 1000000) (w : World) : Calls Tryz.prog 151 #[.int .i64 a, .int .i64 b] w fun e w' => e = .returned (.string (markB a b)) ∧ Below w.heap.size w w' := by
  by_cases h0 : a < 0
  · obtain ⟨k, hk⟩ : ∃ k : Nat, (k : Int) = -(a + 1) := ⟨(-(a + 1)).toNat, by omega⟩
    have hm : markB a b = ⟨#[45]⟩ ++ markP k b := by unfold markB; rw [if_pos h0, hk]
    have HM := Lib.hid hm
    clear hm
    obtain ⟨y, rfl⟩ : ∃ y : Int, y = a := ⟨_, rfl⟩
    go_enter Tryz.func151, Tryz.ntmps151
    go_wp2_with (go_at_call 151; rw [← hk]; refine (mark_pos k b (by omega) hb _).mono ?_; rintro e w' ⟨rfl, hbw⟩)
    have hbw' := Lib.hid hbw
    clear hbw
    go_wp2
    go_ret
    all_goals exact ⟨by rw [HM.out, hk]; rfl, hbw'.out⟩
  · obtain ⟨k, rfl⟩ : ∃ k : Nat, a = k := ⟨a.toNat, by omega⟩
    have hm : markB (k : Int) b = markP k b := if_neg h0
    rw [hm]
    exact mark_pos k b (by omega) hb w
end Go.Proofs.YtajaijidecomdaaGreatDoor
