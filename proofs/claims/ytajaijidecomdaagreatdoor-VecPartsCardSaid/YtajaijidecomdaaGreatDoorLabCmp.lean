/- labels.Cmp: two lists of labels, label by label, each by name, then by value. -/
import Derived.Test.YtajaijidecomdaaGreatDoorCmpLaw
import Derived.Test.YtajaijidecomdaaGreatDoorG01
import Derived.Deep.RegionHeld3
import Derived.LoopN
import Derived.Below
import Derived.BigQuiet
namespace Go.Proofs.YtajaijidecomdaaGreatDoor
open Go.RowKit Go.Lib

/-- A label, as the program has it. -/
def Lb.cells (x : Lb) : List Value := [.string x.nm, .string x.vl]
theorem Lb.len (x : Lb) : x.cells.length = 2 := rfl
theorem less_self (x : List UInt8) : Op.bytesLess x x = false := by
  rw [bytesLess_lex, (lexC_cmp3 byteC_cmp3).self]
  decide
theorem less_ne {x y : List UInt8} (h : Op.bytesLess x y = true) : (x == y) = false := by
  rw [beq_eq_false_iff_ne]
  rintro rfl
  rw [less_self] at h
  cases h
theorem less_eq {x y : List UInt8} (h : Op.bytesLess x y = false) (g : Op.bytesLess y x = false) : (x == y) = true := by
  rw [beq_iff_eq, ← lexC_zero byteC_cmp3]
  rw [bytesLess_lex] at h g
  have h1 := of_decide_eq_false h
  have h2 := of_decide_eq_false g
  have h3 := lexC_swap byteC_cmp3 x y
  omega
theorem compare_str (x y : ByteArray) (w : World) : Calls Tryz.prog 217 #[.string x, .string y] w fun e w' => e = .returned (.int .i64 (textC x y)) ∧ w' = w := by
  have nx : (x.toList == x.toList) = true := by simp
  have ny : (y.toList == y.toList) = true := by simp
  unfold textC
  cases h1 : Op.bytesLess x.toList y.toList with
  | true =>
    rw [if_pos rfl]
    go_enter Tryz.func217, Tryz.ntmps217
    go_wp2
    go_ret
    exact ⟨rfl, rfl⟩
  | false =>
    rw [if_neg (by decide)]
    cases h2 : Op.bytesLess y.toList x.toList with
    | true =>
      have h3 : (x.toList == y.toList) = false := by rw [Bool.beq_comm]; exact less_ne h2
      rw [if_pos rfl]
      go_enter Tryz.func217, Tryz.ntmps217
      go_wp2
      go_ret
      exact ⟨rfl, rfl⟩
    | false =>
      have h3 := less_eq h1 h2
      rw [if_neg (by decide)]
      go_enter Tryz.func217, Tryz.ntmps217
      go_wp2
      go_ret
      exact ⟨rfl, rfl⟩
/-- The first of two that is not 0. -/
def orC (a b : Int) : Int := if a = 0 then b else a
theorem or_two (a b : Int) (g : Nat) (w : World) (h0 : w.cell? ⟨g, 0, none⟩ = some (.int .i64 a)) (h1 : w.cell? ⟨g, 1, none⟩ = some (.int .i64 b)) : Calls Tryz.prog 216 #[.slice (some ⟨g, 0, none⟩) 2 2] w fun e w' => e = .returned (.int .i64 (orC a b)) ∧ w' = w := by
  unfold orC
  by_cases ha : a = 0
  · subst ha
    rw [if_pos rfl]
    by_cases hb : b = 0
    · subst hb
      go_enter Tryz.func216, Tryz.ntmps216
      go_wp2
      refine wp_loop_rounds 3 ?_
      rw [rounds_succ]
      go_wp2
      rw [rounds_succ]
      go_wp2
      rw [rounds_succ]
      go_wp2
      go_ret
      exact ⟨rfl, rfl⟩
    · have z1 : (b != 0) = true := by rw [bne_iff_ne]; exact hb
      go_enter Tryz.func216, Tryz.ntmps216
      go_wp2
      refine wp_loop_rounds 3 ?_
      rw [rounds_succ]
      go_wp2
      rw [rounds_succ]
      go_wp2
      go_ret
      exact ⟨rfl, rfl⟩
  · have z1 : (a != 0) = true := by rw [bne_iff_ne]; exact ha
    rw [if_neg ha]
    go_enter Tryz.func216, Tryz.ntmps216
    go_wp2
    refine wp_loop_rounds 3 ?_
    rw [rounds_succ]
    go_wp2
    go_ret
    exact ⟨rfl, rfl⟩
set_option maxHeartbeats 2000000 in
set_option maxRecDepth 100000 in
theorem labelCmp (x y : Lb) (W : World) : Calls Tryz.prog 215 #[.agg #[.string x.nm, .string x.vl], .agg #[.string y.nm, .string y.vl]] W fun e w' => e = .returned (.int .i64 (labelC x y)) ∧ Below W.heap.size W w' := by
  have hlc : labelC x y = orC (textC x.nm y.nm) (textC x.vl y.vl) := rfl
  rw [hlc]
  clear hlc
  go_enter Tryz.func215, Tryz.ntmps215
  go_wp2_with fail
  have hbx : Below W.heap.size W ((W.alloc (.cells #[.string x.nm, .string x.vl] 104)).alloc (.cells #[.string y.nm, .string y.vl] 104)) := ((Below.refl _ _).alloc (Nat.le_refl _) _).alloc (by simp) _
  have hx0 : ((W.alloc (.cells #[.string x.nm, .string x.vl] 104)).alloc (.cells #[.string y.nm, .string y.vl] 104)).cell? ⟨W.heap.size, 0, none⟩ = some (.string x.nm) := by simp
  have hx1 : ((W.alloc (.cells #[.string x.nm, .string x.vl] 104)).alloc (.cells #[.string y.nm, .string y.vl] 104)).cell? ⟨W.heap.size, 1, none⟩ = some (.string x.vl) := by simp
  have hy0 : ((W.alloc (.cells #[.string x.nm, .string x.vl] 104)).alloc (.cells #[.string y.nm, .string y.vl] 104)).cell? ⟨W.heap.size + 1, 0, none⟩ = some (.string y.nm) := by simp
  have hy1 : ((W.alloc (.cells #[.string x.nm, .string x.vl] 104)).alloc (.cells #[.string y.nm, .string y.vl] 104)).cell? ⟨W.heap.size + 1, 1, none⟩ = some (.string y.vl) := by simp
  have hs : ((W.alloc (.cells #[.string x.nm, .string x.vl] 104)).alloc (.cells #[.string y.nm, .string y.vl] 104)).heap.size = W.heap.size + 2 := by simp
  generalize (W.alloc (.cells #[.string x.nm, .string x.vl] 104)).alloc (.cells #[.string y.nm, .string y.vl] 104) = w1 at hbx hx0 hx1 hy0 hy1 hs ⊢
  have H := Lib.hid (show _ ∧ _ from ⟨hbx, hs⟩)
  have n0 : W.heap.size ≠ w1.heap.size := by omega
  have n1 : W.heap.size + 1 ≠ w1.heap.size := by omega
  have n0' : w1.heap.size ≠ W.heap.size := by omega
  have n1' : w1.heap.size ≠ W.heap.size + 1 := by omega
  clear hbx hs
  go_region_held3 (fun w' => w'.cell? ⟨W.heap.size, 0, none⟩ = some (.string x.nm) ∧ w'.cell? ⟨W.heap.size, 1, none⟩ = some (.string x.vl) ∧ w'.cell? ⟨W.heap.size + 1, 0, none⟩ = some (.string y.nm) ∧ w'.cell? ⟨W.heap.size + 1, 1, none⟩ = some (.string y.vl)) (go_keep)
    (first | (go_at_call 216; refine (or_two (textC x.nm y.nm) (textC x.vl y.vl) _ _ (by simp) (by simp)).mono ?_; rintro e w' ⟨rfl, rfl⟩) | (go_at_call 217; refine (compare_str _ _ _).mono ?_; rintro e w' ⟨rfl, rfl⟩))
  all_goals
    go_wp2
    go_ret
    exact ⟨rfl, (H.out.1.alloc (by have := H.out.2; omega) _).drew⟩
theorem lexC_drop {c : Lb → Lb → Int} {la lb : List Lb} {k : Nat} {x y : Lb} (hx : la[k]? = some x) (hy : lb[k]? = some y) : lexC c (la.drop k) (lb.drop k) = if c x y = 0 then lexC c (la.drop (k + 1)) (lb.drop (k + 1)) else c x y := by
  obtain ⟨h1, e1⟩ := List.getElem?_eq_some_iff.1 hx
  obtain ⟨h2, e2⟩ := List.getElem?_eq_some_iff.1 hy
  rw [List.drop_eq_getElem_cons h1, List.drop_eq_getElem_cons h2, e1, e2, lexC]
set_option maxHeartbeats 2000000 in
set_option maxRecDepth 100000 in
theorem compareFunc_any (A A' : Option Addr) (n c n' c' : Nat) (la lb : List Lb) (w : World) (hA : Lst Lb.cells 2 w w.heap.size A n la) (hB : Lst Lb.cells 2 w w.heap.size A' n' lb) (hn : n ≤ 1099511627776) (_hn' : n' ≤ 1099511627776) :
    Calls Tryz.prog 214 #[.slice A n c, .slice A' n' c', .func (.func 215) #[] #[]] w fun e w' => e = .returned (.int .i64 (labelsC la lb)) ∧ Below w.heap.size w w' := by
  have HA := Lib.hid (show _ ∧ _ from ⟨hA, hB⟩)
  clear hA hB
  go_enter Tryz.func214, Tryz.ntmps214
  go_wp2
  go_loopw [7, 8, 9, 10, 13] (fun _ _ _ _ iv wr => ∃ k : Nat, k ≤ n ∧ iv = .int .i64 k ∧ Hid (labelsC la lb = lexC labelC (la.drop k) (lb.drop k)) ∧ Below w.heap.size w wr ∧ k ≤ n') (fun _ _ _ _ iv _ => n - (intOf iv).toNat)
  case atStart => exact ⟨0, Nat.zero_le _, rfl, Lib.hid rfl, Below.refl _ _, Nat.zero_le _⟩
  case round =>
    obtain ⟨k, hk, rfl, HE, hbl, hk'⟩ := hrel
    have hsz := hbl.size
    by_cases hlt : k < n
    · obtain ⟨b, off, x, rfl, hb, hx, hc⟩ := HA.out.1.at hlt
      have c0 := (hbl.cell (p := ⟨b, off + k * 2 + 0, none⟩) hb).trans (hc 0 _ rfl)
      have c1 := (hbl.cell (p := ⟨b, off + k * 2 + 1, none⟩) hb).trans (hc 1 _ rfl)
      simp only [Nat.add_zero] at c0
      have i1 : (0 : Int) ≤ (k : Int) := by omega
      have i2 : (k : Int) < (n : Int) := by omega
      by_cases hlt2 : k < n'
      · obtain ⟨b', off', y, rfl, hb', hy, hc'⟩ := HA.out.2.at hlt2
        have d0 := (hbl.cell (p := ⟨b', off' + k * 2 + 0, none⟩) hb').trans (hc' 0 _ rfl)
        have d1 := (hbl.cell (p := ⟨b', off' + k * 2 + 1, none⟩) hb').trans (hc' 1 _ rfl)
        simp only [Nat.add_zero] at d0
        have i3 : (k : Int) < (n' : Int) := by omega
        have n0 : b' ≠ wr.heap.size := by omega
        have n0' : wr.heap.size ≠ b' := by omega
        have n1 : b' < wr.heap.size := by omega
        have hdr := lexC_drop (c := labelC) hx hy
        have HD := Lib.hid (show _ ∧ _ from ⟨hdr, HE.out⟩)
        have hcall := fun W' => labelCmp x y W'
        obtain ⟨cv, hcv⟩ : ∃ cv, labelC x y = cv := ⟨_, rfl⟩
        rw [hcv] at HD
        have hcall2 : ∀ W', Calls Tryz.prog 215 #[.agg #[.string x.nm, .string x.vl], .agg #[.string y.nm, .string y.vl]] W' fun e w' => e = .returned (.int .i64 cv) ∧ Below W'.heap.size W' w' := by rw [← hcv]; exact hcall
        have HC := Lib.hid hcall2
        clear hcall hcall2 hcv hc hc' hx hy hdr HE
        by_cases hz : cv = 0
        · subst hz
          go_wp2_with fail
          refine (HC.out _).mono ?_
          rintro e w2 ⟨rfl, hb2⟩
          have hb3 : Below w.heap.size w w2 := ((hbl.alloc hsz _).alloc (by simp; omega) _).trans (hb2.mono (by simp; omega))
          have HB := Lib.hid hb3
          clear hb2 hb3 c0 c1 d0 d1
          go_wp2
          go_roundw
          case measure => simp [intOf]; omega
          case rel => exact ⟨k + 1, hlt, by simp, Lib.hid (by rw [HD.out.2, HD.out.1]; simp), HB.out, hlt2⟩
        · have z1 : (cv != 0) = true := by rw [bne_iff_ne]; exact hz
          go_wp2_with fail
          refine (HC.out _).mono ?_
          rintro e w2 ⟨rfl, hb2⟩
          have hb3 : Below w.heap.size w w2 := ((hbl.alloc hsz _).alloc (by simp; omega) _).trans (hb2.mono (by simp; omega))
          have HB := Lib.hid hb3
          clear hb2 hb3 c0 c1 d0 d1
          go_wp2
          go_ret
          exact ⟨by rw [HD.out.2, HD.out.1, if_neg hz]; rfl, HB.out⟩
      · have i3 : ¬ (k : Int) < (n' : Int) := by omega
        have i4 : (n' : Int) ≤ (k : Int) := by omega
        have he : labelsC la lb = 1 := by
          rw [HE.out, List.drop_eq_nil_of_le (by have := HA.out.2.1; omega : lb.length ≤ k)]
          obtain ⟨h1, e1⟩ := List.getElem?_eq_some_iff.1 hx
          rw [List.drop_eq_getElem_cons h1]
          rfl
        have HX := Lib.hid he
        clear he hc hx HE
        go_wp2
        go_ret
        exact ⟨by rw [HX.out]; rfl, hbl.alloc hsz _⟩
    · obtain rfl : k = n := by omega
      have hda : la.drop k = [] := List.drop_eq_nil_of_le (by have := HA.out.1.1; omega)
      by_cases hlt2 : k < n'
      · have i3 : (k : Int) < (n' : Int) := by omega
        have he : labelsC la lb = -1 := by
          rw [HE.out, hda, List.drop_eq_getElem_cons (by have := HA.out.2.1; omega)]
          rfl
        have HX := Lib.hid he
        clear he hda HE
        go_wp2
        go_ret
        exact ⟨by rw [HX.out]; rfl, hbl⟩
      · have i3 : ¬ (k : Int) < (n' : Int) := by omega
        have he : labelsC la lb = 0 := by
          rw [HE.out, hda, List.drop_eq_nil_of_le (by have := HA.out.2.1; omega)]
          rfl
        have HX := Lib.hid he
        clear he hda HE
        go_wp2
        go_ret
        exact ⟨by rw [HX.out]; rfl, hbl⟩
theorem labelsCmp_any (A A' : Option Addr) (n c n' c' : Nat) (la lb : List Lb) (w : World) (hA : Lst Lb.cells 2 w w.heap.size A n la) (hB : Lst Lb.cells 2 w w.heap.size A' n' lb) (hn : n ≤ 1099511627776) (hn' : n' ≤ 1099511627776) :
    Calls Tryz.prog 164 #[.slice A n c, .slice A' n' c'] w fun e w' => e = .returned (.int .i64 (labelsC la lb)) ∧ Below w.heap.size w w' := by
  have HC := Lib.hid (compareFunc_any A A' n c n' c' la lb w hA hB hn hn')
  clear hA hB
  go_enter Tryz.func164, Tryz.ntmps164
  go_wp2_with fail
  refine HC.out.mono ?_
  rintro e w' ⟨rfl, hb⟩
  go_wp2
  go_ret
  exact ⟨rfl, hb⟩
end Go.Proofs.YtajaijidecomdaaGreatDoor
