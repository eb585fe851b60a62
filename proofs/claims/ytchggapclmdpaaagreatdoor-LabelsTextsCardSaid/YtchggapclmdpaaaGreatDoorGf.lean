/- A label's name, byte by byte; names that are there twice, place by place. No program. The document's Name: may it be one? Printed by mkrn.py. The document's twice: is a name there twice? -/
import Derived.Test.YtchggapclmdpaaaGreatDoorGb
import Derived.Test.YtchggapclmdpaaaGreatDoorName
import Derived.BigQuiet
import Derived.LoopN
namespace Go.Proofs.YtchggapclmdpaaaGreatDoor
open Go.RowKit Go.Lib

def letterN (c : Nat) : Bool := decide (97 ≤ c ∧ c ≤ 122 ∨ 65 ≤ c ∧ c ≤ 90 ∨ c = 95)
def digitN (c : Nat) : Bool := decide (48 ≤ c ∧ c ≤ 57)
theorem let_all : ∀ n, n < 256 → letL.contains (UInt8.ofNat n) = letterN n := by decide +kernel
theorem aln_all : ∀ n, n < 256 → alnL.contains (UInt8.ofNat n) = (letterN n || digitN n) := by decide +kernel
theorem let_byte (b : UInt8) : letL.contains b = letterN b.toNat := by
  have := let_all b.toNat (UInt8.toNat_lt b)
  rwa [UInt8.ofNat_toNat] at this
theorem aln_byte (b : UInt8) : alnL.contains b = (letterN b.toNat || digitN b.toNat) := by
  have := aln_all b.toNat (UInt8.toNat_lt b)
  rwa [UInt8.ofNat_toNat] at this
/-- May a byte stand at place j? -/
def okAt (j : Nat) (b : UInt8) : Prop := letterN b.toNat = true ∨ (digitN b.toNat = true ∧ j ≠ 0)
theorem nameB_true {l : List UInt8} (h0 : 0 < l.length) (hlen : l.length ≤ 1024) (H : ∀ j b, l[j]? = some b → okAt j b) : nameB l = true := by
  match l, h0, hlen, H with
  | b :: t, _, hlen, H =>
    have h1 : letL.contains b = true := by
      rw [let_byte]
      rcases H 0 b rfl with h | h
      · exact h
      · exact absurd rfl h.2
    have h2 : (b :: t).all (alnL.contains ·) = true := by
      rw [List.all_eq_true]
      intro x hx
      obtain ⟨j, hj⟩ := List.getElem?_of_mem hx
      rw [aln_byte]
      rcases H j x hj with h | h
      · rw [h]; rfl
      · rw [h.1]; simp
    show (decide ((b :: t).length ≤ 1024) && letL.contains b && (b :: t).all (alnL.contains ·)) = true
    rw [h1, h2, decide_eq_true hlen]
    rfl
theorem nameB_false {l : List UInt8} {k : Nat} {b : UInt8} (hb : l[k]? = some b) (h : ¬ okAt k b) : nameB l = false := by
  have hl : letterN b.toNat = false := by
    cases hx : letterN b.toNat with
    | false => rfl
    | true => exact absurd (.inl hx) h
  match l, hb with
  | c :: t, hb =>
    cases k with
    | zero =>
      obtain rfl : c = b := by simpa using hb
      show (decide ((c :: t).length ≤ 1024) && letL.contains c && (c :: t).all (alnL.contains ·)) = false
      rw [let_byte, hl]
      simp
    | succ k =>
      have hd : digitN b.toNat = false := by
        cases hx : digitN b.toNat with
        | false => rfl
        | true => exact absurd (.inr ⟨hx, Nat.succ_ne_zero k⟩) h
      have ha : (c :: t).all (alnL.contains ·) = false := by
        rw [List.all_eq_false]
        refine ⟨b, List.mem_of_getElem? hb, ?_⟩
        rw [aln_byte, hl, hd]
        decide
      show (decide ((c :: t).length ≤ 1024) && letL.contains c && (c :: t).all (alnL.contains ·)) = false
      rw [ha]
      simp
/-- The names ahead of place k, the last one first. -/
def namesTo (l : List Lb) (k : Nat) : List (List UInt8) := ((l.take k).map fun x => x.nm.data.toList).reverse
theorem namesTo_succ {l : List Lb} {k : Nat} {x : Lb} (hx : l[k]? = some x) : namesTo l (k + 1) = x.nm.data.toList :: namesTo l k := by
  obtain ⟨hk, e⟩ := List.getElem?_eq_some_iff.1 hx
  unfold namesTo
  rw [List.take_succ_eq_append_getElem hk, e]
  simp
theorem twiceN_here {l : List Lb} {k j : Nat} {x y : Lb} (hx : l[k]? = some x) (hy : l[j]? = some y) (hj : j < k) (he : x.nm = y.nm) : twiceN (namesTo l k) (l.drop k) = true := by
  obtain ⟨hk, e⟩ := List.getElem?_eq_some_iff.1 hx
  rw [List.drop_eq_getElem_cons hk, e, twiceN, if_pos]
  unfold namesTo
  rw [List.mem_reverse, List.mem_map]
  exact ⟨y, List.mem_of_getElem? (i := j) (by rw [List.getElem?_take_of_lt hj]; exact hy), by rw [he]⟩
theorem twiceN_on {l : List Lb} {k : Nat} {x : Lb} (hx : l[k]? = some x) (hn : ∀ j y, j < k → l[j]? = some y → x.nm ≠ y.nm) : twiceN (namesTo l k) (l.drop k) = twiceN (namesTo l (k + 1)) (l.drop (k + 1)) := by
  obtain ⟨hk, e⟩ := List.getElem?_eq_some_iff.1 hx
  rw [List.drop_eq_getElem_cons hk, e, twiceN, if_neg, namesTo_succ hx]
  unfold namesTo
  rw [List.mem_reverse, List.mem_map]
  rintro ⟨y, hy, he⟩
  obtain ⟨j, hj⟩ := List.getElem?_of_mem hy
  have hj2 := (List.getElem?_eq_some_iff.1 hj).1
  rw [List.length_take] at hj2
  rw [List.getElem?_take_of_lt (by omega)] at hj
  refine hn j y (by omega) hj ?_
  rcases x with ⟨⟨⟨a⟩⟩, _⟩
  rcases y with ⟨⟨⟨b⟩⟩, _⟩
  simp at he
  simp [he]
theorem twiceN_end (l : List Lb) : twiceN (namesTo l l.length) (l.drop l.length) = false := by rw [List.drop_length]; rfl
end Go.Proofs.YtchggapclmdpaaaGreatDoor
namespace Go.Proofs.YtchggapclmdpaaaGreatDoor
open Go.RowKit Go.Lib

theorem nameB_long {l : List UInt8} (h : 1024 < l.length) : nameB l = false := by
  match l, h with
  | b :: t, h =>
    show (decide ((b :: t).length ≤ 1024) && letL.contains b && (b :: t).all (alnL.contains ·)) = false
    rw [decide_eq_false (by omega)]
    rfl
theorem ok_letter {k : Nat} {c : UInt8} (h : 97 ≤ c.toNat ∧ c.toNat ≤ 122 ∨ 65 ≤ c.toNat ∧ c.toNat ≤ 90 ∨ c.toNat = 95) : okAt k c := .inl (decide_eq_true h)
theorem ok_digit {k : Nat} {c : UInt8} (h : 48 ≤ c.toNat ∧ c.toNat ≤ 57) (hk : k ≠ 0) : okAt k c := .inr ⟨decide_eq_true h, hk⟩
theorem not_ok {k : Nat} {c : UInt8} (h : ¬ (97 ≤ c.toNat ∧ c.toNat ≤ 122 ∨ 65 ≤ c.toNat ∧ c.toNat ≤ 90 ∨ c.toNat = 95)) (g : k = 0 ∨ c.toNat < 48 ∨ 57 < c.toNat) : ¬ okAt k c := by
  rintro (h1 | h1)
  · exact h (of_decide_eq_true h1)
  · have := of_decide_eq_true h1.1
    have := h1.2
    omega
set_option maxHeartbeats 4000000 in
set_option maxRecDepth 100000 in
theorem refName_any (s : ByteArray) (w : World) :
    Calls Tryz.prog 14 #[.string s] w fun e w' => e = .returned (.bool (nameB s.data.toList)) ∧ w' = w := by
  have hsz : s.size = s.data.toList.length := (Array.length_toList).symm
  obtain ⟨r, hr⟩ : ∃ r, nameB s.data.toList = r := ⟨_, rfl⟩
  rw [hr]
  by_cases h0 : s.size < 1
  · have hr2 : r = false := by
      rw [← hr, List.length_eq_zero_iff.1 (show s.data.toList.length = 0 by omega)]
      rfl
    subst hr2
    clear hr hsz
    have q0 : (s.size : Int) < 1 := by omega
    go_enter Tryz.func14, Tryz.ntmps14
    go_wp2
    go_ret
    exact ⟨rfl, rfl⟩
  by_cases h1 : 1024 < s.size
  · have hr2 : r = false := by rw [← hr]; exact nameB_long (by omega)
    subst hr2
    clear hr hsz
    have q0 : ¬ (s.size : Int) < 1 := by omega
    have q1 : (1024 : Int) < (s.size : Int) := by omega
    go_enter Tryz.func14, Tryz.ntmps14
    go_wp2
    go_ret
    exact ⟨rfl, rfl⟩
  have q0 : ¬ (s.size : Int) < 1 := by omega
  have q1 : ¬ (1024 : Int) < (s.size : Int) := by omega
  have HS := Lib.hid (show _ ∧ _ from ⟨hsz, hr⟩)
  clear hsz hr
  go_enter Tryz.func14, Tryz.ntmps14
  go_wp2
  clear q0 q1
  go_loop [3] (fun iv => ∃ k : Nat, k ≤ s.size ∧ iv = .int .i64 k ∧ Hid (∀ j b, j < k → s.data.toList[j]? = some b → okAt j b)) (fun iv => s.size - (intOf iv).toNat)
  case atStart => exact ⟨0, Nat.zero_le _, rfl, Lib.hid (fun j b h => absurd h (by omega))⟩
  case round =>
    obtain ⟨k, hk, rfl, HE⟩ := hrel
    have j0 : (0 : Int) ≤ (k : Int) := by omega
    by_cases hlt : k < s.size
    · have j1 : (k : Int) < (s.size : Int) := by omega
      obtain ⟨c, hc⟩ : ∃ c, s[k]'hlt = c := ⟨_, rfl⟩
      have hcl : s.data.toList[k]? = some c := by
        rw [← hc, List.getElem?_eq_getElem (by have := HS.out.1; omega)]
        rfl
      have HC := Lib.hid hcl
      clear hcl
      have hon : okAt k c → Hid (∀ j b, j < k + 1 → s.data.toList[j]? = some b → okAt j b) := fun ho => Lib.hid (fun j b hj hb => by
        by_cases e : j < k
        · exact HE.out j b e hb
        · obtain rfl : j = k := by omega
          rw [HC.out] at hb
          obtain rfl := Option.some.inj hb
          exact ho)
      have hoff : ¬ okAt k c → r = false := fun ho => by rw [← HS.out.2]; exact nameB_false HC.out ho
      have HN := Lib.hid (show _ ∧ _ from ⟨hon, hoff⟩)
      clear hon hoff
      by_cases a1 : 97 ≤ c.toNat ∧ c.toNat ≤ 122
      · obtain ⟨a1, a2⟩ := a1
        have p1 : (97 : Int) ≤ (c.toNat : Int) := by omega
        have p2 : (c.toNat : Int) ≤ 122 := by omega
        go_wp2
        go_round
        case measure => simp [intOf]; omega
        case rel => exact ⟨k + 1, hlt, by simp, HN.out.1 (ok_letter (by omega))⟩
      by_cases a2 : 65 ≤ c.toNat ∧ c.toNat ≤ 90
      · obtain ⟨a2, a3⟩ := a2
        have p1 : ¬ (97 : Int) ≤ (c.toNat : Int) := by omega
        have p2 : (65 : Int) ≤ (c.toNat : Int) := by omega
        have p3 : (c.toNat : Int) ≤ 90 := by omega
        go_wp2
        go_round
        case measure => simp [intOf]; omega
        case rel => exact ⟨k + 1, hlt, by simp, HN.out.1 (ok_letter (by omega))⟩
      by_cases a3 : c.toNat = 95
      · have p1 : ¬ (97 : Int) ≤ (c.toNat : Int) := by omega
        have p2 : (65 : Int) ≤ (c.toNat : Int) := by omega
        have p3 : ¬ (c.toNat : Int) ≤ 90 := by omega
        have p95 : ((c.toNat : Int) == 95) = true := by rw [beq_iff_eq]; omega
        go_wp2
        go_round
        case measure => simp [intOf]; omega
        case rel => exact ⟨k + 1, hlt, by simp, HN.out.1 (ok_letter (by omega))⟩
      have p95 : ((c.toNat : Int) == 95) = false := by rw [beq_eq_false_iff_ne]; omega
      by_cases b1 : c.toNat < 65
      · have p1 : ¬ (97 : Int) ≤ (c.toNat : Int) := by omega
        have p2 : ¬ (65 : Int) ≤ (c.toNat : Int) := by omega
        by_cases e0 : k = 0
        · subst e0
          have hr := HN.out.2 (not_ok (by omega) (by omega))
          subst hr
          go_wp2
          go_ret
          exact ⟨rfl, rfl⟩
        have pk : ((k : Int) == 0) = false := by rw [beq_eq_false_iff_ne]; omega
        by_cases e1 : c.toNat < 48
        · have p3 : (c.toNat : Int) < 48 := by omega
          have hr := HN.out.2 (not_ok (by omega) (by omega))
          subst hr
          go_wp2
          go_ret
          exact ⟨rfl, rfl⟩
        have p3 : ¬ (c.toNat : Int) < 48 := by omega
        by_cases e2 : 57 < c.toNat
        · have p4 : (57 : Int) < (c.toNat : Int) := by omega
          have hr := HN.out.2 (not_ok (by omega) (by omega))
          subst hr
          go_wp2
          go_ret
          exact ⟨rfl, rfl⟩
        have p4 : ¬ (57 : Int) < (c.toNat : Int) := by omega
        go_wp2
        go_round
        case measure => simp [intOf]; omega
        case rel => exact ⟨k + 1, hlt, by simp, HN.out.1 (ok_digit (by omega) e0)⟩
      have p2 : (65 : Int) ≤ (c.toNat : Int) := by omega
      have p3 : ¬ (c.toNat : Int) ≤ 90 := by omega
      have p4 : ¬ (c.toNat : Int) < 48 := by omega
      have p5 : (57 : Int) < (c.toNat : Int) := by omega
      by_cases b2 : 97 ≤ c.toNat
      · have p1 : (97 : Int) ≤ (c.toNat : Int) := by omega
        have p6 : ¬ (c.toNat : Int) ≤ 122 := by omega
        by_cases e0 : k = 0
        · subst e0
          have hr := HN.out.2 (not_ok (by omega) (by omega))
          subst hr
          go_wp2
          go_ret
          exact ⟨rfl, rfl⟩
        have pk : ((k : Int) == 0) = false := by rw [beq_eq_false_iff_ne]; omega
        have hr := HN.out.2 (not_ok (by omega) (by omega))
        subst hr
        go_wp2
        go_ret
        exact ⟨rfl, rfl⟩
      · have p1 : ¬ (97 : Int) ≤ (c.toNat : Int) := by omega
        by_cases e0 : k = 0
        · subst e0
          have hr := HN.out.2 (not_ok (by omega) (by omega))
          subst hr
          go_wp2
          go_ret
          exact ⟨rfl, rfl⟩
        have pk : ((k : Int) == 0) = false := by rw [beq_eq_false_iff_ne]; omega
        have hr := HN.out.2 (not_ok (by omega) (by omega))
        subst hr
        go_wp2
        go_ret
        exact ⟨rfl, rfl⟩
    · obtain rfl : k = s.size := by omega
      have hr : r = true := by
        rw [← HS.out.2]
        exact nameB_true (by have := HS.out.1; omega) (by have := HS.out.1; omega) (fun j b hj => HE.out j b (by have := (List.getElem?_eq_some_iff.1 hj).1; have := HS.out.1; omega) hj)
      subst hr
      go_wp2
      go_ret
      exact ⟨rfl, rfl⟩
end Go.Proofs.YtchggapclmdpaaaGreatDoor
namespace Go.Proofs.YtchggapclmdpaaaGreatDoor
open Go.RowKit Go.Lib

set_option maxHeartbeats 4000000 in
set_option maxRecDepth 100000 in
theorem refTwice_any (A : Option Addr) (n c : Nat) (l : List Lb) (w : World) (hL : Lst Lb.cells 2 w w.heap.size A n l) (hbig : n ≤ 1099511627776) :
    Calls Tryz.prog 68 #[.slice A n c] w fun e w' => e = .returned (.bool (twiceN [] l)) ∧ Below w.heap.size w w' := by
  obtain ⟨r, hr⟩ : ∃ r, twiceN [] l = r := ⟨_, rfl⟩
  rw [hr]
  have HL := Lib.hid (show _ ∧ _ from ⟨hL, hr⟩)
  clear hL hr
  go_enter Tryz.func68, Tryz.ntmps68
  go_wp2
  go_loopw [3] (fun iv wr => ∃ k q : Nat, k ≤ n ∧ iv = .int .i64 k ∧ wr = w.drewN q ∧ Hid (twiceN (namesTo l k) (l.drop k) = r)) (fun iv _ => n - (intOf iv).toNat)
  case atStart => exact ⟨0, 0, Nat.zero_le _, rfl, rfl, Lib.hid HL.out.2⟩
  case round =>
    obtain ⟨k, q, hk, rfl, rfl, HE⟩ := hrel
    have i0 : (0 : Int) ≤ (k : Int) := by omega
    by_cases hlt : k < n
    · have i1 : (k : Int) < (n : Int) := by omega
      obtain ⟨b, off, x, rfl, hb, hx, hc⟩ := HL.out.1.at hlt
      have c0 := hc 0 _ rfl
      simp only [Nat.add_zero] at c0
      have HX := Lib.hid hx
      clear hc hx
      go_wp2
      go_loopw [4] (fun jv wr => ∃ j q' : Nat, j ≤ k ∧ jv = .int .i64 j ∧ wr = w.drewN q' ∧ Hid (∀ i y, i < j → l[i]? = some y → x.nm ≠ y.nm)) (fun jv _ => k - (intOf jv).toNat)
      case atStart => exact ⟨0, q, Nat.zero_le _, rfl, rfl, Lib.hid fun i y h => absurd h (by omega)⟩
      case round =>
        obtain ⟨j, q', hj, rfl, rfl, HJ⟩ := hrel
        have j0 : (0 : Int) ≤ (j : Int) := by omega
        by_cases hjk : j < k
        · have j1 : (j : Int) < (k : Int) := by omega
          have j2 : (j : Int) < (n : Int) := by omega
          obtain ⟨b', off', y, e', hb', hy, hc'⟩ := HL.out.1.at (show j < n by omega)
          obtain ⟨rfl, rfl⟩ : b = b' ∧ off = off' := by simpa using e'
          have d0 := hc' 0 _ rfl
          simp only [Nat.add_zero] at d0
          have HY := Lib.hid hy
          clear hc' hy e' hb'
          by_cases he : x.nm = y.nm
          · have e1 : (x.nm.toList == y.nm.toList) = true := by rw [he]; simp
            have hr : r = true := by rw [← HE.out]; exact twiceN_here HX.out HY.out hjk he
            subst hr
            clear he
            go_wp2_with (go_quiet (fail))
            go_ret
            exact ⟨rfl, by first | exact below_drewN (Below.refl _ _) _ | exact below_drewN (below_drewN (Below.refl _ _) _) _⟩
          · have e1 : (x.nm.toList == y.nm.toList) = false := by rw [beq_eq_false_iff_ne]; exact fun h => he (toList_inj h)
            have HN : Hid (∀ i z, i < j + 1 → l[i]? = some z → x.nm ≠ z.nm) := Lib.hid fun i z hi hz => by
              by_cases e : i < j
              · exact HJ.out i z e hz
              · obtain rfl : i = j := by omega
                rw [HY.out] at hz
                obtain rfl := Option.some.inj hz
                exact he
            clear he
            go_wp2_with (go_quiet (fail))
            go_roundw
            case measure => simp [intOf]; omega
            case rel => exact ⟨j + 1, _, hjk, by simp, by first | rfl | exact World.drewN_drewN _ _ _, HN⟩
        · obtain rfl : j = k := by omega
          have HN : Hid (twiceN (namesTo l (j + 1)) (l.drop (j + 1)) = r) := Lib.hid (by rw [← HE.out]; exact (twiceN_on HX.out (fun i y hi hy => HJ.out i y hi hy)).symm)
          go_wp2
          go_roundw
          case measure => simp [intOf]; omega
          case rel => exact ⟨j + 1, _, hlt, by simp, rfl, HN⟩
    · have i1 : ¬ (k : Int) < (n : Int) := by omega
      have hr : r = false := by
        have hkl : k = l.length := by have := HL.out.1.1; omega
        rw [← HE.out, hkl]
        exact twiceN_end l
      subst hr
      go_wp2
      go_ret
      exact ⟨rfl, below_drewN (Below.refl _ _) _⟩
end Go.Proofs.YtchggapclmdpaaaGreatDoor
