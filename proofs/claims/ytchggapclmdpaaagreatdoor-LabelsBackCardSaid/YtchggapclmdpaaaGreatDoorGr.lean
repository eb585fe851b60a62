/- Lists of bytes: what the walks over them ask. Written by mk1.py. LentBytes. Written off a master by mk2.py. WholeBytes, SpoilBytes. Written off a master by mk2.py. -/
import Derived.Test.YtchggapclmdpaaaGreatDoorGe
import Derived.Test.YtchggapclmdpaaaGreatDoorGb
import Derived.OwnWalk
import Derived.Laws.AppendOwnNone
import Derived.RangeFuncBox
import Derived.Laws.Rows
import Derived.BigQuiet
namespace Go.Proofs.YtchggapclmdpaaaGreatDoor
open Go.RowKit Go.Lib

abbrev encBy (x : UInt8) : List Value := [.int .u8 x.toNat]
theorem encBy_len (x : UInt8) : (encBy x).length = 1 := rfl
theorem oneBy (l : List UInt8) : ∀ u ∈ l.flatMap encBy, u.oneCell' = true := by
  intro u hu
  obtain ⟨m, _, h⟩ := List.mem_flatMap.1 hu
  simp only [encBy, List.mem_cons, List.not_mem_nil, or_false] at h
  subst h
  rfl
theorem below_drewBy {w w' : World} (h : ∃ q, w' = w.drewN q) : Below w.heap.size w w' := by
  obtain ⟨q, rfl⟩ := h
  exact below_drewN (Below.refl _ _) q
set_option maxHeartbeats 2000000 in
theorem sameBy_q (A B : Option Addr) (n ca cb : Nat) (l : List (UInt8)) (w : World) (ha : Lst encBy 1 w w.heap.size A n l) (hb : Lst encBy 1 w w.heap.size B n l) (hbig : n ≤ 1000000000) :
    Calls Tryz.prog 36 #[.slice A n ca, .slice B n cb] w fun e w' => e = .returned (.bool true) ∧ ∃ q, w' = w.drewN q := by
  have HA := Lib.hid ha
  have HB := Lib.hid hb
  clear ha hb
  go_enter Tryz.func36, Tryz.ntmps36
  go_wp2
  go_loopw [5] (fun i wr => ∃ k q : Nat, k ≤ n ∧ i = .int .i64 k ∧ wr = w.drewN q) (fun i _ => n - (intOf i).toNat)
  case atStart => exact ⟨0, 0, Nat.zero_le _, rfl, rfl⟩
  case round =>
    obtain ⟨k, q, hk, rfl, rfl⟩ := hrel
    by_cases hlt : k < n
    · obtain ⟨b, off, m, rfl, hbb, hm, hc⟩ := HA.out.at hlt
      obtain ⟨b2, off2, m2, rfl, hbb2, hm2, hc2⟩ := HB.out.at hlt
      obtain rfl : m = m2 := by rw [hm] at hm2; exact Option.some.inj hm2
      have c0 := hc 0 _ rfl
      have d0 := hc2 0 _ rfl
      simp only [Nat.add_zero, Nat.mul_one] at c0 d0
      clear hm hm2 hc hc2
      go_wp2_with (go_quiet (fail))
      go_roundw
      case measure => simp [intOf]; omega
      case rel => exact ⟨k + 1, _, hlt, by simp, by first | rfl | exact World.drewN_drewN _ _ _⟩
    · go_wp2
      go_ret
      exact ⟨rfl, q, rfl⟩
theorem sameBy_eq (A B : Option Addr) (n ca cb : Nat) (l : List (UInt8)) (w : World) (ha : Lst encBy 1 w w.heap.size A n l) (hb : Lst encBy 1 w w.heap.size B n l) (hbig : n ≤ 1000000000) :
    Calls Tryz.prog 36 #[.slice A n ca, .slice B n cb] w fun e w' => e = .returned (.bool true) ∧ Below w.heap.size w w' :=
  (sameBy_q A B n ca cb l w ha hb hbig).mono fun _ _ ⟨h1, h2⟩ => ⟨h1, below_drewBy h2⟩
end Go.Proofs.YtchggapclmdpaaaGreatDoor
namespace Go.Proofs.YtchggapclmdpaaaGreatDoor
open Go.RowKit Go.Lib

def mABy : UInt8 := 91
def mBBy : UInt8 := 92
/-- What LentBytes leaves. -/
def LentByPost (w : World) (l : List (UInt8)) (n : Nat) (e : Ending) (w' : World) : Prop :=
  ∃ g c, e = .returned (.slice (some ⟨g, 0, none⟩) n c) ∧ w'.ownsRow w.heap.size 5 1 (.slice (some ⟨g, 0, none⟩) (n + 2) c) (n + 2) ((l ++ [mABy, mBBy]).flatMap encBy) ∧ Below w.heap.size w w'
set_option maxHeartbeats 2000000 in
set_option maxRecDepth 100000 in
theorem lentBy_any (A : Option Addr) (n c : Nat) (l : List (UInt8)) (w : World) (hr : Lst encBy 1 w w.heap.size A n l) (hnil : A = none → n = 0 ∧ c = 0) (hbig : n ≤ 1000000000) :
    Calls Tryz.prog 31 #[.slice A n c] w (LentByPost w l n) := by
  obtain ⟨i0, hi, hz0, hz1, hz2⟩ := info_parts Tryz.infoByte
  have hbts : i0.bytes * (n + 2) ≤ 281474976710656 := by rw [hz2]; omega
  have HB := Lib.hid hbts
  clear hbts
  go_enter Tryz.func31, Tryz.ntmps31
  go_wp2_with (refine wpList_make_own _ rfl _ _ 75 rfl w.heap.size 5 i0 _ 1 Tryz.underlying75 hi hz0 hz1 .i64 .i64 _ (n + 2) rfl rfl (by simp) HB.out (by unfold maxLen; omega) (Nat.le_refl _) ?_)
  intro w1 hown hg
  have hb1 : Below w.heap.size w w1 := (Below.refl _ _).grown hg (Nat.le_refl _) (fun _ h => by cases h)
  have H1 := Lib.hid (show _ ∧ _ from ⟨hown, hb1⟩)
  have HLEN := Lib.hid hr.1
  have hsrc : ∀ ad, A = some ad → ∀ j u, (l.flatMap encBy)[j]? = some u → w1.cell? (ad.add j) = some u := by
    rintro ad rfl
    have := (hr.below hb1).flat encBy_len
    exact this
  have HS := Lib.hid hsrc
  clear hown hg hb1 hr hsrc
  cases A with
  | none =>
    obtain ⟨rfl, rfl⟩ := hnil rfl
    have hl0 : l = [] := List.length_eq_zero_iff.1 HLEN.out
    have hown2 : w1.ownsRow w.heap.size 5 1 (.slice (some ⟨w.heap.size, 0, none⟩) 0 (0 + 2)) 0 (l.flatMap encBy) := by rw [hl0]; exact H1.out.1
    have HO2 := Lib.hid (show _ ∧ _ from ⟨hown2, H1.out.2⟩)
    clear hown2 HS
    go_wp2_with (at_builtin; first | refine wpList_append_own_none rfl _ _ 75 rfl w.heap.size 5 i0 1 Tryz.underlying75 hi _ 0 [] rfl H1.out.1 rfl ?_ | refine wpList_append_own _ rfl _ _ 75 rfl w.heap.size 5 i0 _ 1 1 Tryz.underlying75 hi hz0 hz1 hz2 rfl (by omega) _ 0 (l.flatMap encBy) rfl (HO2.out.1.alloc _) ⟨w1.heap.size, 0, none⟩ 2 2 ([mABy, mBBy].flatMap encBy) rfl rfl (cells_newL w1 ([mABy, mBBy].flatMap encBy) _) (oneBy _) (by unfold maxLen; omega) (by omega) (by have := HO2.out.2.size; simp; omega) ?_)
    intro v3 w3 hown3 hg3 _
    have hown3' : w3.ownsRow w.heap.size 5 1 v3 (0 + 2) ((l ++ [mABy, mBBy]).flatMap encBy) := by rw [hl0]; simpa using hown3
    clear hown3
    obtain ⟨g, cap, rfl⟩ := ownsRow_succ hown3'
    have hown3 := hown3'
    clear hown3'
    have hb3 := (HO2.out.2.alloc HO2.out.2.size _).grown hg3 (by have := HO2.out.2.size; simp; omega) (fun x hx => (HO2.out.1.lt x hx).1)
    have hcap : 2 ≤ cap := by
      rcases hown3.2 with ⟨h, _⟩ | ⟨_, _, _, h, _, _, h1, _⟩
      · cases h
      · cases h; exact h1
    have HF := Lib.hid (show _ ∧ _ from ⟨hown3, hb3⟩)
    clear hown3 hg3 hb3 hi hz0 hz1 hz2
    go_wp2
    go_ret
    exact ⟨g, cap, rfl, HF.out.1, HF.out.2⟩
  | some ad =>
    go_wp2_with (at_builtin; go_loud (refine wpList_append_own _ rfl _ _ 75 rfl w.heap.size 5 i0 _ 1 1 Tryz.underlying75 hi hz0 hz1 hz2 rfl (by omega) _ 0 [] rfl H1.out.1 ad n c (l.flatMap encBy) rfl (by rw [flatMap_length (enc := encBy) (size := 1) encBy_len, HLEN.out]) (HS.out ad rfl) (oneBy _) (by unfold maxLen; omega) (by omega) H1.out.2.size ?_))
    intro v2 w2 hown2 hg2 _
    have hb2 := H1.out.2.grown hg2 H1.out.2.size (fun x hx => (H1.out.1.lt x hx).1)
    clear hg2 H1 HS
    have HO2 := Lib.hid (show _ ∧ _ from ⟨hown2, hb2⟩)
    clear hown2 hb2
    go_wp2_with (at_builtin; go_loud (refine wpList_append_own _ rfl _ _ 75 rfl w.heap.size 5 i0 _ 1 1 Tryz.underlying75 hi hz0 hz1 hz2 rfl (by omega) _ n (l.flatMap encBy) rfl (HO2.out.1.alloc _) ⟨w2.heap.size, 0, none⟩ 2 2 ([mABy, mBBy].flatMap encBy) rfl rfl (cells_newL w2 ([mABy, mBBy].flatMap encBy) _) (oneBy _) (by unfold maxLen; omega) (by omega) (by have := HO2.out.2.size; simp; omega) ?_))
    intro v3 w3 hown3 hg3 _
    have hown3' : w3.ownsRow w.heap.size 5 1 v3 (n + 2) ((l ++ [mABy, mBBy]).flatMap encBy) := by simpa [List.flatMap_append] using hown3
    clear hown3
    obtain ⟨g, cap, rfl⟩ := ownsRow_succ hown3'
    have hown3 := hown3'
    clear hown3'
    have hb3 := (HO2.out.2.alloc HO2.out.2.size _).grown hg3 (by have := HO2.out.2.size; simp; omega) (fun x hx => (HO2.out.1.lt x hx).1)
    have hcap : n + 2 ≤ cap := by
      rcases hown3.2 with ⟨h, _⟩ | ⟨_, _, _, h, _, _, h1, _⟩
      · cases h
      · cases h; exact h1
    have HF := Lib.hid (show _ ∧ _ from ⟨hown3, hb3⟩)
    clear hown3 hg3 hb3 hi hz0 hz1 hz2
    go_wp2
    go_ret
    exact ⟨g, cap, rfl, HF.out.1, HF.out.2⟩
end Go.Proofs.YtchggapclmdpaaaGreatDoor
namespace Go.Proofs.YtchggapclmdpaaaGreatDoor
open Go.RowKit Go.Lib

set_option maxHeartbeats 2000000 in
theorem wholeBy_q (g c : Nat) (B : Option Addr) (n cb : Nat) (l : List (UInt8)) (w : World) (ha : Lst encBy 1 w w.heap.size (some ⟨g, 0, none⟩) (n + 2) (l ++ [mABy, mBBy])) (hc : n + 2 ≤ c) (hb : Lst encBy 1 w w.heap.size B n l) (hbig : n ≤ 1000000000) :
    Calls Tryz.prog 33 #[.slice (some ⟨g, 0, none⟩) n c, .slice B n cb] w fun e w' => e = .returned (.bool true) ∧ ∃ q, w' = w.drewN q := by
  have hl := hb.1
  obtain ⟨b, off, e, hbb, hcc⟩ := ha.2 (by omega)
  cases e
  have hA : (l ++ [mABy, mBBy])[n]? = some mABy := by rw [List.getElem?_append_right (by omega), hl]; simp
  have hB : (l ++ [mABy, mBBy])[n + 1]? = some mBBy := by rw [List.getElem?_append_right (by omega), hl]; simp
  have c0 := hcc n _ hA 0 _ rfl
  have d0 := hcc (n + 1) _ hB 0 _ rfl
  simp only [Nat.zero_add, Nat.add_zero, Nat.mul_one, mABy, mBBy] at c0 d0
  have hown : Lst encBy 1 w w.heap.size (some ⟨g, 0, none⟩) n l := by
    have := ha.take (k := n) (by omega)
    rwa [List.take_append_of_le_length (by omega), List.take_of_length_le (by omega)] at this
  have HS := Lib.hid (sameBy_q (some ⟨g, 0, none⟩) B n c cb l w hown hb hbig)
  clear hown ha hb hcc hA hB hl
  have hci : (n : Int) + 2 ≤ (c : Int) := by omega
  go_enter Tryz.func33, Tryz.ntmps33
  go_wp2_with fail
  refine HS.out.mono ?_
  rintro e w' ⟨rfl, q, rfl⟩
  go_wp2
  go_ret
  exact ⟨rfl, _, by first | rfl | exact World.drewN_drewN _ _ _⟩
theorem wholeBy_eq (g c : Nat) (B : Option Addr) (n cb : Nat) (l : List (UInt8)) (w : World) (ha : Lst encBy 1 w w.heap.size (some ⟨g, 0, none⟩) (n + 2) (l ++ [mABy, mBBy])) (hc : n + 2 ≤ c) (hb : Lst encBy 1 w w.heap.size B n l) (hbig : n ≤ 1000000000) :
    Calls Tryz.prog 33 #[.slice (some ⟨g, 0, none⟩) n c, .slice B n cb] w fun e w' => e = .returned (.bool true) ∧ Below w.heap.size w w' :=
  (wholeBy_q g c B n cb l w ha hc hb hbig).mono fun _ _ ⟨h1, h2⟩ => ⟨h1, below_drewBy h2⟩
theorem grownBy_setBy {w wr : World} {g : Nat} (h : w.grownBy wr (some g)) (i : Nat) (v : Value) : w.grownBy (wr.setCell ⟨g, i, none⟩ v) (some g) :=
  ⟨h.os, h.tape, h.output, by simpa using h.size, fun k hk hne => (heap_setCell_other _ _ _ _ (fun e => hne (by rw [e]))).trans (h.block k hk hne)⟩
set_option maxHeartbeats 4000000 in
set_option maxRecDepth 100000 in
theorem spoilBy_any (g n c : Nat) (cur : Array Value) (w : World) (hg : w.heap[g]? = some (.cells cur 5 (0, 0))) (hsz : cur.size = c * 1) (_hn : n ≤ c) (hc : c ≤ maxLen) :
    Calls Tryz.prog 34 #[.slice (some ⟨g, 0, none⟩) n c] w fun e w' => e = .returned (.tuple #[]) ∧ w.grownBy w' (some g) := by
  have HG := Lib.hid (show _ ∧ _ from ⟨hg, hsz⟩)
  have hc' : c ≤ 9223372036854775807 := hc
  clear hg hsz hc
  go_enter Tryz.func34, Tryz.ntmps34
  go_wp2
  go_loopw [3] (fun i wr => ∃ (k : Nat) (cu : Array Value), k ≤ c ∧ i = .int .i64 k ∧ w.grownBy wr (some g) ∧ Hid (wr.heap[g]? = some (.cells cu 5 (0, 0)) ∧ cu.size = c * 1)) (fun i _ => c - (intOf i).toNat)
  case atStart => exact ⟨0, cur, Nat.zero_le _, rfl, ⟨rfl, rfl, rfl, Nat.le_refl _, fun _ _ _ => rfl⟩, HG⟩
  case round =>
    obtain ⟨k, cu, hk, rfl, hgr, HB⟩ := hrel
    by_cases hlt : k < c
    · obtain ⟨x0, c0⟩ : ∃ x, wr.cell? ⟨g, k, none⟩ = some x := ⟨_, by
        rw [cell_of_row _ _ _ _ _ _ HB.out.1]
        exact Array.getElem?_eq_getElem (by have := HB.out.2; omega)⟩
      have f0 : wr.frozen? ⟨g, k, none⟩ = false := by simp [World.frozen?, HB.out.1]
      go_wp2
      go_roundw
      case measure => simp [intOf]; omega
      case rel =>
        refine ⟨k + 1, _, hlt, by simp, grownBy_setBy hgr _ _, Lib.hid ⟨heap_setCell_same _ _ _ _ _ _ HB.out.1, ?_⟩⟩
        simpa using HB.out.2
    · go_wp2
      go_end0
      exact ⟨rfl, hgr⟩
end Go.Proofs.YtchggapclmdpaaaGreatDoor
