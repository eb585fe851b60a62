/- labels.take: a text off bytes. -/
import Derived.Test.YtchggapclmdpaaaGreatDoorGr
import Derived.Test.YtchggapclmdpaaaGreatDoorRefInto
namespace Go.Proofs.YtchggapclmdpaaaGreatDoor
open Go.RowKit Go.Lib

/-- A text off bytes, and the bytes behind it. -/
def takeB : List UInt8 → Option (List UInt8 × List UInt8)
  | b0 :: b1 :: r => if r.length < b0.toNat + 256 * b1.toNat then none else some (r.take (b0.toNat + 256 * b1.toNat), r.drop (b0.toNat + 256 * b1.toNat))
  | _ => none
theorem takeB_two (b0 b1 : UInt8) (r : List UInt8) : takeB (b0 :: b1 :: r) = if r.length < b0.toNat + 256 * b1.toNat then none else some (r.take (b0.toNat + 256 * b1.toNat), r.drop (b0.toNat + 256 * b1.toNat)) := rfl
theorem or_le16 (x y : Nat) (hx : x < 256) (hy : y < 256) : bits .or .i64 (x : Int) ((y : Int) * 256) = ((x + 256 * y : Nat) : Int) := by
  have e1 : (BitVec.ofInt 64 (x : Int)).toNat = x := by
    rw [BitVec.ofInt_natCast, BitVec.toNat_ofNat]; exact Nat.mod_eq_of_lt (by omega)
  have e2 : (BitVec.ofInt 64 ((y : Int) * 256)).toNat = y * 256 := by
    rw [show (y : Int) * 256 = ((y * 256 : Nat) : Int) by simp, BitVec.ofInt_natCast, BitVec.toNat_ofNat]; exact Nat.mod_eq_of_lt (by omega)
  have e3 : x ||| y * 256 = x + 256 * y := by
    have h := Nat.shiftLeft_add_eq_or_of_lt (b := x) (i := 8) (by omega : x < 2 ^ 8) y
    rw [Nat.shiftLeft_eq] at h
    rw [Nat.or_comm, ← h]
    omega
  show IntKind.i64.wrap ((BitVec.ofInt 64 (x : Int) ||| BitVec.ofInt 64 ((y : Int) * 256)).toNat : Int) = _
  rw [BitVec.toNat_or, e1, e2, e3]
  exact IntWalk.i64_in _ (by omega)
/-- A stretch of bytes as a text. -/
theorem bytes_text {w : World} {b off m c B : Nat} {l : List UInt8} (h : Lst encBy 1 w B (some ⟨b, off, none⟩) m l) : (convert 75 9 (.slice (some ⟨b, off, none⟩) m c)).run Tryz.prog w = .ok (.string ⟨l.toArray⟩) w := by
  rw [← strOfNums_bytes]
  refine run_convert_bytes_arg w 75 5 (by kernel_rfl) (by kernel_rfl) b off m c _ (by simpa using h.1) (fun i hi => ?_) 9 (by kernel_rfl)
  obtain ⟨b', off', x, e, hb, hx, hcl⟩ := h.at hi
  cases e
  have := hcl 0 _ rfl
  rw [show (l.map fun b => (b.toNat : Int)).getD i 0 = (x.toNat : Int) by rw [List.getD_eq_getElem?_getD, List.getElem?_map, hx]; rfl]
  simpa using this
set_option maxHeartbeats 4000000 in
set_option maxRecDepth 100000 in
theorem take_some (B b off n c m : Nat) (b0 b1 : UInt8) (r : List UInt8) (w : World) (hL : Lst encBy 1 w B (some ⟨b, off, none⟩) n (b0 :: b1 :: r)) (hnc : n ≤ c) (hc : c ≤ maxLen) (hmm : b0.toNat + 256 * b1.toNat = m) (hm : m ≤ r.length) :
    Calls Tryz.prog 104 #[.slice (some ⟨b, off, none⟩) n c] w fun e w' => ∃ A' c', e = .returned (.tuple #[.string ⟨(r.take m).toArray⟩, (.slice A' (n - (2 + m)) c'), .bool true]) ∧ Lst encBy 1 w B A' (n - (2 + m)) (r.drop m) ∧ n - (2 + m) ≤ c' ∧ c' ≤ c ∧ ∃ q, w' = w.drewN q := by
  have hn : r.length + 2 = n := by have := hL.1; simp at this; omega
  have l0 : b0.toNat < 256 := b0.toNat_lt
  have l1 : b1.toNat < 256 := b1.toNat_lt
  have hor := or_le16 b0.toNat b1.toNat l0 l1
  rw [hmm] at hor
  have c0 : w.cell? ⟨b, off, none⟩ = some (.int .u8 b0.toNat) := by
    obtain ⟨b', off', x, e, hb, hx, hcl⟩ := hL.at (show 0 < n by omega)
    cases e
    obtain rfl : b0 = x := by simpa using hx
    have := hcl 0 _ rfl
    simpa using this
  have c1 : w.cell? ⟨b, off + 1, none⟩ = some (.int .u8 b1.toNat) := by
    obtain ⟨b', off', x, e, hb, hx, hcl⟩ := hL.at (show 1 < n by omega)
    cases e
    obtain rfl : b1 = x := by simpa using hx
    have := hcl 0 _ rfl
    simpa using this
  have i0 : ¬ (n : Int) < 2 := by omega
  have i1 : (1 : Int) < (n : Int) := by omega
  have i2 : (0 : Int) < (n : Int) := by omega
  have i3 : ¬ (n : Int) - 2 < (m : Int) := by omega
  have i4 : (2 : Int) + (m : Int) ≤ (n : Int) := by omega
  have i5 : (2 : Int) + (m : Int) ≤ (c : Int) := by omega
  have i6 : (n : Int) ≤ (c : Int) := by omega
  have h2 : Lst encBy 1 w B (some ⟨b, off + 2, none⟩) (n - 2) r := by
    have := hL.drop_ (k := 2) (by omega)
    simpa using this
  have h3 := h2.take (k := m) (by omega)
  have h4 := h2.drop_ (k := m) (by omega)
  rw [show n - 2 - m = n - (2 + m) by omega, show off + 2 + m * 1 = off + (2 + m) by omega] at h4
  have HH := Lib.hid (show _ ∧ _ ∧ _ from ⟨h3, h4, hn⟩)
  have hc' : c ≤ 9223372036854775807 := hc
  clear hL h2 h3 h4 hmm hn
  by_cases k1 : c = 2
  · subst k1
    obtain rfl : n = 2 := by have := HH.out.2.2; omega
    have hr0 : r = [] := List.length_eq_zero_iff.1 (by have := HH.out.2.2; omega)
    subst hr0
    obtain rfl : m = 0 := by simpa using hm
    have hcv : ∀ q, (convert 75 9 (.slice (some ⟨b, off, none⟩) 0 0)).run Tryz.prog (w.drewN q) = .ok (.string ⟨#[]⟩) (w.drewN q) := fun q => bytes_text (B := 0) (l := []) ⟨rfl, fun h => absurd h (by omega)⟩
    clear i0 i1 i2 i3 i4 i5 i6
    go_enter Tryz.func104, Tryz.ntmps104
    go_wp2_with (go_quiet (fail))
    exact bodyPost_ret (v := .tuple #[.string ⟨#[]⟩, .slice (some ⟨b, off, none⟩) 0 0, .bool true]) (by simp [results, Tryz.results104, go_sem]) rfl ⟨_, _, rfl, ⟨rfl, fun h => absurd h (by omega)⟩, by omega, by omega, _, by first | rfl | exact World.drewN_drewN _ _ _⟩
  · have hcv : ∀ q, (convert 75 9 (.slice (some ⟨b, off + 2, none⟩) m (c - 2))).run Tryz.prog (w.drewN q) = .ok (.string ⟨(r.take m).toArray⟩) (w.drewN q) := fun q => bytes_text (HH.out.1.keep fun _ _ => rfl)
    by_cases k2 : c = 2 + m
    · have hn2 : n = 2 + m := by have := HH.out.2.2; omega
      have hz : Lst encBy 1 w B (some ⟨b, off, none⟩) 0 (r.drop m) := ⟨by rw [List.length_drop]; have := HH.out.2.2; omega, fun h => absurd h (by omega)⟩
      have HZ := Lib.hid (show _ ∧ _ ∧ _ from ⟨hz, hn2, k2⟩)
      have k3 : c - (2 + m) = 0 := by omega
      have k4 : n - (2 + m) = 0 := by omega
      rw [k4]
      clear hz hn2 k2
      go_enter Tryz.func104, Tryz.ntmps104
      go_wp2_with (go_quiet (fail))
      exact bodyPost_ret (v := .tuple #[.string ⟨(r.take m).toArray⟩, .slice (some ⟨b, off, none⟩) 0 0, .bool true]) (by simp [results, Tryz.results104, go_sem]) rfl ⟨some ⟨b, off, none⟩, 0, rfl, HZ.out.1, by omega, _, by first | rfl | exact World.drewN_drewN _ _ _⟩
    · go_enter Tryz.func104, Tryz.ntmps104
      go_wp2_with (go_quiet (fail))
      exact bodyPost_ret (v := .tuple #[.string ⟨(r.take m).toArray⟩, .slice (some ⟨b, off + (2 + m), none⟩) (n - (2 + m)) (c - (2 + m)), .bool true]) (by simp [results, Tryz.results104, go_sem]) rfl ⟨_, _, rfl, HH.out.2.1, by omega, by omega, _, by first | rfl | exact World.drewN_drewN _ _ _⟩
set_option maxHeartbeats 4000000 in
set_option maxRecDepth 100000 in
theorem take_none (B : Nat) (A : Option Addr) (n c : Nat) (l : List UInt8) (w : World) (hL : Lst encBy 1 w B A n l) (hc : n ≤ maxLen) (ht : takeB l = none) :
    Calls Tryz.prog 104 #[.slice A n c] w fun e w' => e = .returned (.tuple #[.string ⟨#[]⟩, .slice none 0 0, .bool false]) ∧ ∃ q, w' = w.drewN q := by
  have hc' : n ≤ 9223372036854775807 := hc
  by_cases h2 : n < 2
  · have i0 : (n : Int) < 2 := by omega
    clear hL ht
    go_enter Tryz.func104, Tryz.ntmps104
    go_wp2
    exact bodyPost_ret (v := .tuple #[.string ⟨#[]⟩, .slice none 0 0, .bool false]) (by simp [results, Tryz.results104, go_sem]) rfl ⟨rfl, 0, rfl⟩
  · obtain ⟨b0, b1, r, rfl⟩ : ∃ b0 b1 r, l = b0 :: b1 :: r := by
      have := hL.1
      match l, this with
      | [], h => simp at h; omega
      | [_], h => simp at h; omega
      | b0 :: b1 :: r, _ => exact ⟨b0, b1, r, rfl⟩
    have hlt : r.length < b0.toNat + 256 * b1.toNat := by
      rw [takeB_two] at ht
      split at ht
      · assumption
      · cases ht
    have hn : r.length + 2 = n := by have := hL.1; simp at this; omega
    have l0 : b0.toNat < 256 := b0.toNat_lt
    have l1 : b1.toNat < 256 := b1.toNat_lt
    obtain ⟨m, hmm⟩ : ∃ m, b0.toNat + 256 * b1.toNat = m := ⟨_, rfl⟩
    have hor := or_le16 b0.toNat b1.toNat l0 l1
    rw [hmm] at hor
    obtain ⟨b, off, x, rfl, hb, hx, hcl⟩ := hL.at (show 0 < n by omega)
    obtain ⟨b', off', y, e', _, hy, hcl'⟩ := hL.at (show 1 < n by omega)
    obtain ⟨rfl, rfl⟩ : b = b' ∧ off = off' := by simpa using e'
    obtain rfl : b0 = x := by simpa using hx
    obtain rfl : b1 = y := by simpa using hy
    have c0 : w.cell? ⟨b, off, none⟩ = some (.int .u8 b0.toNat) := by simpa using hcl 0 _ rfl
    have c1 : w.cell? ⟨b, off + 1, none⟩ = some (.int .u8 b1.toNat) := by simpa using hcl' 0 _ rfl
    have i0 : ¬ (n : Int) < 2 := by omega
    have i1 : (1 : Int) < (n : Int) := by omega
    have i2 : (0 : Int) < (n : Int) := by omega
    have i3 : (n : Int) - 2 < (m : Int) := by omega
    clear hL hlt hn hmm hcl hcl' hx hy e' ht
    go_enter Tryz.func104, Tryz.ntmps104
    go_wp2_with (go_quiet (fail))
    exact bodyPost_ret (v := .tuple #[.string ⟨#[]⟩, .slice none 0 0, .bool false]) (by simp [results, Tryz.results104, go_sem]) rfl ⟨rfl, _, by first | rfl | exact World.drewN_drewN _ _ _⟩
/-- What take hands back. -/
def TakePost (B : Nat) (l : List UInt8) (c : Nat) (w : World) (e : Ending) (w' : World) : Prop := match takeB l with
  | none => e = .returned (.tuple #[.string ⟨#[]⟩, .slice none 0 0, .bool false]) ∧ ∃ q, w' = w.drewN q
  | some (t, r) => ∃ A' c', e = .returned (.tuple #[.string ⟨t.toArray⟩, .slice A' r.length c', .bool true]) ∧ Lst encBy 1 w B A' r.length r ∧ r.length ≤ c' ∧ c' ≤ c ∧ ∃ q, w' = w.drewN q
theorem take_any (B : Nat) (A : Option Addr) (n c : Nat) (l : List UInt8) (w : World) (hL : Lst encBy 1 w B A n l) (hnc : n ≤ c) (hc : c ≤ maxLen) :
    Calls Tryz.prog 104 #[.slice A n c] w (TakePost B l c w) := by
  cases ht : takeB l with
  | none =>
    refine (take_none B A n c l w hL (by omega) ht).mono ?_
    intro e w' h
    unfold TakePost
    rw [ht]
    exact h
  | some tr =>
    obtain ⟨t, r'⟩ := tr
    match l, hL, ht with
    | b0 :: b1 :: r, hL, ht =>
      rw [takeB_two] at ht
      split at ht
      · cases ht
      · rename_i hm
        simp only [Option.some.injEq, Prod.mk.injEq] at ht
        obtain ⟨rfl, rfl⟩ := ht
        have hn : r.length + 2 = n := by have := hL.1; simp at this; omega
        obtain ⟨b, off, x, rfl, _⟩ := hL.at (show 0 < n by omega)
        refine (take_some B b off n c _ b0 b1 r w hL hnc hc rfl (by omega)).mono ?_
        rintro e w' ⟨A', c', rfl, h1, h2, h3, h4⟩
        unfold TakePost
        have e1 : takeB (b0 :: b1 :: r) = some (r.take (b0.toNat + 256 * b1.toNat), r.drop (b0.toNat + 256 * b1.toNat)) := by rw [takeB_two, if_neg hm]
        rw [e1]
        have e2 : (r.drop (b0.toNat + 256 * b1.toNat)).length = n - (2 + (b0.toNat + 256 * b1.toNat)) := by rw [List.length_drop]; omega
        simp only [e2]
        exact ⟨A', c', rfl, h1, h2, h3, h4⟩
theorem take_bad (B : Nat) (A : Option Addr) (n c : Nat) (l : List UInt8) (w : World) (hL : Lst encBy 1 w B A n l) (hnc : n ≤ c) (hc : c ≤ maxLen) (ht : takeB l = none) :
    Calls Tryz.prog 104 #[.slice A n c] w fun e w' => e = .returned (.tuple #[.string ⟨#[]⟩, .slice none 0 0, .bool false]) ∧ Below w.heap.size w w' :=
  (take_none B A n c l w hL (by omega) ht).mono fun e w' ⟨h1, q, hq⟩ => ⟨h1, hq ▸ below_drewN (Below.refl _ _) q⟩
theorem take_good (B : Nat) (A : Option Addr) (n c : Nat) (l : List UInt8) (w : World) (hL : Lst encBy 1 w B A n l) (hnc : n ≤ c) (hc : c ≤ maxLen) {t r : List UInt8} {m : Nat} (ht : takeB l = some (t, r)) (hm : r.length = m) :
    Calls Tryz.prog 104 #[.slice A n c] w fun e w' => ∃ A' c', e = .returned (.tuple #[.string ⟨t.toArray⟩, .slice A' m c', .bool true]) ∧ Lst encBy 1 w' B A' m r ∧ m ≤ c' ∧ c' ≤ maxLen ∧ Below w.heap.size w w' := by
  refine (take_any B A n c l w hL hnc hc).mono ?_
  intro e w' hp
  unfold TakePost at hp
  rw [ht] at hp
  obtain ⟨A', c', rfl, h1, h2, h3, q, rfl⟩ := hp
  subst hm
  exact ⟨A', c', rfl, h1.keep fun _ _ => rfl, h2, by omega, below_drewN (Below.refl _ _) q⟩
end Go.Proofs.YtchggapclmdpaaaGreatDoor
