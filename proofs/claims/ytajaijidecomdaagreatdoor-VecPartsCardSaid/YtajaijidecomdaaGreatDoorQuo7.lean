/- text.Quote: a text between quotes. -/
import Derived.Test.YtajaijidecomdaaGreatDoorG05
import Derived.Below
import Derived.Laws.BitsLemmas
import Derived.Deep.AppendLies
namespace Go.Proofs.YtajaijidecomdaaGreatDoor
open Go.RowKit Go.Lib

/-- A digit of a number to base 16. -/
def hexD (n : Nat) : UInt8 := if n < 10 then UInt8.ofNat (48 + n) else UInt8.ofNat (87 + n)
/-- A byte, as it stands between quotes. -/
def escB (c : UInt8) : List UInt8 :=
  if c = 34 ∨ c = 92 then [92, c] else if c = 10 then [92, 110] else if c = 13 then [92, 114] else if c = 9 then [92, 116]
  else if c.toNat < 32 ∨ 126 < c.toNat then [92, 120, hexD (c.toNat / 16), hexD (c.toNat % 16)] else [c]
def quoteB (s : List UInt8) : List UInt8 := 34 :: (s.flatMap escB ++ [34])
theorem escB_len (c : UInt8) : (escB c).length ≤ 4 := by unfold escB; split <;> (try split) <;> (try split) <;> (try split) <;> (try split) <;> simp
theorem flat_escB_len : ∀ s : List UInt8, (s.flatMap escB).length ≤ 4 * s.length
  | [] => by simp
  | c :: s => by
    rw [List.flatMap_cons, List.length_append, List.length_cons]
    have := escB_len c
    have := flat_escB_len s
    omega
theorem hex_at (j : Nat) (h : j < 16) : (⟨#[48, 49, 50, 51, 52, 53, 54, 55, 56, 57, 97, 98, 99, 100, 101, 102]⟩ : ByteArray)[j]'h = hexD j := by
  have : j = 0 ∨ j = 1 ∨ j = 2 ∨ j = 3 ∨ j = 4 ∨ j = 5 ∨ j = 6 ∨ j = 7 ∨ j = 8 ∨ j = 9 ∨ j = 10 ∨ j = 11 ∨ j = 12 ∨ j = 13 ∨ j = 14 ∨ j = 15 := by omega
  rcases this with rfl | rfl | rfl | rfl | rfl | rfl | rfl | rfl | rfl | rfl | rfl | rfl | rfl | rfl | rfl | rfl <;> rfl
theorem hex_div (n : Nat) (_hn : (n : Int) / 16 < 16) (h : ((n : Int) / 16).toNat < 16) : (⟨#[48, 49, 50, 51, 52, 53, 54, 55, 56, 57, 97, 98, 99, 100, 101, 102]⟩ : ByteArray)[((n : Int) / 16).toNat]'h = hexD (n / 16) := hex_at (n / 16) h
theorem hex_mod (n : Nat) (_hn : (n : Int) % 16 < 16) (h : ((n : Int) % 16).toNat < 16) : (⟨#[48, 49, 50, 51, 52, 53, 54, 55, 56, 57, 97, 98, 99, 100, 101, 102]⟩ : ByteArray)[((n : Int) % 16).toNat]'h = hexD (n % 16) := hex_at (n % 16) h
/-- A row of bytes that grows. -/
theorem own_more {w w5 : World} {B n m : Nat} {v v' : Value} {l d : List UInt8} (h : w.ownsRow B 5 1 v n (bytesV l)) (ho : w5.ownsRow B 5 1 v' (n + m) (bytesV l ++ bytesV d)) : w5.ownsRow B 5 1 v' (l ++ d).length (bytesV (l ++ d)) := by
  have h1 := h.1
  have h2 := ho.1
  rw [bytesV_length] at h1
  rw [List.length_append, bytesV_length, bytesV_length] at h2
  rw [bytesV_append, List.length_append]
  have : n + m = l.length + d.length := by omega
  rw [← this]
  exact ho
set_option maxHeartbeats 2000000 in
set_option maxRecDepth 100000 in
theorem quote_any (s : ByteArray) (hbig : s.size ≤ 1000000) (w : World) :
    Calls Tryz.prog 243 #[.string s] w fun e w' => e = .returned (.string ⟨(quoteB s.data.toList).toArray⟩) ∧ Below w.heap.size w w' := by
  have hsz : s.size = s.data.toList.length := (Array.length_toList).symm
  obtain ⟨i0, hi, hz0, hz1, hz2⟩ := info_parts Tryz.infoByte
  have HI := Lib.hid (show (_ ∧ _ ∧ _ ∧ _) ∧ _ from ⟨⟨hi, hz0, hz1, hz2⟩, hsz⟩)
  clear hi hz0 hz1 hz2 hsz
  go_enter Tryz.func243, Tryz.ntmps243
  go_wp2
  go_loopw [3, 9] (fun v i wr => ∃ k : Nat, k ≤ s.size ∧ i = .int .i64 k ∧ Hid (wr.ownsRow w.heap.size 5 1 v (34 :: (s.data.toList.take k).flatMap escB).length (bytesV (34 :: (s.data.toList.take k).flatMap escB)) ∧ Below w.heap.size w wr)) (fun _ i _ => s.size - (intOf i).toNat)
  case atStart => exact ⟨0, Nat.zero_le _, rfl, Lib.hid ⟨owns_fresh (Nat.le_refl _) 5 [.int .u8 34] (by decide), (Below.refl _ _).alloc (Nat.le_refl _) _⟩⟩
  case round =>
    obtain ⟨k, hk, rfl, HR⟩ := hrel
    have hlen : (34 :: (s.data.toList.take k).flatMap escB).length ≤ 1 + 4 * k := by
      have h1 := flat_escB_len (s.data.toList.take k)
      have h2 := HI.out.2
      rw [List.length_take] at h1
      rw [List.length_cons]
      omega
    obtain ⟨l, hl⟩ : ∃ l, (34 :: (s.data.toList.take k).flatMap escB : List UInt8) = l := ⟨_, rfl⟩
    rw [hl] at HR hlen
    have HL := Lib.hid hl
    clear hl
    have j0 : (0 : Int) ≤ (k : Int) := by omega
    have hsw := HR.out.2.size
    by_cases hlt : k < s.size
    · obtain ⟨c, hc⟩ : ∃ c, s[k]'hlt = c := ⟨_, rfl⟩
      have hcl : s.data.toList[k]? = some c := by
        rw [← hc, List.getElem?_eq_getElem (by have := HI.out.2; omega)]
        rfl
      have hnext : ∀ d, escB c = d → (34 :: (s.data.toList.take (k + 1)).flatMap escB : List UInt8) = l ++ d := by
        intro d hd
        obtain ⟨g1, g2⟩ := List.getElem?_eq_some_iff.1 hcl
        rw [← HL.out, List.take_succ_eq_append_getElem g1, g2, List.flatMap_append, ← hd]
        simp
      have HX := Lib.hid hnext
      have j1 : (k : Int) < (s.size : Int) := by omega
      clear hcl hnext
      have hfin : ∀ (m : Nat) (d : List UInt8) (wa w5 : World) (v' : Value), escB c = d → Below w.heap.size wr wa → w5.ownsRow w.heap.size 5 1 v' (l.length + m) (bytesV l ++ bytesV d) → Below w.heap.size wa w5 → Hid (w5.ownsRow w.heap.size 5 1 v' (34 :: (s.data.toList.take (k + 1)).flatMap escB).length (bytesV (34 :: (s.data.toList.take (k + 1)).flatMap escB)) ∧ Below w.heap.size w w5) := by
        intro m d wa w5 v' hd hba ho hb
        refine Lib.hid ⟨?_, (HR.out.2.trans hba).trans hb⟩
        rw [HX.out d hd]
        exact own_more HR.out.1 ho
      have HF := Lib.hid hfin
      clear hfin
      obtain ⟨hi, hz0, hz1, hz2⟩ := HI.out.1
      by_cases h34 : c = 34
      · subst h34
        go_wp2_with (at_builtin; refine wpList_append_own _ rfl _ _ 176 rfl w.heap.size 5 i0 _ 1 1 Tryz.underlying176 hi hz0 hz1 hz2 rfl (by omega) _ l.length (bytesV l) rfl (HR.out.1.alloc _) ⟨wr.heap.size, 0, none⟩ 2 2 [.int .u8 92, .int .u8 34] rfl rfl (cells_newL wr [.int .u8 92, .int .u8 34] _) (by simp [Value.oneCell']) (by unfold maxLen; omega) (by omega) (by simp; omega) ?_; intro v' w5 hown5 hg5 _; have H5 := HF.out 2 [92, 34] _ w5 v' rfl ((Below.refl _ wr).alloc hsw _) hown5 ((Below.refl _ _).grown hg5 (by simp; omega) (fun j hj => (HR.out.1.lt j hj).1)); clear hown5 hg5)
        go_roundw
        case measure => simp [intOf]; omega
        case rel => exact ⟨k + 1, hlt, by simp, H5⟩
      have q34 : ((c.toNat : Int) == 34) = false := byte_ne h34
      by_cases h92 : c = 92
      · subst h92
        go_wp2_with (at_builtin; refine wpList_append_own _ rfl _ _ 176 rfl w.heap.size 5 i0 _ 1 1 Tryz.underlying176 hi hz0 hz1 hz2 rfl (by omega) _ l.length (bytesV l) rfl (HR.out.1.alloc _) ⟨wr.heap.size, 0, none⟩ 2 2 [.int .u8 92, .int .u8 92] rfl rfl (cells_newL wr [.int .u8 92, .int .u8 92] _) (by simp [Value.oneCell']) (by unfold maxLen; omega) (by omega) (by simp; omega) ?_; intro v' w5 hown5 hg5 _; have H5 := HF.out 2 [92, 92] _ w5 v' rfl ((Below.refl _ wr).alloc hsw _) hown5 ((Below.refl _ _).grown hg5 (by simp; omega) (fun j hj => (HR.out.1.lt j hj).1)); clear hown5 hg5)
        go_roundw
        case measure => simp [intOf]; omega
        case rel => exact ⟨k + 1, hlt, by simp, H5⟩
      have q92 : ((c.toNat : Int) == 92) = false := byte_ne h92
      by_cases h10 : c = 10
      · subst h10
        go_wp2_with (at_builtin; refine wpList_append_own _ rfl _ _ 176 rfl w.heap.size 5 i0 _ 1 1 Tryz.underlying176 hi hz0 hz1 hz2 rfl (by omega) _ l.length (bytesV l) rfl (HR.out.1.alloc _) ⟨wr.heap.size, 0, none⟩ 2 2 [.int .u8 92, .int .u8 110] rfl rfl (cells_newL wr [.int .u8 92, .int .u8 110] _) (by simp [Value.oneCell']) (by unfold maxLen; omega) (by omega) (by simp; omega) ?_; intro v' w5 hown5 hg5 _; have H5 := HF.out 2 [92, 110] _ w5 v' rfl ((Below.refl _ wr).alloc hsw _) hown5 ((Below.refl _ _).grown hg5 (by simp; omega) (fun j hj => (HR.out.1.lt j hj).1)); clear hown5 hg5)
        go_roundw
        case measure => simp [intOf]; omega
        case rel => exact ⟨k + 1, hlt, by simp, H5⟩
      have q10 : ((c.toNat : Int) == 10) = false := byte_ne h10
      by_cases h13 : c = 13
      · subst h13
        go_wp2_with (at_builtin; refine wpList_append_own _ rfl _ _ 176 rfl w.heap.size 5 i0 _ 1 1 Tryz.underlying176 hi hz0 hz1 hz2 rfl (by omega) _ l.length (bytesV l) rfl (HR.out.1.alloc _) ⟨wr.heap.size, 0, none⟩ 2 2 [.int .u8 92, .int .u8 114] rfl rfl (cells_newL wr [.int .u8 92, .int .u8 114] _) (by simp [Value.oneCell']) (by unfold maxLen; omega) (by omega) (by simp; omega) ?_; intro v' w5 hown5 hg5 _; have H5 := HF.out 2 [92, 114] _ w5 v' rfl ((Below.refl _ wr).alloc hsw _) hown5 ((Below.refl _ _).grown hg5 (by simp; omega) (fun j hj => (HR.out.1.lt j hj).1)); clear hown5 hg5)
        go_roundw
        case measure => simp [intOf]; omega
        case rel => exact ⟨k + 1, hlt, by simp, H5⟩
      have q13 : ((c.toNat : Int) == 13) = false := byte_ne h13
      by_cases h9 : c = 9
      · subst h9
        go_wp2_with (at_builtin; refine wpList_append_own _ rfl _ _ 176 rfl w.heap.size 5 i0 _ 1 1 Tryz.underlying176 hi hz0 hz1 hz2 rfl (by omega) _ l.length (bytesV l) rfl (HR.out.1.alloc _) ⟨wr.heap.size, 0, none⟩ 2 2 [.int .u8 92, .int .u8 116] rfl rfl (cells_newL wr [.int .u8 92, .int .u8 116] _) (by simp [Value.oneCell']) (by unfold maxLen; omega) (by omega) (by simp; omega) ?_; intro v' w5 hown5 hg5 _; have H5 := HF.out 2 [92, 116] _ w5 v' rfl ((Below.refl _ wr).alloc hsw _) hown5 ((Below.refl _ _).grown hg5 (by simp; omega) (fun j hj => (HR.out.1.lt j hj).1)); clear hown5 hg5)
        go_roundw
        case measure => simp [intOf]; omega
        case rel => exact ⟨k + 1, hlt, by simp, H5⟩
      have q9 : ((c.toNat : Int) == 9) = false := byte_ne h9
      have hno : ¬ (c = 34 ∨ c = 92) := fun h => h.elim h34 h92
      by_cases h5 : c.toNat < 32 ∨ 126 < c.toNat
      · have hd : escB c = [92, 120, hexD (c.toNat / 16), hexD (c.toNat % 16)] := by unfold escB; rw [if_neg hno, if_neg h10, if_neg h13, if_neg h9, if_pos h5]
        have HD := Lib.hid hd
        have hc8 : c.toNat < 256 := c.toNat_lt
        have b0 : (0 : Int) ≤ (c.toNat : Int) / 16 := by omega
        have b1 : (c.toNat : Int) / 16 < 16 := by omega
        have b2 : bits .and .u8 (c.toNat : Int) 15 = (c.toNat : Int) % 16 := bits_mask .u8 8 (by decide) wraps_u8 4 (by decide) (c.toNat : Int) (by omega) (by omega)
        have b3 : (0 : Int) ≤ (c.toNat : Int) % 16 := by omega
        have b4 : (c.toNat : Int) % 16 < 16 := by omega
        clear hd hno hc8
        rcases Classical.em (c.toNat < 32) with n5 | n5
        · have n5' : (c.toNat : Int) < 32 := by omega
          clear h5 n5
          go_wp2_with fail
          go_region_held3 (fun _ => True) (trivial) (first | (refine step_append_lies _ (by rfl) _ _ _ (by rfl) w.heap.size 5 i0 _ 1 1 Tryz.underlying176 hi hz0 hz1 hz2 rfl (by omega) _ l.length (bytesV l) (by rfl) (HR.out.1.alloc _) ⟨wr.heap.size, 0, none⟩ 4 4 _ (by rfl) rfl (cells_newL wr _ _) (by simp [Value.oneCell']) (by omega) (by unfold maxLen; omega) (by omega) (by simp; omega) (wr.heap.size + 1) (by simp) ?_; intro g cap w5 hown5 hg5 hl5 hlt5; have H5 := HF.out 4 _ _ w5 _ HD.out ((Below.refl _ wr).alloc hsw _).drew (by (have h6 := hown5; rw [hex_div _ b1, hex_mod _ b4] at h6; exact h6)) ((Below.refl _ _).grown hg5 (by simp; omega) (fun j hj => (HR.out.1.lt j hj).1)); clear hown5 hg5 hl5 hlt5))
          all_goals
            go_wp2
            go_roundw
            case measure => simp [intOf]; omega
            case rel => exact ⟨k + 1, hlt, by simp, H5⟩
        · have n5' : ¬ (c.toNat : Int) < 32 := by omega
          have n6' : (126 : Int) < (c.toNat : Int) := by omega
          clear h5 n5
          go_wp2_with fail
          go_region_held3 (fun _ => True) (trivial) (first | (refine step_append_lies _ (by rfl) _ _ _ (by rfl) w.heap.size 5 i0 _ 1 1 Tryz.underlying176 hi hz0 hz1 hz2 rfl (by omega) _ l.length (bytesV l) (by rfl) (HR.out.1.alloc _) ⟨wr.heap.size, 0, none⟩ 4 4 _ (by rfl) rfl (cells_newL wr _ _) (by simp [Value.oneCell']) (by omega) (by unfold maxLen; omega) (by omega) (by simp; omega) (wr.heap.size + 1) (by simp) ?_; intro g cap w5 hown5 hg5 hl5 hlt5; have H5 := HF.out 4 _ _ w5 _ HD.out ((Below.refl _ wr).alloc hsw _).drew (by (have h6 := hown5; rw [hex_div _ b1, hex_mod _ b4] at h6; exact h6)) ((Below.refl _ _).grown hg5 (by simp; omega) (fun j hj => (HR.out.1.lt j hj).1)); clear hown5 hg5 hl5 hlt5))
          all_goals
            go_wp2
            go_roundw
            case measure => simp [intOf]; omega
            case rel => exact ⟨k + 1, hlt, by simp, H5⟩
      have hd : escB c = [c] := by unfold escB; rw [if_neg hno, if_neg h10, if_neg h13, if_neg h9, if_neg h5]
      have n5 : ¬ (c.toNat : Int) < 32 := by omega
      have n6 : ¬ (126 : Int) < (c.toNat : Int) := by omega
      have HD := Lib.hid hd
      clear hd hno h5
      go_wp2_with (at_builtin; refine wpList_append_own _ rfl _ _ 176 rfl w.heap.size 5 i0 _ 1 1 Tryz.underlying176 hi hz0 hz1 hz2 rfl (by omega) _ l.length (bytesV l) rfl (HR.out.1.alloc _) ⟨wr.heap.size, 0, none⟩ 1 1 [.int .u8 c.toNat] rfl rfl (cells_newL wr [.int .u8 c.toNat] _) (by simp [Value.oneCell']) (by unfold maxLen; omega) (by omega) (by simp; omega) ?_; intro v' w5 hown5 hg5 _; have H5 := HF.out 1 [c] _ w5 v' HD.out ((Below.refl _ wr).alloc hsw _) hown5 ((Below.refl _ _).grown hg5 (by simp; omega) (fun j hj => (HR.out.1.lt j hj).1)); clear hown5 hg5)
      go_roundw
      case measure => simp [intOf]; omega
      case rel => exact ⟨k + 1, hlt, by simp, H5⟩
    · obtain rfl : k = s.size := by omega
      have hq : quoteB s.data.toList = l ++ [34] := by
        unfold quoteB
        rw [← HL.out, List.take_of_length_le (by have := HI.out.2; omega)]
        rfl
      obtain ⟨hi, hz0, hz1, hz2⟩ := HI.out.1
      have HQ := Lib.hid hq
      clear hq
      go_wp2_with (at_builtin; refine wpList_append_own _ rfl _ _ 176 rfl w.heap.size 5 i0 _ 1 1 Tryz.underlying176 hi hz0 hz1 hz2 rfl (by omega) _ l.length (bytesV l) rfl (HR.out.1.alloc _) ⟨wr.heap.size, 0, none⟩ 1 1 [.int .u8 34] rfl rfl (cells_newL wr [.int .u8 34] _) (by simp [Value.oneCell']) (by unfold maxLen; omega) (by omega) (by simp; omega) ?_)
      intro v' w5 hown5 hg5 _
      have hown6 : w5.ownsRow w.heap.size 5 1 v' (l.length + 1) (bytesV (l ++ [34])) := by
        rw [bytesV_append]
        exact hown5
      have hconv := own_text hown6
      have H5 := Lib.hid (show Below w.heap.size w w5 from (HR.out.2.trans ((Below.refl _ wr).alloc hsw _)).trans ((Below.refl _ _).grown hg5 (by simp; omega) (fun j hj => (HR.out.1.lt j hj).1)))
      clear hown5 hown6 hg5 hi hz0 hz1 hz2
      go_wp2
      go_ret
      exact ⟨by rw [HQ.out]; rfl, H5.out⟩
end Go.Proofs.YtajaijidecomdaaGreatDoor
