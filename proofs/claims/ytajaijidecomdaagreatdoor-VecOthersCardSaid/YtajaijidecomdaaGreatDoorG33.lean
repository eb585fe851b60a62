/- text.Quote: a text between quotes. labels.Print: labels as a text. -/
import Derived.Test.YtajaijidecomdaaGreatDoorG12
import Derived.Below
import Derived.Laws.BitsLemmas
import Derived.Deep.AppendLies
import Derived.Test.YtajaijidecomdaaGreatDoorG09
import Derived.Shelf.Strings.OnBuilder
import Derived.Lib.Join
namespace Go.Proofs.YtajaijidecomdaaGreatDoor
open Go.RowKit Go.Lib

/-- A digit of a number to base 16. -/
def hexD (n : Nat) : UInt8 := if n < 10 then UInt8.ofNat (48 + n) else UInt8.ofNat (87 + n)
/-- A byte, as it stands between quotes. -/
def escB (c : UInt8) : List UInt8 :=
  if c = 34 ∨ c = 92 then [92, c] else if c = 10 then [92, 110] else if c = 13 then [92, 114] else if c = 9 then [92, 116]
  else if c.toNat < 32 ∨ 126 < c.toNat then [92, 120, hexD (c.toNat / 16), hexD (c.toNat % 16)] else [c]
def quoteB (s : List UInt8) : List UInt8 := 34 :: (s.flatMap escB ++ [34])
theorem escB_len (c : UInt8) : (escB c).length ≤ 4 := by unfold escB; split <;> (try split) <;> (try split) <;> (try split) <;> (try split) <;> simp
theorem flat_escB_len : ∀ s : List UInt8, (s.flatMap escB).length ≤ 4 * s.length
  | [] => by simp
  | c :: s => by
    rw [List.flatMap_cons, List.length_append, List.length_cons]
    have := escB_len c
    have := flat_escB_len s
    omega
theorem hex_at (j : Nat) (h : j < 16) : (⟨#[48, 49, 50, 51, 52, 53, 54, 55, 56, 57, 97, 98, 99, 100, 101, 102]⟩ : ByteArray)[j]'h = hexD j := by
  have : j = 0 ∨ j = 1 ∨ j = 2 ∨ j = 3 ∨ j = 4 ∨ j = 5 ∨ j = 6 ∨ j = 7 ∨ j = 8 ∨ j = 9 ∨ j = 10 ∨ j = 11 ∨ j = 12 ∨ j = 13 ∨ j = 14 ∨ j = 15 := by omega
  rcases this with rfl | rfl | rfl | rfl | rfl | rfl | rfl | rfl | rfl | rfl | rfl | rfl | rfl | rfl | rfl | rfl <;> rfl
theorem hex_div (n : Nat) (_hn : (n : Int) / 16 < 16) (h : ((n : Int) / 16).toNat < 16) : (⟨#[48, 49, 50, 51, 52, 53, 54, 55, 56, 57, 97, 98, 99, 100, 101, 102]⟩ : ByteArray)[((n : Int) / 16).toNat]'h = hexD (n / 16) := hex_at (n / 16) h
theorem hex_mod (n : Nat) (_hn : (n : Int) % 16 < 16) (h : ((n : Int) % 16).toNat < 16) : (⟨#[48, 49, 50, 51, 52, 53, 54, 55, 56, 57, 97, 98, 99, 100, 101, 102]⟩ : ByteArray)[((n : Int) % 16).toNat]'h = hexD (n % 16) := hex_at (n % 16) h
/-- A row of bytes that grows. -/
theorem own_more {w w5 : World} {B n m : Nat} {v v' : Value} {l d : List UInt8} (h : w.ownsRow B 5 1 v n (bytesV l)) (ho : w5.ownsRow B 5 1 v' (n + m) (bytesV l ++ bytesV d)) : w5.ownsRow B 5 1 v' (l ++ d).length (bytesV (l ++ d)) := by
  have h1 := h.1
  have h2 := ho.1
  rw [bytesV_length] at h1
  rw [List.length_append, bytesV_length, bytesV_length] at h2
  rw [bytesV_append, List.length_append]
  have : n + m = l.length + d.length := by omega
  rw [← this]
  exact ho
set_option maxHeartbeats 2000000 in
set_option maxRecDepth 100000 in
theorem quote_any (s : ByteArray) (hbig : s.size ≤ 1000000) (w : World) :
    Calls Tryz.prog 243 #[.string s] w fun e w' => e = .returned (.string ⟨(quoteB s.data.toList).toArray⟩) ∧ Below w.heap.size w w' := by
  have hsz : s.size = s.data.toList.length := (Array.length_toList).symm
  obtain ⟨i0, hi, hz0, hz1, hz2⟩ := info_parts Tryz.infoByte
  have HI := Lib.hid (show (_ ∧ _ ∧ _ ∧ _) ∧ _ from ⟨⟨hi, hz0, hz1, hz2⟩, hsz⟩)
  clear hi hz0 hz1 hz2 hsz
  go_enter Tryz.func243, Tryz.ntmps243
  go_wp2
  go_loopw [3, 9] (fun v i wr => ∃ k : Nat, k ≤ s.size ∧ i = .int .i64 k ∧ Hid (wr.ownsRow w.heap.size 5 1 v (34 :: (s.data.toList.take k).flatMap escB).length (bytesV (34 :: (s.data.toList.take k).flatMap escB)) ∧ Below w.heap.size w wr)) (fun _ i _ => s.size - (intOf i).toNat)
  case atStart => exact ⟨0, Nat.zero_le _, rfl, Lib.hid ⟨owns_fresh (Nat.le_refl _) 5 [.int .u8 34] (by decide), (Below.refl _ _).alloc (Nat.le_refl _) _⟩⟩
  case round =>
    obtain ⟨k, hk, rfl, HR⟩ := hrel
    have hlen : (34 :: (s.data.toList.take k).flatMap escB).length ≤ 1 + 4 * k := by
      have h1 := flat_escB_len (s.data.toList.take k)
      have h2 := HI.out.2
      rw [List.length_take] at h1
      rw [List.length_cons]
      omega
    obtain ⟨l, hl⟩ : ∃ l, (34 :: (s.data.toList.take k).flatMap escB : List UInt8) = l := ⟨_, rfl⟩
    rw [hl] at HR hlen
    have HL := Lib.hid hl
    clear hl
    have j0 : (0 : Int) ≤ (k : Int) := by omega
    have hsw := HR.out.2.size
    by_cases hlt : k < s.size
    · obtain ⟨c, hc⟩ : ∃ c, s[k]'hlt = c := ⟨_, rfl⟩
      have hcl : s.data.toList[k]? = some c := by
        rw [← hc, List.getElem?_eq_getElem (by have := HI.out.2; omega)]
        rfl
      have hnext : ∀ d, escB c = d → (34 :: (s.data.toList.take (k + 1)).flatMap escB : List UInt8) = l ++ d := by
        intro d hd
        obtain ⟨g1, g2⟩ := List.getElem?_eq_some_iff.1 hcl
        rw [← HL.out, List.take_succ_eq_append_getElem g1, g2, List.flatMap_append, ← hd]
        simp
      have HX := Lib.hid hnext
      have j1 : (k : Int) < (s.size : Int) := by omega
      clear hcl hnext
      have hfin : ∀ (m : Nat) (d : List UInt8) (wa w5 : World) (v' : Value), escB c = d → Below w.heap.size wr wa → w5.ownsRow w.heap.size 5 1 v' (l.length + m) (bytesV l ++ bytesV d) → Below w.heap.size wa w5 → Hid (w5.ownsRow w.heap.size 5 1 v' (34 :: (s.data.toList.take (k + 1)).flatMap escB).length (bytesV (34 :: (s.data.toList.take (k + 1)).flatMap escB)) ∧ Below w.heap.size w w5) := by
        intro m d wa w5 v' hd hba ho hb
        refine Lib.hid ⟨?_, (HR.out.2.trans hba).trans hb⟩
        rw [HX.out d hd]
        exact own_more HR.out.1 ho
      have HF := Lib.hid hfin
      clear hfin
      obtain ⟨hi, hz0, hz1, hz2⟩ := HI.out.1
      by_cases h34 : c = 34
      · subst h34
        go_wp2_with (at_builtin; refine wpList_append_own _ rfl _ _ 176 rfl w.heap.size 5 i0 _ 1 1 Tryz.underlying176 hi hz0 hz1 hz2 rfl (by omega) _ l.length (bytesV l) rfl (HR.out.1.alloc _) ⟨wr.heap.size, 0, none⟩ 2 2 [.int .u8 92, .int .u8 34] rfl rfl (cells_newL wr [.int .u8 92, .int .u8 34] _) (by simp [Value.oneCell']) (by unfold maxLen; omega) (by omega) (by simp; omega) ?_; intro v' w5 hown5 hg5 _; have H5 := HF.out 2 [92, 34] _ w5 v' rfl ((Below.refl _ wr).alloc hsw _) hown5 ((Below.refl _ _).grown hg5 (by simp; omega) (fun j hj => (HR.out.1.lt j hj).1)); clear hown5 hg5)
        go_roundw
        case measure => simp [intOf]; omega
        case rel => exact ⟨k + 1, hlt, by simp, H5⟩
      have q34 : ((c.toNat : Int) == 34) = false := byte_ne h34
      by_cases h92 : c = 92
      · subst h92
        go_wp2_with (at_builtin; refine wpList_append_own _ rfl _ _ 176 rfl w.heap.size 5 i0 _ 1 1 Tryz.underlying176 hi hz0 hz1 hz2 rfl (by omega) _ l.length (bytesV l) rfl (HR.out.1.alloc _) ⟨wr.heap.size, 0, none⟩ 2 2 [.int .u8 92, .int .u8 92] rfl rfl (cells_newL wr [.int .u8 92, .int .u8 92] _) (by simp [Value.oneCell']) (by unfold maxLen; omega) (by omega) (by simp; omega) ?_; intro v' w5 hown5 hg5 _; have H5 := HF.out 2 [92, 92] _ w5 v' rfl ((Below.refl _ wr).alloc hsw _) hown5 ((Below.refl _ _).grown hg5 (by simp; omega) (fun j hj => (HR.out.1.lt j hj).1)); clear hown5 hg5)
        go_roundw
        case measure => simp [intOf]; omega
        case rel => exact ⟨k + 1, hlt, by simp, H5⟩
      have q92 : ((c.toNat : Int) == 92) = false := byte_ne h92
      by_cases h10 : c = 10
      · subst h10
        go_wp2_with (at_builtin; refine wpList_append_own _ rfl _ _ 176 rfl w.heap.size 5 i0 _ 1 1 Tryz.underlying176 hi hz0 hz1 hz2 rfl (by omega) _ l.length (bytesV l) rfl (HR.out.1.alloc _) ⟨wr.heap.size, 0, none⟩ 2 2 [.int .u8 92, .int .u8 110] rfl rfl (cells_newL wr [.int .u8 92, .int .u8 110] _) (by simp [Value.oneCell']) (by unfold maxLen; omega) (by omega) (by simp; omega) ?_; intro v' w5 hown5 hg5 _; have H5 := HF.out 2 [92, 110] _ w5 v' rfl ((Below.refl _ wr).alloc hsw _) hown5 ((Below.refl _ _).grown hg5 (by simp; omega) (fun j hj => (HR.out.1.lt j hj).1)); clear hown5 hg5)
        go_roundw
        case measure => simp [intOf]; omega
        case rel => exact ⟨k + 1, hlt, by simp, H5⟩
      have q10 : ((c.toNat : Int) == 10) = false := byte_ne h10
      by_cases h13 : c = 13
      · subst h13
        go_wp2_with (at_builtin; refine wpList_append_own _ rfl _ _ 176 rfl w.heap.size 5 i0 _ 1 1 Tryz.underlying176 hi hz0 hz1 hz2 rfl (by omega) _ l.length (bytesV l) rfl (HR.out.1.alloc _) ⟨wr.heap.size, 0, none⟩ 2 2 [.int .u8 92, .int .u8 114] rfl rfl (cells_newL wr [.int .u8 92, .int .u8 114] _) (by simp [Value.oneCell']) (by unfold maxLen; omega) (by omega) (by simp; omega) ?_; intro v' w5 hown5 hg5 _; have H5 := HF.out 2 [92, 114] _ w5 v' rfl ((Below.refl _ wr).alloc hsw _) hown5 ((Below.refl _ _).grown hg5 (by simp; omega) (fun j hj => (HR.out.1.lt j hj).1)); clear hown5 hg5)
        go_roundw
        case measure => simp [intOf]; omega
        case rel => exact ⟨k + 1, hlt, by simp, H5⟩
      have q13 : ((c.toNat : Int) == 13) = false := byte_ne h13
      by_cases h9 : c = 9
      · subst h9
        go_wp2_with (at_builtin; refine wpList_append_own _ rfl _ _ 176 rfl w.heap.size 5 i0 _ 1 1 Tryz.underlying176 hi hz0 hz1 hz2 rfl (by omega) _ l.length (bytesV l) rfl (HR.out.1.alloc _) ⟨wr.heap.size, 0, none⟩ 2 2 [.int .u8 92, .int .u8 116] rfl rfl (cells_newL wr [.int .u8 92, .int .u8 116] _) (by simp [Value.oneCell']) (by unfold maxLen; omega) (by omega) (by simp; omega) ?_; intro v' w5 hown5 hg5 _; have H5 := HF.out 2 [92, 116] _ w5 v' rfl ((Below.refl _ wr).alloc hsw _) hown5 ((Below.refl _ _).grown hg5 (by simp; omega) (fun j hj => (HR.out.1.lt j hj).1)); clear hown5 hg5)
        go_roundw
        case measure => simp [intOf]; omega
        case rel => exact ⟨k + 1, hlt, by simp, H5⟩
      have q9 : ((c.toNat : Int) == 9) = false := byte_ne h9
      have hno : ¬ (c = 34 ∨ c = 92) := fun h => h.elim h34 h92
      by_cases h5 : c.toNat < 32 ∨ 126 < c.toNat
      · have hd : escB c = [92, 120, hexD (c.toNat / 16), hexD (c.toNat % 16)] := by unfold escB; rw [if_neg hno, if_neg h10, if_neg h13, if_neg h9, if_pos h5]
        have HD := Lib.hid hd
        have hc8 : c.toNat < 256 := c.toNat_lt
        have b0 : (0 : Int) ≤ (c.toNat : Int) / 16 := by omega
        have b1 : (c.toNat : Int) / 16 < 16 := by omega
        have b2 : bits .and .u8 (c.toNat : Int) 15 = (c.toNat : Int) % 16 := bits_mask .u8 8 (by decide) wraps_u8 4 (by decide) (c.toNat : Int) (by omega) (by omega)
        have b3 : (0 : Int) ≤ (c.toNat : Int) % 16 := by omega
        have b4 : (c.toNat : Int) % 16 < 16 := by omega
        clear hd hno hc8
        rcases Classical.em (c.toNat < 32) with n5 | n5
        · have n5' : (c.toNat : Int) < 32 := by omega
          clear h5 n5
          go_wp2_with fail
          go_region_held3 (fun _ => True) (trivial) (first | (refine step_append_lies _ (by rfl) _ _ _ (by rfl) w.heap.size 5 i0 _ 1 1 Tryz.underlying176 hi hz0 hz1 hz2 rfl (by omega) _ l.length (bytesV l) (by rfl) (HR.out.1.alloc _) ⟨wr.heap.size, 0, none⟩ 4 4 _ (by rfl) rfl (cells_newL wr _ _) (by simp [Value.oneCell']) (by omega) (by unfold maxLen; omega) (by omega) (by simp; omega) (wr.heap.size + 1) (by simp) ?_; intro g cap w5 hown5 hg5 hl5 hlt5; have H5 := HF.out 4 _ _ w5 _ HD.out ((Below.refl _ wr).alloc hsw _).drew (by (have h6 := hown5; rw [hex_div _ b1, hex_mod _ b4] at h6; exact h6)) ((Below.refl _ _).grown hg5 (by simp; omega) (fun j hj => (HR.out.1.lt j hj).1)); clear hown5 hg5 hl5 hlt5))
          all_goals
            go_wp2
            go_roundw
            case measure => simp [intOf]; omega
            case rel => exact ⟨k + 1, hlt, by simp, H5⟩
        · have n5' : ¬ (c.toNat : Int) < 32 := by omega
          have n6' : (126 : Int) < (c.toNat : Int) := by omega
          clear h5 n5
          go_wp2_with fail
          go_region_held3 (fun _ => True) (trivial) (first | (refine step_append_lies _ (by rfl) _ _ _ (by rfl) w.heap.size 5 i0 _ 1 1 Tryz.underlying176 hi hz0 hz1 hz2 rfl (by omega) _ l.length (bytesV l) (by rfl) (HR.out.1.alloc _) ⟨wr.heap.size, 0, none⟩ 4 4 _ (by rfl) rfl (cells_newL wr _ _) (by simp [Value.oneCell']) (by omega) (by unfold maxLen; omega) (by omega) (by simp; omega) (wr.heap.size + 1) (by simp) ?_; intro g cap w5 hown5 hg5 hl5 hlt5; have H5 := HF.out 4 _ _ w5 _ HD.out ((Below.refl _ wr).alloc hsw _).drew (by (have h6 := hown5; rw [hex_div _ b1, hex_mod _ b4] at h6; exact h6)) ((Below.refl _ _).grown hg5 (by simp; omega) (fun j hj => (HR.out.1.lt j hj).1)); clear hown5 hg5 hl5 hlt5))
          all_goals
            go_wp2
            go_roundw
            case measure => simp [intOf]; omega
            case rel => exact ⟨k + 1, hlt, by simp, H5⟩
      have hd : escB c = [c] := by unfold escB; rw [if_neg hno, if_neg h10, if_neg h13, if_neg h9, if_neg h5]
      have n5 : ¬ (c.toNat : Int) < 32 := by omega
      have n6 : ¬ (126 : Int) < (c.toNat : Int) := by omega
      have HD := Lib.hid hd
      clear hd hno h5
      go_wp2_with (at_builtin; refine wpList_append_own _ rfl _ _ 176 rfl w.heap.size 5 i0 _ 1 1 Tryz.underlying176 hi hz0 hz1 hz2 rfl (by omega) _ l.length (bytesV l) rfl (HR.out.1.alloc _) ⟨wr.heap.size, 0, none⟩ 1 1 [.int .u8 c.toNat] rfl rfl (cells_newL wr [.int .u8 c.toNat] _) (by simp [Value.oneCell']) (by unfold maxLen; omega) (by omega) (by simp; omega) ?_; intro v' w5 hown5 hg5 _; have H5 := HF.out 1 [c] _ w5 v' HD.out ((Below.refl _ wr).alloc hsw _) hown5 ((Below.refl _ _).grown hg5 (by simp; omega) (fun j hj => (HR.out.1.lt j hj).1)); clear hown5 hg5)
      go_roundw
      case measure => simp [intOf]; omega
      case rel => exact ⟨k + 1, hlt, by simp, H5⟩
    · obtain rfl : k = s.size := by omega
      have hq : quoteB s.data.toList = l ++ [34] := by
        unfold quoteB
        rw [← HL.out, List.take_of_length_le (by have := HI.out.2; omega)]
        rfl
      obtain ⟨hi, hz0, hz1, hz2⟩ := HI.out.1
      have HQ := Lib.hid hq
      clear hq
      go_wp2_with (at_builtin; refine wpList_append_own _ rfl _ _ 176 rfl w.heap.size 5 i0 _ 1 1 Tryz.underlying176 hi hz0 hz1 hz2 rfl (by omega) _ l.length (bytesV l) rfl (HR.out.1.alloc _) ⟨wr.heap.size, 0, none⟩ 1 1 [.int .u8 34] rfl rfl (cells_newL wr [.int .u8 34] _) (by simp [Value.oneCell']) (by unfold maxLen; omega) (by omega) (by simp; omega) ?_)
      intro v' w5 hown5 hg5 _
      have hown6 : w5.ownsRow w.heap.size 5 1 v' (l.length + 1) (bytesV (l ++ [34])) := by
        rw [bytesV_append]
        exact hown5
      have hconv := own_text hown6
      have H5 := Lib.hid (show Below w.heap.size w w5 from (HR.out.2.trans ((Below.refl _ wr).alloc hsw _)).trans ((Below.refl _ _).grown hg5 (by simp; omega) (fun j hj => (HR.out.1.lt j hj).1)))
      clear hown5 hown6 hg5 hi hz0 hz1 hz2
      go_wp2
      go_ret
      exact ⟨by rw [HQ.out]; rfl, H5.out⟩
end Go.Proofs.YtajaijidecomdaaGreatDoor
namespace Go.Proofs.YtajaijidecomdaaGreatDoor
open Go.RowKit Go.Lib

theorem cell_seen2 {w w' : World} (hb : Below w.heap.size w w') {p1 p2 : Addr} {v1 v2 : Value} (h : w.cell? p1 = some v1 ∧ w.cell? p2 = some v2) :
    w'.cell? p1 = some v1 ∧ w'.cell? p2 = some v2 := ⟨(hb.cell (World.block_lt_of_cell? w _ h.1)).trans h.1, (hb.cell (World.block_lt_of_cell? w _ h.2)).trans h.2⟩
/-- A label in a block of its own. -/
def LabBox (w : World) (b : Nat) (x y : ByteArray) : Prop := w.heap[b]? = some (.cells #[.string x, .string y] 104 (0, 0))
section
variable {w w' : World} {b : Nat} {x y : ByteArray}
theorem LabBox.c0 (h : LabBox w b x y) : w.cell? ⟨b, 0, none⟩ = some (.string x) := by rw [cell_of_row w b 0 _ _ (0, 0) h]; rfl
theorem LabBox.c1 (h : LabBox w b x y) : w.cell? ⟨b, 1, none⟩ = some (.string y) := by rw [cell_of_row w b 1 _ _ (0, 0) h]; rfl
theorem LabBox.f0 (h : LabBox w b x y) : w.frozen? ⟨b, 0, none⟩ = false := by unfold World.frozen?; rw [show w.heap[b]? = _ from h]; rfl
theorem LabBox.f1 (h : LabBox w b x y) : w.frozen? ⟨b, 1, none⟩ = false := by unfold World.frozen?; rw [show w.heap[b]? = _ from h]; rfl
theorem LabBox.lt (h : LabBox w b x y) : b < w.heap.size := (Array.getElem?_eq_some_iff.1 h).1
theorem LabBox.set0 (h : LabBox w b x y) (z : ByteArray) : LabBox (w.setCell ⟨b, 0, none⟩ (.string z)) b z y := heap_setCell_same w b 0 _ _ _ h
theorem LabBox.set1 (h : LabBox w b x y) (z : ByteArray) : LabBox (w.setCell ⟨b, 1, none⟩ (.string z)) b x z := heap_setCell_same w b 1 _ _ _ h
theorem LabBox.grown {bk : Nat} (h : LabBox w b x y) (hg : GrownIn (fun k => k = bk) w w') (hne : b ≠ bk) : LabBox w' b x y := (hg.block b h.lt hne).trans h
theorem LabBox.all (h : LabBox w b x y) : w.cell? ⟨b, 0, none⟩ = some (.string x) ∧ w.cell? ⟨b, 1, none⟩ = some (.string y) ∧ w.frozen? ⟨b, 0, none⟩ = false ∧ w.frozen? ⟨b, 1, none⟩ = false := ⟨h.c0, h.c1, h.f0, h.f1⟩
end
theorem labBox_new (w : World) (x y : ByteArray) : LabBox (w.alloc (.cells #[.string x, .string y] 104)) w.heap.size x y := heap_alloc_new w _
theorem LabBox.kept {S : Nat → Prop} {w w' : World} {b : Nat} {x y : ByteArray} (h : LabBox w b x y) (hg : GrownIn S w w') (hn : ¬ S b) : LabBox w' b x y := (hg.block b h.lt hn).trans h
theorem LabBox.held {w : World} {b : Nat} {x y : ByteArray} (h : LabBox w b x y) : w.cell? ⟨b, 0, none⟩ = some (.string x) ∧ w.cell? ⟨b, 1, none⟩ = some (.string y) := ⟨h.c0, h.c1⟩

theorem Tryz.joinExtra : Go.Proofs.Builder.Extra Tryz.prog Tryz.lJoin_ren where
  sizeBuilder := by kernel_rfl
  liesBuilder := by kernel_rfl
  t5 := Tryz.underlying5
  a5 := Tryz.isAgg5
  z5 := Tryz.sizeOf5
  v5 := Tryz.zeroValue5
  infoByte := by kernel_rfl
  cellsByte := by kernel_rfl
  sizeByte := by kernel_rfl
  neB5 := by decide
theorem Tryz.infoText : (Tryz.prog.info? 9).map (fun i => (i.zero, i.size, i.bytes)) = some (some (.string ByteArray.empty), 1, 16) := by kernel_rfl
def textsV (l : List ByteArray) : List Value := l.map Value.string
theorem textsV_length (l : List ByteArray) : (textsV l).length = l.length := by unfold textsV; rw [List.length_map]
/-- Joined, from a row of the call's own. -/
theorem join_own {w : World} {B n : Nat} {v : Value} {l : List ByteArray} (h : w.ownsRow B 9 1 v n (textsV l)) (sep : ByteArray) (hn : n ≤ 1000000) (hlen : (Lib.join (l.map (·.data.toList)) sep.data.toList).length ≤ 140737488355328) :
    Calls Tryz.prog 244 #[v, .string sep] w fun e w' => e = .returned (.string ⟨(Lib.join (l.map (·.data.toList)) sep.data.toList).toArray⟩) ∧ Below w.heap.size w w' := by
  have hl : l.length = n := by have := h.1; rw [textsV_length] at this; simpa using this
  rcases h.2 with ⟨rfl, rfl⟩ | ⟨g, cap, cur, rfl, _, hg, hc, _, _, _⟩
  · obtain rfl := List.length_eq_zero_iff.1 hl
    refine (Any.strings_Join_none Tryz.lJoin Tryz.joinExtra none 0 sep w).mono ?_
    rintro e w' ⟨rfl, rfl⟩
    exact ⟨rfl, Below.refl _ _⟩
  · subst hl
    refine Any.strings_Join Tryz.lJoin Tryz.joinExtra g 0 cap l sep w (fun j x hx => ?_) (Array.getElem?_eq_some_iff.1 hg).1 (by omega) hc hlen
    rw [Nat.zero_add]
    exact owns_cell h rfl (by unfold textsV; rw [List.getElem?_map, hx]; rfl)
/-- A label in a set that is printed. -/
def prnB (x : Lb) : List UInt8 := x.nm.data.toList ++ 61 :: quoteB x.vl.data.toList
def prnT (x : Lb) : ByteArray := ⟨(prnB x).toArray⟩
def printB (l : List Lb) : List UInt8 := 123 :: (Lib.join (l.map prnB) [44, 32] ++ [125])
theorem prn_eq (x : Lb) : x.nm ++ ⟨#[61]⟩ ++ ⟨(quoteB x.vl.data.toList).toArray⟩ = prnT x := by
  unfold prnT prnB
  apply ByteArray.ext
  apply Array.ext'
  simp [ByteArray.data_append]
theorem quoteB_len (s : List UInt8) : (quoteB s).length ≤ 4 * s.length + 2 := by
  unfold quoteB
  have := flat_escB_len s
  rw [List.length_cons, List.length_append, List.length_singleton]
  omega
theorem prnB_len (x : Lb) : (prnB x).length ≤ x.nm.size + 4 * x.vl.size + 3 := by
  have h1 : x.nm.size = x.nm.data.toList.length := (Array.length_toList).symm
  have h2 : x.vl.size = x.vl.data.toList.length := (Array.length_toList).symm
  unfold prnB
  have := quoteB_len x.vl.data.toList
  rw [List.length_append, List.length_cons]
  omega
theorem joinTail_len {l : List Lb} {m : Nat} (h : ∀ x ∈ l, (prnB x).length ≤ m) (sep : List UInt8) : (Lib.joinTail sep (l.map prnB)).length ≤ l.length * (sep.length + m) := by
  induction l with
  | nil => simp [Lib.joinTail]
  | cons x l ih =>
    have h1 := ih fun y hy => h y (List.mem_cons_of_mem _ hy)
    have h2 := h x (by simp)
    have e : (Lib.joinTail sep ((x :: l).map prnB)).length = sep.length + (prnB x).length + (Lib.joinTail sep (l.map prnB)).length := by
      unfold Lib.joinTail
      simp
      omega
    rw [e, List.length_cons, Nat.succ_mul]
    omega
theorem join_len {l : List Lb} {m : Nat} (h : ∀ x ∈ l, (prnB x).length ≤ m) (sep : List UInt8) : (Lib.join (l.map prnB) sep).length ≤ l.length * (sep.length + m) := by
  cases l with
  | nil => simp [Lib.join_nil]
  | cons x l =>
    rw [List.map_cons, Lib.join_cons, List.length_append, List.length_cons, Nat.succ_mul]
    have h1 := h x (by simp)
    have h2 := joinTail_len (fun y hy => h y (List.mem_cons_of_mem _ hy)) sep
    omega
set_option maxHeartbeats 2000000 in
set_option maxRecDepth 100000 in
theorem print_any (A : Option Addr) (n c : Nat) (l : List Lb) (w : World) (hL : Lst Lb.cells 2 w w.heap.size A n l) (hn : n ≤ 100000) (hsz : ∀ x ∈ l, x.nm.size ≤ 100000 ∧ x.vl.size ≤ 100000) :
    Calls Tryz.prog 199 #[.slice A n c] w fun e w' => e = .returned (.string ⟨(printB l).toArray⟩) ∧ Below w.heap.size w w' := by
  obtain ⟨i0, hi, hz0, hz1, hz2⟩ := info_parts Tryz.infoText
  have HI := Lib.hid (show _ ∧ _ ∧ _ ∧ _ from ⟨hi, hz0, hz1, hz2⟩)
  have HL := Lib.hid (show _ ∧ _ from ⟨hL, hsz⟩)
  clear hi hz0 hz1 hz2 hL hsz
  go_enter Tryz.func199, Tryz.ntmps199
  go_wp2
  go_loopw [3, 8] (fun v iv wr => ∃ k : Nat, k ≤ n ∧ iv = .int .i64 k ∧ Hid (wr.ownsRow w.heap.size 9 1 v k (textsV ((l.take k).map prnT)) ∧ Below w.heap.size w wr)) (fun _ iv _ => n - (intOf iv).toNat)
  case atStart => exact ⟨0, Nat.zero_le _, rfl, Lib.hid ⟨World.ownsRow_nil _ _ _ _, Below.refl _ _⟩⟩
  case round =>
    obtain ⟨k, hk, rfl, HR⟩ := hrel
    by_cases hlt : k < n
    · obtain ⟨b, off, x, rfl, hb, hx, hcl⟩ := HL.out.1.at hlt
      have hxs := HL.out.2 x (List.mem_of_getElem? hx)
      have hnext : textsV ((l.take (k + 1)).map prnT) = textsV ((l.take k).map prnT) ++ [.string (prnT x)] := by
        obtain ⟨g1, g2⟩ := List.getElem?_eq_some_iff.1 hx
        rw [List.take_succ_eq_append_getElem g1, g2]
        unfold textsV
        simp
      have c0 := (HR.out.2.cell (p := ⟨b, off + k * 2 + 0, none⟩) hb).trans (hcl 0 _ rfl)
      have c1 := (HR.out.2.cell (p := ⟨b, off + k * 2 + 1, none⟩) hb).trans (hcl 1 _ rfl)
      simp only [Nat.add_zero] at c0
      have hsw := HR.out.2.size
      have HX := Lib.hid (show _ ∧ _ from ⟨hnext, hxs⟩)
      have hb0 := labBox_new wr x.nm x.vl
      have hb0d : LabBox (wr.alloc (.cells #[.string x.nm, .string x.vl] 104)).drew wr.heap.size x.nm x.vl := labBox_new wr x.nm x.vl
      have hbd : Below w.heap.size w (wr.alloc (.cells #[.string x.nm, .string x.vl] 104)).drew := (HR.out.2.alloc hsw _).drew
      have hod : (wr.alloc (.cells #[.string x.nm, .string x.vl] 104)).drew.ownsRow w.heap.size 9 1 u3 k (textsV ((l.take k).map prnT)) := HR.out.1.alloc _
      have HB := Lib.hid (show _ ∧ _ ∧ _ ∧ _ from ⟨hb0, hb0d, hbd, hod⟩)
      obtain ⟨qt, hqt⟩ : ∃ qt : ByteArray, ⟨(quoteB x.vl.data.toList).toArray⟩ = qt := ⟨_, rfl⟩
      have he := prn_eq x
      have hq := fun W => quote_any x.vl (by have := hxs.2; omega) W
      rw [hqt] at he hq
      have hqs : qt.size ≤ 400002 := by
        have h1 : qt.size = (quoteB x.vl.data.toList).length := by rw [← hqt]; simp [ByteArray.size]
        have h2 := quoteB_len x.vl.data.toList
        have h3 : x.vl.size = x.vl.data.toList.length := (Array.length_toList).symm
        omega
      have z1 : ¬ 9223372036854775807 < x.nm.size + 1 := by have := hxs.1; omega
      have z2 : ¬ 9223372036854775807 < x.nm.size + 1 + qt.size := by have := hxs.1; omega
      have HQ := Lib.hid hq
      clear hqt hq hqs
      clear hb0 hb0d hbd hod hcl hx hnext hxs
      obtain ⟨hi, hz0, hz1, hz2⟩ := HI.out
      go_wp2_with fail
      go_region_held3 (fun w' => w'.cell? ⟨wr.heap.size, 0, none⟩ = some (.string x.nm) ∧ w'.cell? ⟨wr.heap.size, 1, none⟩ = some (.string x.vl)) (first | exact k6 | exact HB.out.1.held | go_keep)
        (first
          | (go_at_call 243; refine (HQ.out _).mono ?_; rintro e w2 ⟨rfl, hb2⟩; have k6 := cell_seen2 hb2 HB.out.2.1.held; have H2 := Lib.hid (show _ ∧ _ ∧ _ from ⟨HB.out.2.2.1.trans (hb2.mono HB.out.2.2.1.size), owns_below HB.out.2.2.2 hb2, LabBox.kept HB.out.2.1 (GrownIn.of_below hb2) (by have := HB.out.2.1.lt; omega)⟩); have hs2 := H2.out.1.size; clear hb2)
          | (refine step_append_lies _ (by rfl) _ _ _ (by rfl) w.heap.size 9 i0 _ 1 16 Tryz.underlying78 hi hz0 hz1 hz2 rfl (by omega) _ k (textsV ((l.take k).map prnT)) (by rfl) (by exact H2.out.2.1.alloc _) ⟨w2.heap.size, 0, none⟩ 1 1 [.string (prnT x)] (by rfl) (by rfl) (by exact cells_newL w2 [.string (prnT x)] _) (by simp [Value.oneCell']) (by omega) (by unfold maxLen; omega) (by omega) (by simp; omega) (w2.heap.size + 1) (by simp) ?_; intro g5 c5 w5 hown5 hg5 hl5 hlt5; have k6 : w5.cell? ⟨wr.heap.size, 0, none⟩ = some (.string x.nm) ∧ w5.cell? ⟨wr.heap.size, 1, none⟩ = some (.string x.vl) := LabBox.held (LabBox.kept (show LabBox (w2.alloc (.cells #[.string (prnT x)] 9)) wr.heap.size x.nm x.vl from (heap_alloc_old w2 _ H2.out.2.2.lt).trans H2.out.2.2) (show GrownIn _ (w2.alloc (.cells #[.string (prnT x)] 9)) w5 from GrownIn.of_grownBy hg5) (fun h => by have := (HR.out.1.lt _ h).2; omega)); have H5 := Lib.hid (show w5.ownsRow w.heap.size 9 1 _ (k + 1) (textsV ((l.take (k + 1)).map prnT)) ∧ Below w.heap.size w w5 from ⟨by (rw [HX.out.1]; exact hown5), (H2.out.1.alloc hs2 _).grown hg5 (by simp; omega) (fun j hj => (HR.out.1.lt j hj).1)⟩); clear hown5 hg5 hl5 hlt5))
      all_goals
        go_wp2
        go_roundw
        case measure => simp [intOf]; omega
        case rel => exact ⟨k + 1, hlt, by simp, H5⟩
    · obtain rfl : k = n := by omega
      have hj : (Lib.join ((l.map prnT).map (·.data.toList)) [44, 32]) = Lib.join (l.map prnB) [44, 32] := by
        rw [List.map_map]
        rfl
      have hR := HR.out.1
      rw [List.take_of_length_le (by have := HL.out.1.1; omega)] at hR
      have hjl : (Lib.join (l.map prnB) [44, 32]).length ≤ 100000000000 := by
        have h1 := join_len (l := l) (m := 500003) (fun x hx => by have h2 := prnB_len x; have h3 := HL.out.2 x hx; omega) [44, 32]
        have h2 := HL.out.1.1
        have h3 : l.length * ([44, 32].length + 500003) ≤ 100000 * ([(44 : UInt8), 32].length + 500003) := Nat.mul_le_mul_right _ (by omega)
        simp at h3
        simp at h1
        omega
      have hc := join_own hR ⟨#[44, 32]⟩ (by omega) (by rw [show (⟨#[44, 32]⟩ : ByteArray).data.toList = [44, 32] from rfl, hj]; omega)
      rw [show (⟨#[44, 32]⟩ : ByteArray).data.toList = [44, 32] from rfl, hj] at hc
      obtain ⟨jt, hjt⟩ : ∃ jt : ByteArray, ⟨(Lib.join (l.map prnB) [44, 32]).toArray⟩ = jt := ⟨_, rfl⟩
      rw [hjt] at hc
      have hjs : jt.size ≤ 100000000000 := by rw [← hjt]; simpa [ByteArray.size] using hjl
      have he : (⟨#[123]⟩ : ByteArray) ++ jt ++ ⟨#[125]⟩ = ⟨(printB l).toArray⟩ := by
        rw [← hjt]
        unfold printB
        apply ByteArray.ext
        apply Array.ext'
        simp [ByteArray.data_append]
      have z1 : ¬ 9223372036854775807 < 1 + jt.size := by omega
      have z2 : ¬ 9223372036854775807 < 1 + jt.size + 1 := by omega
      have HJ := Lib.hid hc
      clear hc hR hj hjl hjt hjs
      go_wp2_with (go_at_call 244; refine HJ.out.mono ?_; rintro e w2 ⟨rfl, hb2⟩; have H2 := Lib.hid (HR.out.2.trans (hb2.mono HR.out.2.size)); clear hb2)
      go_ret
      exact ⟨rfl, H2.out⟩
end Go.Proofs.YtajaijidecomdaaGreatDoor
