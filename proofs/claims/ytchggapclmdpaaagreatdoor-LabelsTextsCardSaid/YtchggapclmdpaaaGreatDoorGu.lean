/- The document's Quote: a text between quotes (turned from Quo7 by genrquo.py). The document's Print: a set as a text. -/
import Derived.Test.YtchggapclmdpaaaGreatDoorGe
import Derived.IntWalk
import Derived.Test.YtchggapclmdpaaaGreatDoorPrn7
namespace Go.Proofs.YtchggapclmdpaaaGreatDoor
open Go.RowKit Go.Lib

set_option maxHeartbeats 2000000 in
set_option maxRecDepth 100000 in
theorem rquote_any (s : ByteArray) (hbig : s.size ≤ 1000000) (w : World) :
    Calls Tryz.prog 54 #[.string s] w fun e w' => e = .returned (.string ⟨(quoteB s.data.toList).toArray⟩) ∧ Below w.heap.size w w' := by
  have hsz : s.size = s.data.toList.length := (Array.length_toList).symm
  obtain ⟨i0, hi, hz0, hz1, hz2⟩ := info_parts Tryz.infoByte
  have HI := Lib.hid (show (_ ∧ _ ∧ _ ∧ _) ∧ _ from ⟨⟨hi, hz0, hz1, hz2⟩, hsz⟩)
  clear hi hz0 hz1 hz2 hsz
  go_enter Tryz.func54, Tryz.ntmps54
  obtain ⟨hi, hz0, hz1, hz2⟩ := HI.out.1
  go_wp2_with (at_builtin; refine wpList_append_own _ rfl _ _ 75 rfl w.heap.size 5 i0 _ 1 1 Tryz.underlying75 hi hz0 hz1 hz2 rfl (by omega) _ 0 [] rfl (World.ownsRow_nil _ _ _ _) ⟨w.heap.size, 0, none⟩ 1 1 [.int .u8 34] rfl rfl (cells_newL w [.int .u8 34] _) (by simp [Value.oneCell']) (by unfold maxLen; omega) (by omega) (by simp) ?_; intro v1 w1 hown1 hg1 _; have H1 := Lib.hid (show w1.ownsRow w.heap.size 5 1 v1 1 (bytesV [34]) ∧ Below w.heap.size w w1 from ⟨by simpa [bytesV] using hown1, ((Below.refl _ w).alloc (Nat.le_refl _) _).grown hg1 (by simp) (fun j hj => by cases hj)⟩); clear hown1 hg1)
  clear hi hz0 hz1 hz2
  go_loopw [3, 4] (fun v i wr => ∃ k : Nat, k ≤ s.size ∧ i = .int .i64 k ∧ Hid (wr.ownsRow w.heap.size 5 1 v (34 :: (s.data.toList.take k).flatMap escB).length (bytesV (34 :: (s.data.toList.take k).flatMap escB)) ∧ Below w.heap.size w wr)) (fun _ i _ => s.size - (intOf i).toNat)
  case atStart => exact ⟨0, Nat.zero_le _, rfl, H1⟩
  case round =>
    obtain ⟨k, hk, rfl, HR⟩ := hrel
    have hlen : (34 :: (s.data.toList.take k).flatMap escB).length ≤ 1 + 4 * k := by
      have h1 := flat_escB_len (s.data.toList.take k)
      have h2 := HI.out.2
      rw [List.length_take] at h1
      rw [List.length_cons]
      omega
    obtain ⟨l, hl⟩ : ∃ l, (34 :: (s.data.toList.take k).flatMap escB : List UInt8) = l := ⟨_, rfl⟩
    rw [hl] at HR hlen
    have HL := Lib.hid hl
    clear hl
    have j0 : (0 : Int) ≤ (k : Int) := by omega
    have hsw := HR.out.2.size
    by_cases hlt : k < s.size
    · obtain ⟨c, hc⟩ : ∃ c, s[k]'hlt = c := ⟨_, rfl⟩
      have hcl : s.data.toList[k]? = some c := by
        rw [← hc, List.getElem?_eq_getElem (by have := HI.out.2; omega)]
        rfl
      have hnext : ∀ d, escB c = d → (34 :: (s.data.toList.take (k + 1)).flatMap escB : List UInt8) = l ++ d := by
        intro d hd
        obtain ⟨g1, g2⟩ := List.getElem?_eq_some_iff.1 hcl
        rw [← HL.out, List.take_succ_eq_append_getElem g1, g2, List.flatMap_append, ← hd]
        simp
      have HX := Lib.hid hnext
      have j1 : (k : Int) < (s.size : Int) := by omega
      clear hcl hnext
      have hfin : ∀ (m : Nat) (d : List UInt8) (wa w5 : World) (v' : Value), escB c = d → Below w.heap.size wr wa → w5.ownsRow w.heap.size 5 1 v' (l.length + m) (bytesV l ++ bytesV d) → Below w.heap.size wa w5 → Hid (w5.ownsRow w.heap.size 5 1 v' (34 :: (s.data.toList.take (k + 1)).flatMap escB).length (bytesV (34 :: (s.data.toList.take (k + 1)).flatMap escB)) ∧ Below w.heap.size w w5) := by
        intro m d wa w5 v' hd hba ho hb
        refine Lib.hid ⟨?_, (HR.out.2.trans hba).trans hb⟩
        rw [HX.out d hd]
        exact own_more HR.out.1 ho
      have HF := Lib.hid hfin
      clear hfin
      obtain ⟨hi, hz0, hz1, hz2⟩ := HI.out.1
      by_cases h34 : c = 34
      · subst h34
        go_wp2_with (at_builtin; refine wpList_append_own _ rfl _ _ 75 rfl w.heap.size 5 i0 _ 1 1 Tryz.underlying75 hi hz0 hz1 hz2 rfl (by omega) _ l.length (bytesV l) rfl (HR.out.1.alloc _) ⟨wr.heap.size, 0, none⟩ 2 2 [.int .u8 92, .int .u8 34] rfl rfl (cells_newL wr [.int .u8 92, .int .u8 34] _) (by simp [Value.oneCell']) (by unfold maxLen; omega) (by omega) (by simp; omega) ?_; intro v' w5 hown5 hg5 _; have H5 := HF.out 2 [92, 34] _ w5 v' rfl ((Below.refl _ wr).alloc hsw _) hown5 ((Below.refl _ _).grown hg5 (by simp; omega) (fun j hj => (HR.out.1.lt j hj).1)); clear hown5 hg5)
        go_roundw
        case measure => simp [intOf]; omega
        case rel => exact ⟨k + 1, hlt, by simp, H5⟩
      have q34 : ((c.toNat : Int) == 34) = false := byte_ne h34
      by_cases h92 : c = 92
      · subst h92
        go_wp2_with (at_builtin; refine wpList_append_own _ rfl _ _ 75 rfl w.heap.size 5 i0 _ 1 1 Tryz.underlying75 hi hz0 hz1 hz2 rfl (by omega) _ l.length (bytesV l) rfl (HR.out.1.alloc _) ⟨wr.heap.size, 0, none⟩ 2 2 [.int .u8 92, .int .u8 92] rfl rfl (cells_newL wr [.int .u8 92, .int .u8 92] _) (by simp [Value.oneCell']) (by unfold maxLen; omega) (by omega) (by simp; omega) ?_; intro v' w5 hown5 hg5 _; have H5 := HF.out 2 [92, 92] _ w5 v' rfl ((Below.refl _ wr).alloc hsw _) hown5 ((Below.refl _ _).grown hg5 (by simp; omega) (fun j hj => (HR.out.1.lt j hj).1)); clear hown5 hg5)
        go_roundw
        case measure => simp [intOf]; omega
        case rel => exact ⟨k + 1, hlt, by simp, H5⟩
      have q92 : ((c.toNat : Int) == 92) = false := byte_ne h92
      by_cases h10 : c = 10
      · subst h10
        go_wp2_with (at_builtin; refine wpList_append_own _ rfl _ _ 75 rfl w.heap.size 5 i0 _ 1 1 Tryz.underlying75 hi hz0 hz1 hz2 rfl (by omega) _ l.length (bytesV l) rfl (HR.out.1.alloc _) ⟨wr.heap.size, 0, none⟩ 2 2 [.int .u8 92, .int .u8 110] rfl rfl (cells_newL wr [.int .u8 92, .int .u8 110] _) (by simp [Value.oneCell']) (by unfold maxLen; omega) (by omega) (by simp; omega) ?_; intro v' w5 hown5 hg5 _; have H5 := HF.out 2 [92, 110] _ w5 v' rfl ((Below.refl _ wr).alloc hsw _) hown5 ((Below.refl _ _).grown hg5 (by simp; omega) (fun j hj => (HR.out.1.lt j hj).1)); clear hown5 hg5)
        go_roundw
        case measure => simp [intOf]; omega
        case rel => exact ⟨k + 1, hlt, by simp, H5⟩
      have q10 : ((c.toNat : Int) == 10) = false := byte_ne h10
      by_cases h13 : c = 13
      · subst h13
        go_wp2_with (at_builtin; refine wpList_append_own _ rfl _ _ 75 rfl w.heap.size 5 i0 _ 1 1 Tryz.underlying75 hi hz0 hz1 hz2 rfl (by omega) _ l.length (bytesV l) rfl (HR.out.1.alloc _) ⟨wr.heap.size, 0, none⟩ 2 2 [.int .u8 92, .int .u8 114] rfl rfl (cells_newL wr [.int .u8 92, .int .u8 114] _) (by simp [Value.oneCell']) (by unfold maxLen; omega) (by omega) (by simp; omega) ?_; intro v' w5 hown5 hg5 _; have H5 := HF.out 2 [92, 114] _ w5 v' rfl ((Below.refl _ wr).alloc hsw _) hown5 ((Below.refl _ _).grown hg5 (by simp; omega) (fun j hj => (HR.out.1.lt j hj).1)); clear hown5 hg5)
        go_roundw
        case measure => simp [intOf]; omega
        case rel => exact ⟨k + 1, hlt, by simp, H5⟩
      have q13 : ((c.toNat : Int) == 13) = false := byte_ne h13
      by_cases h9 : c = 9
      · subst h9
        go_wp2_with (at_builtin; refine wpList_append_own _ rfl _ _ 75 rfl w.heap.size 5 i0 _ 1 1 Tryz.underlying75 hi hz0 hz1 hz2 rfl (by omega) _ l.length (bytesV l) rfl (HR.out.1.alloc _) ⟨wr.heap.size, 0, none⟩ 2 2 [.int .u8 92, .int .u8 116] rfl rfl (cells_newL wr [.int .u8 92, .int .u8 116] _) (by simp [Value.oneCell']) (by unfold maxLen; omega) (by omega) (by simp; omega) ?_; intro v' w5 hown5 hg5 _; have H5 := HF.out 2 [92, 116] _ w5 v' rfl ((Below.refl _ wr).alloc hsw _) hown5 ((Below.refl _ _).grown hg5 (by simp; omega) (fun j hj => (HR.out.1.lt j hj).1)); clear hown5 hg5)
        go_roundw
        case measure => simp [intOf]; omega
        case rel => exact ⟨k + 1, hlt, by simp, H5⟩
      have q9 : ((c.toNat : Int) == 9) = false := byte_ne h9
      have hno : ¬ (c = 34 ∨ c = 92) := fun h => h.elim h34 h92
      by_cases h5 : c.toNat < 32 ∨ 126 < c.toNat
      · have hd : escB c = [92, 120, hexD (c.toNat / 16), hexD (c.toNat % 16)] := by unfold escB; rw [if_neg hno, if_neg h10, if_neg h13, if_neg h9, if_pos h5]
        have HD := Lib.hid hd
        have hc8 : c.toNat < 256 := c.toNat_lt
        have b0 : (0 : Int) ≤ (c.toNat : Int) / 16 := by omega
        have b1 : (c.toNat : Int) / 16 < 16 := by omega
        have b5 : (c.toNat : Int).tdiv 16 = (c.toNat : Int) / 16 := Int.tdiv_eq_ediv_of_nonneg (by omega)
        have b6 : (c.toNat : Int).tmod 16 = (c.toNat : Int) % 16 := Int.tmod_eq_emod_of_nonneg (by omega)
        have b7 : IntKind.u8.wrap ((c.toNat : Int) / 16) = (c.toNat : Int) / 16 := IntWalk.u8_in _ (by omega)
        have b8 : IntKind.u8.wrap ((c.toNat : Int) % 16) = (c.toNat : Int) % 16 := IntWalk.u8_in _ (by omega)
        have b3 : (0 : Int) ≤ (c.toNat : Int) % 16 := by omega
        have b4 : (c.toNat : Int) % 16 < 16 := by omega
        clear hd hno hc8
        rcases Classical.em (c.toNat < 32) with n5 | n5
        · have n5' : (c.toNat : Int) < 32 := by omega
          clear h5 n5
          go_wp2_with fail
          go_region_held3 (fun _ => True) (trivial) (first | (refine step_append_lies _ (by rfl) _ _ _ (by rfl) w.heap.size 5 i0 _ 1 1 Tryz.underlying75 hi hz0 hz1 hz2 rfl (by omega) _ l.length (bytesV l) (by rfl) (HR.out.1.alloc _) ⟨wr.heap.size, 0, none⟩ 4 4 _ (by rfl) rfl (cells_newL wr _ _) (by simp [Value.oneCell']) (by omega) (by unfold maxLen; omega) (by omega) (by simp; omega) (wr.heap.size + 1) (by simp) ?_; intro g cap w5 hown5 hg5 hl5 hlt5; have H5 := HF.out 4 _ _ w5 _ HD.out ((Below.refl _ wr).alloc hsw _).drew (by (have h6 := hown5; rw [hex_div _ b1, hex_mod _ b4] at h6; exact h6)) ((Below.refl _ _).grown hg5 (by simp; omega) (fun j hj => (HR.out.1.lt j hj).1)); clear hown5 hg5 hl5 hlt5))
          all_goals
            go_wp2
            go_roundw
            case measure => simp [intOf]; omega
            case rel => exact ⟨k + 1, hlt, by simp, H5⟩
        · have n5' : ¬ (c.toNat : Int) < 32 := by omega
          have n6' : (126 : Int) < (c.toNat : Int) := by omega
          clear h5 n5
          go_wp2_with fail
          go_region_held3 (fun _ => True) (trivial) (first | (refine step_append_lies _ (by rfl) _ _ _ (by rfl) w.heap.size 5 i0 _ 1 1 Tryz.underlying75 hi hz0 hz1 hz2 rfl (by omega) _ l.length (bytesV l) (by rfl) (HR.out.1.alloc _) ⟨wr.heap.size, 0, none⟩ 4 4 _ (by rfl) rfl (cells_newL wr _ _) (by simp [Value.oneCell']) (by omega) (by unfold maxLen; omega) (by omega) (by simp; omega) (wr.heap.size + 1) (by simp) ?_; intro g cap w5 hown5 hg5 hl5 hlt5; have H5 := HF.out 4 _ _ w5 _ HD.out ((Below.refl _ wr).alloc hsw _).drew (by (have h6 := hown5; rw [hex_div _ b1, hex_mod _ b4] at h6; exact h6)) ((Below.refl _ _).grown hg5 (by simp; omega) (fun j hj => (HR.out.1.lt j hj).1)); clear hown5 hg5 hl5 hlt5))
          all_goals
            go_wp2
            go_roundw
            case measure => simp [intOf]; omega
            case rel => exact ⟨k + 1, hlt, by simp, H5⟩
      have hd : escB c = [c] := by unfold escB; rw [if_neg hno, if_neg h10, if_neg h13, if_neg h9, if_neg h5]
      have n5 : ¬ (c.toNat : Int) < 32 := by omega
      have n6 : ¬ (126 : Int) < (c.toNat : Int) := by omega
      have HD := Lib.hid hd
      clear hd hno h5
      go_wp2_with (at_builtin; refine wpList_append_own _ rfl _ _ 75 rfl w.heap.size 5 i0 _ 1 1 Tryz.underlying75 hi hz0 hz1 hz2 rfl (by omega) _ l.length (bytesV l) rfl (HR.out.1.alloc _) ⟨wr.heap.size, 0, none⟩ 1 1 [.int .u8 c.toNat] rfl rfl (cells_newL wr [.int .u8 c.toNat] _) (by simp [Value.oneCell']) (by unfold maxLen; omega) (by omega) (by simp; omega) ?_; intro v' w5 hown5 hg5 _; have H5 := HF.out 1 [c] _ w5 v' HD.out ((Below.refl _ wr).alloc hsw _) hown5 ((Below.refl _ _).grown hg5 (by simp; omega) (fun j hj => (HR.out.1.lt j hj).1)); clear hown5 hg5)
      go_roundw
      case measure => simp [intOf]; omega
      case rel => exact ⟨k + 1, hlt, by simp, H5⟩
    · obtain rfl : k = s.size := by omega
      have hq : quoteB s.data.toList = l ++ [34] := by
        unfold quoteB
        rw [← HL.out, List.take_of_length_le (by have := HI.out.2; omega)]
        rfl
      obtain ⟨hi, hz0, hz1, hz2⟩ := HI.out.1
      have HQ := Lib.hid hq
      clear hq
      go_wp2_with (at_builtin; refine wpList_append_own _ rfl _ _ 75 rfl w.heap.size 5 i0 _ 1 1 Tryz.underlying75 hi hz0 hz1 hz2 rfl (by omega) _ l.length (bytesV l) rfl (HR.out.1.alloc _) ⟨wr.heap.size, 0, none⟩ 1 1 [.int .u8 34] rfl rfl (cells_newL wr [.int .u8 34] _) (by simp [Value.oneCell']) (by unfold maxLen; omega) (by omega) (by simp; omega) ?_)
      intro v' w5 hown5 hg5 _
      have hown6 : w5.ownsRow w.heap.size 5 1 v' (l.length + 1) (bytesV (l ++ [34])) := by
        rw [bytesV_append]
        exact hown5
      have hconv := own_text hown6
      have H5 := Lib.hid (show Below w.heap.size w w5 from (HR.out.2.trans ((Below.refl _ wr).alloc hsw _)).trans ((Below.refl _ _).grown hg5 (by simp; omega) (fun j hj => (HR.out.1.lt j hj).1)))
      clear hown5 hown6 hg5 hi hz0 hz1 hz2
      go_wp2
      go_ret
      exact ⟨by rw [HQ.out]; rfl, H5.out⟩
end Go.Proofs.YtchggapclmdpaaaGreatDoor
namespace Go.Proofs.YtchggapclmdpaaaGreatDoor
open Go.RowKit Go.Lib

/-- What is printed of the first labels. -/
def preB (l : List Lb) : List UInt8 := 123 :: Lib.join (l.map prnB) [44, 32]
theorem preB_end (l : List Lb) : preB l ++ [125] = printB l := by unfold preB printB; simp
theorem preB_one (x : Lb) : preB [x] = preB [] ++ x.nm.data.toList ++ [61] ++ quoteB x.vl.data.toList := by
  unfold preB prnB
  simp only [List.map_cons, List.map_nil, Lib.join_one, Lib.join_nil]
  simp
theorem preB_more (l : List Lb) (hl : l ≠ []) (x : Lb) : preB (l ++ [x]) = preB l ++ [44, 32] ++ x.nm.data.toList ++ [61] ++ quoteB x.vl.data.toList := by
  unfold preB prnB
  obtain ⟨y, r, rfl⟩ := List.exists_cons_of_ne_nil hl
  rw [List.cons_append, List.map_cons, List.map_cons, Lib.join_cons, Lib.join_cons]
  simp [Lib.joinTail, List.append_assoc]
theorem preB_len {l : List Lb} (hn : l.length ≤ 1000) (hsz : ∀ x ∈ l, x.nm.size ≤ 100000 ∧ x.vl.size ≤ 100000) : (preB l).length ≤ 1000000000 := by
  have h1 := join_len (l := l) (m := 500003) (fun x hx => by have h2 := prnB_len x; have h3 := hsz x hx; omega) [44, 32]
  have h3 : l.length * ([44, 32].length + 500003) ≤ 1000 * ([(44 : UInt8), 32].length + 500003) := Nat.mul_le_mul_right _ (by omega)
  unfold preB
  simp only [List.length_cons, List.length_nil] at h1 h3 ⊢
  omega
set_option maxHeartbeats 4000000 in
set_option maxRecDepth 100000 in
theorem rprint_any (A : Option Addr) (n c : Nat) (l : List Lb) (w : World) (hL : Lst Lb.cells 2 w w.heap.size A n l) (hn : n ≤ 1000) (hsz : ∀ x ∈ l, x.nm.size ≤ 100000 ∧ x.vl.size ≤ 100000) :
    Calls Tryz.prog 17 #[.slice A n c] w fun e w' => e = .returned (.string ⟨(printB l).toArray⟩) ∧ Below w.heap.size w w' := by
  have HL := Lib.hid (show _ ∧ _ from ⟨hL, hsz⟩)
  clear hL hsz
  go_enter Tryz.func17, Tryz.ntmps17
  go_wp2
  go_loopw [3, 4] (fun v iv wr => ∃ (k : Nat) (S : ByteArray), k ≤ n ∧ iv = .int .i64 k ∧ v = .string S ∧ Hid (S.data.toList = preB (l.take k) ∧ Below w.heap.size w wr)) (fun _ iv _ => n - (intOf iv).toNat)
  case atStart => exact ⟨0, ⟨#[123]⟩, Nat.zero_le _, rfl, rfl, Lib.hid ⟨rfl, Below.refl _ _⟩⟩
  case round =>
    obtain ⟨k, S, hk, rfl, rfl, HR⟩ := hrel
    have hS : S.size ≤ 1000000000 := by
      have h1 : S.size = S.data.toList.length := (Array.length_toList).symm
      rw [h1, HR.out.1]
      exact preB_len (by rw [List.length_take]; omega) (fun x hx => HL.out.2 x (List.mem_of_mem_take hx))
    have i0 : (0 : Int) ≤ (k : Int) := by omega
    by_cases hlt : k < n
    · obtain ⟨b, off, x, rfl, hb, hx, hcl⟩ := HL.out.1.at hlt
      have hxs := HL.out.2 x (List.mem_of_getElem? hx)
      have htk : l.take (k + 1) = l.take k ++ [x] := by
        obtain ⟨g1, g2⟩ := List.getElem?_eq_some_iff.1 hx
        rw [List.take_succ_eq_append_getElem g1, g2]
      have c0 := (HR.out.2.cell (p := ⟨b, off + k * 2 + 0, none⟩) hb).trans (hcl 0 _ rfl)
      have c1 := (HR.out.2.cell (p := ⟨b, off + k * 2 + 1, none⟩) hb).trans (hcl 1 _ rfl)
      simp only [Nat.add_zero] at c0
      have hsw := HR.out.2.size
      have j1 : (k : Int) < (n : Int) := by omega
      obtain ⟨qt, hqt⟩ : ∃ qt : ByteArray, ⟨(quoteB x.vl.data.toList).toArray⟩ = qt := ⟨_, rfl⟩
      have hqd : qt.data.toList = quoteB x.vl.data.toList := by rw [← hqt]
      have hq := fun W => rquote_any x.vl (by have := hxs.2; omega) W
      rw [hqt] at hq
      have hqs : qt.size ≤ 400002 := by
        have h1 : qt.size = qt.data.toList.length := (Array.length_toList).symm
        have h2 := quoteB_len x.vl.data.toList
        have h3 : x.vl.size = x.vl.data.toList.length := (Array.length_toList).symm
        rw [hqd] at h1
        omega
      have HQ := Lib.hid hq
      rcases Nat.eq_zero_or_pos k with hk0 | hkp
      · subst hk0
        simp only [Nat.zero_mul, Nat.add_zero] at c0 c1
        have HC := Lib.hid (show _ ∧ _ from ⟨c0, c1⟩)
        have hfin : ∀ w' : World, Below w.heap.size w w' → Hid ((S ++ x.nm ++ ⟨#[61]⟩ ++ qt : ByteArray).data.toList = preB (l.take (0 + 1)) ∧ Below w.heap.size w w') := fun w' h => by
          refine Lib.hid ⟨?_, h⟩
          rw [htk, List.take_zero, List.nil_append, preB_one, ← hqd]
          have h5 := HR.out.1
          rw [List.take_zero] at h5
          rw [← h5]
          simp [ByteArray.data_append]
        have HF := Lib.hid hfin
        have z1 : ¬ 9223372036854775807 < S.size + x.nm.size := by have := hxs.1; omega
        have z2 : ¬ 9223372036854775807 < S.size + x.nm.size + 1 := by have := hxs.1; omega
        have z3 : ¬ 9223372036854775807 < S.size + x.nm.size + 1 + qt.size := by have := hxs.1; omega
        clear hqt hqd hq hqs hfin htk hx hcl hxs hS
        go_wp2_with fail
        go_region_held3 (fun w' => w'.cell? ⟨b, off, none⟩ = some (.string x.nm) ∧ w'.cell? ⟨b, off + 1, none⟩ = some (.string x.vl)) (first | exact k6 | exact HC.out | go_keep)
          (first | (go_at_call 54; refine (HQ.out _).mono ?_; rintro e w2 ⟨rfl, hb2⟩; have k6 := cell_seen2 hb2 HC.out; have H2 := HF.out w2 (HR.out.2.drew.trans (hb2.mono hsw)); clear hb2))
        all_goals
          go_wp2
          go_roundw
          case measure => simp [intOf]; omega
          case rel => exact ⟨1, _, hlt, rfl, rfl, H2⟩
      · have hfin : ∀ w' : World, Below w.heap.size w w' → Hid ((S ++ ⟨#[44, 32]⟩ ++ x.nm ++ ⟨#[61]⟩ ++ qt : ByteArray).data.toList = preB (l.take (k + 1)) ∧ Below w.heap.size w w') := fun w' h => by
          refine Lib.hid ⟨?_, h⟩
          rw [htk, preB_more _ (fun e => by have := congrArg List.length e; rw [List.length_take, List.length_nil] at this; have := HL.out.1.1; omega), ← hqd, ← HR.out.1]
          simp [ByteArray.data_append]
        have HF := Lib.hid hfin
        have j0 : (0 : Int) < (k : Int) := by omega
        have HC := Lib.hid (show _ ∧ _ from ⟨c0, c1⟩)
        have z0 : ¬ 9223372036854775807 < S.size + 2 := by omega
        have z1 : ¬ 9223372036854775807 < S.size + 2 + x.nm.size := by have := hxs.1; omega
        have z2 : ¬ 9223372036854775807 < S.size + 2 + x.nm.size + 1 := by have := hxs.1; omega
        have z3 : ¬ 9223372036854775807 < S.size + 2 + x.nm.size + 1 + qt.size := by have := hxs.1; omega
        clear hqt hqd hq hqs hfin htk hx hcl hxs hS
        go_wp2_with fail
        go_region_held3 (fun w' => w'.cell? ⟨b, off + k * 2, none⟩ = some (.string x.nm) ∧ w'.cell? ⟨b, off + k * 2 + 1, none⟩ = some (.string x.vl)) (first | exact k6 | exact HC.out | go_keep)
          (first | (go_at_call 54; refine (HQ.out _).mono ?_; rintro e w2 ⟨rfl, hb2⟩; have k6 := cell_seen2 hb2 HC.out; have H2 := HF.out w2 (HR.out.2.drew.trans (hb2.mono hsw)); clear hb2))
        all_goals
          go_wp2
          go_roundw
          case measure => simp [intOf]; omega
          case rel => exact ⟨k + 1, _, hlt, by go_num, rfl, H2⟩
    · obtain rfl : k = n := by omega
      have he : S ++ ⟨#[125]⟩ = (⟨(printB l).toArray⟩ : ByteArray) := by
        have h5 := HR.out.1
        rw [List.take_of_length_le (by have := HL.out.1.1; omega)] at h5
        rw [← preB_end, ← h5]
        apply ByteArray.ext
        apply Array.ext'
        simp [ByteArray.data_append]
      have z0 : ¬ 9223372036854775807 < S.size + 1 := by omega
      have HE := Lib.hid he
      clear he hS
      go_wp2
      go_ret
      refine ⟨?_, HR.out.2⟩
      rw [← HE.out]
      rfl
end Go.Proofs.YtchggapclmdpaaaGreatDoor
