/- The document's whole numbers: Minus, Up. Written by genminus.py. -/
import Derived.Test.YtajaijidecomdaaGreatDoorG27
import Derived.OwnWalk
namespace Go.Proofs.YtajaijidecomdaaGreatDoor
open Go.RowKit Go.Lib

set_option maxHeartbeats 8000000 in
set_option maxRecDepth 100000 in
theorem minus_any (A B : Option Addr) (n c m c' N M : Nat) (w : World) (hA : Lst encD 1 w w.heap.size A n (FL.digs N)) (hB : Lst encD 1 w w.heap.size B m (FL.digs M)) (hle : M ≤ N) (hn : n ≤ 1000000) :
    Calls Tryz.prog 127 #[.slice A n c, .slice B m c'] w (NatPost (N - M) w) := by
  obtain ⟨i0, hi, hz0, hz1, hz2⟩ := info_parts Tryz.infoWord
  have HI := Lib.hid (show _ ∧ _ ∧ _ ∧ _ from ⟨hi, hz0, hz1, hz2⟩)
  have HL := Lib.hid (show _ ∧ _ ∧ _ ∧ _ ∧ _ from ⟨hA, hB, hA.1, hB.1, hle⟩)
  clear hi hz0 hz1 hz2 hA hB hle
  go_enter Tryz.func127, Tryz.ntmps127
  go_wp2
  go_loopw [5, 6, 7] (fun v cv iv wr => ∃ (i q : Nat) (ds : List Nat), i ≤ n ∧ q ≤ 1 ∧ cv = .int .u64 q ∧ iv = .int .i64 i ∧ Hid (wr.ownsRow w.heap.size 182 1 v i (ds.flatMap encD) ∧ FL.MinusInv N M i ds q ∧ Below w.heap.size w wr)) (fun _ _ iv _ => n - (intOf iv).toNat)
  case atStart => exact ⟨0, 0, [], by omega, by omega, rfl, rfl, Lib.hid ⟨World.ownsRow_nil _ _ _ _, FL.MinusInv.start N M, Below.refl _ _⟩⟩
  case round =>
    obtain ⟨i, q, ds, hi1, hq1, rfl, rfl, HR⟩ := hrel
    have j0 : (0 : Int) ≤ (i : Int) := by omega
    have hsz := HR.out.2.2.size
    by_cases h1 : i < n
    · obtain ⟨b, off, x, rfl, hb, hx, hcl⟩ := HL.out.1.at (k := i) h1
      have c0 := (HR.out.2.2.cell (p := ⟨b, off + i * 1 + 0, none⟩) hb).trans (hcl 0 _ rfl)
      simp only [Nat.add_zero, Nat.mul_one] at c0
      have ex := FL.digs_dig hx
      have bx : x < 4294967296 := by have := FL.dig_lt N i; omega
      have i1 : (i : Int) < (n : Int) := by omega
      clear hx hcl
      by_cases h2 : i < m
      · obtain ⟨b', off', y, rfl, hb', hy, hcl'⟩ := HL.out.2.1.at (k := i) h2
        have d0 := (HR.out.2.2.cell (p := ⟨b', off' + i * 1 + 0, none⟩) hb').trans (hcl' 0 _ rfl)
        simp only [Nat.add_zero, Nat.mul_one] at d0
        have ey := FL.digs_dig hy
        have byy : y < 4294967296 := by have := FL.dig_lt M i; omega
        have i2 : (i : Int) < (m : Int) := by omega
        clear hy hcl'
        by_cases h3 : x < q + y
        · have hst := HR.out.2.1.less (by rw [← ex, ← ey]; simpa using h3)
          rw [← ex, ← ey] at hst
          obtain ⟨d, hd⟩ : ∃ d, x + 2 ^ 32 - (q + y) = d := ⟨_, rfl⟩
          rw [hd] at hst
          have hdi : (x : Int) + 4294967296 - ((q : Int) + (y : Int)) = (d : Int) := by omega
          have bd : d < 4294967296 := by omega
          have k1 : (x : Int) < ((q : Int) + (y : Int)) := by omega
          have k2 : 0 ≤ (x : Int) + 4294967296 - ((q : Int) + (y : Int)) := by omega
          have k3 : (x : Int) + 4294967296 - ((q : Int) + (y : Int)) < 4294967296 := by omega
          have HS := Lib.hid (show _ ∧ _ from ⟨hst, hdi⟩)
          obtain ⟨hi, hz0, hz1, hz2⟩ := HI.out
          clear hst hd hdi ex ey
          go_wp2_with (first
            | (at_builtin; refine wpList_append_own _ rfl _ _ 155 rfl w.heap.size 182 i0 _ 1 4 Tryz.underlying155 hi hz0 hz1 hz2 rfl (by omega) _ i (ds.flatMap encD) rfl (HR.out.1.alloc _) ⟨wr.heap.size, 0, none⟩ 1 1 [.int .u32 ((x : Int) + 4294967296 - ((q : Int) + (y : Int)))] rfl rfl (cells_newL wr [.int .u32 ((x : Int) + 4294967296 - ((q : Int) + (y : Int)))] _) (by simp [Value.oneCell']) (by unfold maxLen; omega) (by omega) (by simp; omega) ?_)
            | fail)
          intro v1 w1 hown hg _
          rw [HS.out.2] at hown
          have HN := Lib.hid (own_next HR.out.2.2 HR.out.1 _ hown hg)
          clear hown hg hi hz0 hz1 hz2
          go_wp2
          go_roundw
          case measure => simp [intOf]; omega
          case rel => exact ⟨i + 1, 1, _, by omega, by omega, by simp, by simp, Lib.hid ⟨HN.out.1, HS.out.1, HN.out.2⟩⟩
        · have hst := HR.out.2.1.more (by rw [← ex, ← ey]; simpa using h3)
          rw [← ex, ← ey] at hst
          obtain ⟨d, hd⟩ : ∃ d, x - (q + y) = d := ⟨_, rfl⟩
          rw [hd] at hst
          have hdi : (x : Int) - ((q : Int) + (y : Int)) = (d : Int) := by omega
          have bd : d < 4294967296 := by omega
          have k1 : ¬ (x : Int) < ((q : Int) + (y : Int)) := by omega
          have k2 : 0 ≤ (x : Int) - ((q : Int) + (y : Int)) := by omega
          have k3 : (x : Int) - ((q : Int) + (y : Int)) < 4294967296 := by omega
          have HS := Lib.hid (show _ ∧ _ from ⟨hst, hdi⟩)
          obtain ⟨hi, hz0, hz1, hz2⟩ := HI.out
          clear hst hd hdi ex ey
          go_wp2_with (first
            | (at_builtin; refine wpList_append_own _ rfl _ _ 155 rfl w.heap.size 182 i0 _ 1 4 Tryz.underlying155 hi hz0 hz1 hz2 rfl (by omega) _ i (ds.flatMap encD) rfl (HR.out.1.alloc _) ⟨wr.heap.size, 0, none⟩ 1 1 [.int .u32 ((x : Int) - ((q : Int) + (y : Int)))] rfl rfl (cells_newL wr [.int .u32 ((x : Int) - ((q : Int) + (y : Int)))] _) (by simp [Value.oneCell']) (by unfold maxLen; omega) (by omega) (by simp; omega) ?_)
            | fail)
          intro v1 w1 hown hg _
          rw [HS.out.2] at hown
          have HN := Lib.hid (own_next HR.out.2.2 HR.out.1 _ hown hg)
          clear hown hg hi hz0 hz1 hz2
          go_wp2
          go_roundw
          case measure => simp [intOf]; omega
          case rel => exact ⟨i + 1, 0, _, by omega, by omega, by simp, by simp, Lib.hid ⟨HN.out.1, HS.out.1, HN.out.2⟩⟩
      · have ey : FL.dig M i = 0 := FL.dig_top (by have := HL.out.2.2.2.1; omega)
        have i2 : ¬ (i : Int) < (m : Int) := by omega
        by_cases h3 : x < q
        · have hst := HR.out.2.1.less (by rw [← ex, ey]; simpa using h3)
          rw [← ex, ey] at hst
          simp only [Nat.add_zero] at hst
          obtain ⟨d, hd⟩ : ∃ d, x + 2 ^ 32 - (q) = d := ⟨_, rfl⟩
          rw [hd] at hst
          have hdi : (x : Int) + 4294967296 - (q : Int) = (d : Int) := by omega
          have bd : d < 4294967296 := by omega
          have k1 : (x : Int) < (q : Int) := by omega
          have k2 : 0 ≤ (x : Int) + 4294967296 - (q : Int) := by omega
          have k3 : (x : Int) + 4294967296 - (q : Int) < 4294967296 := by omega
          have HS := Lib.hid (show _ ∧ _ from ⟨hst, hdi⟩)
          obtain ⟨hi, hz0, hz1, hz2⟩ := HI.out
          clear hst hd hdi ex ey
          go_wp2_with (first
            | (at_builtin; refine wpList_append_own _ rfl _ _ 155 rfl w.heap.size 182 i0 _ 1 4 Tryz.underlying155 hi hz0 hz1 hz2 rfl (by omega) _ i (ds.flatMap encD) rfl (HR.out.1.alloc _) ⟨wr.heap.size, 0, none⟩ 1 1 [.int .u32 ((x : Int) + 4294967296 - (q : Int))] rfl rfl (cells_newL wr [.int .u32 ((x : Int) + 4294967296 - (q : Int))] _) (by simp [Value.oneCell']) (by unfold maxLen; omega) (by omega) (by simp; omega) ?_)
            | fail)
          intro v1 w1 hown hg _
          rw [HS.out.2] at hown
          have HN := Lib.hid (own_next HR.out.2.2 HR.out.1 _ hown hg)
          clear hown hg hi hz0 hz1 hz2
          go_wp2
          go_roundw
          case measure => simp [intOf]; omega
          case rel => exact ⟨i + 1, 1, _, by omega, by omega, by simp, by simp, Lib.hid ⟨HN.out.1, HS.out.1, HN.out.2⟩⟩
        · have hst := HR.out.2.1.more (by rw [← ex, ey]; simpa using h3)
          rw [← ex, ey] at hst
          simp only [Nat.add_zero] at hst
          obtain ⟨d, hd⟩ : ∃ d, x - (q) = d := ⟨_, rfl⟩
          rw [hd] at hst
          have hdi : (x : Int) - (q : Int) = (d : Int) := by omega
          have bd : d < 4294967296 := by omega
          have k1 : ¬ (x : Int) < (q : Int) := by omega
          have k2 : 0 ≤ (x : Int) - (q : Int) := by omega
          have k3 : (x : Int) - (q : Int) < 4294967296 := by omega
          have HS := Lib.hid (show _ ∧ _ from ⟨hst, hdi⟩)
          obtain ⟨hi, hz0, hz1, hz2⟩ := HI.out
          clear hst hd hdi ex ey
          go_wp2_with (first
            | (at_builtin; refine wpList_append_own _ rfl _ _ 155 rfl w.heap.size 182 i0 _ 1 4 Tryz.underlying155 hi hz0 hz1 hz2 rfl (by omega) _ i (ds.flatMap encD) rfl (HR.out.1.alloc _) ⟨wr.heap.size, 0, none⟩ 1 1 [.int .u32 ((x : Int) - (q : Int))] rfl rfl (cells_newL wr [.int .u32 ((x : Int) - (q : Int))] _) (by simp [Value.oneCell']) (by unfold maxLen; omega) (by omega) (by simp; omega) ?_)
            | fail)
          intro v1 w1 hown hg _
          rw [HS.out.2] at hown
          have HN := Lib.hid (own_next HR.out.2.2 HR.out.1 _ hown hg)
          clear hown hg hi hz0 hz1 hz2
          go_wp2
          go_roundw
          case measure => simp [intOf]; omega
          case rel => exact ⟨i + 1, 0, _, by omega, by omega, by simp, by simp, Lib.hid ⟨HN.out.1, HS.out.1, HN.out.2⟩⟩
    · obtain rfl : i = n := by omega
      have hm := HR.out.2.1
      rw [← HL.out.2.2.1] at hm
      have hend := hm.end_ HL.out.2.2.2.2
      obtain ⟨A1, c1, rfl, hcall⟩ := trim_post HR.out.1 HR.out.2.2 hend
      have HT := Lib.hid hcall
      clear hend hcall hm
      go_wp2_with fail
      refine HT.out.mono ?_
      rintro e w1 ⟨A2, n2, c2, rfl, hl2, hb2⟩
      have H2 := Lib.hid (show _ ∧ _ from ⟨hl2, hb2⟩)
      clear hl2 hb2
      go_wp2
      go_ret
      exact ⟨A2, n2, c2, rfl, H2.out.1, H2.out.2⟩
set_option maxHeartbeats 8000000 in
set_option maxRecDepth 100000 in
theorem up_any (A : Option Addr) (n c N k : Nat) (w : World) (hA : Lst encD 1 w w.heap.size A n (FL.digs N)) (hn : n ≤ 1000000) (hk : k ≤ 1000000) :
    Calls Tryz.prog 134 #[.slice A n c, .int .i64 k] w (NatPost (N * 2 ^ k) w) := by
  obtain ⟨i0, hi, hz0, hz1, hz2⟩ := info_parts Tryz.infoWord
  have HI := Lib.hid (show _ ∧ _ ∧ _ ∧ _ from ⟨hi, hz0, hz1, hz2⟩)
  obtain ⟨q, hq⟩ : ∃ q, k / 32 = q := ⟨_, rfl⟩
  obtain ⟨r, hr⟩ : ∃ r, k % 32 = r := ⟨_, rfl⟩
  have hkqr : 32 * q + r = k := by omega
  have hr32 : r < 32 := by omega
  have hqi : (k : Int) / 32 = (q : Int) := by omega
  have hri : (k : Int) % 32 = (r : Int) := by omega
  have HL := Lib.hid (show _ ∧ _ ∧ _ from ⟨hA, hA.1, hkqr⟩)
  have hq6 : q ≤ 1000000 := by omega
  clear hA hq hr hkqr
  have hb4 : i0.bytes * q ≤ 281474976710656 := by rw [hz2]; omega
  have HB4 := Lib.hid hb4
  clear hb4
  go_enter Tryz.func134, Tryz.ntmps134
  go_wp2_with (first | (refine wpList_make_full _ rfl _ _ 155 rfl w.heap.size 182 i0 _ 1 Tryz.underlying155 hi hz0 hz1 .i64 .i64 _ _ q rfl rfl rfl rfl HB4.out (by unfold maxLen; omega) (Nat.le_refl _) ?_) | fail)
  intro w1 hown1 hg1
  have hm : (madeCells #[Value.int .u32 0] q).toList = (List.replicate q 0).flatMap encD := by
    rw [toList_madeCells_one]
    clear hq6 hqi HB4 HL hg1 hown1
    induction q with
    | zero => rfl
    | succ q ih => rw [List.replicate_succ, List.replicate_succ, List.flatMap_cons, ← ih]; rfl
  rw [hm] at hown1
  have hb1 : Below w.heap.size w w1 := (Below.refl _ w).grown hg1 (Nat.le_refl _) (fun j hj => by cases hj)
  have H1 := Lib.hid (show _ ∧ _ from ⟨hown1, hb1⟩)
  clear hown1 hg1 hb1 hm hi hz0 hz1 hz2 hqi
  go_wp2
  go_loopw [5, 6, 7] (fun v cv iv wr => ∃ (i t : Nat) (ds : List Nat), i ≤ n ∧ t < 2 ^ 32 ∧ cv = .int .u64 t ∧ iv = .int .i64 i ∧ Hid (wr.ownsRow w.heap.size 182 1 v (q + i) (ds.flatMap encD) ∧ FL.UpInv (FL.digs N) q r i ds t ∧ Below w.heap.size w wr)) (fun _ _ iv _ => n - (intOf iv).toNat)
  case atStart => exact ⟨0, 0, List.replicate q 0, by omega, by omega, rfl, rfl, Lib.hid ⟨H1.out.1, FL.UpInv.start _ _ _, H1.out.2⟩⟩
  case round =>
    obtain ⟨i, t, ds, hi1, ht1, rfl, rfl, HR⟩ := hrel
    have j0 : (0 : Int) ≤ (i : Int) := by omega
    have hsz := HR.out.2.2.size
    by_cases h1 : i < n
    · obtain ⟨b, off, x, rfl, hb, hx, hcl⟩ := HL.out.1.at (k := i) h1
      have c0 := (HR.out.2.2.cell (p := ⟨b, off + i * 1 + 0, none⟩) hb).trans (hcl 0 _ rfl)
      simp only [Nat.add_zero, Nat.mul_one] at c0
      have i1 : (i : Int) < (n : Int) := by omega
      have hst := HR.out.2.1.step hr32 hx (FL.words_digs N)
      have hx32 : x < 2 ^ 32 := FL.words_digs N x (List.mem_of_getElem? hx)
      obtain ⟨hor, hlt, hcy⟩ := FL.up_step x r t hx32 hr32 HR.out.2.1.2.2.1
      have hxr : x * 2 ^ r < 2 ^ 64 := by omega
      have hw1 : IntKind.u64.wrap ((x : Int) * 2 ^ r) = ((x * 2 ^ r : Nat) : Int) := by rw [← wraps_u64 ((x * 2 ^ r : Nat) : Int) (by omega) (by omega)]; congr 1
      obtain ⟨y, hy⟩ : ∃ y, x * 2 ^ r = y := ⟨_, rfl⟩
      rw [hy] at hst hor hlt hw1 hxr
      have hor2 := or64 y t (by omega) (by omega)
      rw [hor] at hor2
      obtain ⟨s, hs⟩ : ∃ s, y + t = s := ⟨_, rfl⟩
      rw [hs] at hst hlt hor2
      obtain ⟨d, hd⟩ : ∃ d, s % 2 ^ 32 = d := ⟨_, rfl⟩
      obtain ⟨t', ht'⟩ : ∃ t', s / 2 ^ 32 = t' := ⟨_, rfl⟩
      have ha := and32 s hlt
      rw [hd] at hst ha
      rw [ht'] at hst
      have hs2 : (s : Int) / 4294967296 = (t' : Int) := by omega
      have bd : d < 4294967296 := by omega
      have bt : t' < 2 ^ 32 := by omega
      have HS := Lib.hid hst
      obtain ⟨hi, hz0, hz1, hz2⟩ := HI.out
      clear hst hd ht' hs hy hx hcl hor hcy hlt
      go_wp2_with (first
        | (at_builtin; refine wpList_append_own _ rfl _ _ 155 rfl w.heap.size 182 i0 _ 1 4 Tryz.underlying155 hi hz0 hz1 hz2 rfl (by omega) _ (q + i) (ds.flatMap encD) rfl (HR.out.1.alloc _) ⟨wr.heap.size, 0, none⟩ 1 1 [.int .u32 d] rfl rfl (cells_newL wr [.int .u32 d] _) (by simp [Value.oneCell']) (by unfold maxLen; omega) (by omega) (by simp; omega) ?_)
        | fail)
      intro v1 w1 hown hg _
      have HN := Lib.hid (own_next HR.out.2.2 HR.out.1 _ hown hg)
      clear hown hg hi hz0 hz1 hz2
      go_wp2
      go_roundw
      case measure => simp [intOf]; omega
      case rel => exact ⟨i + 1, t', _, by omega, by omega, by first | (simp; done) | (simp; omega), by simp, Lib.hid ⟨HN.out.1, HS.out, HN.out.2⟩⟩
    · obtain rfl : i = n := by omega
      have hm := HR.out.2.1
      rw [← HL.out.2.1] at hm
      obtain ⟨he1, he2⟩ := hm.end_ hr32
      rw [HL.out.2.2, FL.natOf_digs] at he2
      have hend : FL.trimD (ds ++ [t]) = FL.digs (N * 2 ^ k) := by rw [FL.trim_digs _ he1, he2]
      have HE := Lib.hid hend
      obtain ⟨hi, hz0, hz1, hz2⟩ := HI.out
      clear hm he1 he2 hend
      go_wp2_with (first
        | (at_builtin; refine wpList_append_own _ rfl _ _ 155 rfl w.heap.size 182 i0 _ 1 4 Tryz.underlying155 hi hz0 hz1 hz2 rfl (by omega) _ (q + i) (ds.flatMap encD) rfl (HR.out.1.alloc _) ⟨wr.heap.size, 0, none⟩ 1 1 [.int .u32 t] rfl rfl (cells_newL wr [.int .u32 t] _) (by simp [Value.oneCell']) (by unfold maxLen; omega) (by omega) (by simp; omega) ?_)
        | fail)
      intro v1 w1 hown hg _
      have hnx := own_next HR.out.2.2 HR.out.1 _ hown hg
      obtain ⟨A1, c1, rfl, hcall⟩ := trim_post hnx.1 hnx.2 HE.out
      have HT := Lib.hid hcall
      clear hown hg hnx hcall hi hz0 hz1 hz2
      go_wp2_with fail
      refine HT.out.mono ?_
      rintro e w2 ⟨A2, n2, c2, rfl, hl2, hb2⟩
      have H2 := Lib.hid (show _ ∧ _ from ⟨hl2, hb2⟩)
      clear hl2 hb2
      go_wp2
      go_ret
      exact ⟨A2, n2, c2, rfl, H2.out.1, H2.out.2⟩
end Go.Proofs.YtajaijidecomdaaGreatDoor
