/- The document's whole numbers: From, Low, Less, Bit. The document's whole numbers: Plus, Minus, Up. Written by genplus.py. -/
import Derived.Test.YtajaijidecomdaaGreatDoorG25
import Derived.Test.YtajaijidecomdaaGreatDoorNt4
import Derived.Lib.Hide
import Derived.Laws.OwnMore
namespace Go.Proofs.YtajaijidecomdaaGreatDoor
open Go.RowKit Go.Lib

theorem and32 (n : Nat) (h : n < 2 ^ 64) : bits .and .u64 (n : Int) 4294967295 = ((n % 2 ^ 32 : Nat) : Int) := by
  have h := (bits_nat .u64 64 (by decide) wraps_u64 n (2 ^ 32 - 1) h (by decide)).1
  rw [Nat.and_two_pow_sub_one_eq_mod] at h
  exact h
theorem or64 (a b : Nat) (ha : a < 2 ^ 64) (hb : b < 2 ^ 64) : bits .or .u64 (a : Int) (b : Int) = ((a ||| b : Nat) : Int) := (bits_nat .u64 64 (by decide) wraps_u64 a b ha hb).2
/-- A whole number that is handed back. -/
def NatPost (N : Nat) (w : World) (e : Ending) (w' : World) : Prop := ∃ A n c, e = .returned (.slice A n c) ∧ Lst encD 1 w' w'.heap.size A n (FL.digs N) ∧ Below w.heap.size w w' ∧ ∀ ad, A = some ad → w.heap.size ≤ ad.block
theorem own_fresh {w : World} {B n m c s : Nat} {e : TypeId} {A : Option Addr} {xs : List Value} (h : w.ownsRow B e s (.slice A n c) m xs) : ∀ ad, A = some ad → B ≤ ad.block := by
  rintro ad rfl
  rcases h.2 with ⟨h', _⟩ | ⟨g, cap, cur, h', hb, _⟩
  · cases h'
  · cases h'; exact hb
set_option maxHeartbeats 4000000 in
set_option maxRecDepth 100000 in
theorem from_any (n : Nat) (hn : n < 2 ^ 64) (w : World) : Calls Tryz.prog 132 #[.int .u64 n] w (NatPost n w) := by
  obtain ⟨i0, hi, hz0, hz1, hz2⟩ := info_parts Tryz.infoWord
  have hd := FL.from_digs n hn
  have ha := and32 n hn
  obtain ⟨d0, h0⟩ : ∃ d, n % 2 ^ 32 = d := ⟨_, rfl⟩
  obtain ⟨d1, h1⟩ : ∃ d, n / 2 ^ 32 = d := ⟨_, rfl⟩
  have hs : (n : Int) / 4294967296 = (d1 : Int) := by omega
  have b0 : d0 < 4294967296 := by omega
  have b1 : d1 < 4294967296 := by omega
  rw [h0] at hd ha
  rw [h1] at hd
  have HD := Lib.hid hd
  clear hd h0 h1 hn
  go_enter Tryz.func132, Tryz.ntmps132
  go_wp2_with (first
    | (at_builtin; refine wpList_append_own _ rfl _ _ 155 rfl w.heap.size 182 i0 _ 1 4 Tryz.underlying155 hi hz0 hz1 hz2 rfl (by omega) _ 0 [] rfl (World.ownsRow_nil _ _ _ _) ⟨w.heap.size, 0, none⟩ 2 2 [.int .u32 d0, .int .u32 d1] rfl rfl (cells_newL w [.int .u32 d0, .int .u32 d1] _) (by simp [Value.oneCell']) (by unfold maxLen; omega) (by omega) (by simp) ?_)
    | fail)
  intro v5 w5 hown5 hg5 _
  obtain ⟨A5, c5, rfl, hl5, hc1, hc2⟩ := natAt_own (ds := [d0, d1]) hown5
  have hold5 : Below w.heap.size w w5 := ((Below.refl _ w).alloc (Nat.le_refl _) _).grown hg5 (by simp) (fun j hj => by simp [Value.ownBlock] at hj)
  have ht := trim_any A5 2 c5 [d0, d1] w5 hl5 hc1 hc2
  rw [HD.out] at ht
  have HT := Lib.hid (show _ ∧ _ ∧ _ from ⟨ht, hold5, own_fresh hown5⟩)
  clear hown5 hg5 hl5 hc1 hc2 hold5 ht hi hz0 hz1 hz2
  go_wp2_with (first | (go_at_call 190; refine HT.out.1.mono ?_; rintro e w6 ⟨rfl, hl6, hb6⟩; have H6 := Lib.hid (show _ ∧ _ from ⟨hl6, HT.out.2.1.trans (hb6.mono HT.out.2.1.size)⟩); clear hl6 hb6))
  go_ret
  exact ⟨A5, _, c5, rfl, H6.out.1, H6.out.2, HT.out.2.2⟩
set_option maxHeartbeats 4000000 in
set_option maxRecDepth 100000 in
theorem less_any (A B : Option Addr) (n c m c' N M : Nat) (w : World) (hA : Lst encD 1 w w.heap.size A n (FL.digs N)) (hB : Lst encD 1 w w.heap.size B m (FL.digs M)) (hn : n ≤ 1000000) (hm : m ≤ 1000000) :
    Calls Tryz.prog 126 #[.slice A n c, .slice B m c'] w fun e w' => e = .returned (.int .i64 (FL.lessR N M)) ∧ Below w.heap.size w w' := by
  have la := hA.1
  have lb := hB.1
  rcases Nat.lt_trichotomy n m with h | h | h
  · have hr : FL.lessR N M = -1 := if_pos (FL.less_len (by omega))
    rw [hr]
    have i1 : (n : Int) < (m : Int) := by omega
    have i2 : ((n : Int) == (m : Int)) = false := beq_eq_false_iff_ne.2 (by omega)
    have i3 : ((n : Int) != (m : Int)) = true := by rw [bne, i2]; rfl
    clear hA hB la lb hr
    go_enter Tryz.func126, Tryz.ntmps126
    go_wp2
    go_ret
    exact ⟨rfl, Below.refl _ _⟩
  · subst h
    have HL := Lib.hid (show _ ∧ _ ∧ _ ∧ _ ∧ _ from ⟨hA, hB, la, lb, FL.less_start (N := N) (M := M) (by omega)⟩)
    clear hA hB la lb
    go_enter Tryz.func126, Tryz.ntmps126
    go_wp2
    go_loopw [5] (fun iv wr => ∃ (k : Nat) (q : Int), k ≤ n ∧ q = (k : Int) - 1 ∧ iv = .int .i64 q ∧ Hid (N / 2 ^ (32 * k) = M / 2 ^ (32 * k)) ∧ Below w.heap.size w wr) (fun iv _ => (intOf iv + 1).toNat)
    case atStart => exact ⟨n, _, Nat.le_refl _, rfl, by simp, Lib.hid (by have := HL.out.2.2.2.2; rw [HL.out.2.2.1] at this; exact this), Below.refl _ _⟩
    case round =>
      obtain ⟨k, q, hk, hq, rfl, HR, hbl⟩ := hrel
      cases k with
      | zero =>
        obtain rfl : q = -1 := by simpa using hq
        have he := FL.less_end HR.out
        have hr : FL.lessR N M = 0 := by unfold FL.lessR; rw [if_neg (by omega), if_neg (by omega)]
        have HE := Lib.hid hr
        clear hr he hq
        go_wp2
        go_ret
        exact ⟨by rw [HE.out]; rfl, hbl⟩
      | succ j =>
        obtain rfl : q = (j : Int) := by omega
        obtain ⟨b, off, x, rfl, hb, hx, hcl⟩ := HL.out.1.at (k := j) (by omega)
        obtain ⟨b', off', y, rfl, hb', hy, hcl'⟩ := HL.out.2.1.at (k := j) (by omega)
        have c0 := (hbl.cell (p := ⟨b, off + j * 1 + 0, none⟩) hb).trans (hcl 0 _ rfl)
        have d0 := (hbl.cell (p := ⟨b', off' + j * 1 + 0, none⟩) hb').trans (hcl' 0 _ rfl)
        simp only [Nat.add_zero, Nat.mul_one] at c0 d0
        have ex := FL.digs_dig hx
        have ey := FL.digs_dig hy
        have i1 : (0 : Int) ≤ (j : Int) := by omega
        have i2 : (j : Int) < (n : Int) := by omega
        have HX := Lib.hid (show _ ∧ _ from ⟨ex, ey⟩)
        clear hx hy hcl hcl' ex ey hq
        rcases Nat.lt_trichotomy x y with h | h | h
        · have hr : FL.lessR N M = -1 := if_pos (FL.less_step HR.out (by rw [← HX.out.1, ← HX.out.2]; exact h))
          have HE := Lib.hid hr
          have j1 : (x : Int) < (y : Int) := by omega
          clear hr h
          go_wp2_with (go_quiet (fail))
          go_ret
          exact ⟨by rw [HE.out]; rfl, by first | exact hbl | exact below_drewN hbl _⟩
        · have HN := Lib.hid (FL.less_same HR.out (by rw [← HX.out.1, ← HX.out.2]; exact h))
          have j1 : ¬ (x : Int) < (y : Int) := by omega
          have j2 : ¬ (y : Int) < (x : Int) := by omega
          subst h
          go_wp2_with (go_quiet (fail))
          go_roundw
          case measure => simp [intOf]
          case rel => exact ⟨j, _, by omega, rfl, by simp, HN, by first | exact hbl | exact below_drewN hbl _ | exact below_drewN (below_drewN hbl _) _⟩
        · have hr : FL.lessR N M = 1 := by
            have h1 := FL.less_step HR.out.symm (by rw [← HX.out.1, ← HX.out.2]; exact h)
            unfold FL.lessR
            rw [if_neg (by omega), if_pos h1]
          have HE := Lib.hid hr
          have j1 : ¬ (x : Int) < (y : Int) := by omega
          have j2 : (y : Int) < (x : Int) := by omega
          clear hr h
          go_wp2_with (go_quiet (fail))
          go_ret
          exact ⟨by rw [HE.out]; rfl, by first | exact hbl | exact below_drewN hbl _ | exact below_drewN (below_drewN hbl _) _⟩
  · have hr : FL.lessR N M = 1 := by
      have h1 := FL.less_len (N := M) (M := N) (by omega)
      unfold FL.lessR
      rw [if_neg (by omega), if_pos h1]
    rw [hr]
    have i1 : ¬ (n : Int) < (m : Int) := by omega
    have i2 : ((n : Int) == (m : Int)) = false := beq_eq_false_iff_ne.2 (by omega)
    have i3 : ((n : Int) != (m : Int)) = true := by rw [bne, i2]; rfl
    clear hA hB la lb hr
    go_enter Tryz.func126, Tryz.ntmps126
    go_wp2
    go_ret
    exact ⟨rfl, Below.refl _ _⟩
end Go.Proofs.YtajaijidecomdaaGreatDoor
namespace Go.Proofs.YtajaijidecomdaaGreatDoor
open Go.RowKit Go.Lib

theorem encD_flat (ds : List Nat) (d : Nat) : (ds ++ [d]).flatMap encD = ds.flatMap encD ++ [.int .u32 d] := by rw [List.flatMap_append]; rfl
/-- Behind the loop: what stands there is trimmed. -/
theorem trim_post {w wr : World} {v : Value} {n N : Nat} {ds : List Nat} (ho : wr.ownsRow w.heap.size 182 1 v n (ds.flatMap encD)) (hb : Below w.heap.size w wr) (ht : FL.trimD ds = FL.digs N) :
    ∃ A c, v = .slice A n c ∧ Calls Tryz.prog 190 #[.slice A n c] wr (NatPost N w) := by
  obtain ⟨A, c, rfl, h1, h2, h3⟩ := natAt_own ho
  refine ⟨A, c, rfl, (trim_any A n c ds wr h1 h2 h3).mono ?_⟩
  rintro e w' ⟨rfl, hl, hb'⟩
  rw [ht] at hl ⊢
  exact ⟨A, _, c, rfl, hl, hb.trans (hb'.mono hb.size), own_fresh ho⟩
theorem own_next {w wr w1 : World} {v v' : Value} {n : Nat} {ds : List Nat} {d : Nat} (hb : Below w.heap.size w wr) (ho : wr.ownsRow w.heap.size 182 1 v n (ds.flatMap encD)) (o : Obj)
    (h1 : w1.ownsRow w.heap.size 182 1 v' (n + 1) (ds.flatMap encD ++ [.int .u32 d])) (hg : (wr.alloc o).grownBy w1 v.ownBlock) :
    w1.ownsRow w.heap.size 182 1 v' (n + 1) ((ds ++ [d]).flatMap encD) ∧ Below w.heap.size w w1 := by
  refine ⟨by rw [encD_flat]; exact h1, (hb.alloc hb.size _).grown hg (by have := hb.size; simp; omega) (fun j hj => (ho.lt j hj).1)⟩

set_option maxHeartbeats 8000000 in
set_option maxRecDepth 100000 in
theorem plus_any (A B : Option Addr) (n c m c' N M : Nat) (w : World) (hA : Lst encD 1 w w.heap.size A n (FL.digs N)) (hB : Lst encD 1 w w.heap.size B m (FL.digs M)) (hn : n ≤ 1000000) (hm : m ≤ 1000000) :
    Calls Tryz.prog 125 #[.slice A n c, .slice B m c'] w (NatPost (N + M) w) := by
  obtain ⟨i0, hi, hz0, hz1, hz2⟩ := info_parts Tryz.infoWord
  have HI := Lib.hid (show _ ∧ _ ∧ _ ∧ _ from ⟨hi, hz0, hz1, hz2⟩)
  have HL := Lib.hid (show _ ∧ _ ∧ _ ∧ _ from ⟨hA, hB, hA.1, hB.1⟩)
  clear hi hz0 hz1 hz2 hA hB
  go_enter Tryz.func125, Tryz.ntmps125
  go_wp2
  go_loopw [5, 6, 7] (fun v cv iv wr => ∃ (i q : Nat) (ds : List Nat), i ≤ max n m + 1 ∧ q ≤ 1 ∧ (q = 1 → i ≤ max n m) ∧ cv = .int .u64 q ∧ iv = .int .i64 i ∧ Hid (wr.ownsRow w.heap.size 182 1 v i (ds.flatMap encD) ∧ FL.PlusInv N M i ds q ∧ Below w.heap.size w wr)) (fun _ cv iv _ => 2 * (max n m - (intOf iv).toNat) + (intOf cv).toNat)
  case atStart => exact ⟨0, 0, [], by omega, by omega, by omega, rfl, rfl, Lib.hid ⟨World.ownsRow_nil _ _ _ _, FL.PlusInv.start N M, Below.refl _ _⟩⟩
  case round =>
    obtain ⟨i, q, ds, hi1, hq1, hqi, rfl, rfl, HR⟩ := hrel
    have j0 : (0 : Int) ≤ (i : Int) := by omega
    have hsz := HR.out.2.2.size
    by_cases h1 : i < n <;> by_cases h2 : i < m
    · obtain ⟨b, off, x, rfl, hb, hx, hcl⟩ := HL.out.1.at (k := i) h1
      have c0 := (HR.out.2.2.cell (p := ⟨b, off + i * 1 + 0, none⟩) hb).trans (hcl 0 _ rfl)
      simp only [Nat.add_zero, Nat.mul_one] at c0
      have ex := FL.digs_dig hx
      have bx : x < 4294967296 := by have := FL.dig_lt N i; omega
      clear hx hcl
      obtain ⟨b', off', y, rfl, hb', hy, hcl'⟩ := HL.out.2.1.at (k := i) h2
      have d0 := (HR.out.2.2.cell (p := ⟨b', off' + i * 1 + 0, none⟩) hb').trans (hcl' 0 _ rfl)
      simp only [Nat.add_zero, Nat.mul_one] at d0
      have ey := FL.digs_dig hy
      have byy : y < 4294967296 := by have := FL.dig_lt M i; omega
      clear hy hcl'
      have hst := HR.out.2.1.step
      rw [← ex, ← ey] at hst
      obtain ⟨d, hd⟩ : ∃ d, (q + x + y) % 2 ^ 32 = d := ⟨_, rfl⟩
      obtain ⟨q', hq'⟩ : ∃ q', (q + x + y) / 2 ^ 32 = q' := ⟨_, rfl⟩
      have ha := and32 (q + x + y) (by omega)
      rw [hd] at hst ha
      rw [hq'] at hst
      have ha2 : bits .and .u64 ((q : Int) + (x : Int) + (y : Int)) 4294967295 = (d : Int) := by rw [← ha]; congr 1
      have hs2 : ((q : Int) + (x : Int) + (y : Int)) / 4294967296 = (q' : Int) := by omega
      have bd : d < 4294967296 := by omega
      have bq : q' ≤ 1 := by omega
      have HS := Lib.hid hst
      have i1 : (i : Int) < (n : Int) := by omega
      have i2 : (i : Int) < (m : Int) := by omega
      obtain ⟨hi, hz0, hz1, hz2⟩ := HI.out
      clear hst ha hd hq' ex ey
      go_wp2_with (first
        | (at_builtin; refine wpList_append_own _ rfl _ _ 155 rfl w.heap.size 182 i0 _ 1 4 Tryz.underlying155 hi hz0 hz1 hz2 rfl (by omega) _ i (ds.flatMap encD) rfl (HR.out.1.alloc _) ⟨wr.heap.size, 0, none⟩ 1 1 [.int .u32 d] rfl rfl (cells_newL wr [.int .u32 d] _) (by simp [Value.oneCell']) (by unfold maxLen; omega) (by omega) (by simp; omega) ?_)
        | fail)
      intro v1 w1 hown hg _
      have HN := Lib.hid (own_next HR.out.2.2 HR.out.1 _ hown hg)
      clear hown hg hi hz0 hz1 hz2
      go_wp2
      go_roundw
      case measure => simp [intOf]; omega
      case rel => exact ⟨i + 1, q', _, by omega, bq, by omega, by first | (simp; done) | (simp; omega), by simp, Lib.hid ⟨HN.out.1, HS.out, HN.out.2⟩⟩
    · obtain ⟨b, off, x, rfl, hb, hx, hcl⟩ := HL.out.1.at (k := i) h1
      have c0 := (HR.out.2.2.cell (p := ⟨b, off + i * 1 + 0, none⟩) hb).trans (hcl 0 _ rfl)
      simp only [Nat.add_zero, Nat.mul_one] at c0
      have ex := FL.digs_dig hx
      have bx : x < 4294967296 := by have := FL.dig_lt N i; omega
      clear hx hcl
      have ey : FL.dig M i = 0 := FL.dig_top (by have := HL.out.2.2.2; omega)
      have hst := HR.out.2.1.step
      rw [← ex, ey] at hst
      simp only [Nat.add_zero] at hst
      obtain ⟨d, hd⟩ : ∃ d, (q + x) % 2 ^ 32 = d := ⟨_, rfl⟩
      obtain ⟨q', hq'⟩ : ∃ q', (q + x) / 2 ^ 32 = q' := ⟨_, rfl⟩
      have ha := and32 (q + x) (by omega)
      rw [hd] at hst ha
      rw [hq'] at hst
      have ha2 : bits .and .u64 ((q : Int) + (x : Int)) 4294967295 = (d : Int) := by rw [← ha]; congr 1
      have hs2 : ((q : Int) + (x : Int)) / 4294967296 = (q' : Int) := by omega
      have bd : d < 4294967296 := by omega
      have bq : q' ≤ 1 := by omega
      have HS := Lib.hid hst
      have i1 : (i : Int) < (n : Int) := by omega
      have i2 : ¬ (i : Int) < (m : Int) := by omega
      obtain ⟨hi, hz0, hz1, hz2⟩ := HI.out
      clear hst ha hd hq' ex ey
      go_wp2_with (first
        | (at_builtin; refine wpList_append_own _ rfl _ _ 155 rfl w.heap.size 182 i0 _ 1 4 Tryz.underlying155 hi hz0 hz1 hz2 rfl (by omega) _ i (ds.flatMap encD) rfl (HR.out.1.alloc _) ⟨wr.heap.size, 0, none⟩ 1 1 [.int .u32 d] rfl rfl (cells_newL wr [.int .u32 d] _) (by simp [Value.oneCell']) (by unfold maxLen; omega) (by omega) (by simp; omega) ?_)
        | fail)
      intro v1 w1 hown hg _
      have HN := Lib.hid (own_next HR.out.2.2 HR.out.1 _ hown hg)
      clear hown hg hi hz0 hz1 hz2
      go_wp2
      go_roundw
      case measure => simp [intOf]; omega
      case rel => exact ⟨i + 1, q', _, by omega, bq, by omega, by first | (simp; done) | (simp; omega), by simp, Lib.hid ⟨HN.out.1, HS.out, HN.out.2⟩⟩
    · have ex : FL.dig N i = 0 := FL.dig_top (by have := HL.out.2.2.1; omega)
      obtain ⟨b', off', y, rfl, hb', hy, hcl'⟩ := HL.out.2.1.at (k := i) h2
      have d0 := (HR.out.2.2.cell (p := ⟨b', off' + i * 1 + 0, none⟩) hb').trans (hcl' 0 _ rfl)
      simp only [Nat.add_zero, Nat.mul_one] at d0
      have ey := FL.digs_dig hy
      have byy : y < 4294967296 := by have := FL.dig_lt M i; omega
      clear hy hcl'
      have hst := HR.out.2.1.step
      rw [ex, ← ey] at hst
      simp only [Nat.add_zero] at hst
      obtain ⟨d, hd⟩ : ∃ d, (q + y) % 2 ^ 32 = d := ⟨_, rfl⟩
      obtain ⟨q', hq'⟩ : ∃ q', (q + y) / 2 ^ 32 = q' := ⟨_, rfl⟩
      have ha := and32 (q + y) (by omega)
      rw [hd] at hst ha
      rw [hq'] at hst
      have ha2 : bits .and .u64 ((q : Int) + (y : Int)) 4294967295 = (d : Int) := by rw [← ha]; congr 1
      have hs2 : ((q : Int) + (y : Int)) / 4294967296 = (q' : Int) := by omega
      have bd : d < 4294967296 := by omega
      have bq : q' ≤ 1 := by omega
      have HS := Lib.hid hst
      have i1 : ¬ (i : Int) < (n : Int) := by omega
      have i2 : (i : Int) < (m : Int) := by omega
      obtain ⟨hi, hz0, hz1, hz2⟩ := HI.out
      clear hst ha hd hq' ex ey
      go_wp2_with (first
        | (at_builtin; refine wpList_append_own _ rfl _ _ 155 rfl w.heap.size 182 i0 _ 1 4 Tryz.underlying155 hi hz0 hz1 hz2 rfl (by omega) _ i (ds.flatMap encD) rfl (HR.out.1.alloc _) ⟨wr.heap.size, 0, none⟩ 1 1 [.int .u32 d] rfl rfl (cells_newL wr [.int .u32 d] _) (by simp [Value.oneCell']) (by unfold maxLen; omega) (by omega) (by simp; omega) ?_)
        | fail)
      intro v1 w1 hown hg _
      have HN := Lib.hid (own_next HR.out.2.2 HR.out.1 _ hown hg)
      clear hown hg hi hz0 hz1 hz2
      go_wp2
      go_roundw
      case measure => simp [intOf]; omega
      case rel => exact ⟨i + 1, q', _, by omega, bq, by omega, by first | (simp; done) | (simp; omega), by simp, Lib.hid ⟨HN.out.1, HS.out, HN.out.2⟩⟩
    · by_cases h0 : q = 0
      · subst h0
        have hend := HR.out.2.1.end_ (by have := HL.out.2.2.1; omega) (by have := HL.out.2.2.2; omega)
        obtain ⟨A1, c1, rfl, hcall⟩ := trim_post HR.out.1 HR.out.2.2 hend
        have HT := Lib.hid hcall
        have i1 : ¬ (i : Int) < (n : Int) := by omega
        have i2 : ¬ (i : Int) < (m : Int) := by omega
        clear hend hcall
        go_wp2_with fail
        refine HT.out.mono ?_
        rintro e w1 ⟨A2, n2, c2, rfl, hl2, hb2⟩
        have H2 := Lib.hid (show _ ∧ _ from ⟨hl2, hb2⟩)
        clear hl2 hb2
        go_wp2
        go_ret
        exact ⟨A2, n2, c2, rfl, H2.out.1, H2.out.2⟩
      · obtain rfl : q = 1 := by omega
        have hqi2 := hqi rfl
        have ex : FL.dig N i = 0 := FL.dig_top (by have := HL.out.2.2.1; omega)
        have ey : FL.dig M i = 0 := FL.dig_top (by have := HL.out.2.2.2; omega)
        have hst := HR.out.2.1.step
        rw [ex, ey] at hst
        simp only [Nat.add_zero] at hst
        obtain ⟨d, hd⟩ : ∃ d, (1) % 2 ^ 32 = d := ⟨_, rfl⟩
        obtain ⟨q', hq'⟩ : ∃ q', (1) / 2 ^ 32 = q' := ⟨_, rfl⟩
        have ha := and32 (1) (by omega)
        rw [hd] at hst ha
        rw [hq'] at hst
        have ha2 : bits .and .u64 (1) 4294967295 = (d : Int) := by rw [← ha]; congr 1
        have hs2 : (1) / 4294967296 = (q' : Int) := by omega
        have bd : d < 4294967296 := by omega
        have bq : q' ≤ 1 := by omega
        have bq0 : q' = 0 := by omega
        have HS := Lib.hid hst
        have i1 : ¬ (i : Int) < (n : Int) := by omega
        have i2 : ¬ (i : Int) < (m : Int) := by omega
        obtain ⟨hi, hz0, hz1, hz2⟩ := HI.out
        clear hst ha hd hq' ex ey
        go_wp2_with (first
          | (at_builtin; refine wpList_append_own _ rfl _ _ 155 rfl w.heap.size 182 i0 _ 1 4 Tryz.underlying155 hi hz0 hz1 hz2 rfl (by omega) _ i (ds.flatMap encD) rfl (HR.out.1.alloc _) ⟨wr.heap.size, 0, none⟩ 1 1 [.int .u32 d] rfl rfl (cells_newL wr [.int .u32 d] _) (by simp [Value.oneCell']) (by unfold maxLen; omega) (by omega) (by simp; omega) ?_)
          | fail)
        intro v1 w1 hown hg _
        have HN := Lib.hid (own_next HR.out.2.2 HR.out.1 _ hown hg)
        clear hown hg hi hz0 hz1 hz2
        go_wp2
        go_roundw
        case measure => simp [intOf]; omega
        case rel => exact ⟨i + 1, q', _, by omega, bq, by omega, by first | (simp; done) | (simp; omega), by simp, Lib.hid ⟨HN.out.1, HS.out, HN.out.2⟩⟩
end Go.Proofs.YtajaijidecomdaaGreatDoor
