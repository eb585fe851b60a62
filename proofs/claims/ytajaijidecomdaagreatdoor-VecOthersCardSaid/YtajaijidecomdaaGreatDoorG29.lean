/- The document's whole numbers: Bit, Low, Down, Times. Written by gendown.py. The document's whole numbers: Down. Written by gendown2.py. The document's whole numbers: Times. -/
import Derived.Test.YtajaijidecomdaaGreatDoorNtC
namespace Go.Proofs.YtajaijidecomdaaGreatDoor
open Go.RowKit Go.Lib

theorem u32_one (y : Nat) (h : y < 2 ^ 32) : bits .and .u32 (y : Int) 1 = ((y % 2 : Nat) : Int) := by
  have h := (bits_nat .u32 32 (by decide) (fun n h0 h1 => by simp [IntKind.wrap, IntKind.bits, IntKind.signed]; omega) y 1 h (by decide)).1
  rw [show (1 : Nat) = 2 ^ 1 - 1 by rfl, Nat.and_two_pow_sub_one_eq_mod] at h
  exact h
set_option maxHeartbeats 4000000 in
set_option maxRecDepth 100000 in
theorem bit_any (A : Option Addr) (n c N i : Nat) (w : World) (hA : Lst encD 1 w w.heap.size A n (FL.digs N)) (hi62 : i ≤ 4611686018427387904) :
    Calls Tryz.prog 188 #[.slice A n c, .int .i64 i] w fun e w' => e = .returned (.bool (N.testBit i)) ∧ Below w.heap.size w w' := by
  obtain ⟨q, hq⟩ : ∃ q, i / 32 = q := ⟨_, rfl⟩
  obtain ⟨r, hr⟩ : ∃ r, i % 32 = r := ⟨_, rfl⟩
  have hqi : (i : Int) / 32 = (q : Int) := by omega
  have hri : (i : Int) % 32 = (r : Int) := by omega
  have hr32 : r < 32 := by omega
  have hbit := FL.bit_dig N i
  rw [hq, hr] at hbit
  have j0 : (0 : Int) ≤ (i : Int) := by omega
  by_cases h1 : q < n
  · obtain ⟨b, off, x, rfl, hb, hx, hcl⟩ := hA.at h1
    have c0 := hcl 0 _ rfl
    simp only [Nat.add_zero, Nat.mul_one] at c0
    have ex := FL.digs_dig hx
    have bx : x < 2 ^ 32 := by rw [ex]; exact FL.dig_lt N q
    rw [← ex] at hbit
    obtain ⟨y, hy⟩ : ∃ y, x / 2 ^ r = y := ⟨_, rfl⟩
    have hyx : y ≤ x := by rw [← hy]; exact Nat.div_le_self _ _
    have hyi : (x : Int) / 2 ^ r = (y : Int) := by rw [← hy]; simp
    rw [hy] at hbit
    have ha := u32_one y (by omega)
    have i1 : (q : Int) < (n : Int) := by omega
    have i2 : (0 : Int) ≤ (q : Int) := by omega
    rw [hbit]
    clear hbit hA hx hcl ex hq hr hy
    rcases (show y % 2 = 0 ∨ y % 2 = 1 by omega) with e | e
    all_goals
      rw [e] at ha ⊢
      clear e
      go_enter Tryz.func188, Tryz.ntmps188
      go_wp2_with (go_quiet (fail))
      go_ret
      exact ⟨rfl, by first | exact Below.refl _ _ | exact below_drewN (Below.refl _ _) _⟩
  · have hz : N.testBit i = false := by
      rw [hbit, FL.dig_top (by have := hA.1; omega), Nat.zero_div]
      rfl
    have i1 : ¬ (q : Int) < (n : Int) := by omega
    rw [hz]
    clear hbit hA hz hq hr
    go_enter Tryz.func188, Tryz.ntmps188
    go_wp2_with (go_quiet (fail))
    go_ret
    exact ⟨rfl, by first | exact Below.refl _ _ | exact below_drewN (Below.refl _ _) _⟩
set_option maxHeartbeats 4000000 in
set_option maxRecDepth 100000 in
theorem low_any (A : Option Addr) (n c N : Nat) (w : World) (hA : Lst encD 1 w w.heap.size A n (FL.digs N)) :
    Calls Tryz.prog 189 #[.slice A n c] w fun e w' => e = .returned (.int .u64 (N % 2 ^ 64 : Nat)) ∧ Below w.heap.size w w' := by
  rw [← FL.low_digs]
  have hln := hA.1
  by_cases h0 : n = 0
  · subst h0
    rw [FL.dig_top (by omega), FL.dig_top (by omega)]
    clear hA hln
    go_enter Tryz.func189, Tryz.ntmps189
    go_wp2
    go_ret
    exact ⟨rfl, Below.refl _ _⟩
  · obtain ⟨b, off, x, rfl, hb, hx, hcl⟩ := hA.at (k := 0) (by omega)
    have c0 := hcl 0 _ rfl
    simp only [Nat.add_zero, Nat.zero_mul] at c0
    have ex := FL.digs_dig hx
    have bx : x < 2 ^ 32 := by rw [ex]; exact FL.dig_lt N 0
    rw [← ex]
    have i0 : (0 : Int) < (n : Int) := by omega
    have i0' : 0 < n := by omega
    clear hcl hx ex
    by_cases h1 : n = 1
    · subst h1
      rw [FL.dig_top (by omega)]
      clear hA hln
      go_enter Tryz.func189, Tryz.ntmps189
      go_wp2
      go_ret
      exact ⟨by simp, Below.refl _ _⟩
    · obtain ⟨b', off', y, hA', hb', hy, hcl'⟩ := hA.at (k := 1) (by omega)
      cases hA'
      have d0 := hcl' 0 _ rfl
      simp only [Nat.add_zero, Nat.one_mul] at d0
      have ey := FL.digs_dig hy
      have byy : y < 2 ^ 32 := by rw [ey]; exact FL.dig_lt N 1
      rw [← ey]
      have i1 : (1 : Int) < (n : Int) := by omega
      have i1' : 1 < n := by omega
      have ho := or64 x (2 ^ 32 * y) (by omega) (by omega)
      have he : x ||| 2 ^ 32 * y = x + 2 ^ 32 * y := by rw [Nat.or_comm, ← Nat.two_pow_add_eq_or_of_lt bx]; omega
      rw [he] at ho
      have ho2 : bits .or .u64 (x : Int) ((y : Int) * 4294967296) = ((x + 2 ^ 32 * y : Nat) : Int) := by rw [← ho]; congr 1; omega
      have hsh : IntKind.u64.wrap ((y : Int) * 4294967296) = (y : Int) * 4294967296 := wraps_u64 _ (by omega) (by omega)
      obtain ⟨s, hs⟩ : ∃ s, x + 2 ^ 32 * y = s := ⟨_, rfl⟩
      rw [hs] at ho2 ⊢
      clear hcl' hy ey hA hln ho he hs
      go_enter Tryz.func189, Tryz.ntmps189
      go_wp2
      go_ret
      exact ⟨rfl, Below.refl _ _⟩

end Go.Proofs.YtajaijidecomdaaGreatDoor
namespace Go.Proofs.YtajaijidecomdaaGreatDoor
open Go.RowKit Go.Lib

/-- A quotient by a power of two that is handed back, and whether something is lost. -/
def DownPost (N k : Nat) (w : World) (e : Ending) (w' : World) : Prop := ∃ A n c, e = .returned (.tuple #[.slice A n c, .bool (FL.lostB N k)]) ∧ Lst encD 1 w' w'.heap.size A n (FL.digs (N / 2 ^ k)) ∧ Below w.heap.size w w'
set_option maxHeartbeats 16000000 in
set_option maxRecDepth 100000 in
theorem down_any (A : Option Addr) (n c N k : Nat) (w : World) (hA : Lst encD 1 w w.heap.size A n (FL.digs N)) (hn : n ≤ 1000000) (hk : k ≤ 4611686018427387904) :
    Calls Tryz.prog 187 #[.slice A n c, .int .i64 k] w (DownPost N k w) := by
  obtain ⟨i0, hi, hz0, hz1, hz2⟩ := info_parts Tryz.infoWord
  have HI := Lib.hid (show _ ∧ _ ∧ _ ∧ _ from ⟨hi, hz0, hz1, hz2⟩)
  have HL := Lib.hid (show _ ∧ _ from ⟨hA, hA.1⟩)
  clear hi hz0 hz1 hz2 hA
  have j0 : (0 : Int) ≤ (k : Int) := by omega
  go_enter Tryz.func187, Tryz.ntmps187
  go_wp2
  go_loopw [6, 7] (fun lv iv wr => ∃ (i : Nat) (lost : Bool), i ≤ k ∧ i ≤ 32 * n ∧ lv = .bool lost ∧ iv = .int .i64 i ∧ Hid (FL.lostB N i = lost ∧ Below w.heap.size w wr)) (fun _ iv _ => k - (intOf iv).toNat)
  case atStart => exact ⟨0, false, by omega, by omega, rfl, rfl, Lib.hid ⟨FL.lost_zero N, Below.refl _ _⟩⟩
  case round =>
    obtain ⟨i, lost, hik, hin, rfl, rfl, HR⟩ := hrel
    have j1 : (0 : Int) ≤ (i : Int) := by omega
    by_cases hgo : i < k ∧ i < 32 * n ∧ lost = false
    · obtain ⟨h1, h2, rfl⟩ := hgo
      have k1 : (i : Int) < (k : Int) := by omega
      have k2 : (i : Int) < 32 * (n : Int) := by omega
      have hb := bit_any A n c N i wr ((HL.out.1.below HR.out.2).more HR.out.2.size) (by omega)
      have hnx := FL.lost_next HR.out.1
      rw [← hnx] at hb
      obtain ⟨l2, hl2⟩ : ∃ l2, FL.lostB N (i + 1) = l2 := ⟨_, rfl⟩
      rw [hl2] at hb
      have HB := Lib.hid (show _ ∧ _ from ⟨hb, hl2⟩)
      clear hb hnx hl2
      go_wp2_with (first | (go_at_call 188; refine HB.out.1.mono ?_; rintro e w1 ⟨rfl, hb1⟩; have H1 := Lib.hid (HR.out.2.trans (hb1.mono HR.out.2.size)); clear hb1))
      go_roundw
      case measure => simp [intOf]; omega
      case rel => exact ⟨i + 1, l2, by omega, by omega, rfl, by simp, Lib.hid ⟨HB.out.2, H1.out⟩⟩
    · have hend : FL.lostB N k = lost ∧ ((¬ i < k) ∨ (i < k ∧ ¬ i < 32 * n) ∨ (i < k ∧ i < 32 * n ∧ lost = true)) := by
        have hl := HR.out.1
        by_cases h1 : i < k
        · by_cases h2 : i < 32 * n
          · cases lost with
            | false => exact absurd ⟨h1, h2, rfl⟩ hgo
            | true => exact ⟨FL.lost_more hl (by omega), .inr (.inr ⟨h1, h2, rfl⟩)⟩
          · refine ⟨?_, .inr (.inl ⟨h1, h2⟩)⟩
            cases lost with
            | false => exact FL.lost_top hl (by have := HL.out.2; omega) k
            | true => exact FL.lost_more hl (by omega)
        · obtain rfl : i = k := by omega
          exact ⟨hl, .inl h1⟩
      obtain ⟨hlk, hways⟩ := hend
      have hold := HR.out.2
      obtain ⟨q, hq⟩ : ∃ q, k / 32 = q := ⟨_, rfl⟩
      obtain ⟨r, hr⟩ : ∃ r, k % 32 = r := ⟨_, rfl⟩
      have hkqr : 32 * q + r = k := by omega
      have hr32 : r < 32 := by omega
      have hqi : (k : Int) / 32 = (q : Int) := by omega
      have hri : (k : Int) % 32 = (r : Int) := by omega
      obtain ⟨wo, hwo⟩ : ∃ wo : World, wr = wo := ⟨_, rfl⟩
      subst hwo
      have HK := Lib.hid (show _ ∧ _ ∧ _ from ⟨hlk, hkqr, hold⟩)
      have hqb : q ≤ 144115188075855872 := by omega
      clear hlk hkqr hold hq hr HR hgo
      rcases hways with h1 | ⟨h1, h2⟩ | ⟨h1, h2, rfl⟩
      all_goals
        first
          | have k1 : ¬ (i : Int) < (k : Int) := by omega
          | (have k1 : (i : Int) < (k : Int) := by omega
             have k2 : ¬ (i : Int) < 32 * (n : Int) := by omega)
          | (have k1 : (i : Int) < (k : Int) := by omega
             have k2 : (i : Int) < 32 * (n : Int) := by omega)
        go_wp2
        clear hqi k1
        go_loopw [8, 9] (fun v iv wz => ∃ (j : Nat) (ds : List Nat), q ≤ j ∧ j ≤ max q n ∧ iv = .int .i64 j ∧ Hid (wz.ownsRow w.heap.size 182 1 v (j - q) (ds.flatMap encD) ∧ FL.DownInv N q r j ds ∧ Below w.heap.size w wz)) (fun _ iv _ => n - (intOf iv).toNat)
        case atStart => exact ⟨q, [], Nat.le_refl _, by omega, rfl, Lib.hid ⟨by rw [Nat.sub_self]; exact World.ownsRow_nil _ _ _ _, FL.DownInv.start N q r, HK.out.2.2⟩⟩
        case round =>
          obtain ⟨j, ds, hqj, hjm, rfl, HR⟩ := hrel
          have j2 : (0 : Int) ≤ (j : Int) := by omega
          have hsz := HR.out.2.2.size
          by_cases hlt : j < n
          · obtain ⟨b, off, x, rfl, hb, hx, hcl⟩ := HL.out.1.at hlt
            have c0 := (HR.out.2.2.cell (p := ⟨b, off + j * 1 + 0, none⟩) hb).trans (hcl 0 _ rfl)
            simp only [Nat.add_zero, Nat.mul_one] at c0
            have ex := FL.digs_dig hx
            have bx : x < 2 ^ 32 := by rw [ex]; exact FL.dig_lt N j
            have m1 : (j : Int) < (n : Int) := by omega
            have hst := HR.out.2.1.step hqj hr32
            rw [← ex] at hst
            clear hx hcl ex
            by_cases hlt2 : j + 1 < n
            · obtain ⟨b', off', y, hA', hb', hy, hcl'⟩ := HL.out.1.at hlt2
              cases hA'
              have d0 := (HR.out.2.2.cell (p := ⟨b, off + (j + 1) * 1 + 0, none⟩) hb').trans (hcl' 0 _ rfl)
              simp only [Nat.add_zero, Nat.mul_one] at d0
              have ey := FL.digs_dig hy
              have byy : y < 2 ^ 32 := by rw [ey]; exact FL.dig_lt N (j + 1)
              rw [← ey] at hst
              have m2 : (j : Int) + 1 < (n : Int) := by omega
              have ho := or64 x (2 ^ 32 * y) (by omega) (by omega)
              have he : x ||| 2 ^ 32 * y = x + 2 ^ 32 * y := by rw [Nat.or_comm, ← Nat.two_pow_add_eq_or_of_lt bx]; omega
              rw [he] at ho
              have ho2 : bits .or .u64 (x : Int) ((y : Int) * 4294967296) = ((x + 2 ^ 32 * y : Nat) : Int) := by rw [← ho]; congr 1; omega
              have hsh : IntKind.u64.wrap ((y : Int) * 4294967296) = (y : Int) * 4294967296 := wraps_u64 _ (by omega) (by omega)
              have hs64 : x + 2 ^ 32 * y < 2 ^ 64 := by omega
              obtain ⟨s, hs⟩ : ∃ s, x + 2 ^ 32 * y = s := ⟨_, rfl⟩
              rw [hs] at ho2 hst hs64
              obtain ⟨y1, hy1⟩ : ∃ y1, s / 2 ^ r = y1 := ⟨_, rfl⟩
              have hy64 : y1 < 2 ^ 64 := by have := Nat.div_le_self s (2 ^ r); omega
              have hyi : (s : Int) / 2 ^ r = (y1 : Int) := by rw [← hy1]; simp
              rw [hy1] at hst
              have ha := and32 y1 hy64
              obtain ⟨d, hd⟩ : ∃ d, y1 % 2 ^ 32 = d := ⟨_, rfl⟩
              have bd : d < 4294967296 := by omega
              rw [hd] at ha hst
              have HS := Lib.hid hst
              have hq3 : j - q ≤ 1000000 := by omega
              obtain ⟨hi, hz0, hz1, hz2⟩ := HI.out
              clear hst hy1 hd hy hcl' ey ho he hs
              go_wp2_with (first
                | (at_builtin; refine wpList_append_own _ rfl _ _ 155 rfl w.heap.size 182 i0 _ 1 4 Tryz.underlying155 hi hz0 hz1 hz2 rfl (by omega) _ (j - q) (ds.flatMap encD) rfl (HR.out.1.alloc _) ⟨wr.heap.size, 0, none⟩ 1 1 [.int .u32 d] rfl rfl (cells_newL wr [.int .u32 d] _) (by simp [Value.oneCell']) (by unfold maxLen; omega) (by omega) (by simp; omega) ?_)
                | fail)
              intro v1 w1 hown hg _
              have HN := Lib.hid (own_next HR.out.2.2 HR.out.1 _ hown hg)
              clear hown hg hi hz0 hz1 hz2
              go_wp2
              go_roundw
              case measure => simp [intOf]; omega
              case rel => exact ⟨j + 1, _, by omega, by omega, by simp, Lib.hid ⟨by rw [show j + 1 - q = j - q + 1 by omega]; exact HN.out.1, HS.out, HN.out.2⟩⟩
            · have m2 : ¬ (j : Int) + 1 < (n : Int) := by omega
              have ey : FL.dig N (j + 1) = 0 := FL.dig_top (by have := HL.out.2; omega)
              simp only [ey, Nat.mul_zero, Nat.add_zero] at hst
              have hs64 : x < 2 ^ 64 := by omega
              obtain ⟨s, hs⟩ : ∃ s, x = s := ⟨_, rfl⟩
              subst hs
              obtain ⟨y1, hy1⟩ : ∃ y1, x / 2 ^ r = y1 := ⟨_, rfl⟩
              have hy64 : y1 < 2 ^ 64 := by have := Nat.div_le_self x (2 ^ r); omega
              have hyi : (x : Int) / 2 ^ r = (y1 : Int) := by rw [← hy1]; simp
              rw [hy1] at hst
              have ha := and32 y1 hy64
              obtain ⟨d, hd⟩ : ∃ d, y1 % 2 ^ 32 = d := ⟨_, rfl⟩
              have bd : d < 4294967296 := by omega
              rw [hd] at ha hst
              have HS := Lib.hid hst
              have hq3 : j - q ≤ 1000000 := by omega
              obtain ⟨hi, hz0, hz1, hz2⟩ := HI.out
              clear hst hy1 hd ey
              go_wp2_with (first
                | (at_builtin; refine wpList_append_own _ rfl _ _ 155 rfl w.heap.size 182 i0 _ 1 4 Tryz.underlying155 hi hz0 hz1 hz2 rfl (by omega) _ (j - q) (ds.flatMap encD) rfl (HR.out.1.alloc _) ⟨wr.heap.size, 0, none⟩ 1 1 [.int .u32 d] rfl rfl (cells_newL wr [.int .u32 d] _) (by simp [Value.oneCell']) (by unfold maxLen; omega) (by omega) (by simp; omega) ?_)
                | fail)
              intro v1 w1 hown hg _
              have HN := Lib.hid (own_next HR.out.2.2 HR.out.1 _ hown hg)
              clear hown hg hi hz0 hz1 hz2
              go_wp2
              go_roundw
              case measure => simp [intOf]; omega
              case rel => exact ⟨j + 1, _, by omega, by omega, by simp, Lib.hid ⟨by rw [show j + 1 - q = j - q + 1 by omega]; exact HN.out.1, HS.out, HN.out.2⟩⟩
          · have hend := HR.out.2.1.end_ (by have := HL.out.2; omega) hqj
            rw [HK.out.2.1] at hend
            obtain ⟨A1, c1, rfl, hcall⟩ := trim_post HR.out.1 HR.out.2.2 hend
            have HT := Lib.hid hcall
            have m1 : ¬ (j : Int) < (n : Int) := by omega
            clear hend hcall
            go_wp2_with fail
            refine HT.out.mono ?_
            rintro e w1 ⟨A2, n2, c2, rfl, hl2, hb2⟩
            have H2 := Lib.hid (show _ ∧ _ from ⟨hl2, hb2⟩)
            clear hl2 hb2
            go_wp2
            exact bodyPost_ret (v := .tuple #[.slice A2 n2 c2, .bool (FL.lostB N k)]) (by simp [results, Tryz.results187, go_sem, HK.out.1]) rfl ⟨A2, n2, c2, rfl, H2.out.1, H2.out.2.1⟩
end Go.Proofs.YtajaijidecomdaaGreatDoor
namespace Go.Proofs.YtajaijidecomdaaGreatDoor
open Go.RowKit Go.Lib

theorem encD_set (ds : List Nat) (j d : Nat) : (ds.flatMap encD).set j (.int .u32 d) = (ds.set j d).flatMap encD := by
  induction ds generalizing j with
  | nil => rfl
  | cons x ds ih =>
    cases j with
    | zero => rfl
    | succ j =>
      show Value.int .u32 x :: ((ds.flatMap encD).set j _) = Value.int .u32 x :: ((ds.set j d).flatMap encD)
      rw [ih]
theorem own_stored {w wr : World} {g n c : Nat} {ds : List Nat} {v : Value} (hv : v = .slice (some ⟨g, 0, none⟩) n c) (hb : Below w.heap.size w wr) (ho : wr.ownsRow w.heap.size 182 1 v n (ds.flatMap encD)) (j d : Nat) :
    (wr.setCell ⟨g, j, none⟩ (.int .u32 d)).ownsRow w.heap.size 182 1 v n ((ds.set j d).flatMap encD) ∧ Below w.heap.size w (wr.setCell ⟨g, j, none⟩ (.int .u32 d)) := by
  subst hv
  obtain ⟨h1, h2⟩ := ho.stored j (.int .u32 d)
  rw [encD_set] at h1
  exact ⟨h1, hb.grown h2 hb.size (fun k hk => (ho.lt k hk).1)⟩
theorem own_drewN {w wr : World} {n : Nat} {ds : List Nat} {v : Value} (hb : Below w.heap.size w wr) (ho : wr.ownsRow w.heap.size 182 1 v n (ds.flatMap encD)) (a : Nat) :
    (wr.drewN a).ownsRow w.heap.size 182 1 v n (ds.flatMap encD) ∧ Below w.heap.size w (wr.drewN a) := ⟨owns_below ho (below_drewN (Below.refl _ _) a), below_drewN hb a⟩
theorem make_zeros (q : Nat) : (madeCells #[Value.int .u32 0] q).toList = (List.replicate q 0).flatMap encD := by
  rw [toList_madeCells_one]
  induction q with
  | zero => rfl
  | succ q ih => rw [List.replicate_succ, List.replicate_succ, List.flatMap_cons, ← ih]; rfl
set_option maxHeartbeats 16000000 in
set_option maxRecDepth 100000 in
theorem times_any (A B : Option Addr) (n c m c' N M : Nat) (w : World) (hA : Lst encD 1 w w.heap.size A n (FL.digs N)) (hB : Lst encD 1 w w.heap.size B m (FL.digs M)) (hn : n ≤ 1000000) (hm : m ≤ 1000000) :
    Calls Tryz.prog 131 #[.slice A n c, .slice B m c'] w (NatPost (N * M) w) := by
  obtain ⟨i0, hi, hz0, hz1, hz2⟩ := info_parts Tryz.infoWord
  obtain ⟨L, hL⟩ : ∃ L, n + m = L := ⟨_, rfl⟩
  have hLi : (n : Int) + (m : Int) = (L : Int) := by omega
  have HL := Lib.hid (show _ ∧ _ ∧ _ ∧ _ ∧ _ from ⟨hA, hB, hA.1, hB.1, hL⟩)
  have hL6 : L ≤ 2000000 := by omega
  have hb4 : i0.bytes * L ≤ 281474976710656 := by rw [hz2]; omega
  have HB4 := Lib.hid hb4
  clear hb4 hA hB hL
  go_enter Tryz.func131, Tryz.ntmps131
  go_wp2_with (first | (refine wpList_make_full _ rfl _ _ 155 rfl w.heap.size 182 i0 _ 1 Tryz.underlying155 hi hz0 hz1 .i64 .i64 _ _ L rfl rfl rfl rfl HB4.out (by unfold maxLen; omega) (Nat.le_refl _) ?_) | fail)
  intro w1 hown1 hg1
  rw [make_zeros] at hown1
  have hb1 : Below w.heap.size w w1 := (Below.refl _ w).grown hg1 (Nat.le_refl _) (fun j hj => by cases hj)
  have hst := FL.TimesOut.start N M
  rw [HL.out.2.2.1, HL.out.2.2.2.1, HL.out.2.2.2.2] at hst
  have H1 := Lib.hid (show _ ∧ _ ∧ _ from ⟨hown1, hst, hb1⟩)
  clear hown1 hg1 hb1 hst hi hz0 hz1 hz2
  go_wp2
  clear hLi
  go_loopw [6] (fun iv wr => ∃ (i : Nat) (ds : List Nat), i ≤ n ∧ iv = .int .i64 i ∧ Hid (wr.ownsRow w.heap.size 182 1 (.slice (some ⟨w.heap.size, 0, none⟩) L L) L (ds.flatMap encD) ∧ FL.TimesOut N M i ds ∧ Below w.heap.size w wr)) (fun iv _ => n - (intOf iv).toNat)
  case atStart => exact ⟨0, _, by omega, rfl, Lib.hid H1.out⟩
  case round =>
    obtain ⟨i, ds, hi1, rfl, HR⟩ := hrel
    have j0 : (0 : Int) ≤ (i : Int) := by omega
    by_cases h1 : i < n
    · obtain ⟨ba, offa, x, rfl, hba, hx, hclx⟩ := HL.out.1.at (k := i) h1
      have ex := FL.digs_dig hx
      have bx : x < 2 ^ 32 := by rw [ex]; exact FL.dig_lt N i
      have hcx := hclx 0 _ rfl
      simp only [Nat.add_zero, Nat.mul_one] at hcx
      have HX := Lib.hid (show _ ∧ _ from ⟨ex, hcx⟩)
      have i1 : (i : Int) < (n : Int) := by omega
      obtain ⟨wo, hwo⟩ : ∃ wo : World, wr = wo := ⟨_, rfl⟩
      subst hwo
      clear hx hclx ex hcx
      go_wp2
      clear H1
      go_loopw [7, 8] (fun cv kv wz => ∃ (k t : Nat) (es : List Nat), k ≤ m ∧ t < 2 ^ 32 ∧ cv = .int .u64 t ∧ kv = .int .i64 k ∧ Hid (wz.ownsRow w.heap.size 182 1 (.slice (some ⟨w.heap.size, 0, none⟩) L L) L (es.flatMap encD) ∧ FL.TimesIn N M i k es t ∧ Below w.heap.size w wz)) (fun _ kv _ => m - (intOf kv).toNat)
      case atStart => exact ⟨0, 0, ds, by omega, by omega, rfl, rfl, Lib.hid ⟨HR.out.1, HR.out.2.1.enter, HR.out.2.2⟩⟩
      case round =>
        obtain ⟨k, t, es, hk1, ht1, rfl, rfl, HQ⟩ := hrel
        have j1 : (0 : Int) ≤ (k : Int) := by omega
        have c0 := (HQ.out.2.2.cell (p := ⟨ba, offa + i, none⟩) hba).trans HX.out.2
        by_cases h2 : k < m
        · obtain ⟨b', off', y, rfl, hb', hy, hcl'⟩ := HL.out.2.1.at (k := k) h2
          have d0 := (HQ.out.2.2.cell (p := ⟨b', off' + k * 1 + 0, none⟩) hb').trans (hcl' 0 _ rfl)
          simp only [Nat.add_zero, Nat.mul_one] at d0
          have ey := FL.digs_dig hy
          have byy : y < 2 ^ 32 := by rw [ey]; exact FL.dig_lt M k
          have i2 : (k : Int) < (m : Int) := by omega
          have hlen := HQ.out.2.1.1
          rw [HL.out.2.2.1, HL.out.2.2.2.1, HL.out.2.2.2.2] at hlen
          have hik : i + k < L := by have := HL.out.2.2.2.2; omega
          obtain ⟨j, hj⟩ : ∃ j, i + k = j := ⟨_, rfl⟩
          obtain ⟨o, ho⟩ : ∃ o, es[i + k]? = some o := ⟨_, List.getElem?_eq_getElem (by omega)⟩
          have hst := HQ.out.2.1.step (by have := HL.out.2.2.2.1; omega) ho
          have bo : o < 2 ^ 32 := HQ.out.2.1.2.1 o (List.mem_of_getElem? ho)
          rw [hj] at ho hst hik
          rw [← HX.out.1, ← ey] at hst
          have e0 := owns_at HQ.out.1 encD_len ho (j := 0) rfl
          simp only [Nat.add_zero, Nat.mul_one] at e0
          have f0 := HQ.out.1.frozenAt j
          have hf := FL.times_fits ht1 bo bx byy
          have hji : IntKind.i64.wrap ((i : Int) + (k : Int)) = (j : Int) := by rw [show (i : Int) + k = j by omega]; exact IntWalk.i64_in _ (by omega)
          have hj2 : (i : Int) + (k : Int) = (j : Int) := by omega
          obtain ⟨z, hz⟩ : ∃ z, x * y = z := ⟨_, rfl⟩
          rw [hz] at hst hf
          have hzi : IntKind.u64.wrap ((x : Int) * (y : Int)) = (z : Int) := by rw [← hz, ← Int.natCast_mul]; exact wraps_u64 _ (by omega) (by rw [hz]; omega)
          have hz2 : (x : Int) * (y : Int) = (z : Int) := by rw [← hz, Int.natCast_mul]
          obtain ⟨u, hu⟩ : ∃ u, t + o = u := ⟨_, rfl⟩
          rw [hu] at hst hf
          have hui : IntKind.u64.wrap ((t : Int) + (o : Int)) = (u : Int) := by rw [show (t : Int) + o = u by omega]; exact wraps_u64 _ (by omega) (by omega)
          obtain ⟨s, hs⟩ : ∃ s, u + z = s := ⟨_, rfl⟩
          rw [hs] at hst hf
          have hsi : IntKind.u64.wrap ((u : Int) + (z : Int)) = (s : Int) := by rw [show (u : Int) + z = s by omega]; exact wraps_u64 _ (by omega) (by omega)
          have ha := and32 s hf
          obtain ⟨d, hd⟩ : ∃ d, s % 2 ^ 32 = d := ⟨_, rfl⟩
          obtain ⟨t', ht'⟩ : ∃ t', s / 2 ^ 32 = t' := ⟨_, rfl⟩
          have bd : d < 4294967296 := by omega
          have bt : t' < 2 ^ 32 := by omega
          have hs2 : (s : Int) / 4294967296 = (t' : Int) := by omega
          rw [hd, ht'] at hst
          rw [hd] at ha
          have i3 : (0 : Int) ≤ (j : Int) := by omega
          have i4 : (j : Int) < (L : Int) := by omega
          have b1 : (u : Int) + (z : Int) < 18446744073709551616 := by omega
          have b2 : (z : Int) < 18446744073709551616 := by omega
          have HS := Lib.hid hst
          clear hst hz hu hs hd ht' hy hcl' ey ho hlen hj hz2 hj2 hf b1 b2
          go_wp2_with (go_quiet (fail))
          go_roundw
          case measure => simp [intOf]; omega
          case rel =>
            exact ⟨k + 1, t', _, by omega, bt, by first | rfl | (simp; done) | (simp; omega), by first | rfl | (simp; done) | (simp; omega), Lib.hid ⟨(own_stored rfl (own_drewN HQ.out.2.2 HQ.out.1 _).2 (own_drewN HQ.out.2.2 HQ.out.1 _).1 j d).1, HS.out, (own_stored rfl (own_drewN HQ.out.2.2 HQ.out.1 _).2 (own_drewN HQ.out.2.2 HQ.out.1 _).1 j d).2⟩⟩
        · obtain rfl : k = m := by omega
          have i2 : ¬ (k : Int) < (k : Int) := by omega
          have hlv := HQ.out.2.1
          rw [← HL.out.2.2.2.1] at hlv
          have hlv2 := hlv.leave (by have := HL.out.2.2.1; omega)
          rw [HL.out.2.2.2.1] at hlv2
          have hlen := HQ.out.2.1.1
          rw [HL.out.2.2.1, HL.out.2.2.2.1, HL.out.2.2.2.2] at hlen
          have hik : i + k < L := by have := HL.out.2.2.2.2; omega
          obtain ⟨j, hj⟩ : ∃ j, i + k = j := ⟨_, rfl⟩
          rw [hj] at hlv2 hik
          obtain ⟨o, ho⟩ : ∃ o, es[j]? = some o := ⟨_, List.getElem?_eq_getElem (by omega)⟩
          have e0 := owns_at HQ.out.1 encD_len ho (j := 0) rfl
          simp only [Nat.add_zero, Nat.mul_one] at e0
          have f0 := HQ.out.1.frozenAt j
          have hji : IntKind.i64.wrap ((i : Int) + (k : Int)) = (j : Int) := by rw [show (i : Int) + k = j by omega]; exact IntWalk.i64_in _ (by omega)
          have hj2 : (i : Int) + (k : Int) = (j : Int) := by omega
          have i3 : (0 : Int) ≤ (j : Int) := by omega
          have i4 : (j : Int) < (L : Int) := by omega
          have HS := Lib.hid hlv2
          clear hlv hlv2 hlen hj ho
          go_wp2_with (go_quiet (fail))
          go_roundw
          case measure => simp [intOf]; omega
          case rel =>
            have hn3 := own_stored rfl HQ.out.2.2 HQ.out.1 j t
            exact ⟨i + 1, _, by omega, by first | rfl | (simp; done) | (simp; omega), Lib.hid (by first | exact ⟨hn3.1, HS.out, hn3.2⟩ | (have hn4 := own_drewN hn3.2 hn3.1 1; exact ⟨hn4.1, HS.out, hn4.2⟩))⟩
    · obtain rfl : i = n := by omega
      have hm2 := HR.out.2.1
      rw [← HL.out.2.2.1] at hm2
      have hend := hm2.end_
      obtain ⟨A1, c1, hv, hcall⟩ := trim_post HR.out.1 HR.out.2.2 hend
      cases hv
      have HT := Lib.hid hcall
      clear hend hcall hm2
      go_wp2_with fail
      refine HT.out.mono ?_
      rintro e w1 ⟨A2, n2, c2, rfl, hl2, hb2⟩
      have H2 := Lib.hid (show _ ∧ _ from ⟨hl2, hb2⟩)
      clear hl2 hb2
      go_wp2
      go_ret
      exact ⟨A2, n2, c2, rfl, H2.out.1, H2.out.2⟩
end Go.Proofs.YtajaijidecomdaaGreatDoor
