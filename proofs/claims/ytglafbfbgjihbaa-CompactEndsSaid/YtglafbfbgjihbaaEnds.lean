/- compact's ends: CompactEnds of chapter 19. -/
import Derived.Test.YtglafbfbgjihbaaKnown
import Derived.Deep.RegionHeld3
namespace Go.Proofs.Ytglafbfbgjihbaa
open Go.RowKit Go.Lib

theorem Try.infoMeta : (Try.prog.info? 71).map (fun i => (i.zero, i.size, i.bytes)) = some (some (.agg #[.int .u32 0, .int .i64 0, .int .i64 0, .int .i64 0, .int .i64 0]), 5, 40) := by kernel_rfl
theorem maxId_foldl (l : List Mt) : ∀ a : Int, a ≤ l.foldl (fun n m => max n m.id) a ∧ (∀ m ∈ l, m.id ≤ l.foldl (fun n m => max n m.id) a) ∧ ∀ b : Int, a ≤ b → (∀ m ∈ l, m.id ≤ b) → l.foldl (fun n m => max n m.id) a ≤ b := by
  induction l with
  | nil => exact fun a => ⟨Int.le_refl _, (fun _ h => absurd h List.not_mem_nil), fun b h _ => h⟩
  | cons x l ih =>
    intro a
    obtain ⟨h1, h2, h3⟩ := ih (max a x.id)
    simp only [List.foldl_cons]
    refine ⟨by omega, fun m hm => ?_, fun b hb hl => h3 b (by have := hl x (by simp); omega) fun m hm => hl m (by simp [hm])⟩
    rcases List.mem_cons.1 hm with rfl | hm
    · omega
    · exact h2 m hm
theorem maxId_ge {l : List Mt} {m : Mt} (h : m ∈ l) : m.id ≤ maxId l := (maxId_foldl l 0).2.1 m h
theorem maxId_pos (l : List Mt) : 0 ≤ maxId l := (maxId_foldl l 0).1
theorem maxId_le {l : List Mt} {b : Int} (hb : 0 ≤ b) (h : ∀ m ∈ l, m.id ≤ b) : maxId l ≤ b := (maxId_foldl l 0).2.2 b hb h
/-- How many of three places lie ahead of k. -/
def cnt (i1 i2 i3 k : Nat) : Nat := (if i1 < k then 1 else 0) + (if i2 < k then 1 else 0) + (if i3 < k then 1 else 0)
theorem cnt_hit1 {i1 i2 i3 : Nat} (h12 : i1 < i2) (h23 : i2 < i3) : cnt i1 i2 i3 (i1 + 1) = cnt i1 i2 i3 i1 + 1 := by
  unfold cnt
  rw [if_pos (by omega), if_neg (show ¬ i2 < i1 + 1 by omega), if_neg (show ¬ i3 < i1 + 1 by omega), if_neg (show ¬ i1 < i1 by omega), if_neg (show ¬ i2 < i1 by omega), if_neg (show ¬ i3 < i1 by omega)]
theorem cnt_hit2 {i1 i2 i3 : Nat} (h12 : i1 < i2) (h23 : i2 < i3) : cnt i1 i2 i3 (i2 + 1) = cnt i1 i2 i3 i2 + 1 := by
  unfold cnt
  rw [if_pos (show i1 < i2 + 1 by omega), if_pos (show i2 < i2 + 1 by omega), if_neg (show ¬ i3 < i2 + 1 by omega), if_pos (show i1 < i2 by omega), if_neg (show ¬ i2 < i2 by omega), if_neg (show ¬ i3 < i2 by omega)]
theorem cnt_hit3 {i1 i2 i3 : Nat} (h12 : i1 < i2) (h23 : i2 < i3) : cnt i1 i2 i3 (i3 + 1) = cnt i1 i2 i3 i3 + 1 := by
  unfold cnt
  rw [if_pos (show i1 < i3 + 1 by omega), if_pos (show i2 < i3 + 1 by omega), if_pos (show i3 < i3 + 1 by omega), if_pos (show i1 < i3 by omega), if_pos (show i2 < i3 by omega), if_neg (show ¬ i3 < i3 by omega)]
theorem cnt_miss {i1 i2 i3 k : Nat} (h1 : ¬ k = i1) (h2 : ¬ k = i2) (h3 : ¬ k = i3) : cnt i1 i2 i3 (k + 1) = cnt i1 i2 i3 k := by
  unfold cnt
  simp only [show (i1 < k + 1) = (i1 < k) from propext (by omega), show (i2 < k + 1) = (i2 < k) from propext (by omega), show (i3 < k + 1) = (i3 < k) from propext (by omega)]
theorem cnt_all {i1 i2 i3 k : Nat} (h12 : i1 < i2) (h23 : i2 < i3) (h3 : i3 < k) : cnt i1 i2 i3 k = 3 := by
  unfold cnt
  rw [if_pos (by omega), if_pos (by omega), if_pos (by omega)]
/-- Every number in the list is small. -/
def Small (b : Nat) (l : List Mt) : Prop := ∀ m ∈ l, 0 ≤ m.id ∧ m.id ≤ b ∧ 0 ≤ m.level ∧ m.level ≤ b
theorem Small.mono {b b' : Nat} {l : List Mt} (h : Small b l) (hb : b ≤ b') : Small b' l := fun m hm => by have := h m hm; omega
theorem Small.snoc {b : Nat} {l : List Mt} (h : Small b l) {m : Mt} (h1 : 0 ≤ m.id ∧ m.id ≤ b ∧ 0 ≤ m.level ∧ m.level ≤ b) : Small b (l ++ [m]) := fun x hx => by
  rcases List.mem_append.1 hx with hx | hx
  · exact h x hx
  · obtain rfl : x = m := by simpa using hx
    exact h1
theorem Small.ok {b : Nat} {l : List Mt} (h : Small b l) (hb : b ≤ 4000) : ∀ m ∈ l, m.ok := fun m hm => by
  have := h m hm
  exact ⟨by omega, by omega, WalkArith.wf_i64 (by omega)⟩
theorem cells_new (w : World) (cs : List Value) (t : TypeId) : ∀ j u, cs[j]? = some u → (w.alloc (.cells cs.toArray t)).cell? ((⟨w.heap.size, 0, none⟩ : Addr).add j) = some u := by
  intro j u h
  rw [show ((⟨w.heap.size, 0, none⟩ : Addr).add j) = ⟨w.heap.size, j, none⟩ by simp only [Addr.add, Nat.zero_add]; cases j <;> rfl, cell_of_row _ _ _ _ _ _ (heap_alloc_new w _)]
  simpa using h
theorem metaCells_one (m : Mt) : ∀ u ∈ m.cells, u.oneCell' = true := by
  intro u hu
  simp only [Mt.cells, List.mem_cons, List.not_mem_nil, or_false] at hu
  rcases hu with rfl | rfl | rfl | rfl | rfl <;> rfl
theorem flat_snoc (r : List Mt) (m : Mt) : r.flatMap Mt.cells ++ m.cells = (r ++ [m]).flatMap Mt.cells := by simp [List.flatMap_append]
set_option maxHeartbeats 20000000 in
set_option maxRecDepth 100000 in
theorem ends_any (A : Option Addr) (n c : Nat) (zs : List Int) (w : World) (hr : Lst (fun x => [Value.int .u8 x]) 1 w w.heap.size A n zs) (hok : ∀ x ∈ zs, 0 ≤ x ∧ x < 256) (hbig : n ≤ 1099511627776) :
    Calls Try.prog 4 #[.slice A n c] w fun e w' => e = .returned (.bool true) ∧ Below w.heap.size w w' := by
  obtain ⟨i0, hi, hz0, hz1, hz2⟩ := info_parts Try.infoMeta
  go_enter Try.func4, Try.ntmps4
  by_cases hn : 100 < n
  · go_wp2_with fail
    refine (known19 _).mono ?_
    rintro e w1 ⟨rfl, hb1⟩
    go_wp2
    go_ret
    exact ⟨rfl, hb1⟩
  · go_wp2_with fail
    refine (known19 _).mono ?_
    rintro e w1 ⟨rfl, hb1⟩
    have HR := Lib.hid ((hr.below hb1).more hb1.size)
    have HOK := Lib.hid hok
    have HLEN := Lib.hid hr.1
    clear hr hok
    go_wp2
    go_loopw [3, 4] (fun v i wr => ∃ (k : Nat) (r : List Mt), k ≤ n ∧ i = .int .i64 k ∧ r.length = k ∧ Hid (Small 100 r) ∧ wr.ownsRow w1.heap.size 71 5 v k (r.flatMap Mt.cells) ∧ Below w1.heap.size w1 wr) (fun _ i _ => n - (intOf i).toNat)
    case atStart => exact ⟨0, [], Nat.zero_le _, rfl, rfl, (show Hid _ from fun _ h => by cases h), World.ownsRow_nil _ _ _ _, Below.refl _ _⟩
    case round =>
      obtain ⟨k, r, hk, rfl, hrl, hsm, hown, hbl⟩ := hrel
      by_cases hlt : k < n
      · obtain ⟨b, off, x, rfl, hb, hm, hc⟩ := HR.out.at hlt
        have c0 := (hbl.cell (p := ⟨b, off + k * 1 + 0, none⟩) hb).trans (hc 0 _ rfl)
        simp only [Nat.add_zero, Nat.mul_one] at c0
        have hx := HOK.out x (List.mem_of_getElem? hm)
        clear hm hc
        go_wp2_with (at_builtin; refine wpList_append_own _ rfl _ _ 22 rfl w1.heap.size 71 i0 _ 5 40 Try.underlying22 hi hz0 hz1 hz2 rfl (by omega) _ k (r.flatMap Mt.cells) rfl (hown.alloc _) ⟨wr.heap.size, 0, none⟩ 1 1 (Mt.cells ⟨(k : Int) + 1, 0, 0, 0, x % 5 + 1⟩) rfl rfl (cells_new wr (Mt.cells ⟨(k : Int) + 1, 0, 0, 0, x % 5 + 1⟩) _) (metaCells_one _) (by unfold maxLen; omega) (by omega) (by have := hbl.size; simp; omega) ?_)
        intro v' w2 hown2 hg2 _
        rw [flat_snoc] at hown2
        have hbl2 : Below w1.heap.size w1 w2 := (hbl.alloc hbl.size _).grown hg2 (by have := hbl.size; simp; omega) (fun q hq => (hown.lt q hq).1)
        have HS2 := Lib.hid (hsm.out.snoc (m := ⟨(k : Int) + 1, 0, 0, 0, x % 5 + 1⟩) ⟨by simp; omega, by simp; omega, by simp; omega, by simp; omega⟩)
        go_wp2
        go_roundw
        case measure => simp [intOf]; omega
        case rel => exact ⟨k + 1, _, hlt, by simp, by simp [hrl], HS2.out, hown2, hbl2⟩
      · obtain rfl : k = n := by omega
        obtain ⟨A3, c3, rfl, hmx, hL⟩ := ownsRow_lst hown hrl (fun _ => rfl)
        have HL := Lib.hid (show _ ∧ _ from ⟨hL, hb1.trans (hbl.mono hb1.size)⟩)
        have hn100 : k ≤ 100 := by omega
        clear hown hL hbl HR HOK HLEN hmx hrl hbig hi hz0 hz1 hz2 hb1
        go_wp2
        go_loopw [3, 6] (fun v i wx => ∃ (q len : Nat) (A : Option Addr) (c : Nat) (l : List Mt), i = .int .i64 q ∧ len + 2 * q ≤ k ∧ v = .slice A len c ∧ Hid (Small (100 + q) l) ∧ Hid (Lst Mt.cells 5 wx wx.heap.size A len l) ∧ Below w.heap.size w wx) (fun _ i _ => k + 1 - (intOf i).toNat)
        case atStart => exact ⟨0, k, A3, c3, r, rfl, by omega, rfl, hsm, HL.out.1, HL.out.2⟩
        clear HL hsm
        case round =>
          obtain ⟨q, len, A, c, l, rfl, hql, rfl, hsm, hL, hbl⟩ := hrel
          go_wp2_with fail
          refine (plan_any _ _ _ _ _ hL.out (hsm.out.ok (by omega)) (by omega)).mono ?_
          rintro e w2 ⟨v, p, rfl, hp, hrow, hb2⟩
          obtain ⟨A7, c7, rfl, _, hI⟩ := ownsRow_ints hrow rfl
          rcases hp.three with ⟨rfl, hfew⟩ | ⟨lv, i1, i2, i3, hlow, rfl, h12, h23, h3, hl1, hl2, hl3⟩
          · have hbl2 := hbl.trans (hb2.mono hbl.size)
            have HL2 := Lib.hid ((hL.out.below hb2).more hb2.size)
            have HF := Lib.hid hfew
            have hlen := hL.out.1
            clear hp hrow hI hb2 hsm hL hfew
            as_aux_lemma =>
              go_wp2
              go_loopw [8] (fun i wy => ∃ a : Nat, a ≤ len ∧ i = .int .i64 a ∧ Below w2.heap.size w2 wy) (fun i _ => len - (intOf i).toNat)
              case atStart => exact ⟨0, Nat.zero_le _, rfl, Below.refl _ _⟩
              case round =>
                obtain ⟨a, ha, rfl, hby⟩ := hrel
                by_cases hal : a < len
                · obtain ⟨b, off, m, rfl, hb, hm, hc⟩ := HL2.out.at hal
                  have c4 := hc 4 _ rfl
                  have HM := Lib.hid hm
                  clear hm hc
                  go_wp2
                  go_loopw [9, 10] (fun t i wz => ∃ j : Nat, j ≤ len ∧ i = .int .i64 j ∧ t = .int .i64 ((idxs l j m.level).length : Nat) ∧ Below w2.heap.size w2 wz) (fun _ i _ => len - (intOf i).toNat)
                  case atStart => exact ⟨0, Nat.zero_le _, rfl, rfl, hby⟩
                  case round =>
                    obtain ⟨j, hj, rfl, rfl, hbz⟩ := hrel
                    by_cases hjl : j < len
                    · obtain ⟨b', off', m', e', hb', hm', hc'⟩ := HL2.out.at hjl
                      obtain ⟨rfl, rfl⟩ : b = b' ∧ off = off' := by simpa using e'
                      have cj := (hbz.cell (p := ⟨b, off + j * 5 + 4, none⟩) hb).trans (hc' 4 _ rfl)
                      have ca := (hbz.cell (p := ⟨b, off + a * 5 + 4, none⟩) hb).trans c4
                      have hs := congrArg List.length (idxs_succ l j m' hm' m.level)
                      have hle := idxs_le l j m.level
                      have HS := Lib.hid hs
                      clear hm' hc' e' hs c4
                      by_cases hlv : m'.level = m.level
                      · have HS' : Hid ((idxs l (j + 1) m.level).length = (idxs l j m.level).length + 1) := by
                          have h := HS.out
                          rw [if_pos hlv] at h
                          exact Lib.hid (by simpa using h)
                        rw [hlv] at cj
                        clear HS
                        generalize idxs l j m.level = zj at HS' hle ⊢
                        go_wp2_with (go_quiet (fail))
                        go_roundw
                        case measure => simp [intOf]; omega
                        case rel => exact ⟨j + 1, hjl, by simp, by rw [HS'.out]; simp, below_drewN hbz _⟩
                      · have HS' : Hid ((idxs l (j + 1) m.level).length = (idxs l j m.level).length) := by
                          have h := HS.out
                          rw [if_neg hlv] at h
                          exact h
                        clear HS
                        generalize idxs l j m.level = zj at HS' hle ⊢
                        go_wp2_with (go_quiet (fail))
                        go_roundw
                        case measure => simp [intOf]; omega
                        case rel => exact ⟨j + 1, hjl, by simp, by rw [HS'.out], below_drewN hbz _⟩
                    · obtain rfl : j = l.length := by omega
                      have hm3 : (idxs l l.length m.level).length < 3 := HF.out _
                      generalize (idxs l l.length m.level).length = zl at hm3 ⊢
                      go_wp2
                      go_roundw
                      case measure => simp [intOf]; omega
                      case rel => exact ⟨a + 1, hal, by simp, hbz⟩
                · go_wp2
                  go_ret
                  exact ⟨rfl, hbl2.trans (hby.mono hbl2.size)⟩
          · have hlen := hL.out.1
            have hbl2 := hbl.trans (hb2.mono hbl.size)
            have HL2 := Lib.hid ((hL.out.below hb2).more hb2.size)
            obtain ⟨m1, hm1, hv1⟩ := Option.map_eq_some_iff.1 hl1
            obtain ⟨m2, hm2, hv2⟩ := Option.map_eq_some_iff.1 hl2
            obtain ⟨m3, hm3, hv3⟩ := Option.map_eq_some_iff.1 hl3
            obtain ⟨b7, off7, e7, hb7, hc7⟩ := hI.2 (Nat.zero_lt_succ _)
            subst e7
            have p0 := hc7 0 _ rfl 0 _ rfl
            have p1 := hc7 1 _ rfl 0 _ rfl
            have p2 := hc7 2 _ rfl 0 _ rfl
            simp only [Nat.mul_one, Nat.add_zero] at p0 p1 p2
            obtain ⟨bm, om, em, hbm, hcm⟩ := HL2.out.2 (by have := hL.out.1; omega)
            subst em
            have q1 := hcm i1 _ hm1 4 _ rfl
            have q2 := hcm i2 _ hm2 4 _ rfl
            have q3 := hcm i3 _ hm3 4 _ rfl
            rw [hv1] at q1
            rw [hv2] at q2
            rw [hv3] at q3
            have hlvs := hsm.out m1 (List.mem_of_getElem? hm1)
            rw [hv1] at hlvs
            clear hp hrow hI hb2 hL hlow hm1 hm2 hm3 hv1 hv2 hv3 hc7 hcm hl1 hl2 hl3
            have g1 : (0 : Int) ≤ (i1 : Int) := by omega
            have g1' : (0 : Int) ≤ (i2 : Int) := by omega
            have g1'' : (0 : Int) ≤ (i3 : Int) := by omega
            have g2 : (i1 : Int) < (i2 : Int) := by omega
            have g3 : (i2 : Int) < (i3 : Int) := by omega
            have g4 : (i3 : Int) < (len : Int) := by omega
            have g5 : (i2 : Int) < (len : Int) := by omega
            have g6 : (i1 : Int) < (len : Int) := by omega
            have g7 : ¬ i2 ≤ i1 := by omega
            have g8 : ¬ i3 ≤ i2 := by omega
            have g9 : ¬ len ≤ i3 := by omega
            have HH := Lib.hid (show _ ∧ _ ∧ _ ∧ _ from ⟨h12, h23, h3, hlen⟩)
            clear h12 h23 h3 hlen
            go_wp2_with fail
            go_upto_region 28 with (fail)
            go_cut [149] from 81 (fun sx wc => sx = .bool false ∧ ∃ nq, wc = w2.drewN nq)
            case first =>
              as_aux_lemma =>
                go_wp2_with (go_quiet (fail))
                go_meet
                exact ⟨rfl, nq, rfl⟩
            case rest =>
              obtain ⟨rfl, nq, rfl⟩ := hcut
              clear g1' g1'' g2 g3 g5 g7 g8 g9 q2 q3
              have hbn := below_drewN hbl2 nq
              have HLn : Hid (Lst Mt.cells 5 (w2.drewN nq) (w2.drewN nq).heap.size (some ⟨bm, om, none⟩) len l) := HL2.out
              have p0' : (w2.drewN nq).cell? _ = _ := p0
              have p1' : (w2.drewN nq).cell? _ = _ := p1
              have p2' : (w2.drewN nq).cell? _ = _ := p2
              have q1' : (w2.drewN nq).cell? _ = _ := q1
              have hb7' : b7 < (w2.drewN nq).heap.size := hb7
              have hbm' : bm < (w2.drewN nq).heap.size := hbm
              generalize w2.drewN nq = wd at hbn HLn p0' p1' p2' q1' hb7' hbm' ⊢
              clear HL2 p0 p1 p2 q1 hb7 hbm
              go_wp2_with fail
              go_upto_region 29 with (fail)
              go_cut [11] from 150 (fun s11 wx => ∃ g : Nat, s11 = .pointer (some ⟨g, 0, none⟩) ∧ wd.heap.size ≤ g ∧ g < wx.heap.size ∧ wx.cell? ⟨g, 0, none⟩ = some (.int .u32 (maxId l + 1)) ∧ wx.cell? ⟨g, 1, none⟩ = some (.int .i64 0) ∧ wx.cell? ⟨g, 2, none⟩ = some (.int .i64 0) ∧ wx.cell? ⟨g, 3, none⟩ = some (.int .i64 0) ∧ wx.cell? ⟨g, 4, none⟩ = some (.int .i64 (lv + 1)) ∧ Below wd.heap.size wd wx)
              case first =>
                as_aux_lemma =>
                  have hmx : (maxId l + 1) % 4294967296 = maxId l + 1 := by
                    have h1 := maxId_pos l
                    have h2 := maxId_le (l := l) (b := ((100 + q : Nat) : Int)) (by omega) (fun m hm => (hsm.out m hm).2.1)
                    omega
                  have hwl : IntKind.i64.wrap (lv + 1) = lv + 1 := IntWalk.i64_in _ (by omega)
                  go_wp2_with fail
                  have n7 : b7 ≠ wd.heap.size := by omega
                  have nm : bm ≠ wd.heap.size := by omega
                  have n7' : wd.heap.size ≠ b7 := by omega
                  have nm' : wd.heap.size ≠ bm := by omega
                  have hB0 : Below wd.heap.size wd wd.drew := (Below.refl _ _).drew
                  have HB0 := Lib.hid hB0
                  clear hB0
                  go_region_held3 (fun w' => w'.cell? ⟨b7, off7, none⟩ = some (.int .i64 i1) ∧ w'.cell? ⟨bm, om + i1 * 5 + 4, none⟩ = some (.int .i64 lv)) (go_keep)
                    (first
                      | (go_at_call 9; refine (next_any _ _ _ l _ ?_ ?_).mono ?_; exact (HLn.out.below HB0.out).more HB0.out.size; omega; rintro e w' ⟨rfl, hbN⟩; have hsN : wd.heap.size ≤ w'.heap.size := hbN.size; have x7 : b7 ≠ w'.heap.size := (by omega); have xm : bm ≠ w'.heap.size := (by omega); have x7' : w'.heap.size ≠ b7 := (by omega); have xm' : w'.heap.size ≠ bm := (by omega); have k0 := hbN.cell (p := ⟨b7, off7, none⟩) (by simp; omega); have k1 := hbN.cell (p := ⟨bm, om + i1 * 5 + 4, none⟩) (by simp; omega))
                      | (go_at_call 9; refine (next_any _ _ _ l _ ?_ ?_).mono ?_; exact (HLn.out.below (HB0.out.alloc HB0.out.size _)).more (HB0.out.alloc HB0.out.size _).size; omega; rintro e w' ⟨rfl, hbN⟩; have k0 := hbN.cell (p := ⟨b7, off7, none⟩) (by simp; omega); have k1 := hbN.cell (p := ⟨bm, om + i1 * 5 + 4, none⟩) (by simp; omega); have z0 : w'.cell? ⟨wd.heap.size, 0, none⟩ = some (.int .u32 0) := (hbN.cell (by simp)).trans (by simp [World.cell?_alloc_new]); have y0 : w'.frozen? ⟨wd.heap.size, 0, none⟩ = false := (hbN.frozen (by simp)).trans (by simp [World.frozen?_alloc_new]); have z1 : w'.cell? ⟨wd.heap.size, 1, none⟩ = some (.int .i64 0) := (hbN.cell (by simp)).trans (by simp [World.cell?_alloc_new]); have y1 : w'.frozen? ⟨wd.heap.size, 1, none⟩ = false := (hbN.frozen (by simp)).trans (by simp [World.frozen?_alloc_new]); have z2 : w'.cell? ⟨wd.heap.size, 2, none⟩ = some (.int .i64 0) := (hbN.cell (by simp)).trans (by simp [World.cell?_alloc_new]); have y2 : w'.frozen? ⟨wd.heap.size, 2, none⟩ = false := (hbN.frozen (by simp)).trans (by simp [World.frozen?_alloc_new]); have z3 : w'.cell? ⟨wd.heap.size, 3, none⟩ = some (.int .i64 0) := (hbN.cell (by simp)).trans (by simp [World.cell?_alloc_new]); have y3 : w'.frozen? ⟨wd.heap.size, 3, none⟩ = false := (hbN.frozen (by simp)).trans (by simp [World.frozen?_alloc_new]); have z4 : w'.cell? ⟨wd.heap.size, 4, none⟩ = some (.int .i64 0) := (hbN.cell (by simp)).trans (by simp [World.cell?_alloc_new]); have y4 : w'.frozen? ⟨wd.heap.size, 4, none⟩ = false := (hbN.frozen (by simp)).trans (by simp [World.frozen?_alloc_new])))
                  · go_wp2_with fail
                    go_meet
                    exact ⟨_, rfl, Nat.le_trans HB0.out.size hbN.size, by simp, by simp, by simp, by simp, by simp, by simp, (HB0.out.trans (hbN.mono HB0.out.size)).alloc (Nat.le_trans HB0.out.size hbN.size) _⟩
                  · go_wp2_with fail
                    go_meet
                    have hbN' := (HB0.out.alloc HB0.out.size (.cells #[.int .u32 0, .int .i64 0, .int .i64 0, .int .i64 0, .int .i64 0] 71)).trans (hbN.mono (by simp))
                    have hgs : wd.heap.size < w'.heap.size := by have := hbN.size; simp at this; omega
                    exact ⟨_, rfl, Nat.le_refl _, by simpa using hgs, by simp [go_sem, *], by simp [go_sem, *], by simp [go_sem, *], by simp [go_sem, *], by simp [go_sem, *], ((((hbN'.setCell (Nat.le_refl _) _).setCell (Nat.le_refl _) _).setCell (Nat.le_refl _) _).setCell (Nat.le_refl _) _).setCell (Nat.le_refl _) _⟩
              case rest =>
                obtain ⟨g, rfl, hgB, hgs, n0, n1, n2, n3, n4, hbx⟩ := hcut
                have hN : ∀ m ∈ l, m.id < maxId l + 1 := fun m hm => by have := maxId_ge hm; omega
                have hNb : 0 ≤ maxId l + 1 ∧ maxId l + 1 ≤ ((100 + (q + 1) : Nat) : Int) := by
                  have h1 := maxId_pos l
                  have h2 := maxId_le (l := l) (b := ((100 + q : Nat) : Int)) (by omega) (fun m hm => (hsm.out m hm).2.1)
                  omega
                generalize maxId l + 1 = N at hN hNb n0 ⊢
                have HN := Lib.hid hN
                have HX := Lib.hid ((HLn.out.below hbx).more hbx.size)
                have HBX := Lib.hid (hbn.trans (hbx.mono hbn.size))
                have r0 := (hbx.cell (p := ⟨b7, off7, none⟩) hb7').trans p0'
                have r1 := (hbx.cell (p := ⟨b7, off7 + 1, none⟩) hb7').trans p1'
                have r2 := (hbx.cell (p := ⟨b7, off7 + 2, none⟩) hb7').trans p2'
                have hb7x : b7 < wc.heap.size := Nat.lt_of_lt_of_le hb7' hbx.size
                have hbmx : bm < wc.heap.size := Nat.lt_of_lt_of_le hbm' hbx.size
                clear hN HLn hbn hbx p0' p1' p2' q1' hb7' hbm' hgB
                obtain ⟨i0, hi, hz0, hz1, hz2⟩ := info_parts Try.infoMeta
                have HI := Lib.hid (show _ ∧ _ ∧ _ ∧ _ from ⟨hi, hz0, hz1, hz2⟩)
                clear hi hz0 hz1 hz2
                go_wp2_with fail
                go_loopw [12, 13] (fun v i wy => ∃ (k5 : Nat) (r5 : List Mt), k5 ≤ len ∧ i = .int .i64 k5 ∧ wy.ownsRow wc.heap.size 71 5 v r5.length (r5.flatMap Mt.cells) ∧ Hid (r5.length + cnt i1 i2 i3 k5 = k5 ∧ ∀ x ∈ r5, x ∈ l) ∧ Below wc.heap.size wc wy) (fun _ i _ => len - (intOf i).toNat)
                case atStart => exact ⟨0, [], Nat.zero_le _, rfl, World.ownsRow_nil _ _ _ _, (show Hid _ from ⟨rfl, fun _ h => absurd h List.not_mem_nil⟩), Below.refl _ _⟩
                case round =>
                  obtain ⟨k5, r5, hk5, rfl, hown, hr5, hby⟩ := hrel
                  by_cases h5 : k5 < len
                  · have h5i : (k5 : Int) < (len : Int) := by omega
                    obtain ⟨b', off', m, e', hb', hm, hc⟩ := HX.out.at h5
                    obtain ⟨rfl, rfl⟩ : bm = b' ∧ om = off' := by simpa using e'
                    have s0 := (hby.cell (p := ⟨bm, om + k5 * 5 + 0, none⟩) hb').trans (hc 0 _ rfl)
                    have s1 := (hby.cell (p := ⟨bm, om + k5 * 5 + 1, none⟩) hb').trans (hc 1 _ rfl)
                    have s2 := (hby.cell (p := ⟨bm, om + k5 * 5 + 2, none⟩) hb').trans (hc 2 _ rfl)
                    have s3 := (hby.cell (p := ⟨bm, om + k5 * 5 + 3, none⟩) hb').trans (hc 3 _ rfl)
                    have s4 := (hby.cell (p := ⟨bm, om + k5 * 5 + 4, none⟩) hb').trans (hc 4 _ rfl)
                    simp only [Nat.add_zero] at s0
                    have t0 := (hby.cell (p := ⟨b7, off7, none⟩) hb7x).trans r0
                    have t1 := (hby.cell (p := ⟨b7, off7 + 1, none⟩) hb7x).trans r1
                    have t2 := (hby.cell (p := ⟨b7, off7 + 2, none⟩) hb7x).trans r2
                    have v0 := (hby.cell (p := ⟨g, 0, none⟩) hgs).trans n0
                    have hid' : m.id < N := HN.out m (List.mem_of_getElem? hm)
                    have hid : ¬ N ≤ m.id := by have := HN.out m (List.mem_of_getElem? hm); omega
                    have HM := Lib.hid hm
                    clear hm hc e' r0 r1 r2 n0 n1 n2 n3 n4
                    go_wp2_with fail
                    go_quiet (fail)
                    have hbz := below_drewN hby nq
                    have HO : Hid ((wr.drewN nq).ownsRow wc.heap.size 71 5 _ r5.length (r5.flatMap Mt.cells)) := hown
                    have c0 : (wr.drewN nq).cell? _ = _ := s0
                    have c1 : (wr.drewN nq).cell? _ = _ := s1
                    have c2 : (wr.drewN nq).cell? _ = _ := s2
                    have c3 : (wr.drewN nq).cell? _ = _ := s3
                    have c4 : (wr.drewN nq).cell? _ = _ := s4
                    have d0 : (wr.drewN nq).cell? _ = _ := t0
                    have d1 : (wr.drewN nq).cell? _ = _ := t1
                    have d2 : (wr.drewN nq).cell? _ = _ := t2
                    generalize wr.drewN nq = wz at hbz HO c0 c1 c2 c3 c4 d0 d1 d2 ⊢
                    clear hown hby s0 s1 s2 s3 s4 t0 t1 t2 v0
                    have HR5 := Lib.hid (show _ ∧ _ ∧ _ from ⟨hr5.out, hk5, h5⟩)
                    clear hr5
                    by_cases e1 : k5 = i1
                    · subst e1
                      go_wp2
                      go_roundw
                      case measure => simp [intOf]; omega
                      case rel => exact ⟨k5 + 1, r5, h5, by simp, HO.out, Lib.hid ⟨by have h := HR5.out.1.1; have q := cnt_hit1 HH.out.1 HH.out.2.1; omega, HR5.out.1.2⟩, hbz⟩
                    · by_cases e2 : k5 = i2
                      · subst e2
                        go_wp2
                        go_roundw
                        case measure => simp [intOf]; omega
                        case rel => exact ⟨k5 + 1, r5, h5, by simp, HO.out, Lib.hid ⟨by have h := HR5.out.1.1; have q := cnt_hit2 HH.out.1 HH.out.2.1; omega, HR5.out.1.2⟩, hbz⟩
                      · by_cases e3 : k5 = i3
                        · subst e3
                          go_wp2
                          go_roundw
                          case measure => simp [intOf]; omega
                          case rel => exact ⟨k5 + 1, r5, h5, by simp, HO.out, Lib.hid ⟨by have h := HR5.out.1.1; have q := cnt_hit3 HH.out.1 HH.out.2.1; omega, HR5.out.1.2⟩, hbz⟩
                        · have hrl5 : r5.length ≤ 100 := by have := HR5.out.1.1; omega
                          have E := Lib.hid (show _ ∧ _ ∧ _ from ⟨e1, e2, e3⟩)
                          have f1 : ((k5 : Int) != (i1 : Int)) = true := by simp; omega
                          have f2 : ((k5 : Int) != (i2 : Int)) = true := by simp; omega
                          have f3 : ((k5 : Int) != (i3 : Int)) = true := by simp; omega
                          obtain ⟨hi, hz0, hz1, hz2⟩ := HI.out
                          go_wp2_with (at_builtin; refine wpList_append_own _ rfl _ _ 22 rfl wc.heap.size 71 i0 _ 5 40 Try.underlying22 hi hz0 hz1 hz2 rfl (by omega) _ r5.length (r5.flatMap Mt.cells) rfl (HO.out.alloc _) ⟨wz.heap.size, 0, none⟩ 1 1 (Mt.cells m) rfl rfl (cells_new wz (Mt.cells m) _) (metaCells_one _) (by unfold maxLen; omega) (by omega) (by have := hbz.size; simp; omega) ?_)
                          intro v' w5 hown5 hg5 _
                          rw [flat_snoc] at hown5
                          have hb5 := (hbz.alloc hbz.size _).grown hg5 (by have := hbz.size; simp; omega) (fun j hj => (HO.out.lt j hj).1)
                          clear hi hz0 hz1 hz2
                          go_wp2
                          go_roundw
                          case measure => simp [intOf]; omega
                          case rel => exact ⟨k5 + 1, r5 ++ [m], h5, by simp, by simpa using hown5, Lib.hid ⟨by have h := HR5.out.1.1; have q := cnt_miss E.out.1 E.out.2.1 E.out.2.2; simp; omega, fun x hx => by
                            rcases List.mem_append.1 hx with hx | hx
                            · exact HR5.out.1.2 x hx
                            · obtain rfl : x = m := by simpa using hx
                              exact List.mem_of_getElem? HM.out⟩, hb5⟩
                  · obtain rfl : k5 = len := by omega
                    have hr := hr5.out.1
                    rw [cnt_all HH.out.1 HH.out.2.1 (show i3 < k5 by have := HH.out; omega)] at hr
                    have n0' := (hby.cell (p := ⟨g, 0, none⟩) hgs).trans n0
                    have n1' := (hby.cell (p := ⟨g, 1, none⟩) hgs).trans n1
                    have n2' := (hby.cell (p := ⟨g, 2, none⟩) hgs).trans n2
                    have n3' := (hby.cell (p := ⟨g, 3, none⟩) hgs).trans n3
                    have n4' := (hby.cell (p := ⟨g, 4, none⟩) hgs).trans n4
                    obtain ⟨hi, hz0, hz1, hz2⟩ := HI.out
                    have hrl5 : r5.length ≤ 100 := by omega
                    have HRL := Lib.hid hr
                    clear hr r0 r1 r2 n0 n1 n2 n3 n4
                    go_wp2_with (at_builtin; refine wpList_append_own _ rfl _ _ 22 rfl wc.heap.size 71 i0 _ 5 40 Try.underlying22 hi hz0 hz1 hz2 rfl (by omega) _ r5.length (r5.flatMap Mt.cells) rfl (hown.alloc _) ⟨wr.heap.size, 0, none⟩ 1 1 (Mt.cells ⟨N, 0, 0, 0, lv + 1⟩) rfl rfl (cells_new wr (Mt.cells ⟨N, 0, 0, 0, lv + 1⟩) _) (metaCells_one _) (by unfold maxLen; omega) (by omega) (by have := hby.size; simp; omega) ?_)
                    intro v' w5 hown5 hg5 _
                    rw [flat_snoc] at hown5
                    have hb5 := (hby.alloc hby.size _).grown hg5 (by have := hby.size; simp; omega) (fun j hj => (hown.lt j hj).1)
                    obtain ⟨A9, c9, rfl, _, hL9⟩ := ownsRow_lst hown5 (by simp) (fun _ => rfl)
                    have HF := Lib.hid (show _ ∧ _ from ⟨hL9, HBX.out.trans (hb5.mono HBX.out.size)⟩)
                    clear hi hz0 hz1 hz2 hL9 hown5 hown hb5 hg5 n0' n1' n2' n3' n4' hby
                    go_wp2
                    go_roundw
                    case measure => have := HRL.out; simp [intOf]; omega
                    case rel =>
                      refine ⟨q + 1, r5.length + 1, A9, c9, r5 ++ [⟨N, 0, 0, 0, lv + 1⟩], by simp, by have := HRL.out; omega, rfl, Lib.hid ?_, Lib.hid HF.out.1, HF.out.2⟩
                      refine Small.snoc (fun x hx => ?_) ⟨hNb.1, by simpa using hNb.2, by simp; omega, by simp; omega⟩
                      have := hsm.out x (hr5.out.2 x hx)
                      omega
end Go.Proofs.Ytglafbfbgjihbaa
