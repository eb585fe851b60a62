/- The plain law of compact.Plan: what its contract says is one list, the one that counting gives. compact.Next: the next block's number. SameInts: whether two rows of numbers are the same. Rows of elements of several cells as lists; the known round of chapter 19. CompactBlocks' end: what is known when all is lent, looked at and spoilt. CompactBlocks' walk. -/
import Derived.Test.YtihidnmpngeohaaGreatPlan
import Derived.Test.YtihidnmpngeohaaGreatG47
import Derived.BigQuiet
import Derived.Test.YtihidnmpngeohaaGreatG45
namespace Go.Proofs.YtihidnmpngeohaaGreat

instance (l : List Mt) (i k : Nat) : Decidable (Ro l i k) := by unfold Ro; exact inferInstance
theorem Ro.irrefl (l : List Mt) (i : Nat) : ¬ Ro l i i := by unfold Ro; omega
theorem Ro.asymm {l : List Mt} {i k : Nat} (h : Ro l i k) : ¬ Ro l k i := by unfold Ro at *; omega
/-- How many of zs stand ahead of i. -/
def aheadOfP (l : List Mt) (zs : List Nat) (i : Nat) : Nat := (zs.filter fun k => decide (Ro l k i)).length
theorem filter_takeP (pred : Nat → Bool) : ∀ (s : List Nat) (q : Nat), (∀ p (h : p < s.length), pred s[p] = decide (p < q)) → s.filter pred = s.take q
  | [], q, _ => by simp
  | x :: s, 0, h => by
    rw [List.take_zero, List.filter_eq_nil_iff]
    intro y hy
    obtain ⟨p, hp, rfl⟩ := List.getElem_of_mem hy
    rw [h p hp]; simp
  | x :: s, q + 1, h => by
    have h0 := h 0 (by simp)
    have hr := filter_takeP pred s q (fun p hp => by have := h (p + 1) (by simpa using hp); simpa using this)
    simp only [List.getElem_cons_zero, Nat.zero_lt_succ, decide_true] at h0
    rw [List.filter_cons, if_pos h0, List.take_succ_cons, hr]
theorem ahead_sorted {l : List Mt} {s : List Nat} (hs : s.Pairwise (Ro l)) (p : Nat) (h : p < s.length) : aheadOfP l s s[p] = p := by
  unfold aheadOfP
  rw [filter_takeP _ s p (fun q hq => ?_), List.length_take]
  · omega
  · rw [List.pairwise_iff_getElem] at hs
    rcases Nat.lt_trichotomy q p with e | e | e
    · rw [decide_eq_true (hs q p hq h e), decide_eq_true e]
    · subst e
      rw [decide_eq_false (Ro.irrefl l _), decide_eq_false (by omega)]
    · rw [decide_eq_false (Ro.asymm (hs p q h hq e)), decide_eq_false (by omega)]
theorem pick_eq {l : List Mt} {s zs : List Nat} (hp : s.Perm zs) (hs : s.Pairwise (Ro l)) (hz : zs.Pairwise (· < ·)) : (ints (s.take 3)).mergeSort (fun x y => decide (x ≤ y)) = ints (zs.filter fun i => decide (aheadOfP l zs i < 3)) := by
  have ha : ∀ i, aheadOfP l zs i = aheadOfP l s i := fun i => ((hp.filter _).length_eq).symm
  have h1 : (s.take 3).Perm (zs.filter fun i => decide (aheadOfP l zs i < 3)) := by
    rw [← filter_takeP (fun i => decide (aheadOfP l zs i < 3)) s 3 (fun p h => by rw [ha, ahead_sorted hs p h])]
    exact hp.filter _
  have tr : ∀ a b c : Int, decide (a ≤ b) = true → decide (b ≤ c) = true → decide (a ≤ c) = true := fun a b c h1 h2 => by have h1 := of_decide_eq_true h1; have h2 := of_decide_eq_true h2; exact decide_eq_true (Int.le_trans h1 h2)
  have htot : ∀ a b : Int, (decide (a ≤ b) || decide (b ≤ a)) = true := fun a b => by rcases Int.le_total a b with h | h <;> simp [h]
  refine List.Perm.eq_of_pairwise (le := fun a b : Int => decide (a ≤ b) = true) (fun a b _ _ h1 h2 => Int.le_antisymm (of_decide_eq_true h1) (of_decide_eq_true h2)) (List.pairwise_mergeSort tr htot _) ?_ ((List.mergeSort_perm _ _).trans (h1.map _))
  unfold ints
  rw [List.pairwise_map]
  refine (List.Pairwise.filter _ hz).imp (fun {a b} h => decide_eq_true ?_)
  show (a : Int) ≤ (b : Int)
  omega
def manyOf (l : List Mt) (lv : Int) : Nat := (idxs l l.length lv).length
def pickOf (l : List Mt) (lv : Int) : List Nat := (idxs l l.length lv).filter fun i => decide (aheadOfP l (idxs l l.length lv) i < 3)
theorem PlanIs.cases {l : List Mt} {p : List Int} (h : PlanIs l p) : (p = [] ∧ ∀ lv, manyOf l lv < 3) ∨ ∃ lv, (∀ x, x < lv → manyOf l x < 3) ∧ 3 ≤ manyOf l lv ∧ p = ints (pickOf l lv) := by
  rcases h with h | ⟨lv, s, h1, h2, h3, h4, h5⟩
  · exact .inl h
  · exact .inr ⟨lv, h1, h2, by rw [h5, pick_eq h3 h4 (idxs_rise _ _ _)]; rfl⟩
/-- Three are picked. -/
theorem pickOf_length {l : List Mt} {lv : Int} (h : 3 ≤ manyOf l lv) : (∃ s : List Nat, s.Perm (idxs l l.length lv) ∧ s.Pairwise (Ro l)) → (pickOf l lv).length = 3 := by
  rintro ⟨s, hp, hs⟩
  have h1 := congrArg List.length (pick_eq hp hs (idxs_rise l l.length lv))
  rw [List.length_mergeSort] at h1
  have h2 : (ints (s.take 3)).length = 3 := by
    have := hp.length_eq
    unfold manyOf at h
    simp [ints]; omega
  rw [h2] at h1
  simpa [ints, pickOf] using h1.symm
theorem PlanIs.three {l : List Mt} {p : List Int} (h : PlanIs l p) : (p = [] ∧ ∀ lv, manyOf l lv < 3) ∨ ∃ (lv : Int) (i j k : Nat), (∀ x, x < lv → manyOf l x < 3) ∧ p = [(i : Int), (j : Int), (k : Int)] ∧ i < j ∧ j < k ∧ k < l.length ∧ l[i]?.map (·.level) = some lv ∧ l[j]?.map (·.level) = some lv ∧ l[k]?.map (·.level) = some lv := by
  rcases h with h | ⟨lv, s, h1, h2, h3, h4, h5⟩
  · exact .inl h
  · have hp := pick_eq h3 h4 (idxs_rise _ _ _)
    have hl := pickOf_length (l := l) (lv := lv) h2 ⟨s, h3, h4⟩
    have hr : (pickOf l lv).Pairwise (· < ·) := List.Pairwise.filter _ (idxs_rise _ _ _)
    have hm : ∀ i ∈ pickOf l lv, i < l.length ∧ l[i]?.map (·.level) = some lv := fun i hi => by
      have h := (List.mem_filter.1 hi).1
      exact ⟨idxs_lt _ _ _ i h, by simpa using (List.mem_filter.1 h).2⟩
    have e : p = ints (pickOf l lv) := by rw [h5, hp]; rfl
    match hq : pickOf l lv, hl with
    | [i, j, k], _ =>
      rw [hq] at hr hm e
      simp only [List.pairwise_cons, List.mem_cons, List.not_mem_nil, or_false] at hr
      exact .inr ⟨lv, i, j, k, h1, by rw [e]; rfl, hr.1 j (.inl rfl), hr.2.1 k rfl, (hm k (by simp)).1, (hm i (by simp)).2, (hm j (by simp)).2, (hm k (by simp)).2⟩
end Go.Proofs.YtihidnmpngeohaaGreat
namespace Go.Proofs.YtihidnmpngeohaaGreat
open Go.RowKit

def maxId (l : List Mt) : Int := l.foldl (fun n m => max n m.id) 0
theorem maxId_snoc (l : List Mt) (k : Nat) (m : Mt) (h : l[k]? = some m) : maxId (l.take (k + 1)) = max (maxId (l.take k)) m.id := by
  unfold maxId
  rw [List.take_add_one, h]
  simp only [Option.toList_some, List.foldl_append, List.foldl_cons, List.foldl_nil]
set_option maxHeartbeats 400000 in
theorem next_any (A : Option Addr) (n c : Nat) (l : List Mt) (w : World) (hr : Lst Mt.cells 5 w w.heap.size A n l) (hbig : n ≤ 1099511627776) :
    Calls Tryz.prog 89 #[.slice A n c] w fun e w' => e = .returned (.int .u32 ((maxId l + 1) % 4294967296)) ∧ Below w.heap.size w w' := by
  go_enter Tryz.func89, Tryz.ntmps89
  go_wp2
  go_loopw [3, 8] (fun t i wr => ∃ k : Nat, k ≤ n ∧ i = .int .i64 k ∧ t = .int .u32 (maxId (l.take k)) ∧ Below w.heap.size w wr) (fun _ i _ => n - (intOf i).toNat)
  case atStart => exact ⟨0, Nat.zero_le _, rfl, rfl, Below.refl _ _⟩
  case round =>
    obtain ⟨k, hk, rfl, rfl, hbl⟩ := hrel
    by_cases hlt : k < n
    · obtain ⟨b, off, m, rfl, hb, hm, hc⟩ := hr.at hlt
      have c0 := (hbl.cell (p := ⟨b, off + k * 5 + 0, none⟩) hb).trans (hc 0 _ rfl)
      have c1 := (hbl.cell (p := ⟨b, off + k * 5 + 1, none⟩) hb).trans (hc 1 _ rfl)
      have c2 := (hbl.cell (p := ⟨b, off + k * 5 + 2, none⟩) hb).trans (hc 2 _ rfl)
      have c3 := (hbl.cell (p := ⟨b, off + k * 5 + 3, none⟩) hb).trans (hc 3 _ rfl)
      have c4 := (hbl.cell (p := ⟨b, off + k * 5 + 4, none⟩) hb).trans (hc 4 _ rfl)
      simp only [Nat.add_zero] at c0
      have hs := maxId_snoc l k m hm
      generalize maxId (l.take k) = mk at hs ⊢
      have Hs := Lib.hid hs
      have Hm := Lib.hid hm
      clear hs hm hr hc
      go_wp2
      go_roundw
      case measure => simp [intOf]; omega
      case rel => exact ⟨k + 1, hlt, by simp, by rw [Hs.out], hbl.alloc hbl.size _⟩
    · go_wp2
      have hall : l.take k = l := List.take_of_length_le (by have := hr.1; omega)
      rw [hall]
      go_ret
      exact ⟨rfl, hbl⟩
end Go.Proofs.YtihidnmpngeohaaGreat
namespace Go.Proofs.YtihidnmpngeohaaGreat
open Go.RowKit

set_option maxHeartbeats 400000 in
theorem same_any (A B : Option Addr) (n m ca cb : Nat) (la lb : List Int) (w : World) (ha : Ints w w.heap.size A n la) (hb : Ints w w.heap.size B m lb) (hbig : n ≤ 1099511627776) (hbig2 : m ≤ 1099511627776) :
    Calls Tryz.prog 87 #[.slice A n ca, .slice B m cb] w fun e w' => e = .returned (.bool (decide (la = lb))) ∧ Below w.heap.size w w' := by
  go_enter Tryz.func87, Tryz.ntmps87
  by_cases hnm : n = m
  · subst hnm
    go_wp2
    go_loopw [5] (fun i wr => ∃ k : Nat, k ≤ n ∧ i = .int .i64 k ∧ la.take k = lb.take k ∧ Below w.heap.size w wr) (fun i _ => n - (intOf i).toNat)
    case atStart => exact ⟨0, Nat.zero_le _, rfl, rfl, Below.refl _ _⟩
    case round =>
      obtain ⟨k, hk, rfl, hs, hbl⟩ := hrel
      by_cases hlt : k < n
      · obtain ⟨b, off, x, rfl, hbb, hx, hc⟩ := ha.at hlt
        obtain ⟨b2, off2, y, rfl, hbb2, hy, hc2⟩ := hb.at hlt
        have c0 := (hbl.cell (p := ⟨b, off + k * 1 + 0, none⟩) hbb).trans (hc 0 _ rfl)
        have c1 := (hbl.cell (p := ⟨b2, off2 + k * 1 + 0, none⟩) hbb2).trans (hc2 0 _ rfl)
        simp only [Nat.add_zero, Nat.mul_one] at c0 c1
        have HX := Lib.hid hx
        have HY := Lib.hid hy
        have HS := Lib.hid hs
        clear hx hy hs hc hc2
        by_cases hxy : x = y
        · subst hxy
          go_wp2_with (go_quiet (fail))
          go_roundw
          case measure => simp [intOf]; omega
          case rel => exact ⟨k + 1, hlt, by simp, by rw [List.take_add_one, List.take_add_one, HX.out, HY.out, HS.out], below_drewN hbl _⟩
        · have hne : la ≠ lb := fun e => hxy (by have h1 := HX.out; have h2 := HY.out; rw [e, h2] at h1; exact (Option.some.inj h1).symm)
          go_wp2_with (go_quiet (fail))
          go_ret
          exact ⟨by simp [hne], below_drewN hbl _⟩
      · have heq : la = lb := by
          rw [← List.take_of_length_le (l := la) (i := k) (by have := ha.1; omega), hs, List.take_of_length_le (by have := hb.1; omega)]
        go_wp2
        go_ret
        exact ⟨by simp [heq], hbl⟩
  · have hne : la ≠ lb := fun e => hnm (by have := ha.1; have := hb.1; subst e; omega)
    go_wp2
    go_ret
    exact ⟨by simp [hne], Below.refl _ _⟩
end Go.Proofs.YtihidnmpngeohaaGreat
namespace Go.Proofs.YtihidnmpngeohaaGreat
open Go.RowKit Go.Lib

def m4 : List Mt := [⟨1, 0, 0, 0, 1⟩, ⟨2, 0, 0, 0, 1⟩, ⟨3, 0, 0, 0, 2⟩, ⟨4, 0, 0, 0, 1⟩]
theorem plan_m4 {p : List Int} (h : PlanIs m4 p) : p = [0, 1, 3] := by
  rcases h.cases with ⟨_, h⟩ | ⟨lv, h1, h2, rfl⟩
  · exact absurd (h 1) (by decide)
  · have e : lv = 1 := by
      by_cases e1 : lv = 1
      · exact e1
      · have : manyOf m4 lv ≤ 1 := by
          by_cases e2 : lv = 2
          · subst e2; decide
          · have e1' : ¬ (1 : Int) = lv := fun h => e1 h.symm
            have e2' : ¬ (2 : Int) = lv := fun h => e2 h.symm
            simp [manyOf, idxs, m4, List.range, List.range.loop, e1', e2']
        omega
    subst e
    decide
theorem plan_m3 {p : List Int} (h : PlanIs (m4.take 3) p) : p = [] := by
  rcases h.cases with ⟨h, _⟩ | ⟨lv, h1, h2, rfl⟩
  · exact h
  · exfalso
    by_cases e1 : lv = 1
    · subst e1; revert h2; decide
    · by_cases e2 : lv = 2
      · subst e2; revert h2; decide
      · have e1' : ¬ (1 : Int) = lv := fun h => e1 h.symm
        have e2' : ¬ (2 : Int) = lv := fun h => e2 h.symm
        simp [manyOf, idxs, m4, List.range, List.range.loop, e1', e2'] at h2
theorem m4_ok : ∀ m ∈ m4, m.ok := by
  intro m hm
  simp only [m4, List.mem_cons, List.not_mem_nil, or_false] at hm
  rcases hm with rfl | rfl | rfl | rfl <;> exact ⟨by decide, by decide, by decide⟩
set_option maxHeartbeats 1000000 in
theorem known19 (w : World) :
    Calls Tryz.prog 25 #[] w fun e w' => e = .returned (.bool true) ∧ Below w.heap.size w w' := by
  go_enter Tryz.func25, Tryz.ntmps25
  go_wp2_with fail
  have hg := heap_alloc_new w (.cells (m4.flatMap Mt.cells).toArray 144)
  have hL := lst_block (enc := Mt.cells) (size := 5) hg (by simp) (show m4.length = 4 from rfl) (fun _ => rfl)
  have hb : Below w.heap.size w (w.alloc (.cells (m4.flatMap Mt.cells).toArray 144)) := (Below.refl _ _).alloc (Nat.le_refl _) _
  change Calls _ _ _ (w.alloc (.cells (m4.flatMap Mt.cells).toArray 144)) _
  generalize w.alloc (.cells (m4.flatMap Mt.cells).toArray 144) = w1 at hL hb ⊢
  have H := Lib.hid (show _ ∧ _ from ⟨hL, hb⟩)
  clear hg hL hb
  refine (plan_any _ _ _ _ w1 H.out.1 m4_ok (by omega)).mono ?_
  rintro e w2 ⟨v, p, rfl, hp, hrow, hb2⟩
  rw [plan_m4 hp] at hrow
  obtain ⟨A2, c2, rfl, _, hI⟩ := ownsRow_ints hrow rfl
  have H2 := Lib.hid (show _ ∧ _ from ⟨hI, hb2⟩)
  clear hI hb2 hrow hp p
  go_wp2_with fail
  have hg := heap_alloc_new w2 (.cells ([0, 1, 3].flatMap fun x => [Value.int .i64 x]).toArray 3)
  have hL := lst_block (enc := fun x => [Value.int .i64 x]) (size := 1) hg (by simp) (show [0, 1, 3].length = 3 from rfl) (fun _ => rfl)
  have hb : Below w2.heap.size w2 (w2.alloc (.cells ([0, 1, 3].flatMap fun x => [Value.int .i64 x]).toArray 3)) := (Below.refl _ _).alloc (Nat.le_refl _) _
  change Calls _ _ _ (w2.alloc (.cells ([0, 1, 3].flatMap fun x => [Value.int .i64 x]).toArray 3)) _
  generalize w2.alloc (.cells ([0, 1, 3].flatMap fun x => [Value.int .i64 x]).toArray 3) = w3 at hL hb ⊢
  have H3 := Lib.hid (show _ ∧ _ from ⟨hL, hb⟩)
  clear hg hL hb
  refine (same_any _ _ _ _ _ _ _ _ w3 ((H2.out.1.below H3.out.2).more H3.out.2.size) H3.out.1 (by decide) (by decide)).mono ?_
  rintro e w4 ⟨rfl, hb4⟩
  have hb4' : Below w1.heap.size w1 w4 := H2.out.2.trans ((H3.out.2.trans (hb4.mono H3.out.2.size)).mono H2.out.2.size)
  have hL4 := (H.out.1.below hb4').more hb4'.size
  have hbl := H.out.2.trans (hb4'.mono H.out.2.size)
  have H4 := Lib.hid (show _ ∧ _ from ⟨hL4, hbl⟩)
  clear hb4 hb4' hL4 hbl H3 H2 H
  go_wp2_with fail
  refine (next_any _ _ _ _ w4 H4.out.1 (by omega)).mono ?_
  rintro e w5 ⟨rfl, hb5⟩
  rw [show maxId m4 = 4 from rfl]
  have H5 := Lib.hid (show _ ∧ _ from ⟨(H4.out.1.below hb5).more hb5.size, H4.out.2.trans (hb5.mono H4.out.2.size)⟩)
  clear hb5 H4
  go_wp2_with fail
  refine (plan_any _ _ _ _ w5 (H5.out.1.take (k := 3) (by omega)) (fun m hm => m4_ok m (List.mem_of_mem_take hm)) (by omega)).mono ?_
  rintro e w6 ⟨v, p, rfl, hp, hrow, hb6⟩
  rw [plan_m3 hp] at hrow
  obtain ⟨A6, c6, rfl, _, hI⟩ := ownsRow_ints hrow rfl
  have H6 := Lib.hid (H5.out.2.trans (hb6.mono H5.out.2.size))
  clear hI hb6 hrow hp p H5
  go_wp2_with fail
  refine (next_any _ _ _ _ w6 Lst.nil (by omega)).mono ?_
  rintro e w7 ⟨rfl, hb7⟩
  have H7 := Lib.hid (H6.out.trans (hb7.mono H6.out.size))
  rw [show maxId [] = 0 from rfl]
  clear hb7 H6
  go_wp2
  go_ret
  exact ⟨rfl, H7.out⟩
end Go.Proofs.YtihidnmpngeohaaGreat
namespace Go.Proofs.YtihidnmpngeohaaGreat
open Go.RowKit Go.Lib

theorem cutL_mem {tbs : List (List (List Lb × (Int × Int)))} {L : List (List (List Lb × List (Int × Int)))} {x : List Lb × List (Int × Int)} (h : x ∈ (cutL tbs L).flatten) : ∃ y ∈ L.flatten, x.1 = y.1 := by
  obtain ⟨xs, hxs, hx⟩ := List.mem_flatten.1 h
  unfold cutL at hxs
  obtain ⟨i, hi, e⟩ := List.mem_mapIdx.1 hxs
  subst e
  obtain ⟨y, hy, rfl⟩ := List.mem_map.1 hx
  exact ⟨y, List.mem_flatten.2 ⟨_, List.getElem_mem _, hy⟩, rfl⟩
theorem Sls.more {w : World} {B B' n : Nat} {A : Option Addr} {ls : List (List Sv)} (h : Sls w B A n ls) (hB : B ≤ B') : Sls w B' A n ls :=
  ⟨h.1, fun h0 => by
    obtain ⟨b, off, e, hlt, hc⟩ := h.2 h0
    refine ⟨b, off, e, by omega, fun k xs hxs => ?_⟩
    obtain ⟨A', c', h1, h2⟩ := hc k xs hxs
    exact ⟨A', c', h1, h2.more hB⟩⟩
theorem Tls.more {w : World} {B B' n : Nat} {A : Option Addr} {ls : List (List Tv)} (h : Tls w B A n ls) (hB : B ≤ B') : Tls w B' A n ls :=
  ⟨h.1, fun h0 => by
    obtain ⟨b, off, e, hlt, hc⟩ := h.2 h0
    refine ⟨b, off, e, by omega, fun k xs hxs => ?_⟩
    obtain ⟨A', c', h1, h2⟩ := hc k xs hxs
    exact ⟨A', c', h1, h2.more hB⟩⟩
theorem BlkIn.on {w W : World} {A A' : Option Addr} {n n' : Nat} {ls : List (List Sv)} {ts : List (List Tv)} (h : BlkIn w A A' n n' ls ts) (hb : Below w.heap.size w W) : BlkIn W A A' n n' ls ts :=
  ⟨(h.sls.below hb).more hb.size, (h.tls.below hb).more hb.size, fun y hy => (h.ser y hy).on hb, fun y hy => (h.tmb y hy).on hb, h.fewS, h.fewT⟩
/-- How much a result has. -/
theorem BlkFew.out {w : World} {A A' : Option Addr} {n n' : Nat} {ls : List (List Sv)} {ts : List (List Tv)} (h : BlkFew w A A' n n' ls ts) {os : List Sv} (e : os.map Sv.sr = serU labelsC (cutL (tbsOf ts) (lsOf ls)).flatten) : os.length ≤ 3000 ∧ ∀ z ∈ os, z.l.length ≤ 20000 ∧ z.s.length ≤ 20000 := by
  have h0 := h.all
  have h1 := serC_len ls.flatten
  have h3 := serC_flat fun y hy => (h.arg.ser y hy).sst.1
  have hc := cutL_few (tbsOf ts) (lsOf ls) (lsOf ls).length (Nat.le_refl _)
  have ef : (lsOf ls).flatten = ls.flatten.map Sv.sr := by unfold lsOf; rw [List.map_flatten]
  rw [List.take_length, ef, List.length_map, flat_sr] at hc
  refine ⟨?_, fun z hz => ?_⟩
  · have h2 := congrArg List.length e
    have h4 := serU_len (c := labelsC) (cutL (tbsOf ts) (lsOf ls)).flatten
    rw [List.length_map] at h2
    omega
  · have h2 : z.sr ∈ serU labelsC (cutL (tbsOf ts) (lsOf ls)).flatten := by rw [← e]; exact List.mem_map.2 ⟨z, hz, rfl⟩
    obtain ⟨⟨x, hx, e1⟩, h4⟩ := serU_mem labelsC_cmp3 h2
    obtain ⟨y, hy, e2⟩ := cutL_mem hx
    rw [ef] at hy
    obtain ⟨q, hq, rfl⟩ := List.mem_map.1 hy
    have h5 := serC_mem hq
    have h6 := (h.arg.ser q hq).lst.1
    have e3 : q.l = z.l := e2.symm.trans e1
    have h7 : z.s.length ≤ (ls.flatten.flatMap (·.s)).length := Nat.le_trans (show z.s.length ≤ _ from h4) hc.2
    exact ⟨by rw [← e3]; omega, by omega⟩
/-- A result and the paper's, alike. -/
theorem same_srB {w : World} {B B' n c : Nat} {A : Option Addr} {v : Value} {os os' : List Sv} (h : OutSv w B (.slice A n c) os) (hn : os.length = n) (h' : RSer w B' v os') (hm : os'.map Sv.sr = os.map Sv.sr) (hl : os.length ≤ 3000 ∧ ∀ z ∈ os, z.l.length ≤ 20000 ∧ z.s.length ≤ 20000) :
    Calls Tryz.prog 21 #[.slice A n c, v] w fun e w' => e = .returned (.bool true) ∧ Below w.heap.size w w' := by
  have hn' : os'.length = n := by have := congrArg List.length hm; rw [List.length_map, List.length_map] at this; omega
  have hr := h'.row
  rw [hn'] at hr
  obtain ⟨A', c', rfl, _, hL'⟩ := ownsRow_lst hr hn' encSv_len
  exact (sameSer_q A A' n c c' os os' w (out_ser h hn) hL' (h.sat (m := 20000) (by omega) hl.2) h'.each hm.symm (by omega)).mono fun e w' ⟨h1, q, h2⟩ => ⟨h1, by rw [h2]; exact below_drewN (Below.refl _ _) q⟩
theorem lastO_of {w0 w11 wi : World} {b1 : Nat} {va : Value} {os : List Sv} (hold : Below w0.heap.size w0 w11) (hb1 : w0.heap.size ≤ b1) (hO : OutSv w11 b1 va os) (hb : Below w11.heap.size w11 wi) {bk g22 c22 : Nat} {cs1 : Array Value} {u9 u10 : Value} (hk : Bk wi bk cs1)
    (h1 : BkCells nils cs1 (.slice (some ⟨g22, 0, none⟩) (0 + 1) c22) u9 u10) (o22 : wi.ownsRow w11.heap.size 70 1 (.slice (some ⟨g22, 0, none⟩) (0 + 1) c22) (0 + 1) ([] ++ [va])) (o9 : wi.ownsRow w11.heap.size 23 1 u9 (0 + os.length) ([] ++ os.map valL))
    (o10 : wi.ownsRow w11.heap.size 90 1 u10 (0 + os.length) ([] ++ os.map valD)) : LastO w0 wi bk cs1 va os g22 c22 u9 u10 := by
  have hs := hold.size
  refine ⟨hk, fun k hk => ?_, hold.trans (hb.mono hs), (hO.below hb).base hb1, owns_base o22 hs, ?_, ?_⟩
  · rw [h1 k hk]
    by_cases k22 : k = 22
    · rw [if_pos k22, if_pos k22]
    · rw [if_neg k22, if_neg k22]
      by_cases k9 : k = 9
      · rw [if_pos k9, if_pos k9]
      · rw [if_neg k9, if_neg k9]
        by_cases k10 : k = 10
        · rw [if_pos k10, if_pos k10]
        · rw [if_neg k10, if_neg k10]
          exact nils_at hk
  · have := owns_base o9 hs
    rw [Nat.zero_add] at this
    exact this
  · have := owns_base o10 hs
    rw [Nat.zero_add] at this
    exact this
theorem LastO.num {w wi : World} {bk : Nat} {cs : Array Value} {va u9 u10 : Value} {os : List Sv} {g22 c22 : Nat} (h : LastO w wi bk cs va os g22 c22 u9 u10) (f1 : ∀ z ∈ os, z.l.length ≤ 20000 ∧ z.s.length ≤ 20000) : ∀ z ∈ os, z.n ≤ 1000000 ∧ z.m ≤ 1000000 := fun z hz => by
  have h1 := owns_len (h.one.each z hz).1 Lb.len (by omega)
  have h2 := owns_len (h.one.each z hz).2 encS_len (by omega)
  have h3 := f1 z hz
  omega
end Go.Proofs.YtihidnmpngeohaaGreat
namespace Go.Proofs.YtihidnmpngeohaaGreat
open Go.RowKit Go.Lib

set_option maxHeartbeats 8000000 in
set_option maxRecDepth 100000 in
theorem compactBlocks_any (A A' : Option Addr) (n c n' c' : Nat) (ls : List (List Sv)) (ts : List (List Tv)) (w : World) (h : BlkArg w A A' n n' ls ts) :
    Calls Tryz.prog 5 #[.slice A n c, .slice A' n' c'] w fun e w' => e = .returned (.bool true) ∧ Below w.heap.size w w' := by
  obtain ⟨i2, hi2, hz20, hz21, hz22⟩ := info_parts Tryz.infoSeriess
  obtain ⟨i3, hi3, hz30, hz31, hz32⟩ := info_parts Tryz.infoTombL
  have HP := Lib.hid (show _ ∧ _ ∧ _ ∧ _ from ⟨hi2, hz20, hz21, hz22⟩)
  have HR3 := Lib.hid (show _ ∧ _ ∧ _ ∧ _ from ⟨hi3, hz30, hz31, hz32⟩)
  clear hi2 hz20 hz21 hz22 hi3 hz30 hz31 hz32
  have HM := Lib.hid (much19_any A A' n c n' c' ls ts w h.sls h.tls h.few.1 h.fewT.1 (fun y hy => ⟨(h.ser y hy).sfew, (h.ser y hy).few⟩) (fun y hy => (h.tmb y hy).few) h.few.2 h.fewT.2)
  have HA := Lib.hid h
  clear h
  go_enter Tryz.func5, Tryz.ntmps5
  go_wp2_with fail
  refine HM.out.mono ?_
  rintro e w1 ⟨b, rfl, hb, q, rfl⟩
  cases b with
  | true =>
    clear hb
    go_wp2
    go_ret
    exact ⟨rfl, below_drewN (Below.refl _ _) _⟩
  | false =>
    have HL := Lib.hid (show BlkFew w A A' n n' ls ts from ⟨HA.out, hb rfl⟩)
    have HB0 := Lib.hid (below_drewN (Below.refl w.heap.size w) q)
    clear hb HM HA
    have hn : n ≤ 3000 := by have := HL.out.all; omega
    have hn' : n' ≤ 3000 := by have := HL.out.all; omega
    generalize w.drewN q = wd at HB0 ⊢
    go_wp2_with fail
    go_loopw [5, 7, 8] (fun v iv _ wr => ∃ (i : Nat) (xs : List LI), i ≤ n ∧ xs.length = i ∧ iv = .int .i64 i ∧ Hid (LendRow wr w.heap.size ls v xs ∧ Below w.heap.size w wr)) (fun _ iv _ _ => n - (intOf iv).toNat)
    case atStart => exact ⟨0, [], Nat.zero_le _, rfl, rfl, Lib.hid ⟨LendRow.nil _ _ _, HB0.out⟩⟩
    case round =>
      obtain ⟨i, xs, hi, hxs, rfl, HR⟩ := hrel
      have hsz := HR.out.2.size
      by_cases hlt : i < n
      · obtain ⟨b, off, l, B', c2, rfl, hb, hx, c0, hx2⟩ := HL.out.arg.sls.at hlt
        have c0 := (HR.out.2.cell (p := ⟨b, off + i, none⟩) hb).trans c0
        have hlend := (HL.out.ser hx hx2).lend (c := c2) HR.out.2
        have HX := Lib.hid (show _ ∧ _ from ⟨hlend, hx⟩)
        have ii : (i : Int) < (n : Int) := by omega
        have ii0 : (0 : Int) ≤ (i : Int) := by omega
        clear hx hx2 hb hlend
        go_wp2_with fail
        refine HX.out.1.mono ?_
        rintro e w5 ⟨g, cg, zs, bo, co, rfl, hL5, hb5, hbw⟩
        have hs5 := hb5.size
        have hrow := owns_below HR.out.1.row hb5
        have H5 := Lib.hid (show _ ∧ _ ∧ _ ∧ _ from ⟨hL5, hb5, hbw, hrow⟩)
        obtain ⟨hi, hz0, hz1, hz2⟩ := HP.out
        clear hL5 hb5 hbw hrow
        go_wp2_with (at_builtin; refine wpList_append_lies _ rfl _ _ 56 rfl w.heap.size 70 i2 _ 1 24 Tryz.underlying56 hi hz0 hz1 hz2 rfl (by omega) _ xs.length (xs.map LI.val) rfl (H5.out.2.2.2.alloc _) ⟨w5.heap.size, 0, none⟩ 1 1 [.slice (some ⟨g, 0, none⟩) l.length cg] rfl rfl (cells_newL w5 [.slice (some ⟨g, 0, none⟩) l.length cg] _) (by simp [Value.oneCell']) (by omega) (by unfold maxLen; omega) (by omega) (by simp; omega) (w5.heap.size + 1) (by simp) ?_)
        intro g6 c6 w6 hown6 hg6 hgg6 _
        have hba : Below w5.heap.size w5 (w5.alloc (.cells #[.slice (some ⟨g, 0, none⟩) l.length cg] 70)) := (Below.refl _ _).alloc (Nat.le_refl _) _
        have h6 := HR.out.1.snoc (c' := c6) hsz (l := l) (by rw [hxs]; exact HX.out.2) rfl H5.out.2.1 H5.out.1 hba (by rw [hxs]; exact hown6) hg6 (by rcases hgg6 with e | e; exact .inl e; exact .inr (by rw [e]; simp))
        rw [hxs] at h6
        have H6 := Lib.hid (show _ ∧ Below w.heap.size w w6 from ⟨h6, (H5.out.2.2.1.trans (hba.mono (Nat.le_trans hsz hs5))).grown hg6 (by simp; omega) (fun j hj => (HR.out.1.row.lt j hj).1)⟩)
        clear h6
        clear hown6 hg6 hgg6 hba
        go_wp2
        go_roundw
        case measure => simp [intOf]; omega
        case rel => exact ⟨i + 1, _, hlt, by simp [hxs], by simp, H6⟩
      · obtain rfl : i = n := by omega
        have HS := Lib.hid HR.out
        have hwr := HR.out.2.size
        have ii : ¬ (i : Int) < (i : Int) := by omega
        clear HR
        go_wp2_with fail
        obtain ⟨wo, rfl⟩ : ∃ wo : World, wo = wr := ⟨_, rfl⟩
        go_loopw [6, 9, 10] (fun v iv _ wr => ∃ (k : Nat) (ys : List LTi), k ≤ n' ∧ ys.length = k ∧ iv = .int .i64 k ∧ Hid (LendRowT wr wo.heap.size ts v ys ∧ Below wo.heap.size wo wr)) (fun _ iv _ _ => n' - (intOf iv).toNat)
        case atStart => exact ⟨0, [], Nat.zero_le _, rfl, rfl, Lib.hid ⟨LendRowT.nil _ _ _, Below.refl _ _⟩⟩
        case round =>
          obtain ⟨k, ys, hk, hys, rfl, HR⟩ := hrel
          have hsz := HR.out.2.size
          by_cases hkt : k < n'
          · obtain ⟨b, off, l, B', c2, rfl, hb, hx, c0, hx2⟩ := HL.out.arg.tls.at hkt
            have hbw := HS.out.2.trans (HR.out.2.mono hwr)
            have c0 := (hbw.cell (p := ⟨b, off + k, none⟩) hb).trans c0
            have hlend := (HL.out.tmb hx hx2).lend (c := c2) hbw
            have HX := Lib.hid (show _ ∧ _ from ⟨hlend, hx⟩)
            have kk : (k : Int) < (n' : Int) := by omega
            have kk0 : (0 : Int) ≤ (k : Int) := by omega
            clear hx hx2 hb hlend hbw
            go_wp2_with fail
            refine HX.out.1.mono ?_
            rintro e w5 ⟨g, cg, zs, rfl, hL5, hb5, hbw⟩
            have hs5 := hb5.size
            have hrow := owns_below HR.out.1.row hb5
            have H5 := Lib.hid (show _ ∧ _ ∧ _ ∧ _ from ⟨hL5, hb5, hbw, hrow⟩)
            obtain ⟨hi, hz0, hz1, hz2⟩ := HR3.out
            clear hL5 hb5 hbw hrow
            go_wp2_with (at_builtin; refine wpList_append_lies _ rfl _ _ 59 rfl wo.heap.size 22 i3 _ 1 24 Tryz.underlying59 hi hz0 hz1 hz2 rfl (by omega) _ ys.length (ys.map LTi.val) rfl (H5.out.2.2.2.alloc _) ⟨w5.heap.size, 0, none⟩ 1 1 [.slice (some ⟨g, 0, none⟩) l.length cg] rfl rfl (cells_newL w5 [.slice (some ⟨g, 0, none⟩) l.length cg] _) (by simp [Value.oneCell']) (by omega) (by unfold maxLen; omega) (by omega) (by simp; omega) (w5.heap.size + 1) (by simp) ?_)
            intro g6 c6 w6 hown6 hg6 hgg6 _
            have hba : Below w5.heap.size w5 (w5.alloc (.cells #[.slice (some ⟨g, 0, none⟩) l.length cg] 22)) := (Below.refl _ _).alloc (Nat.le_refl _) _
            have h6 := HR.out.1.snoc (c' := c6) hsz (l := l) (by rw [hys]; exact HX.out.2) rfl H5.out.2.1 H5.out.1 hba (by rw [hys]; exact hown6) hg6 (by rcases hgg6 with e | e; exact .inl e; exact .inr (by rw [e]; simp))
            rw [hys] at h6
            have H6 := Lib.hid (show _ ∧ Below wo.heap.size wo w6 from ⟨h6, ((HR.out.2.trans (H5.out.2.1.mono hsz)).trans (hba.mono (Nat.le_trans hsz hs5))).grown hg6 (by simp; omega) (fun j hj => (HR.out.1.row.lt j hj).1)⟩)
            clear hown6 hg6 hgg6 hba h6
            go_wp2
            go_roundw
            case measure => simp [intOf]; omega
            case rel => exact ⟨k + 1, _, hkt, by simp [hys], by simp, H6⟩
          · obtain rfl : k = n' := by omega
            have kk : ¬ (k : Int) < (k : Int) := by omega
            have HT := Lib.hid HR.out
            have hwt := HR.out.2.size
            have HSw := Lib.hid (show _ ∧ _ from ⟨HS.out.1.below HR.out.2, HS.out.2.trans (HR.out.2.mono hwr)⟩)
            clear HR
            obtain ⟨A5, c5, rfl, _, _⟩ := owns_slice HSw.out.1.row
            obtain ⟨A6, c6, rfl, _, _⟩ := owns_slice HT.out.1.row
            have h5 := HSw.out.1
            have h6 := HT.out.1
            rw [hxs] at h5
            rw [hys] at h6
            have HC := Lib.hid (blocks_lent HL.out h5 h6 hxs hys)
            clear h5 h6
            go_wp2_with fail
            refine HC.out.mono ?_
            rintro e w4 ⟨v, os, rfl, ho, hlaw, hb⟩
            have H4 := Lib.hid (show _ ∧ _ ∧ _ from ⟨ho, hlaw, hb⟩)
            clear ho hlaw hb HC
            have hs4 := H4.out.2.2.size
            have hwr4 : w.heap.size ≤ wr.heap.size := HSw.out.2.size
            have hbase : ∀ x ∈ xs, w.heap.size ≤ x.b0 := fun x hx => (HSw.out.1.base x hx).1
            have HQ := Lib.hid (show _ ∧ _ ∧ _ from ⟨HSw.out.1.below H4.out.2.2, HSw.out.2.trans (H4.out.2.2.mono hwr4), hbase⟩)
            clear hbase
            go_wp2_with fail
            go_loopw [12, 13] (fun iv _ wz => ∃ k, k ≤ i ∧ iv = .int .i64 k ∧ Hid (SpoilS w4 wz ls xs k)) (fun iv _ _ => i - (intOf iv).toNat)
            case atStart => exact ⟨0, Nat.zero_le _, rfl, Lib.hid (SpoilS.start HQ.out.1)⟩
            case round =>
              obtain ⟨m, hm, rfl, HZ⟩ := hrel
              have hbz : Below w.heap.size w wr := HQ.out.2.1.trans (HZ.out.all HQ.out.2.2 (by omega))
              by_cases hki : m < i
              · obtain ⟨b, off, l, B', c2, rfl, hb, hx, c0, hx2⟩ := HL.out.arg.sls.at hki
                have c0 := (hbz.cell (p := ⟨b, off + m, none⟩) hb).trans c0
                have hxm : xs[m]? = some (xs[m]'(by omega)) := List.getElem?_eq_getElem _
                obtain ⟨x, hxe⟩ : ∃ x, xs[m]'(by omega) = x := ⟨_, rfl⟩
                rw [hxe] at hxm
                have hrowz := HZ.out.grown.owns HQ.out.1.row (fun b hb ⟨x, hx, h⟩ => by have := HQ.out.1.out b hb x hx; omega)
                obtain ⟨g5, hg5⟩ : ∃ g5, A5 = some ⟨g5, 0, none⟩ := by
                  rcases hrowz.2 with ⟨e, h0⟩ | ⟨g, _, _, e, _⟩
                  · omega
                  · injection e with e1 _ _; exact ⟨g, e1⟩
                subst hg5
                have d0 : wr.cell? ⟨g5, m, none⟩ = some (.slice (some ⟨x.g, 0, none⟩) x.n x.c) := owns_cell hrowz rfl (by rw [List.getElem?_map, hxm]; rfl)
                obtain ⟨e1, hin⟩ := HZ.out.ahead m x l (Nat.le_refl _) hxm hx
                have hfew := HL.out.ser hx hx2
                rw [e1] at c0 hfew
                have hwh : ∀ W, (∃ q, W = wr.drewN q) → Calls Tryz.prog 18 #[.slice (some ⟨x.g, 0, none⟩) x.n x.c, .slice B' x.n c2] W fun e w' => e = .returned (.bool true) ∧ ∃ q, w' = W.drewN q := fun W ⟨q, hq⟩ => by
                  subst hq
                  exact ((hin.lent.below (below_drewN (Below.refl _ _) q)).wholeB (ca := c2) hfew (below_drewN hbz q))
                have HW := Lib.hid (show _ ∧ _ ∧ _ ∧ _ from ⟨hwh, hin, hfew, hxm⟩)
                have D0 := Lib.hid (show _ ∧ _ from ⟨d0, hrowz⟩)
                have mm : (m : Int) < (i : Int) := by omega
                have mm0 : (0 : Int) ≤ (m : Int) := by omega
                clear hx hx2 hb hwh hin hfew hrowz hxm hxe e1
                go_wp2_with (go_quiet (first | (go_at_call 18; refine Calls.quiet_of (HW.out.1 _ ⟨_, rfl⟩)) | fail))
                refine ((HW.out.2.1.below (below_drewN (Below.refl _ _) _)).spoil HW.out.2.2.1 (show x.b0 ≤ wr.heap.size by have h1 := (HQ.out.1.base x (List.mem_of_getElem? HW.out.2.2.2)).2; have h2 := HW.out.2.1.base; have h3 := HZ.out.grown.size; omega)).mono ?_
                rintro e w9 ⟨rfl, hg⟩
                have H9 := Lib.hid ((HZ.out.below (below_drewN (Below.refl _ _) _)).step HW.out.2.2.2 HQ.out.1.up hg)
                clear hg
                go_wp2
                go_roundw
                case measure => simp [intOf]; omega
                case rel => exact ⟨m + 1, hki, by simp, H9⟩
              · obtain rfl : m = i := by omega
                have mm : ¬ (m : Int) < (m : Int) := by omega
                have hT4 := (HT.out.1.below H4.out.2.2).keptS HZ.out.grown (fun b ⟨x, hx, h⟩ => by have := (HS.out.1.base x hx).2; omega)
                have hO4 := H4.out.1.kept HZ.out.grown (fun b ⟨x, hx, h⟩ => by have := (HS.out.1.base x hx).2; omega)
                have hbt : ∀ y ∈ ys, w.heap.size ≤ y.b0 := fun y hy => by have := (HT.out.1.base y hy).1; omega
                have HU := Lib.hid (show _ ∧ _ ∧ _ ∧ _ from ⟨hT4, hO4, hbz, hbt⟩)
                clear hT4 hO4 hbz hbt
                obtain ⟨wu, rfl⟩ : ∃ wu : World, wu = wr := ⟨_, rfl⟩
                go_wp2_with fail
                go_loopw [14, 15] (fun iv _ wz => ∃ j : Nat, j ≤ ys.length ∧ iv = .int .i64 j ∧ Hid (SpoilT wu wz ts ys j)) (fun iv _ _ => ys.length - (intOf iv).toNat)
                case atStart => exact ⟨0, Nat.zero_le _, rfl, Lib.hid (SpoilT.start HU.out.1)⟩
                case round =>
                  obtain ⟨j, hj, rfl, HV⟩ := hrel
                  have hwu := HU.out.2.2.1.size
                  have hbv : Below w.heap.size w wr := HU.out.2.2.1.trans (HV.out.all HU.out.2.2.2 (by omega))
                  by_cases hjt : j < ys.length
                  · obtain ⟨b, off, l, B', c2, rfl, hb, hx, c0, hx2⟩ := HL.out.arg.tls.at (i := j) (by omega)
                    have c0 := (hbv.cell (p := ⟨b, off + j, none⟩) hb).trans c0
                    have hxj : ys[j]? = some (ys[j]'hjt) := List.getElem?_eq_getElem _
                    obtain ⟨y, hye⟩ : ∃ y, ys[j]'hjt = y := ⟨_, rfl⟩
                    rw [hye] at hxj
                    have hrowz := HV.out.grown.owns HU.out.1.row (fun b hb ⟨x, hx, h⟩ => by have := HU.out.1.out b hb x hx; omega)
                    obtain ⟨g6, hg6⟩ : ∃ g6, A6 = some ⟨g6, 0, none⟩ := by
                      rcases hrowz.2 with ⟨e, h0⟩ | ⟨g, _, _, e, _⟩
                      · omega
                      · injection e with e1 _ _; exact ⟨g, e1⟩
                    subst hg6
                    have d0 : wr.cell? ⟨g6, j, none⟩ = some (.slice (some ⟨y.g, 0, none⟩) y.n y.c) := owns_cell hrowz rfl (by rw [List.getElem?_map, hxj]; rfl)
                    obtain ⟨e1, hin⟩ := HV.out.ahead j y l (Nat.le_refl _) hxj hx
                    have hfew := HL.out.tmb hx hx2
                    rw [e1] at c0 hfew
                    have hwh : ∀ W, (∃ q, W = wr.drewN q) → Calls Tryz.prog 8 #[.slice (some ⟨y.g, 0, none⟩) y.n y.c, .slice B' y.n c2] W fun e w' => e = .returned (.bool true) ∧ ∃ q, w' = W.drewN q := fun W ⟨q, hq⟩ => by
                      subst hq
                      exact ((hin.below (below_drewN (Below.refl _ _) q)).whole (ca := c2) hfew (below_drewN hbv q))
                    have HW := Lib.hid (show _ ∧ _ ∧ _ ∧ _ from ⟨hwh, hin, hfew, hxj⟩)
                    have D0 := Lib.hid (show _ ∧ _ from ⟨d0, hrowz⟩)
                    have jj : (j : Int) < (k : Int) := by omega
                    have jj0 : (0 : Int) ≤ (j : Int) := by omega
                    clear hx hx2 hb hwh hin hfew hrowz hxj hye e1
                    go_wp2_with (go_quiet (first | (go_at_call 8; refine Calls.quiet_of (HW.out.1 _ ⟨_, rfl⟩)) | fail))
                    refine ((HW.out.2.1.below (below_drewN (Below.refl _ _) _)).spoil HW.out.2.2.1 (show y.b0 ≤ wr.heap.size by have h1 := (HU.out.1.base y (List.mem_of_getElem? HW.out.2.2.2)).2; have h2 := HW.out.2.1.base; have h3 := HV.out.grown.size; omega)).mono ?_
                    rintro e w9 ⟨rfl, hg⟩
                    have H9 := Lib.hid ((HV.out.below (below_drewN (Below.refl _ _) _)).step HW.out.2.2.2 HU.out.1.up hg)
                    clear hg
                    go_wp2
                    go_roundw
                    case measure => simp [intOf]; omega
                    case rel => exact ⟨j + 1, hjt, by simp, H9⟩
                  · obtain rfl : j = k := by omega
                    have jj : ¬ (j : Int) < (j : Int) := by omega
                    have hO := HU.out.2.1.kept HV.out.grown (fun b ⟨y, hy, h⟩ => by have := (HT.out.1.base y hy).2; omega)
                    obtain ⟨Aa, ca, rfl, _, _⟩ := owns_slice hO.row
                    have hof := HL.out.out H4.out.2.1
                    have hlaw := H4.out.2.1
                    have HD := Lib.hid (show _ ∧ Below w.heap.size w wr ∧ _ ∧ _ from ⟨hO, hbv, hof, hlaw⟩)
                    have hol := hof.1
                    have hwt0 : w.heap.size ≤ _ := Nat.le_trans hwr hwt
                    clear hO hbv hof hlaw
                    go_wp2_with fail
                    have hbk : Bk (wr.alloc (.cells nils 67)) wr.heap.size nils := ⟨heap_alloc_new _ _, rfl⟩
                    have hb12 : Below wr.heap.size wr (wr.alloc (.cells nils 67)) := (Below.refl _ _).alloc (Nat.le_refl _) _
                    change Calls _ _ _ (wr.alloc (.cells nils 67)) _
                    generalize wr.alloc (.cells nils 67) = w12 at hbk hb12 ⊢
                    have hs12 := hb12.size
                    have hr1 := (HD.out.1.below hb12).row
                    have H12 := Lib.hid (show _ ∧ _ ∧ _ from ⟨hbk, hb12, hr1⟩)
                    clear hbk hb12 hr1
                    refine (bookSeries wr.heap.size wr.heap.size _ 0 0 0 nils (.slice none 0 0) (.slice none 0 0) (.slice none 0 0) Aa os.length ca [] [] [] os w12 H12.out.1 (nils_at (by omega)) (nils_at (by omega)) (nils_at (by omega)) (World.ownsRow_nil _ _ _ _) (World.ownsRow_nil _ _ _ _) (World.ownsRow_nil _ _ _ _) hs12 (by omega) (by omega) (by omega) H12.out.2.2 (by omega)).mono ?_
                    rintro e w13 ⟨rfl, g22, c22, u9, u10, cs1, o22, o9, o10, hk, hc, hg⟩
                    have hs13 := hg.size
                    have hb13 : Below wr.heap.size wr w13 := H12.out.2.1.trans (hg.below (fun k h => by
                      rcases h with h | h | h | h
                      · omega
                      · cases h
                      · cases h
                      · cases h) hs12)
                    have hlast := lastO_of HD.out.2.1 hwt0 HD.out.1 hb13 hk hc o22 o9 o10
                    have H13 := Lib.hid hlast
                    clear hlast o22 o9 o10 hk hc hb13 hg H12
                    go_wp2_with fail
                    refine (known19 _).mono ?_
                    rintro e w14 ⟨rfl, hb⟩
                    have H14 := Lib.hid (H13.out.step hb)
                    clear hb H13
                    go_wp2_with fail
                    refine (refBlocks_any _ _ _ _ _ _ ls ts _ (HL.out.blkIn.on H14.out.old)).mono ?_
                    rintro e w15 ⟨v', osr, rfl, hr, hlaw, hb⟩
                    have H15 := Lib.hid (show _ ∧ _ ∧ _ from ⟨H14.out.step hb, hr, hlaw.trans HD.out.2.2.2.symm⟩)
                    clear hr hlaw hb H14
                    go_wp2_with fail
                    refine (same_srB H15.out.1.one rfl H15.out.2.1 H15.out.2.2 HD.out.2.2.1).mono ?_
                    rintro e w16 ⟨rfl, hb⟩
                    have H16 := Lib.hid (H15.out.1.step hb)
                    clear hb H15
                    go_wp2_with fail
                    refine (H16.out.own (by omega) (H16.out.num HD.out.2.2.1.2)).mono ?_
                    rintro e w17 ⟨rfl, hb⟩
                    have H17 := Lib.hid hb
                    clear hb
                    go_wp2
                    go_ret
                    exact ⟨rfl, H17.out⟩
end Go.Proofs.YtihidnmpngeohaaGreat
