/- The reference of chapter 19: Plan. -/
import Derived.Test.YtglafbfbgjihbaaRef19
import Derived.Test.YtglafbfbgjihbaaKnown
import Derived.OwnWalk
namespace Go.Proofs.Ytglafbfbgjihbaa
open Go.RowKit Go.Lib

/-- What the first loop has found after k places. -/
def Seen (l : List Mt) (k : Nat) (found : Bool) (lv : Int) : Prop :=
  (found = false ∧ ∀ i m, i < k → l[i]? = some m → manyOf l m.level < 3) ∨ (found = true ∧ 3 ≤ manyOf l lv ∧ ∀ i m, i < k → l[i]? = some m → m.level < lv → manyOf l m.level < 3)
theorem Seen.zero (l : List Mt) (lv : Int) : Seen l 0 false lv := .inl ⟨rfl, fun i m h => absurd h (by omega)⟩
theorem Seen.take {l : List Mt} {k : Nat} {found : Bool} {lv : Int} {m : Mt} (h : Seen l k found lv) (hm : l[k]? = some m) (h3 : 3 ≤ manyOf l m.level) (hlt : found = false ∨ m.level < lv) : Seen l (k + 1) true m.level := by
  refine .inr ⟨rfl, h3, fun i x hi hx hlv => ?_⟩
  by_cases e : i = k
  · subst e
    rw [hm] at hx
    cases hx
    omega
  · rcases h with ⟨hf, h⟩ | ⟨hf, _, h⟩
    · exact h i x (by omega) hx
    · rcases hlt with hlt | hlt
      · rw [hf] at hlt; cases hlt
      · exact h i x (by omega) hx (by omega)
theorem Seen.pass {l : List Mt} {k : Nat} {found : Bool} {lv : Int} {m : Mt} (h : Seen l k found lv) (hm : l[k]? = some m) (hlt : manyOf l m.level < 3 ∨ (found = true ∧ ¬ m.level < lv)) : Seen l (k + 1) found lv := by
  rcases h with ⟨hf, h⟩ | ⟨hf, h3, h⟩
  · refine .inl ⟨hf, fun i x hi hx => ?_⟩
    by_cases e : i = k
    · subst e
      rw [hm] at hx
      cases hx
      rcases hlt with h | h
      · exact h
      · rw [hf] at h; cases h.1
    · exact h i x (by omega) hx
  · refine .inr ⟨hf, h3, fun i x hi hx hl => ?_⟩
    by_cases e : i = k
    · subst e
      rw [hm] at hx
      cases hx
      rcases hlt with h | h
      · exact h
      · omega
    · exact h i x (by omega) hx hl
theorem many_at {l : List Mt} {x : Int} (h : 0 < manyOf l x) : ∃ i m, i < l.length ∧ l[i]? = some m ∧ m.level = x := by
  unfold manyOf at h
  obtain ⟨i, hi⟩ := List.exists_mem_of_length_pos h
  have h1 := idxs_lt _ _ _ i hi
  have h2 := (List.mem_filter.1 hi).2
  obtain ⟨m, hm, hv⟩ := Option.map_eq_some_iff.1 (of_decide_eq_true h2)
  exact ⟨i, m, h1, hm, hv⟩
theorem Seen.all {l : List Mt} {found : Bool} {lv : Int} (h : Seen l l.length found lv) : (found = false ∧ ∀ x, manyOf l x < 3) ∨ (found = true ∧ 3 ≤ manyOf l lv ∧ ∀ x, x < lv → manyOf l x < 3) := by
  rcases h with ⟨hf, h⟩ | ⟨hf, h3, h⟩
  · refine .inl ⟨hf, fun x => ?_⟩
    by_cases h0 : 0 < manyOf l x
    · obtain ⟨i, m, hi, hm, rfl⟩ := many_at h0
      exact h i m hi hm
    · omega
  · refine .inr ⟨hf, h3, fun x hx => ?_⟩
    by_cases h0 : 0 < manyOf l x
    · obtain ⟨i, m, hi, hm, rfl⟩ := many_at h0
      exact h i m hi hm hx
    · omega
/-- The picked places below k. -/
def picks (l : List Mt) (lv : Int) (k : Nat) : List Nat := (idxs l k lv).filter fun i => decide (aheadOf l (idxs l l.length lv) i < 3)
theorem picks_succ {l : List Mt} {k : Nat} {m : Mt} (hm : l[k]? = some m) (lv : Int) : picks l lv (k + 1) = if m.level = lv ∧ aheadOf l (idxs l l.length lv) k < 3 then picks l lv k ++ [k] else picks l lv k := by
  unfold picks
  rw [idxs_succ l k m hm]
  by_cases h1 : m.level = lv
  · rw [if_pos h1]
    by_cases h2 : aheadOf l (idxs l l.length lv) k < 3
    · rw [if_pos ⟨h1, h2⟩]; simp [List.filter_append, h2]
    · rw [if_neg (fun h => h2 h.2)]; simp [List.filter_append, h2]
  · rw [if_neg h1, if_neg (fun h => h1 h.1)]
theorem picks_le (l : List Mt) (lv : Int) (k : Nat) : (picks l lv k).length ≤ k := Nat.le_trans (List.length_filter_le _ _) (idxs_le l k lv)
/-- How many of the first j places of that level lie ahead of k. -/
def front (l : List Mt) (lv : Int) (k j : Nat) : Nat := ((idxs l j lv).filter fun i => decide (Ro l i k)).length
theorem front_succ {l : List Mt} {j : Nat} {m : Mt} (hm : l[j]? = some m) (lv : Int) (k : Nat) : front l lv k (j + 1) = if m.level = lv ∧ Ro l j k then front l lv k j + 1 else front l lv k j := by
  unfold front
  rw [idxs_succ l j m hm]
  by_cases h1 : m.level = lv
  · rw [if_pos h1]
    by_cases h2 : Ro l j k
    · rw [if_pos ⟨h1, h2⟩]; simp [List.filter_append, h2]
    · rw [if_neg (fun h => h2 h.2)]; simp [List.filter_append, h2]
  · rw [if_neg h1, if_neg (fun h => h1 h.1)]
theorem front_le (l : List Mt) (lv : Int) (k j : Nat) : front l lv k j ≤ j := Nat.le_trans (List.length_filter_le _ _) (idxs_le l j lv)
/-- What Plan is, by the reference. -/
def RefIs (l : List Mt) (p : List Int) : Prop := (p = [] ∧ ∀ lv, manyOf l lv < 3) ∨ ∃ lv, (∀ x, x < lv → manyOf l x < 3) ∧ 3 ≤ manyOf l lv ∧ p = ints (pickOf l lv)
theorem RefIs.one {l : List Mt} {p q : List Int} (hp : RefIs l p) (hq : RefIs l q) : p = q := by
  rcases hp with ⟨rfl, h⟩ | ⟨lv, h1, h2, rfl⟩
  · rcases hq with ⟨rfl, _⟩ | ⟨x, _, h2, rfl⟩
    · rfl
    · have := h x; omega
  · rcases hq with ⟨rfl, h⟩ | ⟨x, h3, h4, rfl⟩
    · have := h lv; omega
    · have a : ¬ lv < x := fun h => by have := h3 lv h; omega
      have b : ¬ x < lv := fun h => by have := h1 x h; omega
      rw [show lv = x by omega]
theorem cells_new1 (w : World) (v : Value) (t : TypeId) : ∀ j u, [v][j]? = some u → (w.alloc (.cells #[v] t)).cell? ((⟨w.heap.size, 0, none⟩ : Addr).add j) = some u := by
  intro j u h
  rw [show ((⟨w.heap.size, 0, none⟩ : Addr).add j) = ⟨w.heap.size, j, none⟩ by simp only [Addr.add, Nat.zero_add]; cases j <;> rfl, cell_of_row _ _ _ _ _ _ (heap_alloc_new w _)]
  simpa using h
set_option maxHeartbeats 20000000 in
set_option maxRecDepth 100000 in
theorem refPlan_any (A : Option Addr) (n c : Nat) (l : List Mt) (w : World) (hr : Lst Mt.cells 5 w w.heap.size A n l) (hbig : n ≤ 1099511627776) :
    Calls Try.prog 12 #[.slice A n c] w fun e w' => ∃ v p, e = .returned v ∧ RefIs l p ∧ w'.ownsRow w.heap.size 3 1 v p.length (p.map (Value.int .i64)) ∧ Below w.heap.size w w' := by
  obtain ⟨i0, hi, hz0, hz1, hz2⟩ := info_parts Try.infoInt
  have HI := Lib.hid (show _ ∧ _ ∧ _ ∧ _ from ⟨hi, hz0, hz1, hz2⟩)
  have HL := Lib.hid hr
  have HN := Lib.hid hr.1
  clear hi hz0 hz1 hz2 hr
  go_enter Try.func12, Try.ntmps12
  go_wp2
  go_loop [3, 4, 5] (fun t3 t4 i => ∃ (k : Nat) (lv : Int) (fd : Bool), k ≤ n ∧ i = .int .i64 k ∧ t3 = .int .i64 lv ∧ t4 = .bool fd ∧ Hid (Seen l k fd lv)) (fun _ _ i => n - (intOf i).toNat)
  case atStart => exact ⟨0, 0, false, Nat.zero_le _, rfl, rfl, rfl, Lib.hid (Seen.zero l 0)⟩
  case round =>
    obtain ⟨k, lv, fd, hk, rfl, rfl, rfl, HS⟩ := hrel
    by_cases hlt : k < n
    · obtain ⟨b, off, m, rfl, hb, hm, hc⟩ := HL.out.at hlt
      have c4 := hc 4 _ rfl
      have hmb : manyOf l m.level ≤ n := by have := idxs_le l l.length m.level; have := HN.out; unfold manyOf; omega
      have HM := Lib.hid hm
      have HC := Lib.hid (many_any (some ⟨b, off, none⟩) n c l m.level w HL.out hbig)
      clear hm hc
      go_wp2_with fail
      refine HC.out.mono ?_
      rintro e w' ⟨rfl, rfl⟩
      obtain ⟨mm, hmm⟩ : ∃ mm, manyOf l m.level = mm := ⟨_, rfl⟩
      rw [hmm] at hmb
      rw [hmm]
      have HMM := Lib.hid hmm
      clear hmm
      by_cases h3 : 3 ≤ mm
      · cases fd with
        | false =>
          go_wp2
          go_round
          case measure => simp [intOf]; omega
          case rel => exact ⟨k + 1, m.level, true, hlt, by simp, rfl, rfl, Lib.hid (HS.out.take HM.out (by rw [HMM.out]; exact h3) (.inl rfl))⟩
        | true =>
          by_cases hl : m.level < lv
          · go_wp2
            go_round
            case measure => simp [intOf]; omega
            case rel => exact ⟨k + 1, m.level, true, hlt, by simp, rfl, rfl, Lib.hid (HS.out.take HM.out (by rw [HMM.out]; exact h3) (.inr hl))⟩
          · go_wp2
            go_round
            case measure => simp [intOf]; omega
            case rel => exact ⟨k + 1, lv, true, hlt, by simp, rfl, rfl, Lib.hid (HS.out.pass HM.out (.inr ⟨rfl, by omega⟩))⟩
      · go_wp2
        go_round
        case measure => simp [intOf]; omega
        case rel => exact ⟨k + 1, lv, fd, hlt, by simp, rfl, rfl, Lib.hid (HS.out.pass HM.out (.inl (by rw [HMM.out]; omega)))⟩
    · obtain rfl : k = n := by omega
      have hS := HS.out
      rw [← HN.out] at hS
      rcases hS.all with ⟨rfl, hno⟩ | ⟨rfl, h3, hlow⟩
      · have HNO := Lib.hid hno
        clear hS hno
        by_cases h0 : k = 0
        · subst h0
          go_wp2
          refine wp_loop_rounds 1 ?_
          rw [rounds_succ]
          go_wp2
          go_ret
          exact ⟨_, [], rfl, .inl ⟨rfl, HNO.out⟩, World.ownsRow_nil _ _ _ _, Below.refl _ _⟩
        · have h0' : (0 : Int) < (k : Int) := by omega
          go_wp2
          refine wp_loop_rounds 1 ?_
          rw [rounds_succ]
          go_wp2
          go_ret
          exact ⟨_, [], rfl, .inl ⟨rfl, HNO.out⟩, World.ownsRow_nil _ _ _ _, Below.refl _ _⟩
      · have HR := Lib.hid (show _ ∧ _ from ⟨h3, hlow⟩)
        clear hS h3 hlow HS
        go_wp2
        go_loopw [7, 8] (fun v i wr => ∃ q : Nat, q ≤ k ∧ i = .int .i64 q ∧ wr.ownsRow w.heap.size 3 1 v (ints (picks l lv q)).length ((ints (picks l lv q)).map (Value.int .i64)) ∧ Below w.heap.size w wr) (fun _ i _ => k - (intOf i).toNat)
        case atStart => exact ⟨0, Nat.zero_le _, rfl, World.ownsRow_nil _ _ _ _, Below.refl _ _⟩
        case round =>
          obtain ⟨q, hq, rfl, hown, hbl⟩ := hrel
          by_cases hlt : q < k
          · obtain ⟨b, off, mq, rfl, hb, hmq, hcq⟩ := HL.out.at hlt
            have q0 := (hbl.cell (p := ⟨b, off + q * 5 + 0, none⟩) hb).trans (hcq 0 _ rfl)
            have q4 := (hbl.cell (p := ⟨b, off + q * 5 + 4, none⟩) hb).trans (hcq 4 _ rfl)
            simp only [Nat.add_zero] at q0
            have HMQ := Lib.hid hmq
            clear hmq hcq
            go_wp2
            go_loopw [9, 10] (fun t i wz => ∃ j z : Nat, j ≤ k ∧ i = .int .i64 j ∧ t = .int .i64 (front l lv q j : Nat) ∧ wz = wr.drewN z) (fun _ i _ => k - (intOf i).toNat)
            case atStart => exact ⟨0, 0, Nat.zero_le _, rfl, rfl, rfl⟩
            case round =>
              obtain ⟨j, z, hj, rfl, rfl, rfl⟩ := hrel
              by_cases hjk : j < k
              · obtain ⟨b', off', mj, e', hb', hmj, hcj⟩ := HL.out.at hjk
                obtain ⟨rfl, rfl⟩ : b = b' ∧ off = off' := by simpa using e'
                have j0 := (hbl.cell (p := ⟨b, off + j * 5 + 0, none⟩) hb).trans (hcj 0 _ rfl)
                have j4 := (hbl.cell (p := ⟨b, off + j * 5 + 4, none⟩) hb).trans (hcj 4 _ rfl)
                simp only [Nat.add_zero] at j0
                have HF := Lib.hid (front_succ hmj lv q)
                have hfl := front_le l lv q j
                have hro : Ro l j q = (mj.id < mq.id ∨ (mj.id = mq.id ∧ j < q)) := by unfold Ro idAt; rw [hmj, HMQ.out]; rfl
                have HRO := Lib.hid hro
                clear hmj hcj e' hro
                obtain ⟨fr, hfr⟩ : ∃ fr, front l lv q j = fr := ⟨_, rfl⟩
                rw [hfr] at HF hfl
                rw [hfr]
                have HFR := Lib.hid hfr
                clear hfr
                have hjk' : (j : Int) < (k : Int) := by omega
                have hqk' : (q : Int) < (k : Int) := by omega
                have hj0 : (0 : Int) ≤ (j : Int) := by omega
                have hq0 : (0 : Int) ≤ (q : Int) := by omega
                by_cases hlv : mj.level = lv
                · by_cases hid : mj.id < mq.id
                  · have F : Hid (front l lv q (j + 1) = fr + 1) := Lib.hid (by rw [HF.out, if_pos ⟨hlv, by rw [HRO.out]; exact .inl hid⟩])
                    subst hlv
                    go_wp2_with (go_quiet (fail))
                    go_roundw
                    case measure => simp [intOf]; omega
                    case rel => exact ⟨j + 1, z + nq, hjk, by simp, by rw [F.out]; simp, rfl⟩
                  · by_cases hie : mj.id = mq.id
                    · by_cases hjq : j < q
                      · have F : Hid (front l lv q (j + 1) = fr + 1) := Lib.hid (by rw [HF.out, if_pos ⟨hlv, by rw [HRO.out]; exact .inr ⟨hie, hjq⟩⟩])
                        subst hlv
                        go_wp2_with (go_quiet (fail))
                        go_roundw
                        case measure => simp [intOf]; omega
                        case rel => exact ⟨j + 1, z + nq, hjk, by simp, by rw [F.out]; simp, rfl⟩
                      · have F : Hid (front l lv q (j + 1) = fr) := Lib.hid (by rw [HF.out, if_neg (fun h => by rw [HRO.out] at h; omega)])
                        subst hlv
                        go_wp2_with (go_quiet (fail))
                        go_roundw
                        case measure => simp [intOf]; omega
                        case rel => exact ⟨j + 1, z + nq, hjk, by simp, by rw [F.out], rfl⟩
                    · have F : Hid (front l lv q (j + 1) = fr) := Lib.hid (by rw [HF.out, if_neg (fun h => by rw [HRO.out] at h; omega)])
                      subst hlv
                      go_wp2_with (go_quiet (fail))
                      go_roundw
                      case measure => simp [intOf]; omega
                      case rel => exact ⟨j + 1, z + nq, hjk, by simp, by rw [F.out], rfl⟩
                · have F : Hid (front l lv q (j + 1) = fr) := Lib.hid (by rw [HF.out, if_neg (fun h => hlv h.1)])
                  have hlvb : (mj.level == lv) = false := by simpa using hlv
                  have hlvd : decide (mj.level = lv) = false := by simpa using hlv
                  go_wp2_with (go_quiet (fail))
                  go_roundw
                  case measure => simp [intOf]; omega
                  case rel => exact ⟨j + 1, z + nq, hjk, by simp, by rw [F.out], rfl⟩
              · obtain rfl : j = k := by omega
                have hfe : front l lv q j = aheadOf l (idxs l l.length lv) q := by have := HN.out; subst this; rfl
                have hps := picks_succ HMQ.out lv
                rw [hfe]
                have hfle : aheadOf l (idxs l l.length lv) q ≤ j := hfe ▸ front_le l lv q j
                have hple := picks_le l lv q
                have hq4 : (wr.drewN z).cell? _ = _ := q4
                have hownz : (wr.drewN z).ownsRow w.heap.size 3 1 _ (ints (picks l lv q)).length ((ints (picks l lv q)).map (Value.int .i64)) := hown
                have hblz := below_drewN hbl z
                generalize wr.drewN z = wy at hq4 hownz hblz ⊢
                generalize aheadOf l (idxs l l.length lv) q = ah at hps hfle ⊢
                have HPS := Lib.hid hps
                have HOZ := Lib.hid hownz
                have hln : (ints (picks l lv q)).length = (picks l lv q).length := by simp [ints]
                have HLN := Lib.hid hln
                clear hfe hps hown hownz q0 q4 hbl hln
                by_cases hlv : mq.level = lv
                · by_cases ha : ah < 3
                  · have hps : Hid (picks l lv (q + 1) = picks l lv q ++ [q]) := Lib.hid (by rw [HPS.out, if_pos ⟨hlv, ha⟩])
                    obtain ⟨hi, hz0, hz1, hz2⟩ := HI.out
                    subst hlv
                    go_wp2_with (at_builtin; refine wpList_append_own _ rfl _ _ 24 rfl w.heap.size 3 i0 _ 1 8 Try.underlying24 hi hz0 hz1 hz2 rfl (by omega) _ (ints (picks l mq.level q)).length ((ints (picks l mq.level q)).map (Value.int .i64)) rfl (HOZ.out.alloc _) ⟨wy.heap.size, 0, none⟩ 1 1 [.int .i64 (q : Int)] rfl rfl (cells_new1 wy _ _) (by simp [Value.oneCell']) (by have := HLN.out; unfold maxLen; omega) (by have := HLN.out; omega) (by have := hblz.size; simp; omega) ?_)
                    intro v' w5 hown5 hg5 _
                    have hb5 := (hblz.alloc hblz.size _).grown hg5 (by have := hblz.size; simp; omega) (fun x hx => (HOZ.out.lt x hx).1)
                    have HF := Lib.hid (show _ ∧ _ from ⟨hown5, hb5⟩)
                    clear hi hz0 hz1 hz2 hown5 hb5 hg5
                    go_wp2
                    go_roundw
                    case measure => simp [intOf]; omega
                    case rel => exact ⟨q + 1, hlt, by simp, by rw [hps.out]; have := HF.out.1; simpa [ints] using this, HF.out.2⟩
                  · have hps : Hid (picks l lv (q + 1) = picks l lv q) := Lib.hid (by rw [HPS.out, if_neg (fun h => ha h.2)])
                    subst hlv
                    go_wp2
                    go_roundw
                    case measure => simp [intOf]; omega
                    case rel => exact ⟨q + 1, hlt, by simp, by rw [hps.out]; exact HOZ.out, hblz⟩
                · have hps : Hid (picks l lv (q + 1) = picks l lv q) := Lib.hid (by rw [HPS.out, if_neg (fun h => hlv h.1)])
                  go_wp2
                  go_roundw
                  case measure => simp [intOf]; omega
                  case rel => exact ⟨q + 1, hlt, by simp, by rw [hps.out]; exact HOZ.out, hblz⟩
          · obtain rfl : q = k := by omega
            have hpe : picks l lv q = pickOf l lv := by have := HN.out; subst this; rfl
            rw [hpe] at hown
            have HP := Lib.hid hown
            clear hown hpe
            go_wp2
            go_ret
            exact ⟨_, ints (pickOf l lv), rfl, .inr ⟨lv, HR.out.2, HR.out.1, rfl⟩, HP.out, hbl⟩
end Go.Proofs.Ytglafbfbgjihbaa
