/- ownSamples of the checker's book at lists in memory of their own: true, and nothing but those lists turns. Written off a master by mk2.py. Book.Samples: a list is laid behind in the book. Written off a master by mk2.py. -/
import Derived.Test.YtihidnmpngeohaaGreatG13
import Derived.Test.YtihidnmpngeohaaGreatG09
import Derived.LoopN
import Derived.OwnWalk
import Derived.Deep.DeepCutAuto
namespace Go.Proofs.YtihidnmpngeohaaGreat
open Go.RowKit Go.Lib

def fSample (i : Int) (k : Nat) : List Value := [Value.int .i64 (i * 1000 + k), Value.int .u64 0]
theorem Tryz.infoSamples : (Tryz.prog.info? 90).map (fun i => (i.zero, i.size, i.bytes)) = some (some (.slice none 0 0), 1, 24) := by kernel_rfl
theorem fSample_len (i : Int) (k : Nat) : (fSample i k).length = 2 := rfl
set_option maxHeartbeats 4000000 in
set_option maxRecDepth 100000 in
theorem ownSamples_any (B BL m c : Nat) (V : Nat → Value) (N : Nat → Nat) (w : World) (hL : Lists w B 95 2 BL m V N) (hB : B ≤ w.heap.size) (hoff : BL < w.heap.size) (hm : m ≤ 4000) (hN : ∀ j, j < m → N j ≤ 1000000) :
    Calls Tryz.prog 56 #[.slice (some ⟨BL, 0, none⟩) m c] w fun e w' => e = .returned (.bool true) ∧ GrownIn (Among m V) w w' := by
  have HL := Lib.hid hL
  have HN := Lib.hid hN
  clear hL hN
  obtain ⟨i0, hi, hz0, hz1, hz2⟩ := info_parts Tryz.infoSample
  have HI := Lib.hid (show _ ∧ _ ∧ _ ∧ _ from ⟨hi, hz0, hz1, hz2⟩)
  clear hi hz0 hz1 hz2
  obtain ⟨i1, hi, hz0, hz1, hz2⟩ := info_parts Tryz.infoSamples
  have HJ := Lib.hid (show _ ∧ _ ∧ _ ∧ _ from ⟨hi, hz0, hz1, hz2⟩)
  clear hi hz0 hz1 hz2
  go_enter Tryz.func56, Tryz.ntmps56
  go_wp2
  go_loopw [3] (fun i wr => ∃ k : Nat, k ≤ m ∧ i = .int .i64 k ∧ Hid (Marked fSample w wr B 95 2 BL m V N k)) (fun i _ => m - (intOf i).toNat)
  case atStart => exact ⟨0, Nat.zero_le _, rfl, Lib.hid (Marked.start HL.out)⟩
  case round =>
    obtain ⟨k, hk, rfl, HM⟩ := hrel
    by_cases hlt : k < m
    · obtain ⟨A, ck, hv, hnc, hcm⟩ := HM.out.lists.slice hlt
      obtain ⟨n, hn⟩ : ∃ n, N k = n := ⟨_, rfl⟩
      rw [hn] at hv hnc
      have hn0 : n ≤ 1000000 := by have := HN.out k hlt; omega
      have hrow := HM.out.lists.row k hlt
      rw [hv] at hrow
      obtain ⟨xs, hxs⟩ := HM.out.lists.own k hlt
      rw [hv, hn] at hxs
      have HV := Lib.hid (show _ ∧ _ from ⟨hv, hn⟩)
      have HX := Lib.hid hxs
      have HR := Lib.hid hrow
      clear hv hn hxs
      obtain ⟨wo, rfl⟩ : ∃ wo : World, wo = wr := ⟨_, rfl⟩
      go_wp2
      clear hrow
      go_loopw [4] (fun q wz => ∃ p : Nat, p ≤ n ∧ q = .int .i64 p ∧ Hid (Marking fSample wo wz B 95 2 (.slice A n ck) n k p)) (fun q _ => n - (intOf q).toNat)
      case atStart => exact ⟨0, Nat.zero_le _, rfl, Lib.hid (Marking.start HX.out)⟩
      case round =>
        obtain ⟨p, hp, rfl, HP⟩ := hrel
        have hrz : wr.cell? ⟨BL, k, none⟩ = some (.slice A n ck) := by
          have h1 := HP.out.1.block BL (World.block_lt_of_cell? wo _ HR.out) (fun e => HM.out.lists.off k hlt (by rw [HV.out.1]; exact e.symm))
          exact (World.cell?_of_block (w := wo) h1).trans HR.out
        by_cases hpn : p < n
        · obtain ⟨g, rfl, hg⟩ := owns_some HX.out (by omega)
          obtain ⟨ys, hys, _⟩ := HP.out.2
          have hc0 : ∃ u0, wr.cell? ⟨g, p * 2, none⟩ = some u0 := ⟨_, by
            rw [hys.cellAt (p * 2) (by omega)]
            exact List.getElem?_eq_getElem (by have := hys.1; omega)⟩
          have hc1 : ∃ u1, wr.cell? ⟨g, p * 2 + 1, none⟩ = some u1 := ⟨_, by
            rw [hys.cellAt (p * 2 + 1) (by omega)]
            exact List.getElem?_eq_getElem (by have := hys.1; omega)⟩
          have hf0 := hys.frozenAt (p * 2)
          have hf1 := hys.frozenAt (p * 2 + 1)
          obtain ⟨u0, hc0⟩ := hc0
          obtain ⟨u1, hc1⟩ := hc1
          clear hys
          go_wp2
          go_roundw
          case measure => simp [intOf]; omega
          case rel => exact ⟨p + 1, hpn, by simp, Lib.hid (HP.out.next2 hpn rfl)⟩
        · obtain rfl : p = n := by omega
          have HE := Lib.hid HP.out.end_
          clear HX
          go_wp2
          go_roundw
          case measure => simp [intOf]; omega
          case rel =>
            refine ⟨k + 1, hlt, by simp, Lib.hid (HM.out.step hlt ?_ ?_)⟩
            · rw [HV.out.1]; exact HE.out.1
            · rw [HV.out.1, HV.out.2]; exact HE.out.2
    · obtain rfl : k = m := by omega
      obtain ⟨w2, rfl⟩ : ∃ w2 : World, w2 = wr := ⟨_, rfl⟩
      have hsz2 := HM.out.kept.size
      go_wp2
      go_loopw [5, 6] (fun v i wz => ∃ (q : Nat) (Ls : List Value), q ≤ k ∧ i = .int .i64 q ∧ Hid (Longer fSample 16 w w2 wz B 95 2 BL k V N 90 q v Ls)) (fun _ i _ => k - (intOf i).toNat)
      case atStart => exact ⟨0, [], Nat.zero_le _, rfl, Lib.hid (Longer.start 16 _ HM.out)⟩
      case round =>
        obtain ⟨q, Ls, hq, rfl, HG⟩ := hrel
        by_cases hqk : q < k
        · obtain ⟨A, cq, hv, hnc, hcm⟩ := HM.out.lists.slice hqk
          obtain ⟨n, hn⟩ : ∃ n, N q = n := ⟨_, rfl⟩
          rw [hn] at hv hnc
          have hn0 : n ≤ 1000000 := by have := HN.out q hqk; omega
          have hrow := HG.out.row q hqk
          rw [hv] at hrow
          have hxs := HG.out.rest q (Nat.le_refl _) hqk
          rw [hv, hn] at hxs
          have HV := Lib.hid (show _ ∧ _ from ⟨hv, hn⟩)
          have HX := Lib.hid hxs
          clear hv hn hxs
          obtain ⟨wo, rfl⟩ : ∃ wo : World, wo = wr := ⟨_, rfl⟩
          go_wp2
          clear hrow
          go_loopw [7, 8] (fun x t wz => ∃ p : Nat, p ≤ 16 ∧ t = .int .i64 p ∧ Hid (Growing fSample wo wz B 95 2 (.slice A n cq) n q p x)) (fun _ t _ => 16 - (intOf t).toNat)
          case atStart => exact ⟨0, Nat.zero_le _, rfl, Lib.hid (Growing.start HX.out)⟩
          case round =>
            obtain ⟨p, hp, rfl, HP⟩ := hrel
            have hszr := HP.out.kept.size
            have hszo := HG.out.size
            by_cases hp16 : p < 16
            · obtain ⟨hi, hz0, hz1, hz2⟩ := HI.out
              go_wp2_with (at_builtin; refine wpList_append_full _ rfl _ _ 90 rfl B 95 i0 _ 2 16 Tryz.underlying90 hi hz0 hz1 hz2 rfl (by omega) _ (n + p) (marks fSample q n ++ marks fSample (-1 - (q : Int)) p) rfl (HP.out.own.alloc _) ⟨wr.heap.size, 0, none⟩ 1 1 [.int .i64 ((-1 - (q : Int)) * 1000 + p), .int .u64 0] rfl rfl (cells_newL wr _ _) (by simp [Value.oneCell']) (by omega) (by unfold maxLen; omega) (by omega) (by simp; omega) ?_)
              intro g cap w5 hown5 hg5 hl5 ho5
              have hb5 : Below wr.heap.size wr (wr.alloc (.cells #[.int .i64 ((-1 - (q : Int)) * 1000 + p), .int .u64 0] 95)) := (Below.refl _ _).alloc (Nat.le_refl _) _
              have HP2 := Lib.hid ((HP.out.below hb5).next (by rw [List.append_assoc]; exact hown5) hg5 (by simpa using hl5) ho5)
              clear hi hz0 hz1 hz2 hown5 hg5 hl5 ho5 hb5
              go_wp2
              go_roundw
              case measure => simp [intOf]; omega
              case rel => exact ⟨p + 1, hp16, by simp, HP2⟩
            · obtain rfl : p = 16 := by omega
              obtain ⟨xg, xc, rfl, _, _⟩ := HP.out.own.form (by omega)
              obtain ⟨hi, hz0, hz1, hz2⟩ := HJ.out
              have hlo := HG.out.len
              have hog := HG.out.own
              have hne : ∀ b, u5.ownBlock = some b → (Value.slice A n cq).ownBlock ≠ some b := by
                intro b hu e
                have h1 := HG.out.new b hu
                have h2 := HM.out.lists.lt hqk (g := b) (by rw [HV.out.1]; exact e)
                omega
              have holo : wr.ownsRow B 90 1 u5 q Ls := hog.kept HP.out.kept (apart_of hne)
              clear hne
              have HO := Lib.hid (show _ ∧ _ from ⟨hlo, holo⟩)
              clear hlo hog holo
              go_wp2_with (at_builtin; refine wpList_append_full _ rfl _ _ 44 rfl B 90 i1 _ 1 24 Tryz.underlying44 hi hz0 hz1 hz2 rfl (by omega) _ q Ls rfl (HO.out.2.alloc _) ⟨wr.heap.size, 0, none⟩ 1 1 [.slice (some ⟨xg, 0, none⟩) (n + 16) xc] rfl rfl (cells_one wr _ _) (by simp [Value.oneCell']) (by omega) (by unfold maxLen; omega) (by omega) (by simp; omega) ?_)
              intro g cap w5 hown5 hg5 hl5 ho5
              have hb5 : Below wr.heap.size wr (wr.alloc (.cells #[.slice (some ⟨xg, 0, none⟩) (n + 16) xc] 90)) := (Below.refl _ _).alloc (Nat.le_refl _) _
              have HQ := Lib.hid (HG.out.step HM.out.lists (by omega) hsz2 hqk (by rw [HV.out.1, HV.out.2]; exact HP.out) (by omega) hb5 hown5 hg5 (by simpa using hl5))
              clear hi hz0 hz1 hz2 hown5 hg5 hl5 ho5 hb5
              go_wp2
              go_roundw
              case measure => simp [intOf]; omega
              case rel => exact ⟨q + 1, _, hqk, by simp, HQ⟩
        · obtain rfl : q = k := by omega
          obtain ⟨w3, rfl⟩ : ∃ w3 : World, w3 = wr := ⟨_, rfl⟩
          have hsz3 := HG.out.size
          obtain ⟨Av, cv, rfl, hcv, _⟩ := owns_slice HG.out.own
          go_wp2
          go_loopw [9] (fun i wz => ∃ t : Nat, t ≤ q ∧ i = .int .i64 t ∧ Below w3.heap.size w3 wz) (fun i _ => q - (intOf i).toNat)
          case atStart => exact ⟨0, Nat.zero_le _, rfl, Below.refl _ _⟩
          case round =>
            obtain ⟨t, ht, rfl, hbl⟩ := hrel
            by_cases htq : t < q
            · obtain ⟨A, cq, hv, hnc, hcm⟩ := HM.out.lists.slice htq
              obtain ⟨n, hn⟩ : ∃ n, N t = n := ⟨_, rfl⟩
              rw [hn] at hv hnc
              have hn0 : n ≤ 1000000 := by have := HN.out t htq; omega
              have hL0 : Ls[t]? = some (Ls[t]'(by have := HG.out.len; omega)) := List.getElem?_eq_getElem _
              obtain ⟨x, hx⟩ : ∃ x, Ls[t]'(by have := HG.out.len; omega) = x := ⟨_, rfl⟩
              rw [hx] at hL0
              have hxo := (HG.out.each t x hL0).1
              rw [hn] at hxo
              obtain ⟨xg, xc, rfl, _, hxlt⟩ := hxo.form (by omega)
              obtain ⟨gv, rfl, hgv⟩ := owns_some HG.out.own (by omega)
              have hBL := World.block_lt_of_cell? w3 _ (HG.out.row t htq)
              have hrow3 := HG.out.row t htq
              rw [hv] at hrow3
              have hlong3 := owns_cell HG.out.own (g := gv) rfl hL0
              have hcA : ∀ g, A = some ⟨g, 0, none⟩ → ∀ p, p < n → w3.cell? ⟨g, p * 2, none⟩ = some (.int .i64 ((t : Int) * 1000 + p)) ∧ w3.cell? ⟨g, p * 2 + 1, none⟩ = some (.int .u64 0) := by
                intro g hg p hp
                have h0 := HG.out.cells t htq g (by rw [hv, hg]; rfl) (p * 2 + 0) (.int .i64 ((t : Int) * 1000 + p)) (marks_at fSample_len t (N t) p 0 _ (by omega) rfl)
                have h1 := HG.out.cells t htq g (by rw [hv, hg]; rfl) (p * 2 + 1) (.int .u64 0) (marks_at fSample_len t (N t) p 1 _ (by omega) rfl)
                exact ⟨h0, h1⟩
              have hcX : ∀ p, p < n → w3.cell? ⟨xg, p * 2, none⟩ = some (.int .i64 ((t : Int) * 1000 + p)) ∧ w3.cell? ⟨xg, p * 2 + 1, none⟩ = some (.int .u64 0) := by
                intro p hp
                have h0 := marks_at fSample_len t n p 0 _ hp rfl
                rw [Nat.add_zero] at h0
                have h1 := marks_at fSample_len t n p 1 _ hp rfl
                exact ⟨owns_cell hxo rfl (by rw [List.getElem?_append_left (List.getElem?_eq_some_iff.1 h0).1]; exact h0), owns_cell hxo rfl (by rw [List.getElem?_append_left (List.getElem?_eq_some_iff.1 h1).1]; exact h1)⟩
              have hcY : ∀ p, p < 16 → w3.cell? ⟨xg, (n + p) * 2, none⟩ = some (.int .i64 ((-1 - (t : Int)) * 1000 + p)) ∧ w3.cell? ⟨xg, (n + p) * 2 + 1, none⟩ = some (.int .u64 0) := by
                intro p hp
                have h0 := marks_at fSample_len (-1 - (t : Int)) 16 p 0 _ hp rfl
                have h1 := marks_at fSample_len (-1 - (t : Int)) 16 p 1 _ hp rfl
                have h2 := marks_length fSample_len t n
                exact ⟨owns_cell hxo rfl (by rw [List.getElem?_append_right (by omega), h2, show (n + p) * 2 - n * 2 = p * 2 + 0 by omega]; exact h0), owns_cell hxo rfl (by rw [List.getElem?_append_right (by omega), h2, show (n + p) * 2 + 1 - n * 2 = p * 2 + 1 by omega]; exact h1)⟩
              have hAlt : ∀ g, A = some ⟨g, 0, none⟩ → g < w3.heap.size := by
                intro g hg
                have := (HM.out.lists.lt htq (g := g) (by rw [hv, hg]; rfl)).2
                omega
              obtain ⟨xsA, hxsA⟩ := HM.out.lists.own t htq
              rw [hv, hn] at hxsA
              have HA := Lib.hid (show _ ∧ _ ∧ _ ∧ _ ∧ _ from ⟨hcA, hcX, hcY, hAlt, fun h => owns_some hxsA h⟩)
              have HR := Lib.hid (show _ ∧ _ from ⟨hrow3, hlong3⟩)
              have hrow := (hbl.cell (p := ⟨BL, t, none⟩) hBL).trans hrow3
              clear hx hv hn hL0 hxo hcA hcX hcY hAlt hxsA hrow3 hlong3
              go_wp2
              clear hrow
              go_loopw [11] (fun j wz => ∃ p : Nat, p ≤ n ∧ j = .int .i64 p ∧ Below w3.heap.size w3 wz) (fun j _ => n - (intOf j).toNat)
              case atStart => exact ⟨0, Nat.zero_le _, rfl, hbl⟩
              case round =>
                clear hbl
                obtain ⟨p, hp, rfl, hbl⟩ := hrel
                have hrow := (hbl.cell (p := ⟨BL, t, none⟩) hBL).trans HR.out.1
                have hlong := (hbl.cell (p := ⟨gv, t, none⟩) hgv).trans HR.out.2
                by_cases hpn : p < n
                · obtain ⟨gA, rfl, _⟩ := HA.out.2.2.2.2 (by omega)
                  have c1 := (hbl.cell (p := ⟨gA, p * 2, none⟩) (HA.out.2.2.2.1 gA rfl)).trans (HA.out.1 gA rfl p hpn).1
                  have c1' := (hbl.cell (p := ⟨gA, p * 2 + 1, none⟩) (HA.out.2.2.2.1 gA rfl)).trans (HA.out.1 gA rfl p hpn).2
                  have c2 := (hbl.cell (p := ⟨xg, p * 2, none⟩) hxlt).trans (HA.out.2.1 p hpn).1
                  have c2' := (hbl.cell (p := ⟨xg, p * 2 + 1, none⟩) hxlt).trans (HA.out.2.1 p hpn).2
                  have i1 : (0 : Int) ≤ (t : Int) := by omega
                  have i2 : (t : Int) < (q : Int) := by omega
                  have i3 : (0 : Int) ≤ (p : Int) := by omega
                  have i4 : (p : Int) < (n : Int) := by omega
                  have i5 : (p : Int) < (n : Int) + 16 := by omega
                  go_wp2
                  go_roundw
                  case measure => simp [intOf]; omega
                  case rel => exact ⟨p + 1, hpn, by simp, hbl⟩
                · obtain rfl : p = n := by omega
                  go_wp2
                  clear hrow hlong
                  go_loopw [12] (fun j wz => ∃ y : Nat, y ≤ 16 ∧ j = .int .i64 y ∧ Below w3.heap.size w3 wz) (fun j _ => 16 - (intOf j).toNat)
                  case atStart => exact ⟨0, Nat.zero_le _, rfl, hbl⟩
                  case round =>
                    clear hbl
                    obtain ⟨y, hy, rfl, hbl⟩ := hrel
                    have hlong := (hbl.cell (p := ⟨gv, t, none⟩) hgv).trans HR.out.2
                    by_cases hy16 : y < 16
                    · have c2 := (hbl.cell (p := ⟨xg, (p + y) * 2, none⟩) hxlt).trans (HA.out.2.2.1 y hy16).1
                      have c2' := (hbl.cell (p := ⟨xg, (p + y) * 2 + 1, none⟩) hxlt).trans (HA.out.2.2.1 y hy16).2
                      go_wp2
                      go_roundw
                      case measure => simp [intOf]; omega
                      case rel => exact ⟨y + 1, hy16, by simp, hbl⟩
                    · obtain rfl : y = 16 := by omega
                      go_wp2
                      go_roundw
                      case measure => simp [intOf]; omega
                      case rel => exact ⟨t + 1, htq, by simp, hbl⟩
            · obtain rfl : t = q := by omega
              go_wp2
              go_ret
              exact ⟨rfl, HG.out.kept.trans (GrownIn.of_below hbl) (fun b hb h => by have := HM.out.kept.size; omega)⟩
end Go.Proofs.YtihidnmpngeohaaGreat
namespace Go.Proofs.YtihidnmpngeohaaGreat
open Go.RowKit Go.Lib

set_option maxHeartbeats 4000000 in
set_option maxRecDepth 100000 in
theorem bookSamples (bk B m : Nat) (cs : Array Value) (v : Value) (A : Option Addr) (n c : Nat) (Ls : List Value) (w : World) (hb : Bk w bk cs) (hv : cs[10]? = some v) (ho : w.ownsRow B 90 1 v m Ls) (hne : v.ownBlock ≠ some bk) (hB : B ≤ w.heap.size) (hm : m ≤ 1000000) :
    Calls Tryz.prog 84 #[.pointer (some ⟨bk, 0, none⟩), .slice A n c] w (PutPost w bk B m 10 90 cs v (.slice A n c) Ls) := by
  obtain ⟨i1, hi, hz0, hz1, hz2⟩ := info_parts Tryz.infoSamples
  have HJ := Lib.hid (show _ ∧ _ ∧ _ ∧ _ from ⟨hi, hz0, hz1, hz2⟩)
  have c2 := (hb.cell 10).trans hv
  have f2 := hb.free 10
  have HB := Lib.hid (show _ ∧ _ from ⟨hb, ho⟩)
  have HNE := Lib.hid hne
  clear hi hz0 hz1 hz2 hb hv ho hne
  go_enter Tryz.func84, Tryz.ntmps84
  obtain ⟨hi, hz0, hz1, hz2⟩ := HJ.out
  go_wp2_with (at_builtin; refine wpList_append_full _ rfl _ _ 44 rfl B 90 i1 _ 1 24 Tryz.underlying44 hi hz0 hz1 hz2 rfl (by omega) _ m Ls rfl (HB.out.2.alloc _) ⟨w.heap.size, 0, none⟩ 1 1 [.slice A n c] rfl rfl (cells_one w _ _) (by simp [Value.oneCell']) (by omega) (by unfold maxLen; omega) (by omega) (by simp; omega) ?_)
  intro g cap w5 hown5 hg5 hl5 ho5
  have hb1 : Bk (w.alloc (.cells #[.slice A n c] 90)) bk cs := HB.out.1.kept (GrownIn.alloc (GrownIn.refl (fun _ => False) w) _) (fun h => h)
  have hb5 := hb1.kept (GrownIn.of_grownBy hg5) HNE.out
  have hgr : GrownIn (fun k => k = bk ∨ v.ownBlock = some k) w w5 := ((GrownIn.refl _ w).alloc _).trans (GrownIn.of_grownBy hg5) (fun k _ h => .inr h)
  have hgb : g ≠ bk := by
    rcases hl5 with h | h
    · intro e; exact HNE.out (by rw [h, e])
    · have := HB.out.1.lt; intro e; omega
  have hbs := hb5.set 10 (.slice (some ⟨g, 0, none⟩) (m + 1) cap)
  have hos := owns_set_other hown5 (p := ⟨bk, 10, none⟩) (by simp [Value.ownBlock]; exact hgb) (.slice (some ⟨g, 0, none⟩) (m + 1) cap)
  have hgs := grownIn_set hgr (p := ⟨bk, 10, none⟩) (.inl rfl) (.slice (some ⟨g, 0, none⟩) (m + 1) cap)
  have hlies : v.ownBlock = some g ∨ w.heap.size ≤ g := hl5.imp_right fun h => by omega
  have HF := Lib.hid (show _ ∧ _ ∧ _ ∧ _ from ⟨hos, hbs, hgs, hlies⟩)
  have c5 : w5.cell? ⟨bk, 10, none⟩ = some v := (hb5.cell 10).trans ((hb1.cell 10).symm.trans (by rw [World.cell?_alloc_lt _ _ _ HB.out.1.lt]; exact c2))
  have f5 := hb5.free 10
  clear c2 f2 hi hz0 hz1 hz2 hown5 hg5 hl5 ho5 hb1 hb5 hgr hgb hbs hos hgs hlies
  go_wp2
  go_end0
  exact ⟨rfl, g, cap, HF.out.1, HF.out.2.1, HF.out.2.2.1, HF.out.2.2.2⟩
end Go.Proofs.YtihidnmpngeohaaGreat
