/- ownTombs of the checker's book at lists in memory of their own: true, and nothing but those lists turns. Written off a master by mk2.py. Book.Labels: a list is laid behind in the book. Written off a master by mk2.py. Book.Tombs: tombs are laid behind in the book, and their labels. -/
import Derived.Test.YtihidnmpngeohaaGreatG13
import Derived.Test.YtihidnmpngeohaaGreatG19
import Derived.LoopN
import Derived.OwnWalk
import Derived.Deep.DeepCutAuto
import Derived.Test.YtihidnmpngeohaaGreatOwnLabel
namespace Go.Proofs.YtihidnmpngeohaaGreat
open Go.RowKit Go.Lib

/-- One element of three cells. -/
theorem Marking.next3 {f : Int → Nat → List Value} {wo w : World} {B : Nat} {e : TypeId} {g n cap : Nat} {i : Int} {q : Nat} {u v x : Value} (h : Marking f wo w B e 3 (.slice (some ⟨g, 0, none⟩) n cap) n i q) (hq : q < n) (hu : f i q = [u, v, x]) :
    Marking f wo (((w.setCell ⟨g, q * 3, none⟩ u).setCell ⟨g, q * 3 + 1, none⟩ v).setCell ⟨g, q * 3 + 2, none⟩ x) B e 3 (.slice (some ⟨g, 0, none⟩) n cap) n i (q + 1) := by
  obtain ⟨h1, xs, h2, h3⟩ := h
  obtain ⟨h4, h5⟩ := h2.stored (q * 3) u
  obtain ⟨h6, h7⟩ := h4.stored (q * 3 + 1) v
  obtain ⟨h8, h9⟩ := h6.stored (q * 3 + 2) x
  refine ⟨grownBy_trans (grownBy_trans (grownBy_trans h1 h5) h7) h9, _, h8, ?_⟩
  rw [show (q + 1) * 3 = q * 3 + 2 + 1 by omega, take_set_next _ _ _ (by rw [List.length_set, List.length_set, h2.1]; omega), take_set_next _ _ _ (by rw [List.length_set, h2.1]; omega), take_set_next _ _ _ (by rw [h2.1]; omega), h3, marks_succ, hu]
  simp
def fTomb (i : Int) (k : Nat) : List Value := [Value.slice none 0 0, Value.int .i64 (i * 1000 + k), Value.int .i64 0]
theorem Tryz.infoTombs : (Tryz.prog.info? 22).map (fun i => (i.zero, i.size, i.bytes)) = some (some (.slice none 0 0), 1, 24) := by kernel_rfl
theorem fTomb_len (i : Int) (k : Nat) : (fTomb i k).length = 3 := rfl
set_option maxHeartbeats 4000000 in
set_option maxRecDepth 100000 in
theorem ownTombs_any (B BL m c : Nat) (V : Nat → Value) (N : Nat → Nat) (w : World) (hL : Lists w B 27 3 BL m V N) (hB : B ≤ w.heap.size) (hoff : BL < w.heap.size) (hm : m ≤ 1000) (hN : ∀ j, j < m → N j ≤ 1000000) :
    Calls Tryz.prog 71 #[.slice (some ⟨BL, 0, none⟩) m c] w fun e w' => e = .returned (.bool true) ∧ GrownIn (Among m V) w w' := by
  have HL := Lib.hid hL
  have HN := Lib.hid hN
  clear hL hN
  obtain ⟨i0, hi, hz0, hz1, hz2⟩ := info_parts Tryz.infoTomb
  have HI := Lib.hid (show _ ∧ _ ∧ _ ∧ _ from ⟨hi, hz0, hz1, hz2⟩)
  clear hi hz0 hz1 hz2
  obtain ⟨i1, hi, hz0, hz1, hz2⟩ := info_parts Tryz.infoTombs
  have HJ := Lib.hid (show _ ∧ _ ∧ _ ∧ _ from ⟨hi, hz0, hz1, hz2⟩)
  clear hi hz0 hz1 hz2
  go_enter Tryz.func71, Tryz.ntmps71
  go_wp2
  go_loopw [3] (fun i wr => ∃ k : Nat, k ≤ m ∧ i = .int .i64 k ∧ Hid (Marked fTomb w wr B 27 3 BL m V N k)) (fun i _ => m - (intOf i).toNat)
  case atStart => exact ⟨0, Nat.zero_le _, rfl, Lib.hid (Marked.start HL.out)⟩
  case round =>
    obtain ⟨k, hk, rfl, HM⟩ := hrel
    by_cases hlt : k < m
    · obtain ⟨A, ck, hv, hnc, hcm⟩ := HM.out.lists.slice hlt
      obtain ⟨n, hn⟩ : ∃ n, N k = n := ⟨_, rfl⟩
      rw [hn] at hv hnc
      have hn0 : n ≤ 1000000 := by have := HN.out k hlt; omega
      have hrow := HM.out.lists.row k hlt
      rw [hv] at hrow
      obtain ⟨xs, hxs⟩ := HM.out.lists.own k hlt
      rw [hv, hn] at hxs
      have HV := Lib.hid (show _ ∧ _ from ⟨hv, hn⟩)
      have HX := Lib.hid hxs
      have HR := Lib.hid hrow
      clear hv hn hxs
      obtain ⟨wo, rfl⟩ : ∃ wo : World, wo = wr := ⟨_, rfl⟩
      go_wp2
      clear hrow
      go_loopw [4] (fun q wz => ∃ p : Nat, p ≤ n ∧ q = .int .i64 p ∧ Hid (Marking fTomb wo wz B 27 3 (.slice A n ck) n k p)) (fun q _ => n - (intOf q).toNat)
      case atStart => exact ⟨0, Nat.zero_le _, rfl, Lib.hid (Marking.start HX.out)⟩
      case round =>
        obtain ⟨p, hp, rfl, HP⟩ := hrel
        have hrz : wr.cell? ⟨BL, k, none⟩ = some (.slice A n ck) := by
          have h1 := HP.out.1.block BL (World.block_lt_of_cell? wo _ HR.out) (fun e => HM.out.lists.off k hlt (by rw [HV.out.1]; exact e.symm))
          exact (World.cell?_of_block (w := wo) h1).trans HR.out
        by_cases hpn : p < n
        · obtain ⟨g, rfl, hg⟩ := owns_some HX.out (by omega)
          obtain ⟨ys, hys, _⟩ := HP.out.2
          have hc0 : ∃ u0, wr.cell? ⟨g, p * 3, none⟩ = some u0 := ⟨_, by
            rw [hys.cellAt (p * 3) (by omega)]
            exact List.getElem?_eq_getElem (by have := hys.1; omega)⟩
          have hc1 : ∃ u1, wr.cell? ⟨g, p * 3 + 1, none⟩ = some u1 := ⟨_, by
            rw [hys.cellAt (p * 3 + 1) (by omega)]
            exact List.getElem?_eq_getElem (by have := hys.1; omega)⟩
          have hc2 : ∃ u2, wr.cell? ⟨g, p * 3 + 2, none⟩ = some u2 := ⟨_, by
            rw [hys.cellAt (p * 3 + 2) (by omega)]
            exact List.getElem?_eq_getElem (by have := hys.1; omega)⟩
          have hf0 := hys.frozenAt (p * 3)
          have hf1 := hys.frozenAt (p * 3 + 1)
          have hf2 := hys.frozenAt (p * 3 + 2)
          obtain ⟨u0, hc0⟩ := hc0
          obtain ⟨u1, hc1⟩ := hc1
          obtain ⟨u2, hc2⟩ := hc2
          clear hys
          go_wp2
          go_roundw
          case measure => simp [intOf]; omega
          case rel => exact ⟨p + 1, hpn, by simp, Lib.hid (HP.out.next3 hpn rfl)⟩
        · obtain rfl : p = n := by omega
          have HE := Lib.hid HP.out.end_
          clear HX
          go_wp2
          go_roundw
          case measure => simp [intOf]; omega
          case rel =>
            refine ⟨k + 1, hlt, by simp, Lib.hid (HM.out.step hlt ?_ ?_)⟩
            · rw [HV.out.1]; exact HE.out.1
            · rw [HV.out.1, HV.out.2]; exact HE.out.2
    · obtain rfl : k = m := by omega
      obtain ⟨w2, rfl⟩ : ∃ w2 : World, w2 = wr := ⟨_, rfl⟩
      have hsz2 := HM.out.kept.size
      go_wp2
      go_loopw [5, 6] (fun v i wz => ∃ (q : Nat) (Ls : List Value), q ≤ k ∧ i = .int .i64 q ∧ Hid (Longer fTomb 8 w w2 wz B 27 3 BL k V N 22 q v Ls)) (fun _ i _ => k - (intOf i).toNat)
      case atStart => exact ⟨0, [], Nat.zero_le _, rfl, Lib.hid (Longer.start 8 _ HM.out)⟩
      case round =>
        obtain ⟨q, Ls, hq, rfl, HG⟩ := hrel
        by_cases hqk : q < k
        · obtain ⟨A, cq, hv, hnc, hcm⟩ := HM.out.lists.slice hqk
          obtain ⟨n, hn⟩ : ∃ n, N q = n := ⟨_, rfl⟩
          rw [hn] at hv hnc
          have hn0 : n ≤ 1000000 := by have := HN.out q hqk; omega
          have hrow := HG.out.row q hqk
          rw [hv] at hrow
          have hxs := HG.out.rest q (Nat.le_refl _) hqk
          rw [hv, hn] at hxs
          have HV := Lib.hid (show _ ∧ _ from ⟨hv, hn⟩)
          have HX := Lib.hid hxs
          clear hv hn hxs
          obtain ⟨wo, rfl⟩ : ∃ wo : World, wo = wr := ⟨_, rfl⟩
          go_wp2
          clear hrow
          go_loopw [7, 8] (fun x t wz => ∃ p : Nat, p ≤ 8 ∧ t = .int .i64 p ∧ Hid (Growing fTomb wo wz B 27 3 (.slice A n cq) n q p x)) (fun _ t _ => 8 - (intOf t).toNat)
          case atStart => exact ⟨0, Nat.zero_le _, rfl, Lib.hid (Growing.start HX.out)⟩
          case round =>
            obtain ⟨p, hp, rfl, HP⟩ := hrel
            have hszr := HP.out.kept.size
            have hszo := HG.out.size
            by_cases hp8 : p < 8
            · obtain ⟨hi, hz0, hz1, hz2⟩ := HI.out
              go_wp2_with (at_builtin; refine wpList_append_full _ rfl _ _ 22 rfl B 27 i0 _ 3 40 Tryz.underlying22 hi hz0 hz1 hz2 rfl (by omega) _ (n + p) (marks fTomb q n ++ marks fTomb (-1 - (q : Int)) p) rfl (HP.out.own.alloc _) ⟨wr.heap.size, 0, none⟩ 1 1 [.slice none 0 0, .int .i64 ((-1 - (q : Int)) * 1000 + p), .int .i64 0] rfl rfl (cells_newL wr _ _) (by simp [Value.oneCell']) (by omega) (by unfold maxLen; omega) (by omega) (by simp; omega) ?_)
              intro g cap w5 hown5 hg5 hl5 ho5
              have hb5 : Below wr.heap.size wr (wr.alloc (.cells #[.slice none 0 0, .int .i64 ((-1 - (q : Int)) * 1000 + p), .int .i64 0] 27)) := (Below.refl _ _).alloc (Nat.le_refl _) _
              have HP2 := Lib.hid ((HP.out.below hb5).next (by rw [List.append_assoc]; exact hown5) hg5 (by simpa using hl5) ho5)
              clear hi hz0 hz1 hz2 hown5 hg5 hl5 ho5 hb5
              go_wp2
              go_roundw
              case measure => simp [intOf]; omega
              case rel => exact ⟨p + 1, hp8, by simp, HP2⟩
            · obtain rfl : p = 8 := by omega
              obtain ⟨xg, xc, rfl, _, _⟩ := HP.out.own.form (by omega)
              obtain ⟨hi, hz0, hz1, hz2⟩ := HJ.out
              have hlo := HG.out.len
              have hog := HG.out.own
              have hne : ∀ b, u5.ownBlock = some b → (Value.slice A n cq).ownBlock ≠ some b := by
                intro b hu e
                have h1 := HG.out.new b hu
                have h2 := HM.out.lists.lt hqk (g := b) (by rw [HV.out.1]; exact e)
                omega
              have holo : wr.ownsRow B 22 1 u5 q Ls := hog.kept HP.out.kept (apart_of hne)
              clear hne
              have HO := Lib.hid (show _ ∧ _ from ⟨hlo, holo⟩)
              clear hlo hog holo
              go_wp2_with (at_builtin; refine wpList_append_full _ rfl _ _ 59 rfl B 22 i1 _ 1 24 Tryz.underlying59 hi hz0 hz1 hz2 rfl (by omega) _ q Ls rfl (HO.out.2.alloc _) ⟨wr.heap.size, 0, none⟩ 1 1 [.slice (some ⟨xg, 0, none⟩) (n + 8) xc] rfl rfl (cells_one wr _ _) (by simp [Value.oneCell']) (by omega) (by unfold maxLen; omega) (by omega) (by simp; omega) ?_)
              intro g cap w5 hown5 hg5 hl5 ho5
              have hb5 : Below wr.heap.size wr (wr.alloc (.cells #[.slice (some ⟨xg, 0, none⟩) (n + 8) xc] 22)) := (Below.refl _ _).alloc (Nat.le_refl _) _
              have HQ := Lib.hid (HG.out.step HM.out.lists (by omega) hsz2 hqk (by rw [HV.out.1, HV.out.2]; exact HP.out) (by omega) hb5 hown5 hg5 (by simpa using hl5))
              clear hi hz0 hz1 hz2 hown5 hg5 hl5 ho5 hb5
              go_wp2
              go_roundw
              case measure => simp [intOf]; omega
              case rel => exact ⟨q + 1, _, hqk, by simp, HQ⟩
        · obtain rfl : q = k := by omega
          obtain ⟨w3, rfl⟩ : ∃ w3 : World, w3 = wr := ⟨_, rfl⟩
          have hsz3 := HG.out.size
          obtain ⟨Av, cv, rfl, hcv, _⟩ := owns_slice HG.out.own
          go_wp2
          go_loopw [9] (fun i wz => ∃ t : Nat, t ≤ q ∧ i = .int .i64 t ∧ Below w3.heap.size w3 wz) (fun i _ => q - (intOf i).toNat)
          case atStart => exact ⟨0, Nat.zero_le _, rfl, Below.refl _ _⟩
          case round =>
            obtain ⟨t, ht, rfl, hbl⟩ := hrel
            by_cases htq : t < q
            · obtain ⟨A, cq, hv, hnc, hcm⟩ := HM.out.lists.slice htq
              obtain ⟨n, hn⟩ : ∃ n, N t = n := ⟨_, rfl⟩
              rw [hn] at hv hnc
              have hn0 : n ≤ 1000000 := by have := HN.out t htq; omega
              have hL0 : Ls[t]? = some (Ls[t]'(by have := HG.out.len; omega)) := List.getElem?_eq_getElem _
              obtain ⟨x, hx⟩ : ∃ x, Ls[t]'(by have := HG.out.len; omega) = x := ⟨_, rfl⟩
              rw [hx] at hL0
              have hxo := (HG.out.each t x hL0).1
              rw [hn] at hxo
              obtain ⟨xg, xc, rfl, _, hxlt⟩ := hxo.form (by omega)
              obtain ⟨gv, rfl, hgv⟩ := owns_some HG.out.own (by omega)
              have hBL := World.block_lt_of_cell? w3 _ (HG.out.row t htq)
              have hrow3 := HG.out.row t htq
              rw [hv] at hrow3
              have hlong3 := owns_cell HG.out.own (g := gv) rfl hL0
              have hcA : ∀ g, A = some ⟨g, 0, none⟩ → ∀ p, p < n → w3.cell? ⟨g, p * 3 + 1, none⟩ = some (.int .i64 ((t : Int) * 1000 + p)) ∧ w3.cell? ⟨g, p * 3 + 2, none⟩ = some (.int .i64 0) := by
                intro g hg p hp
                have h0 := HG.out.cells t htq g (by rw [hv, hg]; rfl) (p * 3 + 1) (.int .i64 ((t : Int) * 1000 + p)) (marks_at fTomb_len t (N t) p 1 _ (by omega) rfl)
                have h1 := HG.out.cells t htq g (by rw [hv, hg]; rfl) (p * 3 + 2) (.int .i64 0) (marks_at fTomb_len t (N t) p 2 _ (by omega) rfl)
                exact ⟨h0, h1⟩
              have hcX : ∀ p, p < n → w3.cell? ⟨xg, p * 3 + 1, none⟩ = some (.int .i64 ((t : Int) * 1000 + p)) ∧ w3.cell? ⟨xg, p * 3 + 2, none⟩ = some (.int .i64 0) := by
                intro p hp
                have h0 := marks_at fTomb_len t n p 1 _ hp rfl
                have h1 := marks_at fTomb_len t n p 2 _ hp rfl
                exact ⟨owns_cell hxo rfl (by rw [List.getElem?_append_left (List.getElem?_eq_some_iff.1 h0).1]; exact h0), owns_cell hxo rfl (by rw [List.getElem?_append_left (List.getElem?_eq_some_iff.1 h1).1]; exact h1)⟩
              have hcY : ∀ p, p < 8 → w3.cell? ⟨xg, (n + p) * 3 + 1, none⟩ = some (.int .i64 ((-1 - (t : Int)) * 1000 + p)) ∧ w3.cell? ⟨xg, (n + p) * 3 + 2, none⟩ = some (.int .i64 0) := by
                intro p hp
                have h0 := marks_at fTomb_len (-1 - (t : Int)) 8 p 1 _ hp rfl
                have h1 := marks_at fTomb_len (-1 - (t : Int)) 8 p 2 _ hp rfl
                have h2 := marks_length fTomb_len t n
                exact ⟨owns_cell hxo rfl (by rw [List.getElem?_append_right (by omega), h2, show (n + p) * 3 + 1 - n * 3 = p * 3 + 1 by omega]; exact h0), owns_cell hxo rfl (by rw [List.getElem?_append_right (by omega), h2, show (n + p) * 3 + 2 - n * 3 = p * 3 + 2 by omega]; exact h1)⟩
              have hAlt : ∀ g, A = some ⟨g, 0, none⟩ → g < w3.heap.size := by
                intro g hg
                have := (HM.out.lists.lt htq (g := g) (by rw [hv, hg]; rfl)).2
                omega
              obtain ⟨xsA, hxsA⟩ := HM.out.lists.own t htq
              rw [hv, hn] at hxsA
              have HA := Lib.hid (show _ ∧ _ ∧ _ ∧ _ ∧ _ from ⟨hcA, hcX, hcY, hAlt, fun h => owns_some hxsA h⟩)
              have HR := Lib.hid (show _ ∧ _ from ⟨hrow3, hlong3⟩)
              have hrow := (hbl.cell (p := ⟨BL, t, none⟩) hBL).trans hrow3
              clear hx hv hn hL0 hxo hcA hcX hcY hAlt hxsA hrow3 hlong3
              go_wp2
              clear hrow
              go_loopw [11] (fun j wz => ∃ p : Nat, p ≤ n ∧ j = .int .i64 p ∧ Below w3.heap.size w3 wz) (fun j _ => n - (intOf j).toNat)
              case atStart => exact ⟨0, Nat.zero_le _, rfl, hbl⟩
              case round =>
                clear hbl
                obtain ⟨p, hp, rfl, hbl⟩ := hrel
                have hrow := (hbl.cell (p := ⟨BL, t, none⟩) hBL).trans HR.out.1
                have hlong := (hbl.cell (p := ⟨gv, t, none⟩) hgv).trans HR.out.2
                by_cases hpn : p < n
                · obtain ⟨gA, rfl, _⟩ := HA.out.2.2.2.2 (by omega)
                  have c1 := (hbl.cell (p := ⟨gA, p * 3 + 1, none⟩) (HA.out.2.2.2.1 gA rfl)).trans (HA.out.1 gA rfl p hpn).1
                  have c1' := (hbl.cell (p := ⟨gA, p * 3 + 2, none⟩) (HA.out.2.2.2.1 gA rfl)).trans (HA.out.1 gA rfl p hpn).2
                  have c2 := (hbl.cell (p := ⟨xg, p * 3 + 1, none⟩) hxlt).trans (HA.out.2.1 p hpn).1
                  have c2' := (hbl.cell (p := ⟨xg, p * 3 + 2, none⟩) hxlt).trans (HA.out.2.1 p hpn).2
                  have i1 : (0 : Int) ≤ (t : Int) := by omega
                  have i2 : (t : Int) < (q : Int) := by omega
                  have i3 : (0 : Int) ≤ (p : Int) := by omega
                  have i4 : (p : Int) < (n : Int) := by omega
                  have i5 : (p : Int) < (n : Int) + 8 := by omega
                  go_wp2
                  go_roundw
                  case measure => simp [intOf]; omega
                  case rel => exact ⟨p + 1, hpn, by simp, hbl⟩
                · obtain rfl : p = n := by omega
                  go_wp2
                  clear hrow hlong
                  go_loopw [12] (fun j wz => ∃ y : Nat, y ≤ 8 ∧ j = .int .i64 y ∧ Below w3.heap.size w3 wz) (fun j _ => 8 - (intOf j).toNat)
                  case atStart => exact ⟨0, Nat.zero_le _, rfl, hbl⟩
                  case round =>
                    clear hbl
                    obtain ⟨y, hy, rfl, hbl⟩ := hrel
                    have hlong := (hbl.cell (p := ⟨gv, t, none⟩) hgv).trans HR.out.2
                    by_cases hy8 : y < 8
                    · have c2 := (hbl.cell (p := ⟨xg, (p + y) * 3 + 1, none⟩) hxlt).trans (HA.out.2.2.1 y hy8).1
                      have c2' := (hbl.cell (p := ⟨xg, (p + y) * 3 + 2, none⟩) hxlt).trans (HA.out.2.2.1 y hy8).2
                      go_wp2
                      go_roundw
                      case measure => simp [intOf]; omega
                      case rel => exact ⟨y + 1, hy8, by simp, hbl⟩
                    · obtain rfl : y = 8 := by omega
                      go_wp2
                      go_roundw
                      case measure => simp [intOf]; omega
                      case rel => exact ⟨t + 1, htq, by simp, hbl⟩
            · obtain rfl : t = q := by omega
              go_wp2
              go_ret
              exact ⟨rfl, HG.out.kept.trans (GrownIn.of_below hbl) (fun b hb h => by have := HM.out.kept.size; omega)⟩
end Go.Proofs.YtihidnmpngeohaaGreat
namespace Go.Proofs.YtihidnmpngeohaaGreat
open Go.RowKit Go.Lib

set_option maxHeartbeats 4000000 in
set_option maxRecDepth 100000 in
theorem bookLabels (bk B m : Nat) (cs : Array Value) (v : Value) (A : Option Addr) (n c : Nat) (Ls : List Value) (w : World) (hb : Bk w bk cs) (hv : cs[9]? = some v) (ho : w.ownsRow B 23 1 v m Ls) (hne : v.ownBlock ≠ some bk) (hB : B ≤ w.heap.size) (hm : m ≤ 1000000) :
    Calls Tryz.prog 38 #[.pointer (some ⟨bk, 0, none⟩), .slice A n c] w (PutPost w bk B m 9 23 cs v (.slice A n c) Ls) := by
  obtain ⟨i1, hi, hz0, hz1, hz2⟩ := info_parts Tryz.infoLabels
  have HJ := Lib.hid (show _ ∧ _ ∧ _ ∧ _ from ⟨hi, hz0, hz1, hz2⟩)
  have c2 := (hb.cell 9).trans hv
  have f2 := hb.free 9
  have HB := Lib.hid (show _ ∧ _ from ⟨hb, ho⟩)
  have HNE := Lib.hid hne
  clear hi hz0 hz1 hz2 hb hv ho hne
  go_enter Tryz.func38, Tryz.ntmps38
  obtain ⟨hi, hz0, hz1, hz2⟩ := HJ.out
  go_wp2_with (at_builtin; refine wpList_append_full _ rfl _ _ 43 rfl B 23 i1 _ 1 24 Tryz.underlying43 hi hz0 hz1 hz2 rfl (by omega) _ m Ls rfl (HB.out.2.alloc _) ⟨w.heap.size, 0, none⟩ 1 1 [.slice A n c] rfl rfl (cells_one w _ _) (by simp [Value.oneCell']) (by omega) (by unfold maxLen; omega) (by omega) (by simp; omega) ?_)
  intro g cap w5 hown5 hg5 hl5 ho5
  have hb1 : Bk (w.alloc (.cells #[.slice A n c] 23)) bk cs := HB.out.1.kept (GrownIn.alloc (GrownIn.refl (fun _ => False) w) _) (fun h => h)
  have hb5 := hb1.kept (GrownIn.of_grownBy hg5) HNE.out
  have hgr : GrownIn (fun k => k = bk ∨ v.ownBlock = some k) w w5 := ((GrownIn.refl _ w).alloc _).trans (GrownIn.of_grownBy hg5) (fun k _ h => .inr h)
  have hgb : g ≠ bk := by
    rcases hl5 with h | h
    · intro e; exact HNE.out (by rw [h, e])
    · have := HB.out.1.lt; intro e; omega
  have hbs := hb5.set 9 (.slice (some ⟨g, 0, none⟩) (m + 1) cap)
  have hos := owns_set_other hown5 (p := ⟨bk, 9, none⟩) (by simp [Value.ownBlock]; exact hgb) (.slice (some ⟨g, 0, none⟩) (m + 1) cap)
  have hgs := grownIn_set hgr (p := ⟨bk, 9, none⟩) (.inl rfl) (.slice (some ⟨g, 0, none⟩) (m + 1) cap)
  have hlies : v.ownBlock = some g ∨ w.heap.size ≤ g := hl5.imp_right fun h => by omega
  have HF := Lib.hid (show _ ∧ _ ∧ _ ∧ _ from ⟨hos, hbs, hgs, hlies⟩)
  have c5 : w5.cell? ⟨bk, 9, none⟩ = some v := (hb5.cell 9).trans ((hb1.cell 9).symm.trans (by rw [World.cell?_alloc_lt _ _ _ HB.out.1.lt]; exact c2))
  have f5 := hb5.free 9
  clear c2 f2 hi hz0 hz1 hz2 hown5 hg5 hl5 ho5 hb1 hb5 hgr hgb hbs hos hgs hlies
  go_wp2
  go_end0
  exact ⟨rfl, g, cap, HF.out.1, HF.out.2.1, HF.out.2.2.1, HF.out.2.2.2⟩
end Go.Proofs.YtihidnmpngeohaaGreat
namespace Go.Proofs.YtihidnmpngeohaaGreat
open Go.RowKit Go.Lib

def valT (z : Tv) : Value := .slice z.A z.n z.c
theorem set_same {cs : Array Value} {i : Nat} {v : Value} (h : cs[i]? = some v) : cs.setIfInBounds i v = cs := by
  apply Array.ext_getElem?
  intro k
  rw [Array.getElem?_setIfInBounds]
  by_cases hk : i = k
  · subst hk
    obtain ⟨h1, h2⟩ := Array.getElem?_eq_some_iff.1 h
    rw [if_pos rfl, if_pos h1, h]
  · rw [if_neg hk]
/-- Behind the first k tombs: their labels lie in the book. -/
structure BkT (w wr : World) (bk B : Nat) (cs : Array Value) (t25 v9 : Value) (m25 m9 : Nat) (Ls25 Ls9 : List Value) (os : List Tv) (k : Nat) (v : Value) : Prop where
  book : Bk wr bk (cs.setIfInBounds 9 v)
  own9 : wr.ownsRow B 23 1 v (m9 + k) (Ls9 ++ (os.take k).map valT)
  own25 : wr.ownsRow B 22 1 t25 m25 Ls25
  grown : GrownIn (fun b => b = bk ∨ v9.ownBlock = some b) w wr
  lies : ∀ b, v.ownBlock = some b → v9.ownBlock = some b ∨ w.heap.size ≤ b
set_option maxHeartbeats 4000000 in
set_option maxRecDepth 100000 in
/-- What Book.Tombs leaves. -/
def PutTPost (w : World) (bk B m25 m9 : Nat) (cs : Array Value) (v25 v9 a : Value) (Ls25 Ls9 : List Value) (os : List Tv) (e : Ending) (w' : World) : Prop :=
  e = .returned (.tuple #[]) ∧ ∃ g25 c25 v9', w'.ownsRow B 22 1 (.slice (some ⟨g25, 0, none⟩) (m25 + 1) c25) (m25 + 1) (Ls25 ++ [a]) ∧ w'.ownsRow B 23 1 v9' (m9 + os.length) (Ls9 ++ os.map valT) ∧
    Bk w' bk ((cs.setIfInBounds 25 (.slice (some ⟨g25, 0, none⟩) (m25 + 1) c25)).setIfInBounds 9 v9') ∧ GrownIn (fun b => b = bk ∨ v25.ownBlock = some b ∨ v9.ownBlock = some b) w w' ∧
    (v25.ownBlock = some g25 ∨ w.heap.size ≤ g25) ∧ (∀ b, v9'.ownBlock = some b → v9.ownBlock = some b ∨ w.heap.size ≤ b)
set_option maxHeartbeats 4000000 in
set_option maxRecDepth 100000 in
theorem bookTombs (bk B Bo m25 m9 : Nat) (cs : Array Value) (v25 v9 : Value) (A : Option Addr) (n c : Nat) (Ls25 Ls9 : List Value) (os : List Tv) (w : World) (hb : Bk w bk cs) (h25 : cs[25]? = some v25) (h9 : cs[9]? = some v9)
    (ho25 : w.ownsRow B 22 1 v25 m25 Ls25) (ho9 : w.ownsRow B 23 1 v9 m9 Ls9) (hne25 : v25.ownBlock ≠ some bk) (hne9 : v9.ownBlock ≠ some bk) (hB : B ≤ w.heap.size) (hm25 : m25 ≤ 1000) (hm9 : m9 ≤ 1000)
    (hos : w.ownsRow Bo 27 3 (.slice A n c) n (os.flatMap encTb)) (hn : n ≤ 1000) (hAb : (Value.slice A n c).ownBlock ≠ some bk) :
    Calls Tryz.prog 10 #[.pointer (some ⟨bk, 0, none⟩), .slice A n c] w (PutTPost w bk B m25 m9 cs v25 v9 (.slice A n c) Ls25 Ls9 os) := by
  obtain ⟨i1, hi, hz0, hz1, hz2⟩ := info_parts Tryz.infoTombs
  have HJ := Lib.hid (show _ ∧ _ ∧ _ ∧ _ from ⟨hi, hz0, hz1, hz2⟩)
  have c2 := (hb.cell 25).trans h25
  have f2 := hb.free 25
  have hll := owns_len hos encTb_len (by omega)
  have HB := Lib.hid (show _ ∧ _ ∧ _ ∧ _ ∧ _ ∧ _ from ⟨hb, ho25, ho9, h9, hos, hll⟩)
  have HNE := Lib.hid (show _ ∧ _ ∧ _ from ⟨hne25, hne9, hAb⟩)
  clear hi hz0 hz1 hz2 hb h25 h9 ho25 ho9 hne25 hne9 hos hll hAb
  go_enter Tryz.func10, Tryz.ntmps10
  obtain ⟨hi, hz0, hz1, hz2⟩ := HJ.out
  go_wp2_with (at_builtin; refine wpList_append_full _ rfl _ _ 59 rfl B 22 i1 _ 1 24 Tryz.underlying59 hi hz0 hz1 hz2 rfl (by omega) _ m25 Ls25 rfl (HB.out.2.1.alloc _) ⟨w.heap.size, 0, none⟩ 1 1 [.slice A n c] rfl rfl (cells_one w _ _) (by simp [Value.oneCell']) (by omega) (by unfold maxLen; omega) (by omega) (by simp; omega) ?_)
  intro g cap w5 hown5 hg5 hl5 ho5
  have hb1 : Bk (w.alloc (.cells #[.slice A n c] 22)) bk cs := HB.out.1.kept (GrownIn.alloc (GrownIn.refl (fun _ => False) w) _) (fun h => h)
  have hba : Below w.heap.size w (w.alloc (.cells #[.slice A n c] 22)) := (Below.refl _ _).alloc (Nat.le_refl _) _
  have hb5 := hb1.kept (GrownIn.of_grownBy hg5) HNE.out.1
  have hgb : g ≠ bk := by
    rcases hl5 with h | h
    · intro e; exact HNE.out.1 (by rw [h, e])
    · have := HB.out.1.lt; intro e; omega
  have hbs := hb5.set 25 (.slice (some ⟨g, 0, none⟩) (m25 + 1) cap)
  have hos := owns_set_other hown5 (p := ⟨bk, 25, none⟩) (by simp [Value.ownBlock]; exact hgb) (.slice (some ⟨g, 0, none⟩) (m25 + 1) cap)
  have h95 : w5.ownsRow B 23 1 v9 m9 Ls9 := (owns_below HB.out.2.2.1 hba).kept hg5 (by
    cases hv : v9.ownBlock with
    | none => exact .inl rfl
    | some b => exact .inr fun e => owns_other (owns_below HB.out.2.2.1 hba) (owns_below HB.out.2.1 hba) (by decide) hv e.symm)
  have h9s := owns_set_other h95 (p := ⟨bk, 25, none⟩) HNE.out.2.1 (.slice (some ⟨g, 0, none⟩) (m25 + 1) cap)
  have hA5 : w5.ownsRow Bo 27 3 (.slice A n c) n (os.flatMap encTb) := (owns_below HB.out.2.2.2.2.1 hba).kept hg5 (by
    cases hv : (Value.slice A n c).ownBlock with
    | none => exact .inl rfl
    | some b => exact .inr fun e => owns_other (owns_below HB.out.2.2.2.2.1 hba) (owns_below HB.out.2.1 hba) (by decide) hv e.symm)
  have hAs := owns_set_other hA5 (p := ⟨bk, 25, none⟩) HNE.out.2.2 (.slice (some ⟨g, 0, none⟩) (m25 + 1) cap)
  have hgr : GrownIn (fun k => k = bk ∨ v25.ownBlock = some k ∨ v9.ownBlock = some k) w w5 := ((GrownIn.refl _ w).alloc _).trans (GrownIn.of_grownBy hg5) (fun k _ h => .inr (.inl h))
  have hgs := grownIn_set hgr (p := ⟨bk, 25, none⟩) (.inl rfl) (.slice (some ⟨g, 0, none⟩) (m25 + 1) cap)
  have hlies : v25.ownBlock = some g ∨ w.heap.size ≤ g := hl5.imp_right fun h => by omega
  have c5 : w5.cell? ⟨bk, 25, none⟩ = some v25 := (hb5.cell 25).trans ((hb1.cell 25).symm.trans (by rw [World.cell?_alloc_lt _ _ _ HB.out.1.lt]; exact c2))
  have f5 := hb5.free 25
  have h9c : (cs.setIfInBounds 25 (.slice (some ⟨g, 0, none⟩) (m25 + 1) cap))[9]? = some v9 := by rw [Array.getElem?_setIfInBounds, if_neg (by decide)]; exact HB.out.2.2.2.1
  have hw6 : w.heap.size ≤ (w5.setCell ⟨bk, 25, none⟩ (.slice (some ⟨g, 0, none⟩) (m25 + 1) cap)).heap.size := by have := hgs.size; exact this
  have HF := Lib.hid (show _ ∧ _ ∧ _ ∧ _ ∧ _ ∧ _ ∧ _ ∧ _ from ⟨hos, hbs, hgs, hlies, h9s, hAs, h9c, hw6⟩)
  have hll := HB.out.2.2.2.2.2
  clear c2 f2 hi hz0 hz1 hz2 hown5 hg5 hl5 ho5 hb1 hb5 hgr hgb hbs hos hgs hlies h95 h9s hA5 hAs h9c hw6 hba
  go_wp2
  have H6 := HF.out
  obtain ⟨w6, hw6⟩ : ∃ w6, w5.setCell ⟨bk, 25, none⟩ (.slice (some ⟨g, 0, none⟩) (m25 + 1) cap) = w6 := ⟨_, rfl⟩
  rw [hw6] at H6 ⊢
  have HW := Lib.hid H6
  clear H6 hw6 c5 f5
  go_loopw [4] (fun i wr => ∃ (k : Nat) (v : Value), k ≤ n ∧ i = .int .i64 k ∧ Hid (BkT w6 wr bk B (cs.setIfInBounds 25 (.slice (some ⟨g, 0, none⟩) (m25 + 1) cap)) (.slice (some ⟨g, 0, none⟩) (m25 + 1) cap) v9 (m25 + 1) m9 (Ls25 ++ [.slice A n c]) Ls9 os k v)) (fun i _ => n - (intOf i).toNat)
  case atStart => exact ⟨0, v9, Nat.zero_le _, rfl, Lib.hid ⟨by rw [set_same HW.out.2.2.2.2.2.2.1]; exact HW.out.2.1, by simpa using HW.out.2.2.2.2.1, HW.out.1, GrownIn.refl _ _, fun b hb => .inl hb⟩⟩
  case round =>
    obtain ⟨k, v, hk, rfl, HT⟩ := hrel
    have hsz := HT.out.grown.size
    have hwz := HW.out.2.2.2.2.2.2.2
    by_cases hlt : k < n
    · obtain ⟨z, hz⟩ : ∃ z, os[k]? = some z := ⟨_, List.getElem?_eq_getElem (by omega)⟩
      have hne9 : v.ownBlock ≠ some bk := fun e => by
        rcases HT.out.lies bk e with h | h
        · exact HNE.out.2.1 h
        · have := HW.out.2.1.lt; omega
      obtain ⟨gA, rfl, hgA⟩ := owns_some' HW.out.2.2.2.2.2.1 (by omega)
      have hAr := HT.out.grown.owns HW.out.2.2.2.2.2.1 (fun b hb hs => by
        rcases hs with rfl | hs
        · exact HNE.out.2.2 hb
        · exact owns_other HW.out.2.2.2.2.2.1 HW.out.2.2.2.2.1 (by decide) hb hs)
      have c0 := owns_at hAr encTb_len hz (j := 0) (u := .slice z.A z.n z.c) rfl
      simp only [Nat.add_zero] at c0
      have h9v : ((cs.setIfInBounds 25 (.slice (some ⟨g, 0, none⟩) (m25 + 1) cap)).setIfInBounds 9 v)[9]? = some v := by
        have hs := HT.out.book.2
        simp only [Array.size_setIfInBounds] at hs
        rw [Array.getElem?_setIfInBounds, if_pos rfl, if_pos (by rw [Array.size_setIfInBounds]; omega)]
      have hcall := bookLabels bk B (m9 + k) _ v z.A z.n z.c (Ls9 ++ (os.take k).map valT) wr HT.out.book h9v HT.out.own9 hne9 (by omega) (by omega)
      have hnext : ∀ e w', PutPost wr bk B (m9 + k) 9 23 ((cs.setIfInBounds 25 (.slice (some ⟨g, 0, none⟩) (m25 + 1) cap)).setIfInBounds 9 v) v (.slice z.A z.n z.c) (Ls9 ++ (os.take k).map valT) e w' → e = .returned (.tuple #[]) ∧ ∃ v', BkT w6 w' bk B (cs.setIfInBounds 25 (.slice (some ⟨g, 0, none⟩) (m25 + 1) cap)) (.slice (some ⟨g, 0, none⟩) (m25 + 1) cap) v9 (m25 + 1) m9 (Ls25 ++ [.slice (some ⟨gA, 0, none⟩) n c]) Ls9 os (k + 1) v' := by
        rintro e w' ⟨he, g', c', ho', hb', hg', hl'⟩
        refine ⟨he, .slice (some ⟨g', 0, none⟩) (m9 + k + 1) c', ?_, ?_, ?_, ?_, ?_⟩
        · have : ((cs.setIfInBounds 25 (.slice (some ⟨g, 0, none⟩) (m25 + 1) cap)).setIfInBounds 9 v).setIfInBounds 9 (.slice (some ⟨g', 0, none⟩) (m9 + k + 1) c') = (cs.setIfInBounds 25 (.slice (some ⟨g, 0, none⟩) (m25 + 1) cap)).setIfInBounds 9 (.slice (some ⟨g', 0, none⟩) (m9 + k + 1) c') := by
            apply Array.ext_getElem?
            intro j
            simp only [Array.getElem?_setIfInBounds, Array.size_setIfInBounds]
            by_cases h : 9 = j
            · simp [h]
            · simp [h]
          rw [this] at hb'
          exact hb'
        · obtain ⟨q1, q2⟩ := List.getElem?_eq_some_iff.1 hz
          rw [List.take_succ_eq_append_getElem q1, q2, List.map_append, ← List.append_assoc]
          exact ho'
        · exact hg'.owns HT.out.own25 (fun b hb hs => by
            rcases hs with rfl | hs
            · have h1 := HW.out.2.2.2.1
              have h2 := HW.out.1.lt
              have hgb : g = b := by simpa [Value.ownBlock] using hb
              subst hgb
              rcases h1 with h1 | h1
              · exact HNE.out.1 h1
              · have := HB.out.1.lt; omega
            · exact owns_other HT.out.own25 HT.out.own9 (by decide) hb hs)
        · refine HT.out.grown.trans hg' (fun b hb hs => ?_)
          rcases hs with rfl | hs
          · exact .inl rfl
          · rcases HT.out.lies b hs with h | h
            · exact .inr h
            · omega
        · intro b hb
          have hgb : g' = b := by simpa [Value.ownBlock] using hb
          subst hgb
          rcases hl' with h | h
          · exact HT.out.lies _ h
          · exact .inr (by omega)
      have HC := Lib.hid (show _ ∧ _ from ⟨hcall, hnext⟩)
      clear hz hAr h9v hcall hnext hne9
      go_wp2_with (go_at_call 38; refine HC.out.1.mono ?_; intro e w7 hp7; obtain ⟨rfl, v7, h7⟩ := HC.out.2 e w7 hp7; have H7 := Lib.hid h7; clear hp7 h7)
      go_roundw
      case measure => simp [intOf]; omega
      case rel => exact ⟨k + 1, v7, hlt, by simp, H7⟩
    · obtain rfl : n = k := by omega
      have hT := HT.out
      have h9f := hT.own9
      rw [List.take_of_length_le (by omega)] at h9f
      have H9 := Lib.hid h9f
      clear h9f hT
      go_wp2
      go_end0
      refine ⟨rfl, g, cap, v, HT.out.own25, by rw [hll]; exact H9.out, HT.out.book, ?_, HW.out.2.2.2.1, fun b hb => ?_⟩
      · refine HW.out.2.2.1.trans HT.out.grown (fun b _ hs => ?_)
        rcases hs with h | h
        · exact .inl h
        · exact .inr (.inr h)
      · rcases HT.out.lies b hb with h | h
        · exact .inl h
        · exact .inr (by omega)
end Go.Proofs.YtihidnmpngeohaaGreat
