/- ownLabels of the checker's book at lists in memory of their own: true, and nothing but those lists turns. -/
import Derived.Test.YtajaijidecomdaaGreatDoorG02
import Derived.Test.YtajaijidecomdaaGreatDoorG03
import Derived.Deep.RegionHeld3
import Derived.LoopN
import Derived.OwnWalk
import Derived.Deep.DeepCutAuto
namespace Go.Proofs.YtajaijidecomdaaGreatDoor
open Go.RowKit Go.Lib

theorem Below.seen {w w' : World} (hb : Below w.heap.size w w') {p : Addr} {v : Value} (h : w.cell? p = some v) : w'.cell? p = some v := (hb.cell (World.block_lt_of_cell? w _ h)).trans h
theorem seen6 {w w' : World} (hb : Below w.heap.size w w') {p1 p2 p3 p4 p5 p6 : Addr} {v1 v2 v3 v4 v5 v6 : Value} (h : w.cell? p1 = some v1 ∧ w.cell? p2 = some v2 ∧ w.cell? p3 = some v3 ∧ w.cell? p4 = some v4 ∧ w.cell? p5 = some v5 ∧ w.cell? p6 = some v6) :
    w'.cell? p1 = some v1 ∧ w'.cell? p2 = some v2 ∧ w'.cell? p3 = some v3 ∧ w'.cell? p4 = some v4 ∧ w'.cell? p5 = some v5 ∧ w'.cell? p6 = some v6 :=
  ⟨Below.seen hb h.1, Below.seen hb h.2.1, Below.seen hb h.2.2.1, Below.seen hb h.2.2.2.1, Below.seen hb h.2.2.2.2.1, Below.seen hb h.2.2.2.2.2⟩
theorem seen3 {w w' : World} (hb : Below w.heap.size w w') {p1 p2 p3 : Addr} {v1 v2 v3 : Value} (h : w.cell? p1 = some v1 ∧ w.cell? p2 = some v2 ∧ w.cell? p3 = some v3) :
    w'.cell? p1 = some v1 ∧ w'.cell? p2 = some v2 ∧ w'.cell? p3 = some v3 :=
  ⟨Below.seen hb h.1, Below.seen hb h.2.1, Below.seen hb h.2.2⟩
def fLabel (i : Int) (k : Nat) : List Value := [Value.string (markB i k), Value.string ByteArray.empty]
theorem Tryz.infoLabels : (Tryz.prog.info? 88).map (fun i => (i.zero, i.size, i.bytes)) = some (some (.slice none 0 0), 1, 24) := by kernel_rfl
theorem fLabel_len (i : Int) (k : Nat) : (fLabel i k).length = 2 := rfl
set_option maxHeartbeats 4000000 in
set_option maxRecDepth 100000 in
theorem ownLabels_any (B BL m c : Nat) (V : Nat → Value) (N : Nat → Nat) (w : World) (hL : Lists w B 104 2 BL m V N) (hB : B ≤ w.heap.size) (hoff : BL < w.heap.size) (hm : m ≤ 100000) (hN : ∀ j, j < m → N j ≤ 1000000) :
    Calls Tryz.prog 69 #[.slice (some ⟨BL, 0, none⟩) m c] w fun e w' => e = .returned (.bool true) ∧ GrownIn (Among m V) w w' := by
  have HL := Lib.hid hL
  have HN := Lib.hid hN
  clear hL hN
  obtain ⟨i0, hi, hz0, hz1, hz2⟩ := info_parts Tryz.infoLabel
  have HI := Lib.hid (show _ ∧ _ ∧ _ ∧ _ from ⟨hi, hz0, hz1, hz2⟩)
  clear hi hz0 hz1 hz2
  obtain ⟨i1, hi, hz0, hz1, hz2⟩ := info_parts Tryz.infoLabels
  have HJ := Lib.hid (show _ ∧ _ ∧ _ ∧ _ from ⟨hi, hz0, hz1, hz2⟩)
  clear hi hz0 hz1 hz2
  go_enter Tryz.func69, Tryz.ntmps69
  go_wp2
  go_loopw [3] (fun i wr => ∃ k : Nat, k ≤ m ∧ i = .int .i64 k ∧ Hid (Marked fLabel w wr B 104 2 BL m V N k)) (fun i _ => m - (intOf i).toNat)
  case atStart => exact ⟨0, Nat.zero_le _, rfl, Lib.hid (Marked.start HL.out)⟩
  case round =>
    obtain ⟨k, hk, rfl, HM⟩ := hrel
    by_cases hlt : k < m
    · obtain ⟨A, ck, hv, hnc, hcm⟩ := HM.out.lists.slice hlt
      obtain ⟨n, hn⟩ : ∃ n, N k = n := ⟨_, rfl⟩
      rw [hn] at hv hnc
      have hn0 : n ≤ 1000000 := by have := HN.out k hlt; omega
      have hrow := HM.out.lists.row k hlt
      rw [hv] at hrow
      obtain ⟨xs, hxs⟩ := HM.out.lists.own k hlt
      rw [hv, hn] at hxs
      have HV := Lib.hid (show _ ∧ _ from ⟨hv, hn⟩)
      have HX := Lib.hid hxs
      have HR := Lib.hid hrow
      clear hv hn hxs
      obtain ⟨wo, rfl⟩ : ∃ wo : World, wo = wr := ⟨_, rfl⟩
      go_wp2
      clear hrow
      go_loopw [4] (fun q wz => ∃ p : Nat, p ≤ n ∧ q = .int .i64 p ∧ Hid (Marking fLabel wo wz B 104 2 (.slice A n ck) n k p)) (fun q _ => n - (intOf q).toNat)
      case atStart => exact ⟨0, Nat.zero_le _, rfl, Lib.hid (Marking.start HX.out)⟩
      case round =>
        obtain ⟨p, hp, rfl, HP⟩ := hrel
        have hrz : wr.cell? ⟨BL, k, none⟩ = some (.slice A n ck) := by
          have h1 := HP.out.1.block BL (World.block_lt_of_cell? wo _ HR.out) (fun e => HM.out.lists.off k hlt (by rw [HV.out.1]; exact e.symm))
          exact (World.cell?_of_block (w := wo) h1).trans HR.out
        by_cases hpn : p < n
        · obtain ⟨g, rfl, hg⟩ := owns_some HX.out (by omega)
          obtain ⟨ys, hys, _⟩ := HP.out.2
          have hc0 : ∃ u0, wr.cell? ⟨g, p * 2, none⟩ = some u0 := ⟨_, by
            rw [hys.cellAt (p * 2) (by omega)]
            exact List.getElem?_eq_getElem (by have := hys.1; omega)⟩
          have hc1 : ∃ u1, wr.cell? ⟨g, p * 2 + 1, none⟩ = some u1 := ⟨_, by
            rw [hys.cellAt (p * 2 + 1) (by omega)]
            exact List.getElem?_eq_getElem (by have := hys.1; omega)⟩
          have hf0 := hys.frozenAt (p * 2)
          have hf1 := hys.frozenAt (p * 2 + 1)
          obtain ⟨u0, hc0⟩ := hc0
          obtain ⟨u1, hc1⟩ := hc1
          clear hys
          have hne : BL ≠ g := fun e => HM.out.lists.off k hlt (by rw [HV.out.1, e]; rfl)
          have hne' : g ≠ BL := fun e => hne e.symm
          go_wp2_with fail
          go_region_held3 (fun w' => w'.cell? ⟨BL, k, none⟩ = some (.slice (some ⟨g, 0, none⟩) n ck)) (go_keep)
            (first | (go_at_call 151; refine (mark_any (k : Int) p (by omega) (by omega) (by omega) _).mono ?_; rintro e w' ⟨rfl, hbm⟩; have z0 := Below.seen hbm (show World.cell? _ ⟨g, p * 2, none⟩ = some u0 from hc0); have z1 := Below.seen hbm (show World.cell? _ ⟨g, p * 2 + 1, none⟩ = some u1 from hc1); have z2 := Below.seen hbm hrz; have y0 := (hbm.frozen (p := ⟨g, p * 2, none⟩) (World.block_lt_of_cell? wr _ hc0)).trans hf0; have y1 := (hbm.frozen (p := ⟨g, p * 2 + 1, none⟩) (World.block_lt_of_cell? wr _ hc1)).trans hf1))
          go_wp2
          go_roundw
          case measure => simp [intOf]; omega
          case rel => exact ⟨p + 1, hpn, by simp, Lib.hid (((HP.out.below (below_drewN (Below.refl _ _) 1)).below hbm).next2 hpn rfl)⟩
        · obtain rfl : p = n := by omega
          have HE := Lib.hid HP.out.end_
          clear HX
          go_wp2
          go_roundw
          case measure => simp [intOf]; omega
          case rel =>
            refine ⟨k + 1, hlt, by simp, Lib.hid (HM.out.step hlt ?_ ?_)⟩
            · rw [HV.out.1]; exact HE.out.1
            · rw [HV.out.1, HV.out.2]; exact HE.out.2
    · obtain rfl : k = m := by omega
      obtain ⟨w2, rfl⟩ : ∃ w2 : World, w2 = wr := ⟨_, rfl⟩
      have hsz2 := HM.out.kept.size
      go_wp2
      go_loopw [5, 6] (fun v i wz => ∃ (q : Nat) (Ls : List Value), q ≤ k ∧ i = .int .i64 q ∧ Hid (Longer fLabel 16 w w2 wz B 104 2 BL k V N 88 q v Ls)) (fun _ i _ => k - (intOf i).toNat)
      case atStart => exact ⟨0, [], Nat.zero_le _, rfl, Lib.hid (Longer.start 16 _ HM.out)⟩
      case round =>
        obtain ⟨q, Ls, hq, rfl, HG⟩ := hrel
        by_cases hqk : q < k
        · obtain ⟨A, cq, hv, hnc, hcm⟩ := HM.out.lists.slice hqk
          obtain ⟨n, hn⟩ : ∃ n, N q = n := ⟨_, rfl⟩
          rw [hn] at hv hnc
          have hn0 : n ≤ 1000000 := by have := HN.out q hqk; omega
          have hrow := HG.out.row q hqk
          rw [hv] at hrow
          have hxs := HG.out.rest q (Nat.le_refl _) hqk
          rw [hv, hn] at hxs
          have HV := Lib.hid (show _ ∧ _ from ⟨hv, hn⟩)
          have HX := Lib.hid hxs
          clear hv hn hxs
          obtain ⟨wo, rfl⟩ : ∃ wo : World, wo = wr := ⟨_, rfl⟩
          go_wp2
          clear hrow
          go_loopw [7, 8] (fun x t wz => ∃ p : Nat, p ≤ 16 ∧ t = .int .i64 p ∧ Hid (Growing fLabel wo wz B 104 2 (.slice A n cq) n q p x)) (fun _ t _ => 16 - (intOf t).toNat)
          case atStart => exact ⟨0, Nat.zero_le _, rfl, Lib.hid (Growing.start HX.out)⟩
          case round =>
            obtain ⟨p, hp, rfl, HP⟩ := hrel
            have hszr := HP.out.kept.size
            have hszo := HG.out.size
            by_cases hp16 : p < 16
            · obtain ⟨hi, hz0, hz1, hz2⟩ := HI.out
              go_wp2_with (first | (go_at_call 151; refine (mark_any (-1 - (q : Int)) p (by omega) (by omega) (by omega) _).mono ?_; rintro e wm ⟨rfl, hbm⟩; have HP3 := Lib.hid (HP.out.below hbm); have hszm := hbm.size; clear hbm) | (at_builtin; go_loud (refine wpList_append_full _ rfl _ _ 88 rfl B 104 i0 _ 2 32 Tryz.underlying88 hi hz0 hz1 hz2 rfl (by omega) _ (n + p) (marks fLabel q n ++ marks fLabel (-1 - (q : Int)) p) rfl (HP3.out.own.alloc _) ⟨wm.heap.size, 0, none⟩ 1 1 [.string (markB (-1 - (q : Int)) p), .string ByteArray.empty] rfl rfl (cells_newL wm _ _) (by simp [Value.oneCell']) (by omega) (by unfold maxLen; omega) (by omega) (by simp; omega) ?_)))
              intro g cap w5 hown5 hg5 hl5 ho5
              have hb5 : Below wm.heap.size wm (wm.alloc (.cells #[.string (markB (-1 - (q : Int)) p), .string ByteArray.empty] 104)) := (Below.refl _ _).alloc (Nat.le_refl _) _
              have HP2 := Lib.hid ((HP3.out.below hb5).next (by rw [List.append_assoc]; exact hown5) hg5 (by simpa using hl5) ho5)
              clear hi hz0 hz1 hz2 hown5 hg5 hl5 ho5 hb5
              go_wp2
              go_roundw
              case measure => simp [intOf]; omega
              case rel => exact ⟨p + 1, hp16, by simp, HP2⟩
            · obtain rfl : p = 16 := by omega
              obtain ⟨xg, xc, rfl, _, _⟩ := HP.out.own.form (by omega)
              obtain ⟨hi, hz0, hz1, hz2⟩ := HJ.out
              have hlo := HG.out.len
              have hog := HG.out.own
              have hne : ∀ b, u5.ownBlock = some b → (Value.slice A n cq).ownBlock ≠ some b := by
                intro b hu e
                have h1 := HG.out.new b hu
                have h2 := HM.out.lists.lt hqk (g := b) (by rw [HV.out.1]; exact e)
                omega
              have holo : wr.ownsRow B 88 1 u5 q Ls := hog.kept HP.out.kept (apart_of hne)
              clear hne
              have HO := Lib.hid (show _ ∧ _ from ⟨hlo, holo⟩)
              clear hlo hog holo
              go_wp2_with (at_builtin; refine wpList_append_full _ rfl _ _ 52 rfl B 88 i1 _ 1 24 Tryz.underlying52 hi hz0 hz1 hz2 rfl (by omega) _ q Ls rfl (HO.out.2.alloc _) ⟨wr.heap.size, 0, none⟩ 1 1 [.slice (some ⟨xg, 0, none⟩) (n + 16) xc] rfl rfl (cells_one wr _ _) (by simp [Value.oneCell']) (by omega) (by unfold maxLen; omega) (by omega) (by simp; omega) ?_)
              intro g cap w5 hown5 hg5 hl5 ho5
              have hb5 : Below wr.heap.size wr (wr.alloc (.cells #[.slice (some ⟨xg, 0, none⟩) (n + 16) xc] 88)) := (Below.refl _ _).alloc (Nat.le_refl _) _
              have HQ := Lib.hid (HG.out.step HM.out.lists (by omega) hsz2 hqk (by rw [HV.out.1, HV.out.2]; exact HP.out) (by omega) hb5 hown5 hg5 (by simpa using hl5))
              clear hi hz0 hz1 hz2 hown5 hg5 hl5 ho5 hb5
              go_wp2
              go_roundw
              case measure => simp [intOf]; omega
              case rel => exact ⟨q + 1, _, hqk, by simp, HQ⟩
        · obtain rfl : q = k := by omega
          obtain ⟨w3, rfl⟩ : ∃ w3 : World, w3 = wr := ⟨_, rfl⟩
          have hsz3 := HG.out.size
          obtain ⟨Av, cv, rfl, hcv, _⟩ := owns_slice HG.out.own
          go_wp2
          go_loopw [9] (fun i wz => ∃ t : Nat, t ≤ q ∧ i = .int .i64 t ∧ Below w3.heap.size w3 wz) (fun i _ => q - (intOf i).toNat)
          case atStart => exact ⟨0, Nat.zero_le _, rfl, Below.refl _ _⟩
          case round =>
            obtain ⟨t, ht, rfl, hbl⟩ := hrel
            by_cases htq : t < q
            · obtain ⟨A, cq, hv, hnc, hcm⟩ := HM.out.lists.slice htq
              obtain ⟨n, hn⟩ : ∃ n, N t = n := ⟨_, rfl⟩
              rw [hn] at hv hnc
              have hn0 : n ≤ 1000000 := by have := HN.out t htq; omega
              have hL0 : Ls[t]? = some (Ls[t]'(by have := HG.out.len; omega)) := List.getElem?_eq_getElem _
              obtain ⟨x, hx⟩ : ∃ x, Ls[t]'(by have := HG.out.len; omega) = x := ⟨_, rfl⟩
              rw [hx] at hL0
              have hxo := (HG.out.each t x hL0).1
              rw [hn] at hxo
              obtain ⟨xg, xc, rfl, _, hxlt⟩ := hxo.form (by omega)
              obtain ⟨gv, rfl, hgv⟩ := owns_some HG.out.own (by omega)
              have hBL := World.block_lt_of_cell? w3 _ (HG.out.row t htq)
              have hrow3 := HG.out.row t htq
              rw [hv] at hrow3
              have hlong3 := owns_cell HG.out.own (g := gv) rfl hL0
              have hcA : ∀ g, A = some ⟨g, 0, none⟩ → ∀ p, p < n → w3.cell? ⟨g, p * 2, none⟩ = some (.string (markB (t : Int) p)) ∧ w3.cell? ⟨g, p * 2 + 1, none⟩ = some (.string ByteArray.empty) := by
                intro g hg p hp
                have h0 := HG.out.cells t htq g (by rw [hv, hg]; rfl) (p * 2 + 0) (.string (markB (t : Int) p)) (marks_at fLabel_len t (N t) p 0 _ (by omega) rfl)
                have h1 := HG.out.cells t htq g (by rw [hv, hg]; rfl) (p * 2 + 1) (.string ByteArray.empty) (marks_at fLabel_len t (N t) p 1 _ (by omega) rfl)
                exact ⟨h0, h1⟩
              have hcX : ∀ p, p < n → w3.cell? ⟨xg, p * 2, none⟩ = some (.string (markB (t : Int) p)) ∧ w3.cell? ⟨xg, p * 2 + 1, none⟩ = some (.string ByteArray.empty) := by
                intro p hp
                have h0 := marks_at fLabel_len t n p 0 _ hp rfl
                rw [Nat.add_zero] at h0
                have h1 := marks_at fLabel_len t n p 1 _ hp rfl
                exact ⟨owns_cell hxo rfl (by rw [List.getElem?_append_left (List.getElem?_eq_some_iff.1 h0).1]; exact h0), owns_cell hxo rfl (by rw [List.getElem?_append_left (List.getElem?_eq_some_iff.1 h1).1]; exact h1)⟩
              have hcY : ∀ p, p < 16 → w3.cell? ⟨xg, (n + p) * 2, none⟩ = some (.string (markB (-1 - (t : Int)) p)) ∧ w3.cell? ⟨xg, (n + p) * 2 + 1, none⟩ = some (.string ByteArray.empty) := by
                intro p hp
                have h0 := marks_at fLabel_len (-1 - (t : Int)) 16 p 0 _ hp rfl
                have h1 := marks_at fLabel_len (-1 - (t : Int)) 16 p 1 _ hp rfl
                have h2 := marks_length fLabel_len t n
                exact ⟨owns_cell hxo rfl (by rw [List.getElem?_append_right (by omega), h2, show (n + p) * 2 - n * 2 = p * 2 + 0 by omega]; exact h0), owns_cell hxo rfl (by rw [List.getElem?_append_right (by omega), h2, show (n + p) * 2 + 1 - n * 2 = p * 2 + 1 by omega]; exact h1)⟩
              have hAlt : ∀ g, A = some ⟨g, 0, none⟩ → g < w3.heap.size := by
                intro g hg
                have := (HM.out.lists.lt htq (g := g) (by rw [hv, hg]; rfl)).2
                omega
              obtain ⟨xsA, hxsA⟩ := HM.out.lists.own t htq
              rw [hv, hn] at hxsA
              have HA := Lib.hid (show _ ∧ _ ∧ _ ∧ _ ∧ _ from ⟨hcA, hcX, hcY, hAlt, fun h => owns_some hxsA h⟩)
              have HR := Lib.hid (show _ ∧ _ from ⟨hrow3, hlong3⟩)
              have hrow := (hbl.cell (p := ⟨BL, t, none⟩) hBL).trans hrow3
              clear hx hv hn hL0 hxo hcA hcX hcY hAlt hxsA hrow3 hlong3
              go_wp2
              clear hrow
              go_loopw [11] (fun j wz => ∃ p : Nat, p ≤ n ∧ j = .int .i64 p ∧ Below w3.heap.size w3 wz) (fun j _ => n - (intOf j).toNat)
              case atStart => exact ⟨0, Nat.zero_le _, rfl, hbl⟩
              case round =>
                clear hbl
                obtain ⟨p, hp, rfl, hbl⟩ := hrel
                have hrow := (hbl.cell (p := ⟨BL, t, none⟩) hBL).trans HR.out.1
                have hlong := (hbl.cell (p := ⟨gv, t, none⟩) hgv).trans HR.out.2
                by_cases hpn : p < n
                · obtain ⟨gA, rfl, _⟩ := HA.out.2.2.2.2 (by omega)
                  have c1 := (hbl.cell (p := ⟨gA, p * 2, none⟩) (HA.out.2.2.2.1 gA rfl)).trans (HA.out.1 gA rfl p hpn).1
                  have c1' := (hbl.cell (p := ⟨gA, p * 2 + 1, none⟩) (HA.out.2.2.2.1 gA rfl)).trans (HA.out.1 gA rfl p hpn).2
                  have c2 := (hbl.cell (p := ⟨xg, p * 2, none⟩) hxlt).trans (HA.out.2.1 p hpn).1
                  have c2' := (hbl.cell (p := ⟨xg, p * 2 + 1, none⟩) hxlt).trans (HA.out.2.1 p hpn).2
                  have i1 : (0 : Int) ≤ (t : Int) := by omega
                  have i2 : (t : Int) < (q : Int) := by omega
                  have i3 : (0 : Int) ≤ (p : Int) := by omega
                  have i4 : (p : Int) < (n : Int) := by omega
                  have i5 : (p : Int) < (n : Int) + 16 := by omega
                  have HBL := Lib.hid hbl
                  clear hbl
                  go_wp2_with fail
                  go_region_held3 (fun w' => w'.cell? ⟨BL, t, none⟩ = some (.slice (some ⟨gA, 0, none⟩) n cq) ∧ w'.cell? ⟨gA, p * 2, none⟩ = some (.string (markB (t : Int) p)) ∧ w'.cell? ⟨gA, p * 2 + 1, none⟩ = some (.string ByteArray.empty) ∧ w'.cell? ⟨gv, t, none⟩ = some (.slice (some ⟨xg, 0, none⟩) (n + 16) xc) ∧ w'.cell? ⟨xg, p * 2, none⟩ = some (.string (markB (t : Int) p)) ∧ w'.cell? ⟨xg, p * 2 + 1, none⟩ = some (.string ByteArray.empty)) (go_keep)
                    (first | (go_at_call 151; refine (mark_any (t : Int) p (by omega) (by omega) (by omega) _).mono ?_; rintro e w' ⟨rfl, hbm⟩; have HB2 := Lib.hid (HB1.out.trans (hbm.mono HB1.out.size)); have k6 := seen6 hbm (by assumption)) | (go_at_call 151; refine (mark_any (t : Int) p (by omega) (by omega) (by omega) _).mono ?_; rintro e w' ⟨rfl, hbm⟩; have HB1 := Lib.hid ((below_drewN HBL.out 1).trans (hbm.mono (below_drewN HBL.out 1).size)); have k6 := seen6 hbm (by assumption); clear hbm))
                  go_wp2
                  go_roundw
                  case measure => simp [intOf]; omega
                  case rel => exact ⟨p + 1, hpn, by simp, HB2.out⟩
                · obtain rfl : p = n := by omega
                  go_wp2
                  clear hrow hlong
                  go_loopw [12] (fun j wz => ∃ y : Nat, y ≤ 16 ∧ j = .int .i64 y ∧ Below w3.heap.size w3 wz) (fun j _ => 16 - (intOf j).toNat)
                  case atStart => exact ⟨0, Nat.zero_le _, rfl, hbl⟩
                  case round =>
                    clear hbl
                    obtain ⟨y, hy, rfl, hbl⟩ := hrel
                    have hlong := (hbl.cell (p := ⟨gv, t, none⟩) hgv).trans HR.out.2
                    by_cases hy16 : y < 16
                    · have c2 := (hbl.cell (p := ⟨xg, (p + y) * 2, none⟩) hxlt).trans (HA.out.2.2.1 y hy16).1
                      have c2' := (hbl.cell (p := ⟨xg, (p + y) * 2 + 1, none⟩) hxlt).trans (HA.out.2.2.1 y hy16).2
                      have j1 : (0 : Int) ≤ (t : Int) := by omega
                      have j2 : (t : Int) < (q : Int) := by omega
                      obtain ⟨z, hz⟩ : ∃ z, z = p + y := ⟨_, rfl⟩
                      rw [← hz] at c2 c2'
                      have j3 : (0 : Int) ≤ (z : Int) := by omega
                      have j4 : (z : Int) < (p : Int) + 16 := by omega
                      have j6 : IntKind.i64.wrap ((p : Int) + (y : Int)) = (z : Int) := by rw [hz]; exact IntWalk.i64_in _ (by omega)
                      have j8 : IntKind.i64.wrap (-1 - (t : Int)) = -1 - (t : Int) := IntWalk.i64_in _ (by omega)
                      have HZ := Lib.hid hz
                      clear hz
                      have hmk := fun w' => mark_any (-1 - (t : Int)) y (by omega) (by omega) (by omega) w'
                      generalize markB (-1 - (t : Int)) y = M at c2 hmk
                      have j6 : IntKind.i64.wrap ((p : Int) + (y : Int)) = (p : Int) + (y : Int) := IntWalk.i64_in _ (by omega)
                      have HBL := Lib.hid hbl
                      clear hbl
                      go_wp2_with fail
                      go_region_held3 (fun w' => w'.cell? ⟨gv, t, none⟩ = some (.slice (some ⟨xg, 0, none⟩) (p + 16) xc) ∧ w'.cell? ⟨xg, z * 2, none⟩ = some (.string M) ∧ w'.cell? ⟨xg, z * 2 + 1, none⟩ = some (.string ByteArray.empty)) (first | exact k6 | exact ⟨hlong, c2, c2'⟩)
                        (first | (go_at_call 151; refine (hmk _).mono ?_; rintro e w' ⟨rfl, hbm⟩; have HB1 := Lib.hid ((below_drewN HBL.out 1).trans (hbm.mono (below_drewN HBL.out 1).size)); have k6 := seen3 hbm (by assumption); clear hbm))
                      go_wp2
                      go_roundw
                      case measure => simp [intOf]; omega
                      case rel => exact ⟨y + 1, hy16, by simp, HB1.out⟩
                    · obtain rfl : y = 16 := by omega
                      go_wp2
                      go_roundw
                      case measure => simp [intOf]; omega
                      case rel => exact ⟨t + 1, htq, by simp, hbl⟩
            · obtain rfl : t = q := by omega
              go_wp2
              go_ret
              exact ⟨rfl, HG.out.kept.trans (GrownIn.of_below hbl) (fun b hb h => by have := HM.out.kept.size; omega)⟩
end Go.Proofs.YtajaijidecomdaaGreatDoor
