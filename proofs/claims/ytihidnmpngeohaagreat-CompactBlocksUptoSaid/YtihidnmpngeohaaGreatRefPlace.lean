/- The document's place: a series among rising ones. Written by a program of mine (mkplace.py). -/
import Derived.Test.YtihidnmpngeohaaGreatG23
import Derived.Deep.QuietTactic
import Derived.BigQuiet
namespace Go.Proofs.YtihidnmpngeohaaGreat
open Go.RowKit Go.Lib

/-- 's[k:]' of series. -/
def tailS (A : Option Addr) (n c k : Nat) : Value := .slice (if c = k then A else A.map (·.add (k * 2))) (n - k) (c - k)
theorem run_tailS (A : Option Addr) (n c k : Nat) (hk : k ≤ n) (W : World) : (Instr.slice 70 (.slice A n c) (some (.int .i64 (k : Int))) none none).run Tryz.prog W = .ok (tailS A n c k) W := by
  rw [run_slice_l _ _ _ _ _ (by kernel_rfl) .i64 (k : Int) (by omega) (by omega)]
  rw [show Tryz.prog.elem 70 = 132 by kernel_rfl, Tryz.sizeOfSer]
  simp only [Result.andThen, Int.toNat_natCast, sliced, tailS]
theorem tailS_lst {w : World} {B n c k : Nat} {A : Option Addr} {ss : List Sv} (h : Lst encSv 2 w B A n ss) (hnil : A = none → n = 0 ∧ c = 0) (hk : k ≤ n) (hnc : n ≤ c) : ∃ A' c', tailS A n c k = .slice A' (n - k) c' ∧ Lst encSv 2 w B A' (n - k) (ss.drop k) ∧ (A' = none → n - k = 0 ∧ c' = 0) := by
  refine ⟨_, _, rfl, ?_, fun e => ?_⟩
  · by_cases hn : k < n
    · obtain ⟨b, off, e, hb, hc⟩ := h.2 (by omega)
      subst e
      rw [if_neg (by omega)]
      have := h.dropS (k := k) hk
      simp only [Option.map_some, Addr.add]
      by_cases hk0 : k * 2 = 0
      · rw [if_pos hk0]
        rw [hk0, Nat.add_zero] at this
        exact this
      · rw [if_neg hk0]
        exact this
    · exact ⟨by rw [List.length_drop, h.1], fun h => absurd h (by omega)⟩
  · by_cases hc : c = k
    · omega
    · rw [if_neg hc] at e
      cases A with
      | none => have := hnil rfl; omega
      | some a => simp at e
theorem placeU_at {os : List Sv} {y : Sv} {k : Nat} (hlo : ∀ j z, j < k → os[j]? = some z → labelsC z.l y.l < 0) : ∀ q ∈ (os.map Sv.sr).take k, labelsC q.1 y.sr.1 < 0 := fun q hq => by
  rw [← List.map_take] at hq
  obtain ⟨z, hz, rfl⟩ := List.mem_map.1 hq
  obtain ⟨j, hj, e⟩ := List.getElem_of_mem hz
  rw [List.length_take] at hj
  rw [List.getElem_take] at e
  exact hlo j z (by omega) (by rw [← e]; exact List.getElem?_eq_getElem (by omega))
/-- The row that is handed back. -/
theorem place_end {w w6 : World} {B n k k' : Nat} {v6 : Value} {os : List Sv} {x : Sv} (hS : ∀ z ∈ os, Sat w w.heap.size z) (hx : Sat w6 w6.heap.size x) (hb : Below w.heap.size w w6) (hl : os.length = n) (hk : k ≤ n) (hk' : k' ≤ n)
    (ho : w6.ownsRow B 132 2 v6 (k + 1 + (n - k')) (((os.take k).flatMap encSv ++ encSv x) ++ (os.drop k').flatMap encSv)) : RSer w6 B v6 (os.take k ++ x :: os.drop k') := by
  refine ⟨?_, fun z hz => ?_⟩
  · rw [List.flatMap_append, List.flatMap_cons, ← List.append_assoc]
    have e : (os.take k ++ x :: os.drop k').length = k + 1 + (n - k') := by simp; omega
    rw [e]
    exact ho
  · rcases List.mem_append.1 hz with hz | hz
    · exact (hS z (List.mem_of_mem_take hz)).on hb
    · rcases List.mem_cons.1 hz with rfl | hz
      · exact hx
      · exact (hS z (List.mem_of_mem_drop hz)).on hb
theorem lls1 {W : World} {b : Nat} {y : Sv} (h0 : W.cell? ⟨b, 0, none⟩ = some (.slice y.D y.m y.d)) (hb : b < W.heap.size) (hy : Sat W W.heap.size y) : Lls W W.heap.size (some ⟨b, 0, none⟩) 1 [y.s] := by
  refine ⟨rfl, fun _ => ⟨b, 0, rfl, hb, fun k xs hxs => ?_⟩⟩
  have hm := hy.sst.1
  match k, hxs with
  | 0, hxs =>
    obtain rfl : y.s = xs := by simpa using hxs
    exact ⟨y.D, y.d, by rw [h0, hm], by rw [hm]; exact hy.sst, fun e => by rw [hm]; exact hy.snil e⟩
theorem lls2 {W : World} {b : Nat} {z y : Sv} (h0 : W.cell? ⟨b, 0, none⟩ = some (.slice z.D z.m z.d)) (h1 : W.cell? ⟨b, 1, none⟩ = some (.slice y.D y.m y.d)) (hb : b < W.heap.size) (hz : Sat W W.heap.size z) (hy : Sat W W.heap.size y) : Lls W W.heap.size (some ⟨b, 0, none⟩) 2 [z.s, y.s] := by
  refine ⟨rfl, fun _ => ⟨b, 0, rfl, hb, fun k xs hxs => ?_⟩⟩
  have hm := hy.sst.1
  have hm2 := hz.sst.1
  match k, hxs with
  | 0, hxs =>
    obtain rfl : z.s = xs := by simpa using hxs
    exact ⟨z.D, z.d, by rw [h0, hm2], by rw [hm2]; exact hz.sst, fun e => by rw [hm2]; exact hz.snil e⟩
  | 1, hxs =>
    obtain rfl : y.s = xs := by simpa using hxs
    exact ⟨y.D, y.d, by rw [h1, hm], by rw [hm]; exact hy.sst, fun e => by rw [hm]; exact hy.snil e⟩
theorem block_cells {w : World} {b : Nat} {u v : Value} {e : TypeId} (h : w.heap[b]? = some (Obj.cells #[u, v] e (0, 0))) : w.cell? ⟨b, 0, none⟩ = some u ∧ w.cell? ⟨b, 1, none⟩ = some v ∧ ∀ i, w.frozen? ⟨b, i, none⟩ = false :=
  ⟨by rw [cell_of_row w b 0 _ _ _ h]; rfl, by rw [cell_of_row w b 1 _ _ _ h]; rfl, fun i => by simp [World.frozen?, h]⟩
set_option maxHeartbeats 16000000 in
set_option maxRecDepth 100000 in
theorem place_any (A : Option Addr) (n c : Nat) (os : List Sv) (y : Sv) (w : World) (hL : Lst encSv 2 w w.heap.size A n os) (hnil : A = none → n = 0 ∧ c = 0) (hnc : n ≤ c) (hcm : c ≤ maxLen) (hn : n ≤ 4000) (hS : ∀ z ∈ os, Sat w w.heap.size z ∧ z.m ≤ 30000) (hy : Sat w w.heap.size y) (hym : y.m ≤ 30000) :
    Calls Tryz.prog 85 #[.slice A n c, .agg #[.slice y.A y.n y.c, .slice y.D y.m y.d]] w (PlacePost w (placeU labelsC (os.map Sv.sr) y.sr)) := by
  obtain ⟨i1, hi, hz0, hz1, hz2⟩ := info_parts Tryz.infoLabel
  have HJ := Lib.hid (show _ ∧ _ ∧ _ ∧ _ from ⟨hi, hz0, hz1, hz2⟩)
  clear hi hz0 hz1 hz2
  obtain ⟨i0, hi, hz0, hz1, hz2⟩ := info_parts Tryz.infoSeries
  have HI := Lib.hid (show _ ∧ _ ∧ _ ∧ _ from ⟨hi, hz0, hz1, hz2⟩)
  clear hi hz0 hz1 hz2
  have HL := Lib.hid (show _ ∧ _ ∧ _ ∧ _ ∧ _ from ⟨hL, hnil, hS, hy, hL.1⟩)
  have hc63 : c ≤ 9223372036854775807 := hcm
  clear hL hnil hS hy hcm
  go_enter Tryz.func85, Tryz.ntmps85
  go_wp2
  have hbx : Below w.heap.size w (w.alloc (.cells #[.slice y.A y.n y.c, .slice y.D y.m y.d] 132)) := (Below.refl _ _).alloc (Nat.le_refl _) _
  have hcx0 : (w.alloc (.cells #[.slice y.A y.n y.c, .slice y.D y.m y.d] 132)).cell? ⟨w.heap.size, 0, none⟩ = some (.slice y.A y.n y.c) := by simp
  have hcx1 : (w.alloc (.cells #[.slice y.A y.n y.c, .slice y.D y.m y.d] 132)).cell? ⟨w.heap.size, 1, none⟩ = some (.slice y.D y.m y.d) := by simp
  have hsx : (w.alloc (.cells #[.slice y.A y.n y.c, .slice y.D y.m y.d] 132)).heap.size = w.heap.size + 1 := by simp
  generalize w.alloc (.cells #[.slice y.A y.n y.c, .slice y.D y.m y.d] 132) = wb at hbx hcx0 hcx1 hsx ⊢
  have hlt0 : w.heap.size < wb.heap.size := by omega
  have HX := Lib.hid (show _ ∧ _ ∧ _ ∧ _ from ⟨hbx, hsx, hcx0, hcx1⟩)
  have keepx : ∀ W, Below wb.heap.size wb W → W.cell? ⟨w.heap.size, 0, none⟩ = some (.slice y.A y.n y.c) ∧ W.cell? ⟨w.heap.size, 1, none⟩ = some (.slice y.D y.m y.d) := fun W hb => ⟨(hb.cell (p := ⟨w.heap.size, 0, none⟩) hlt0).trans hcx0, (hb.cell (p := ⟨w.heap.size, 1, none⟩) hlt0).trans hcx1⟩
  have HKX := Lib.hid keepx
  clear hbx hsx hcx0 hcx1 keepx
  go_loopw [5] (fun kv wz => ∃ k : Nat, k ≤ n ∧ kv = .int .i64 k ∧ Hid ((∃ q, wz = wb.drewN q) ∧ ∀ j z, j < k → os[j]? = some z → labelsC z.l y.l < 0)) (fun kv _ => n - (intOf kv).toNat)
  case atStart => exact ⟨0, Nat.zero_le _, rfl, Lib.hid ⟨⟨0, rfl⟩, fun j z h => absurd h (by omega)⟩⟩
  case round =>
    obtain ⟨k, hk, rfl, HR⟩ := hrel
    have hcell : ∀ p, wr.cell? p = wb.cell? p := fun p => by obtain ⟨q, hq⟩ := HR.out.1; rw [hq]; rfl
    have hsz : wr.heap.size = wb.heap.size := by obtain ⟨q, hq⟩ := HR.out.1; rw [hq]; rfl
    have hbr : Below wb.heap.size wb wr := by obtain ⟨q, hq⟩ := HR.out.1; rw [hq]; exact below_drewN (Below.refl _ _) q
    have hbw : ∀ W, Below wb.heap.size wb W → Below w.heap.size w W := fun W hb => HX.out.1.trans (hb.mono (by omega))
    have HQ := Lib.hid (show _ ∧ _ ∧ _ ∧ _ from ⟨hcell, hsz, hbr, hbw⟩)
    have y0 := (HKX.out wr hbr).1
    have y1 := (HKX.out wr hbr).2
    have htl := fun W => run_tailS A n c k hk W
    clear hcell hsz hbr hbw
    by_cases hkm : k < n
    · obtain ⟨b3, off3, z, rfl, hb3, hz, hzc⟩ := HL.out.1.at hkm
      have hzs := HL.out.2.2.1 z (List.mem_of_getElem? hz)
      have keepz : ∀ W, Below wb.heap.size wb W → W.cell? ⟨b3, off3 + k * 2, none⟩ = some (.slice z.A z.n z.c) ∧ W.cell? ⟨b3, off3 + k * 2 + 1, none⟩ = some (.slice z.D z.m z.d) := fun W hb => by
        have e0 := ((HQ.out.2.2.2 W hb).cell (p := ⟨b3, off3 + k * 2 + 0, none⟩) hb3).trans (hzc 0 _ rfl)
        have e1 := ((HQ.out.2.2.2 W hb).cell (p := ⟨b3, off3 + k * 2 + 1, none⟩) hb3).trans (hzc 1 _ rfl)
        exact ⟨e0, e1⟩
      have d0 := (keepz wr HQ.out.2.2.1).1
      have hcon : ∀ W0 W : World, Below wb.heap.size wb W0 → (∃ q, W = W0.drewN q) → Calls Tryz.prog 43 #[.slice z.A z.n z.c, .slice y.A y.n y.c] W fun e w' => e = .returned (.int .i64 (labelsC z.l y.l)) ∧ ∃ q, w' = W.drewN q := fun W0 W hb ⟨q, hq⟩ => by
        have hbW : Below w.heap.size w W := by rw [hq]; exact below_drewN (HQ.out.2.2.2 W0 hb) q
        exact refCmp_q z.A y.A z.n z.c y.n y.c z.l y.l W ((hzs.1.on hbW).lst) ((HL.out.2.2.2.1.on hbW).lst) (by have := hzs.1.few; omega) (by have := HL.out.2.2.2.1.few; omega)
      obtain ⟨r, hr⟩ : ∃ r, labelsC z.l y.l = r := ⟨_, rfl⟩
      rw [hr] at hcon
      have HC := Lib.hid (show _ ∧ _ ∧ _ ∧ _ ∧ _ from ⟨hcon, hz, hr, keepz, hzs⟩)
      have kk : (k : Int) < (n : Int) := by omega
      have kk0 : (0 : Int) ≤ (k : Int) := by omega
      have hb3lt : b3 < wb.heap.size := by omega
      have b3ne : b3 ≠ w.heap.size := by omega
      clear hzc hzs hcon hz hr hb3 keepz
      by_cases hr0 : r < 0
      · clear htl y1
        go_wp2_with (go_quiet (first | (go_at_call 43; refine Calls.quiet_of (HC.out.1 wr _ HQ.out.2.2.1 ⟨_, rfl⟩))))
        go_roundw
        case measure => simp [intOf]; omega
        case rel =>
          refine ⟨k + 1, hkm, by simp, Lib.hid ⟨?_, fun j z' hj hz' => ?_⟩⟩
          · obtain ⟨q, hq⟩ := HR.out.1
            exact ⟨_, by rw [hq]; exact World.drewN_drewN _ _ _⟩
          · by_cases hjk : j = k
            · subst hjk
              rw [HC.out.2.1] at hz'
              rw [← Option.some.inj hz', HC.out.2.2.1]; exact hr0
            · exact HR.out.2 j z' (by omega) hz'
      · by_cases hre : r = 0
        · subst hre
          have e00 : ((0 : Int) == 0) = true := rfl
          obtain ⟨hi, hz0, hz1, hz2⟩ := HJ.out
          go_wp2_with (first | go_quiet (first | (go_at_call 43; first | refine Calls.quiet_of (HC.out.1 wr _ HQ.out.2.2.1 ⟨_, rfl⟩))) | (at_builtin; refine wpList_append_labs (B := wb.heap.size) (((HL.out.2.2.2.1.on (HQ.out.2.2.2 _ (below_drewN HQ.out.2.2.1 _))).lst)) HL.out.2.2.2.1.nil hi hz0 hz1 hz2 (World.ownsRow_nil _ _ _ _) (below_drewN HQ.out.2.2.1 _).size (by omega) (by have := HL.out.2.2.2.1.few; omega) _ _ rfl rfl rfl rfl ?_))
          intro v1 w1 ho1 hg1
          obtain ⟨A1, c1, rfl, hnc1, hcm1⟩ := owns_slice ho1
          have hb1 : Below wb.heap.size wb w1 := (below_drewN HQ.out.2.2.1 _).grown hg1 (below_drewN HQ.out.2.2.1 _).size (fun _ h => by cases h)
          have hs1 := hb1.size
          have y0 := (HKX.out w1 hb1).1
          have y1 := (HKX.out w1 hb1).2
          have d0 := (HC.out.2.2.2.1 w1 hb1).1
          have d1 := (HC.out.2.2.2.1 w1 hb1).2
          have H1 := Lib.hid (show _ ∧ _ from ⟨ho1, hb1⟩)
          clear ho1 hg1 hb1 hi hz0 hz1 hz2 hnc1 hcm1
          obtain ⟨hi, hz0, hz1, hz2⟩ := HI.out
          have hbx2 : Below w1.heap.size w1 (w1.alloc (.cells #[.slice A1 y.n c1, .slice none 0 0] 132)) := (Below.refl _ _).alloc (Nat.le_refl _) _
          have hbx3 : Below wb.heap.size wb (w1.alloc (.cells #[.slice A1 y.n c1, .slice none 0 0] 132)) := H1.out.2.trans (hbx2.mono hs1)
          have HB2 := Lib.hid (show _ ∧ _ from ⟨hbx2, hbx3⟩)
          clear hbx2 hbx3
          go_wp2_with (at_builtin; refine wpList_append_ser (B := w1.heap.size + 1) (A' := (some ⟨b3, off3, none⟩)) (n' := k) (c' := c) (src := os.take k) (((HL.out.1.take hk).below (HQ.out.2.2.2 _ HB2.out.2)).more (HQ.out.2.2.2 _ HB2.out.2).size) (fun e => by cases e) hi hz0 hz1 hz2 (World.ownsRow_nil _ _ _ _) (by simp) (by omega) (by omega) _ _ rfl rfl rfl (by first | rfl | simp) ?_)
          intro v2 w2 ho2 hg2
          have hb2 : Below wb.heap.size wb w2 := HB2.out.2.grown hg2 HB2.out.2.size (fun _ h => by cases h)
          have hb12 : Below w1.heap.size w1 w2 := HB2.out.1.grown hg2 (by simp) (fun _ h => by cases h)
          have hs2 := hb2.size
          have hs12 : w1.heap.size + 1 ≤ w2.heap.size := by have := hg2.size; simp at this; omega
          have hx2 : w2.heap[w1.heap.size]? = some (.cells #[.slice A1 y.n c1, .slice none 0 0] 132 (0, 0)) := (hg2.block w1.heap.size (by simp) (by simp [Value.ownBlock])).trans (heap_alloc_new _ _)
          have y0 := (HKX.out w2 hb2).1
          have y1 := (HKX.out w2 hb2).2
          have d0 := (HC.out.2.2.2.1 w2 hb2).1
          have d1 := (HC.out.2.2.2.1 w2 hb2).2
          have H2 := Lib.hid (show _ ∧ _ ∧ _ ∧ _ from ⟨ho2, hb2, hb12, hx2⟩)
          clear ho2 hg2 hb2 hb12 hx2
          have hsat : ∀ W, Below wb.heap.size wb W → Sat W W.heap.size z ∧ Sat W W.heap.size y := fun W hb => ⟨HC.out.2.2.2.2.1.on (HQ.out.2.2.2 W hb), HL.out.2.2.2.1.on (HQ.out.2.2.2 W hb)⟩
          have HS2 := Lib.hid hsat
          clear hsat
          trace "A3"
          have hflat : [z.s, y.s].flatten.length ≤ 100000 := by
            have h1 := HL.out.2.2.2.1.sst.1
            have h2 := HC.out.2.2.2.2.1.sst.1
            have h3 := (HL.out.2.2.1 z (List.mem_of_getElem? HC.out.2.1)).2
            simp; omega
          have HF := Lib.hid hflat
          clear hflat htl
          obtain ⟨A9, c9, e9, hl9, hn9⟩ := tailS_lst (k := (k + 1)) HL.out.1 HL.out.2.1 (by omega) hnc
          have htl : ∀ W, (Instr.slice 70 (.slice (some ⟨b3, off3, none⟩) n c) (some (.int .i64 ((k : Int) + 1))) none none).run Tryz.prog W = .ok (.slice A9 (n - (k + 1)) c9) W := fun W => by
            rw [← e9]
            have := run_tailS (some ⟨b3, off3, none⟩) n c (k + 1) (by omega) W
            rwa [show (((k + 1 : Nat) : Int)) = (k : Int) + 1 by omega] at this
          have H9 := Lib.hid (show _ ∧ _ from ⟨hl9, hn9⟩)
          clear hl9 hn9 e9
          have kk1 : (k : Int) + 1 ≤ (n : Int) := by omega
          go_wp2_with (first | go_quiet (first | (go_at_call 43; first | refine Calls.quiet_of (HC.out.1 w2 _ H2.out.2.1 ⟨_, rfl⟩))) | fail)
          obtain ⟨ws, hws⟩ : ∃ ws, w2.drewN nq = ws := ⟨_, rfl⟩
          have hbs : Below wb.heap.size wb ws := by rw [← hws]; exact below_drewN H2.out.2.1 _
          have hb1s : Below w1.heap.size w1 ws := by rw [← hws]; exact below_drewN H2.out.2.2.1 _
          have hxs : ws.heap[w1.heap.size]? = some (Obj.cells #[.slice A1 y.n c1, .slice none 0 0] 132 (0, 0)) := by rw [← hws]; exact H2.out.2.2.2
          have hss : w1.heap.size + 1 ≤ ws.heap.size := by rw [← hws]; exact hs12
          have hos : ws.ownsRow (w1.heap.size + 1) 132 2 v2 k ((os.take k).flatMap encSv) := by rw [← hws]; exact H2.out.1
          have hwz : w2.heap.size = ws.heap.size := by rw [← hws]; rfl
          rw [hws]
          have HWS := Lib.hid (show _ ∧ _ ∧ _ ∧ _ ∧ _ from ⟨hbs, hxs, hss, hos, hb1s⟩)
          have y1 := (HKX.out ws hbs).2
          have d1 := (HC.out.2.2.2.1 ws hbs).2
          have n5 : b3 < ws.heap.size := by omega
          have n1 : w1.heap.size ≠ w.heap.size := by omega
          have n2 : w.heap.size ≠ w1.heap.size := by omega
          have n3 : b3 ≠ w1.heap.size := by omega
          have n4 : w1.heap.size ≠ b3 := by omega
          obtain ⟨x0, x1, xf⟩ := block_cells hxs
          have xf1 := xf 1
          have n6 : w.heap.size < ws.heap.size := by omega
          have n7 : w1.heap.size < ws.heap.size := by omega
          clear hbs hxs hos xf x0 hws hwz hb1s
          go_region_held3 (fun w' => w'.cell? ⟨b3, off3 + k * 2 + 1, none⟩ = some (.slice z.D z.m z.d) ∧ w'.cell? ⟨w.heap.size, 1, none⟩ = some (.slice y.D y.m y.d)) (first | exact k6 | go_keep | (refine ⟨?_, ?_⟩ <;> (rw [World.cell?_setCell_other _ _ _ _ (by simp [*])]; first | exact k6.1 | exact k6.2)))
            (first | (go_at_call 113; refine (refSamples_any (some ⟨ws.heap.size, 0, none⟩) 2 2 [z.s, y.s] _ (lls2 (by simp) (by simp) (by simp) (HS2.out _ ((HWS.out.1.alloc HWS.out.1.size _).drew)).1 (HS2.out _ ((HWS.out.1.alloc HWS.out.1.size _).drew)).2) (by omega) HF.out).mono ?_; rintro e w3 ⟨v3, rfl, ho3, hb3'⟩; have hb3 : Below ws.heap.size ws w3 := ((Below.refl ws.heap.size ws).alloc (Nat.le_refl _) (.cells #[.slice z.D z.m z.d, .slice y.D y.m y.d] 90)).drew.trans (hb3'.mono (by simp)); have hs3 := hb3.size; obtain ⟨A3, c3, rfl, _, _⟩ := owns_slice ho3; obtain ⟨z0, z1, zf⟩ := block_cells ((hb3.block w1.heap.size n7).trans HWS.out.2.1); have zf1 := zf 1; have k6 := (show World.cell? w3 _ = _ ∧ World.cell? w3 _ = _ from ⟨(hb3.cell (p := ⟨b3, off3 + k * 2 + 1, none⟩) n5).trans d1, (hb3.cell (p := ⟨w.heap.size, 1, none⟩) n6).trans y1⟩); have H3 := Lib.hid (show _ ∧ _ from ⟨ho3, hb3⟩); clear ho3 hb3 hb3' zf) | fail)
          trace "A4"
          obtain ⟨lr, hlr⟩ : ∃ lr, [z.s, y.s].flatten.foldl putIn [] = lr := ⟨_, rfl⟩
          have h3r := H3.out
          simp only [List.flatten_cons, List.flatten_nil, List.append_nil, List.foldl_append] at hlr h3r ⊢
          rw [hlr] at h3r ⊢
          obtain ⟨m3, hm3⟩ : ∃ m3, lr.length = m3 := ⟨_, rfl⟩
          rw [hm3] at h3r ⊢
          have hrow3 := owns_set_other (owns_below HWS.out.2.2.2.1 h3r.2) (p := ⟨w1.heap.size, 1, none⟩) (fun e => by have := (HWS.out.2.2.2.1.lt _ e).1; simp at this; omega) (.slice A3 m3 c3)
          have H4 := Lib.hid (show _ ∧ _ ∧ _ ∧ _ from ⟨h3r, hrow3, hlr, hm3⟩)
          clear h3r hrow3 hlr hm3
          obtain ⟨hi, hz0, hz1, hz2⟩ := HI.out
          go_wp2_with (at_builtin; refine wpList_append_own _ rfl _ _ 70 rfl (w1.heap.size + 1) 132 i0 _ 2 48 Tryz.underlying70 hi hz0 hz1 hz2 rfl (by omega) _ k ((os.take k).flatMap encSv) rfl (H4.out.2.1.alloc _) ⟨w3.heap.size, 0, none⟩ 1 1 [.slice A1 y.n c1, .slice A3 m3 c3] rfl rfl (cells_at _ (by simp [World.setCell]) [.slice A1 y.n c1, .slice A3 m3 c3] _) (by simp [Value.oneCell']) (by unfold maxLen; omega) (by omega) (by simp [World.setCell]; omega) ?_)
          intro v5 w5 ho5 hg5 _
          have hb3w : Below wb.heap.size wb w3 := HWS.out.1.trans (H4.out.1.2.mono HWS.out.1.size)
          have hs3w := hb3w.size
          have hw1b : wb.heap.size ≤ w1.heap.size := hs1
          have hba : Below wb.heap.size wb ((w3.setCell ⟨w1.heap.size, 1, none⟩ (.slice A3 m3 c3)).alloc (.cells #[.slice A1 y.n c1, .slice A3 m3 c3] 132)) := (hb3w.setCell hw1b _).alloc (by simp [World.setCell]; omega) _
          have hb5 : Below wb.heap.size wb w5 := hba.grown hg5 hba.size (fun j hj => by have := (HWS.out.2.2.2.1.lt j hj).1; omega)
          have hs5 := hb5.size
          have hsA : w1.heap.size + 1 ≤ w5.heap.size := by have h1 := hg5.size; have h2 := H4.out.1.2.size; simp [World.setCell] at h1; omega
          have hsm1 := owns_set_other H4.out.1.1 (p := ⟨w1.heap.size, 1, none⟩) (fun e => by have := (H4.out.1.1.lt _ e).1; simp at this; omega) (.slice A3 m3 c3)
          have hsm2 := hsm1.alloc (.cells #[.slice A1 y.n c1, .slice A3 m3 c3] 132)
          have hsm5 := hsm2.kept hg5 (owns_apart hsm2 (H4.out.2.1.alloc (.cells #[.slice A1 y.n c1, .slice A3 m3 c3] 132)) (by decide))
          have hlb3 := owns_below (owns_below H1.out.1 HWS.out.2.2.2.2) H4.out.1.2
          have hlb1 := owns_set_other hlb3 (p := ⟨w1.heap.size, 1, none⟩) (fun e => by have h1 := (H1.out.1.lt _ e).2; simp at h1) (.slice A3 m3 c3)
          have hlb2 := hlb1.alloc (.cells #[.slice A1 y.n c1, .slice A3 m3 c3] 132)
          have hlb5 := hlb2.kept hg5 (owns_apart hlb2 (H4.out.2.1.alloc (.cells #[.slice A1 y.n c1, .slice A3 m3 c3] 132)) (by decide))
          have H5 := Lib.hid (show _ ∧ _ ∧ _ ∧ _ from ⟨ho5, hb5, hsm5, hlb5⟩)
          clear ho5 hg5 hb3w hba hb5 hsm1 hsm2 hsm5 hlb3 hlb1 hlb2 hlb5
          go_wp2_with (at_builtin; refine wpList_append_ser (B := w1.heap.size + 1) (A' := A9) (n' := n - (k + 1)) (c' := c9) (src := os.drop (k + 1)) ((H9.out.1.below (HQ.out.2.2.2 _ H5.out.2.1)).more (HQ.out.2.2.2 _ H5.out.2.1).size) H9.out.2 hi hz0 hz1 hz2 H5.out.1 hsA (by omega) (by omega) _ _ rfl rfl rfl (by first | rfl | simp) ?_)
          intro v6 w6 ho6 hg6
          have hb6 : Below wb.heap.size wb w6 := H5.out.2.1.grown hg6 hs5 (fun j hj => by have := (H5.out.1.lt j hj).1; omega)
          have hsm6 := H5.out.2.2.1.kept hg6 (owns_apart H5.out.2.2.1 H5.out.1 (by decide))
          have hlb6 := H5.out.2.2.2.kept hg6 (owns_apart H5.out.2.2.2 H5.out.1 (by decide))
          have hxl := owns_lst (by simpa using hlb6) Lb.len (by omega)
          have hxm := owns_lst hsm6 encS_len (by omega)
          have hlrl : lr.length ≤ 60000 := by
            have h1 := HL.out.2.2.2.1.sst.1
            have h2 := HC.out.2.2.2.2.1.sst.1
            have h3 := (HL.out.2.2.1 z (List.mem_of_getElem? HC.out.2.1)).2
            have h4 := samU_len (z.s ++ y.s)
            unfold samU at h4
            rw [List.foldl_append, H4.out.2.2.1, List.length_append] at h4
            omega
          have hx : Sat w6 w6.heap.size ⟨A1, y.n, c1, y.l, A3, m3, c3, lr⟩ := ⟨hxl.1, hxl.2.1, HL.out.2.2.2.1.few, hxm.1, hxm.2.1, by show m3 ≤ 100000; have := H4.out.2.2.2; omega⟩
          have hend := place_end (n := n) (k := k) (k' := (k + 1)) (os := os) (fun z hz => (HL.out.2.2.1 z hz).1) hx (HQ.out.2.2.2 _ hb6) HL.out.2.2.2.2 (by omega) (by omega) (by rw [List.append_assoc]; exact ho6)
          have hlaw : (os.take k ++ (⟨A1, y.n, c1, y.l, A3, m3, c3, lr⟩ : Sv) :: os.drop (k + 1)).map Sv.sr = placeU labelsC (os.map Sv.sr) y.sr := by
            rw [placeU_same (k := k) (p := z.sr) (placeU_at HR.out.2) (by rw [List.getElem?_map, HC.out.2.1]; rfl) HC.out.2.2.1, List.map_append, List.map_cons, List.map_take, List.map_drop]
            have : samU (z.sr.2 ++ y.sr.2) = lr := by unfold samU; rw [List.foldl_append]; exact H4.out.2.2.1
            rw [this]; rfl
          have HE := Lib.hid (show _ ∧ _ ∧ _ from ⟨hend.base (show w.heap.size ≤ w1.heap.size + 1 by omega), hlaw, HQ.out.2.2.2 _ hb6⟩)
          clear ho6 hg6 hb6 hsm6 hlb6 hxl hxm hlrl hx hend hlaw hi hz0 hz1 hz2
          go_wp2
          go_ret
          exact ⟨_, _, rfl, HE.out.1, HE.out.2.1, HE.out.2.2⟩
        · have hre' : (r == 0) = false := beq_eq_false_iff_ne.2 hre
          obtain ⟨hi, hz0, hz1, hz2⟩ := HJ.out
          go_wp2_with (first | go_quiet (first | (go_at_call 43; first | refine Calls.quiet_of (HC.out.1 wr _ HQ.out.2.2.1 ⟨_, rfl⟩))) | (at_builtin; refine wpList_append_labs (B := wb.heap.size) (((HL.out.2.2.2.1.on (HQ.out.2.2.2 _ (below_drewN HQ.out.2.2.1 _))).lst)) HL.out.2.2.2.1.nil hi hz0 hz1 hz2 (World.ownsRow_nil _ _ _ _) (below_drewN HQ.out.2.2.1 _).size (by omega) (by have := HL.out.2.2.2.1.few; omega) _ _ rfl rfl rfl rfl ?_))
          intro v1 w1 ho1 hg1
          obtain ⟨A1, c1, rfl, hnc1, hcm1⟩ := owns_slice ho1
          have hb1 : Below wb.heap.size wb w1 := (below_drewN HQ.out.2.2.1 _).grown hg1 (below_drewN HQ.out.2.2.1 _).size (fun _ h => by cases h)
          have hs1 := hb1.size
          have y0 := (HKX.out w1 hb1).1
          have y1 := (HKX.out w1 hb1).2
          have d0 := (HC.out.2.2.2.1 w1 hb1).1
          have d1 := (HC.out.2.2.2.1 w1 hb1).2
          have H1 := Lib.hid (show _ ∧ _ from ⟨ho1, hb1⟩)
          clear ho1 hg1 hb1 hi hz0 hz1 hz2 hnc1 hcm1
          obtain ⟨hi, hz0, hz1, hz2⟩ := HI.out
          have hbx2 : Below w1.heap.size w1 (w1.alloc (.cells #[.slice A1 y.n c1, .slice none 0 0] 132)) := (Below.refl _ _).alloc (Nat.le_refl _) _
          have hbx3 : Below wb.heap.size wb (w1.alloc (.cells #[.slice A1 y.n c1, .slice none 0 0] 132)) := H1.out.2.trans (hbx2.mono hs1)
          have HB2 := Lib.hid (show _ ∧ _ from ⟨hbx2, hbx3⟩)
          clear hbx2 hbx3
          go_wp2_with (at_builtin; refine wpList_append_ser (B := w1.heap.size + 1) (A' := (some ⟨b3, off3, none⟩)) (n' := k) (c' := c) (src := os.take k) (((HL.out.1.take hk).below (HQ.out.2.2.2 _ HB2.out.2)).more (HQ.out.2.2.2 _ HB2.out.2).size) (fun e => by cases e) hi hz0 hz1 hz2 (World.ownsRow_nil _ _ _ _) (by simp) (by omega) (by omega) _ _ rfl rfl rfl (by first | rfl | simp) ?_)
          intro v2 w2 ho2 hg2
          have hb2 : Below wb.heap.size wb w2 := HB2.out.2.grown hg2 HB2.out.2.size (fun _ h => by cases h)
          have hb12 : Below w1.heap.size w1 w2 := HB2.out.1.grown hg2 (by simp) (fun _ h => by cases h)
          have hs2 := hb2.size
          have hs12 : w1.heap.size + 1 ≤ w2.heap.size := by have := hg2.size; simp at this; omega
          have hx2 : w2.heap[w1.heap.size]? = some (.cells #[.slice A1 y.n c1, .slice none 0 0] 132 (0, 0)) := (hg2.block w1.heap.size (by simp) (by simp [Value.ownBlock])).trans (heap_alloc_new _ _)
          have y0 := (HKX.out w2 hb2).1
          have y1 := (HKX.out w2 hb2).2
          have d0 := (HC.out.2.2.2.1 w2 hb2).1
          have d1 := (HC.out.2.2.2.1 w2 hb2).2
          have H2 := Lib.hid (show _ ∧ _ ∧ _ ∧ _ from ⟨ho2, hb2, hb12, hx2⟩)
          clear ho2 hg2 hb2 hb12 hx2
          have hsat : ∀ W, Below wb.heap.size wb W → Sat W W.heap.size y := fun W hb => HL.out.2.2.2.1.on (HQ.out.2.2.2 W hb)
          have HS2 := Lib.hid hsat
          clear hsat
          trace "A3"
          have hflat : [y.s].flatten.length ≤ 100000 := by
            have h1 := HL.out.2.2.2.1.sst.1
            simp; omega
          have HF := Lib.hid hflat
          clear hflat htl
          obtain ⟨A9, c9, e9, hl9, hn9⟩ := tailS_lst (k := k) HL.out.1 HL.out.2.1 (by omega) hnc
          have htl : ∀ W, (Instr.slice 70 (.slice (some ⟨b3, off3, none⟩) n c) (some (.int .i64 (k : Int))) none none).run Tryz.prog W = .ok (.slice A9 (n - k) c9) W := fun W => by
            rw [← e9]
            exact run_tailS _ _ _ _ (by omega) W
          have H9 := Lib.hid (show _ ∧ _ from ⟨hl9, hn9⟩)
          clear hl9 hn9 e9
          go_wp2_with (first | go_quiet (first | (go_at_call 43; first | refine Calls.quiet_of (HC.out.1 w2 _ H2.out.2.1 ⟨_, rfl⟩))) | fail)
          obtain ⟨ws, hws⟩ : ∃ ws, w2.drewN nq = ws := ⟨_, rfl⟩
          have hbs : Below wb.heap.size wb ws := by rw [← hws]; exact below_drewN H2.out.2.1 _
          have hb1s : Below w1.heap.size w1 ws := by rw [← hws]; exact below_drewN H2.out.2.2.1 _
          have hxs : ws.heap[w1.heap.size]? = some (Obj.cells #[.slice A1 y.n c1, .slice none 0 0] 132 (0, 0)) := by rw [← hws]; exact H2.out.2.2.2
          have hss : w1.heap.size + 1 ≤ ws.heap.size := by rw [← hws]; exact hs12
          have hos : ws.ownsRow (w1.heap.size + 1) 132 2 v2 k ((os.take k).flatMap encSv) := by rw [← hws]; exact H2.out.1
          have hwz : w2.heap.size = ws.heap.size := by rw [← hws]; rfl
          rw [hws]
          rw [hwz]
          have HWS := Lib.hid (show _ ∧ _ ∧ _ ∧ _ ∧ _ from ⟨hbs, hxs, hss, hos, hb1s⟩)
          obtain ⟨x0, x1, xf⟩ := block_cells hxs
          have xf1 := xf 1
          have n6 : w.heap.size < ws.heap.size := by omega
          have n7 : w1.heap.size < ws.heap.size := by omega
          clear hbs hxs hos xf x0 hws hwz hb1s
          refine (refSamples_any (some ⟨ws.heap.size, 0, none⟩) 1 1 [y.s] _ (lls1 (by simp) (by simp) (HS2.out _ (HWS.out.1.alloc HWS.out.1.size _))) (by omega) HF.out).mono ?_
          rintro e w3 ⟨v3, rfl, ho3, hb3'⟩
          have hb3 : Below ws.heap.size ws w3 := ((Below.refl ws.heap.size ws).alloc (Nat.le_refl _) (.cells #[.slice y.D y.m y.d] 90)).trans (hb3'.mono (by simp))
          have hs3 := hb3.size
          obtain ⟨A3, c3, rfl, hnc3, hcm3⟩ := owns_slice ho3
          obtain ⟨z0, z1, zf⟩ := block_cells ((hb3.block w1.heap.size n7).trans HWS.out.2.1)
          have zf1 := zf 1
          have H3 := Lib.hid (show _ ∧ _ from ⟨ho3, hb3⟩)
          clear ho3 hb3 hb3' zf hnc3 hcm3 x1 xf1
          trace "A4"
          obtain ⟨lr, hlr⟩ : ∃ lr, [y.s].flatten.foldl putIn [] = lr := ⟨_, rfl⟩
          have h3r := H3.out
          simp only [List.flatten_cons, List.flatten_nil, List.append_nil] at hlr h3r ⊢
          rw [hlr] at h3r ⊢
          obtain ⟨m3, hm3⟩ : ∃ m3, lr.length = m3 := ⟨_, rfl⟩
          rw [hm3] at h3r ⊢
          have hrow3 := owns_set_other (owns_below HWS.out.2.2.2.1 h3r.2) (p := ⟨w1.heap.size, 1, none⟩) (fun e => by have := (HWS.out.2.2.2.1.lt _ e).1; simp at this; omega) (.slice A3 m3 c3)
          have H4 := Lib.hid (show _ ∧ _ ∧ _ ∧ _ from ⟨h3r, hrow3, hlr, hm3⟩)
          clear h3r hrow3 hlr hm3
          obtain ⟨hi, hz0, hz1, hz2⟩ := HI.out
          go_wp2_with (at_builtin; refine wpList_append_own _ rfl _ _ 70 rfl (w1.heap.size + 1) 132 i0 _ 2 48 Tryz.underlying70 hi hz0 hz1 hz2 rfl (by omega) _ k ((os.take k).flatMap encSv) rfl (H4.out.2.1.alloc _) ⟨w3.heap.size, 0, none⟩ 1 1 [.slice A1 y.n c1, .slice A3 m3 c3] rfl rfl (cells_at _ (by simp [World.setCell]) [.slice A1 y.n c1, .slice A3 m3 c3] _) (by simp [Value.oneCell']) (by unfold maxLen; omega) (by omega) (by simp [World.setCell]; omega) ?_)
          intro v5 w5 ho5 hg5 _
          have hb3w : Below wb.heap.size wb w3 := HWS.out.1.trans (H4.out.1.2.mono HWS.out.1.size)
          have hs3w := hb3w.size
          have hw1b : wb.heap.size ≤ w1.heap.size := hs1
          have hba : Below wb.heap.size wb ((w3.setCell ⟨w1.heap.size, 1, none⟩ (.slice A3 m3 c3)).alloc (.cells #[.slice A1 y.n c1, .slice A3 m3 c3] 132)) := (hb3w.setCell hw1b _).alloc (by simp [World.setCell]; omega) _
          have hb5 : Below wb.heap.size wb w5 := hba.grown hg5 hba.size (fun j hj => by have := (HWS.out.2.2.2.1.lt j hj).1; omega)
          have hs5 := hb5.size
          have hsA : w1.heap.size + 1 ≤ w5.heap.size := by have h1 := hg5.size; have h2 := H4.out.1.2.size; simp [World.setCell] at h1; omega
          have hsm1 := owns_set_other H4.out.1.1 (p := ⟨w1.heap.size, 1, none⟩) (fun e => by have := (H4.out.1.1.lt _ e).1; simp at this; omega) (.slice A3 m3 c3)
          have hsm2 := hsm1.alloc (.cells #[.slice A1 y.n c1, .slice A3 m3 c3] 132)
          have hsm5 := hsm2.kept hg5 (owns_apart hsm2 (H4.out.2.1.alloc (.cells #[.slice A1 y.n c1, .slice A3 m3 c3] 132)) (by decide))
          have hlb3 := owns_below (owns_below H1.out.1 HWS.out.2.2.2.2) H4.out.1.2
          have hlb1 := owns_set_other hlb3 (p := ⟨w1.heap.size, 1, none⟩) (fun e => by have h1 := (H1.out.1.lt _ e).2; simp at h1) (.slice A3 m3 c3)
          have hlb2 := hlb1.alloc (.cells #[.slice A1 y.n c1, .slice A3 m3 c3] 132)
          have hlb5 := hlb2.kept hg5 (owns_apart hlb2 (H4.out.2.1.alloc (.cells #[.slice A1 y.n c1, .slice A3 m3 c3] 132)) (by decide))
          have H5 := Lib.hid (show _ ∧ _ ∧ _ ∧ _ from ⟨ho5, hb5, hsm5, hlb5⟩)
          clear ho5 hg5 hb3w hba hb5 hsm1 hsm2 hsm5 hlb3 hlb1 hlb2 hlb5
          go_wp2_with (at_builtin; refine wpList_append_ser (B := w1.heap.size + 1) (A' := A9) (n' := n - k) (c' := c9) (src := os.drop k) ((H9.out.1.below (HQ.out.2.2.2 _ H5.out.2.1)).more (HQ.out.2.2.2 _ H5.out.2.1).size) H9.out.2 hi hz0 hz1 hz2 H5.out.1 hsA (by omega) (by omega) _ _ rfl rfl rfl (by first | rfl | simp) ?_)
          intro v6 w6 ho6 hg6
          have hb6 : Below wb.heap.size wb w6 := H5.out.2.1.grown hg6 hs5 (fun j hj => by have := (H5.out.1.lt j hj).1; omega)
          have hsm6 := H5.out.2.2.1.kept hg6 (owns_apart H5.out.2.2.1 H5.out.1 (by decide))
          have hlb6 := H5.out.2.2.2.kept hg6 (owns_apart H5.out.2.2.2 H5.out.1 (by decide))
          have hxl := owns_lst (by simpa using hlb6) Lb.len (by omega)
          have hxm := owns_lst hsm6 encS_len (by omega)
          have hlrl : lr.length ≤ 60000 := by
            have h1 := HL.out.2.2.2.1.sst.1
            have h4 := samU_len y.s
            unfold samU at h4
            rw [H4.out.2.2.1] at h4
            omega
          have hx : Sat w6 w6.heap.size ⟨A1, y.n, c1, y.l, A3, m3, c3, lr⟩ := ⟨hxl.1, hxl.2.1, HL.out.2.2.2.1.few, hxm.1, hxm.2.1, by show m3 ≤ 100000; have := H4.out.2.2.2; omega⟩
          have hend := place_end (n := n) (k := k) (k' := k) (os := os) (fun z hz => (HL.out.2.2.1 z hz).1) hx (HQ.out.2.2.2 _ hb6) HL.out.2.2.2.2 (by omega) (by omega) (by rw [List.append_assoc]; exact ho6)
          have hlaw : (os.take k ++ (⟨A1, y.n, c1, y.l, A3, m3, c3, lr⟩ : Sv) :: os.drop k).map Sv.sr = placeU labelsC (os.map Sv.sr) y.sr := by
            rw [placeU_other (k := k) (placeU_at HR.out.2) (fun p hp => ?_) (by rw [List.length_map]; have := HL.out.2.2.2.2; omega), List.map_append, List.map_cons, List.map_take, List.map_drop]
            · have : samU y.sr.2 = lr := H4.out.2.2.1
              rw [this]; rfl
            · rw [List.getElem?_map, HC.out.2.1] at hp
              obtain rfl := Option.some.inj hp
              show 0 < labelsC z.l y.l
              rw [HC.out.2.2.1]; omega
          have HE := Lib.hid (show _ ∧ _ ∧ _ from ⟨hend.base (show w.heap.size ≤ w1.heap.size + 1 by omega), hlaw, HQ.out.2.2.2 _ hb6⟩)
          clear ho6 hg6 hb6 hsm6 hlb6 hxl hxm hlrl hx hend hlaw hi hz0 hz1 hz2
          go_wp2
          go_ret
          exact ⟨_, _, rfl, HE.out.1, HE.out.2.1, HE.out.2.2⟩
    · obtain rfl : k = n := by omega
      have kk : ¬ (k : Int) < (k : Int) := by omega
      obtain ⟨hi, hz0, hz1, hz2⟩ := HJ.out
      go_wp2_with (first | go_quiet (fail) | (at_builtin; refine wpList_append_labs (B := wb.heap.size) (((HL.out.2.2.2.1.on (HQ.out.2.2.2 _ (below_drewN HQ.out.2.2.1 _))).lst)) HL.out.2.2.2.1.nil hi hz0 hz1 hz2 (World.ownsRow_nil _ _ _ _) (below_drewN HQ.out.2.2.1 _).size (by omega) (by have := HL.out.2.2.2.1.few; omega) _ _ rfl rfl rfl rfl ?_))
      intro v1 w1 ho1 hg1
      obtain ⟨A1, c1, rfl, hnc1, hcm1⟩ := owns_slice ho1
      have hb1 : Below wb.heap.size wb w1 := (below_drewN HQ.out.2.2.1 _).grown hg1 (below_drewN HQ.out.2.2.1 _).size (fun _ h => by cases h)
      have hs1 := hb1.size
      have y0 := (HKX.out w1 hb1).1
      have y1 := (HKX.out w1 hb1).2
      have H1 := Lib.hid (show _ ∧ _ from ⟨ho1, hb1⟩)
      clear ho1 hg1 hb1 hi hz0 hz1 hz2 hnc1 hcm1
      obtain ⟨hi, hz0, hz1, hz2⟩ := HI.out
      have hbx2 : Below w1.heap.size w1 (w1.alloc (.cells #[.slice A1 y.n c1, .slice none 0 0] 132)) := (Below.refl _ _).alloc (Nat.le_refl _) _
      have hbx3 : Below wb.heap.size wb (w1.alloc (.cells #[.slice A1 y.n c1, .slice none 0 0] 132)) := H1.out.2.trans (hbx2.mono hs1)
      have HB2 := Lib.hid (show _ ∧ _ from ⟨hbx2, hbx3⟩)
      clear hbx2 hbx3
      go_wp2_with (at_builtin; refine wpList_append_ser (B := w1.heap.size + 1) (A' := A) (n' := k) (c' := c) (src := os.take k) (((HL.out.1.take hk).below (HQ.out.2.2.2 _ HB2.out.2)).more (HQ.out.2.2.2 _ HB2.out.2).size) (HL.out.2.1) hi hz0 hz1 hz2 (World.ownsRow_nil _ _ _ _) (by simp) (by omega) (by omega) _ _ rfl rfl rfl (by first | rfl | simp) ?_)
      intro v2 w2 ho2 hg2
      have hb2 : Below wb.heap.size wb w2 := HB2.out.2.grown hg2 HB2.out.2.size (fun _ h => by cases h)
      have hb12 : Below w1.heap.size w1 w2 := HB2.out.1.grown hg2 (by simp) (fun _ h => by cases h)
      have hs2 := hb2.size
      have hs12 : w1.heap.size + 1 ≤ w2.heap.size := by have := hg2.size; simp at this; omega
      have hx2 : w2.heap[w1.heap.size]? = some (.cells #[.slice A1 y.n c1, .slice none 0 0] 132 (0, 0)) := (hg2.block w1.heap.size (by simp) (by simp [Value.ownBlock])).trans (heap_alloc_new _ _)
      have y0 := (HKX.out w2 hb2).1
      have y1 := (HKX.out w2 hb2).2
      have H2 := Lib.hid (show _ ∧ _ ∧ _ ∧ _ from ⟨ho2, hb2, hb12, hx2⟩)
      clear ho2 hg2 hb2 hb12 hx2
      have hsat : ∀ W, Below wb.heap.size wb W → Sat W W.heap.size y := fun W hb => HL.out.2.2.2.1.on (HQ.out.2.2.2 W hb)
      have HS2 := Lib.hid hsat
      clear hsat
      trace "A3"
      have hflat : [y.s].flatten.length ≤ 100000 := by
        have h1 := HL.out.2.2.2.1.sst.1
        simp; omega
      have HF := Lib.hid hflat
      clear hflat htl
      obtain ⟨A9, c9, e9, hl9, hn9⟩ := tailS_lst (k := k) HL.out.1 HL.out.2.1 (by omega) hnc
      rw [Nat.sub_self] at e9 hl9 hn9
      have htl : ∀ W, (Instr.slice 70 (.slice A k c) (some (.int .i64 (k : Int))) none none).run Tryz.prog W = .ok (.slice A9 0 c9) W := fun W => by
        rw [← e9]
        exact run_tailS _ _ _ _ (by omega) W
      have H9 := Lib.hid (show _ ∧ _ from ⟨hl9, hn9⟩)
      clear hl9 hn9 e9
      go_wp2_with (first | go_quiet (fail) | fail)
      obtain ⟨ws, hws⟩ : ∃ ws, w2.drewN nq = ws := ⟨_, rfl⟩
      have hbs : Below wb.heap.size wb ws := by rw [← hws]; exact below_drewN H2.out.2.1 _
      have hb1s : Below w1.heap.size w1 ws := by rw [← hws]; exact below_drewN H2.out.2.2.1 _
      have hxs : ws.heap[w1.heap.size]? = some (Obj.cells #[.slice A1 y.n c1, .slice none 0 0] 132 (0, 0)) := by rw [← hws]; exact H2.out.2.2.2
      have hss : w1.heap.size + 1 ≤ ws.heap.size := by rw [← hws]; exact hs12
      have hos : ws.ownsRow (w1.heap.size + 1) 132 2 v2 k ((os.take k).flatMap encSv) := by rw [← hws]; exact H2.out.1
      have hwz : w2.heap.size = ws.heap.size := by rw [← hws]; rfl
      rw [hws]
      rw [hwz]
      have HWS := Lib.hid (show _ ∧ _ ∧ _ ∧ _ ∧ _ from ⟨hbs, hxs, hss, hos, hb1s⟩)
      obtain ⟨x0, x1, xf⟩ := block_cells hxs
      have xf1 := xf 1
      have n6 : w.heap.size < ws.heap.size := by omega
      have n7 : w1.heap.size < ws.heap.size := by omega
      clear hbs hxs hos xf x0 hws hwz hb1s
      refine (refSamples_any (some ⟨ws.heap.size, 0, none⟩) 1 1 [y.s] _ (lls1 (by simp) (by simp) (HS2.out _ (HWS.out.1.alloc HWS.out.1.size _))) (by omega) HF.out).mono ?_
      rintro e w3 ⟨v3, rfl, ho3, hb3'⟩
      have hb3 : Below ws.heap.size ws w3 := ((Below.refl ws.heap.size ws).alloc (Nat.le_refl _) (.cells #[.slice y.D y.m y.d] 90)).trans (hb3'.mono (by simp))
      have hs3 := hb3.size
      obtain ⟨A3, c3, rfl, hnc3, hcm3⟩ := owns_slice ho3
      obtain ⟨z0, z1, zf⟩ := block_cells ((hb3.block w1.heap.size n7).trans HWS.out.2.1)
      have zf1 := zf 1
      have H3 := Lib.hid (show _ ∧ _ from ⟨ho3, hb3⟩)
      clear ho3 hb3 hb3' zf hnc3 hcm3 x1 xf1
      trace "A4"
      obtain ⟨lr, hlr⟩ : ∃ lr, [y.s].flatten.foldl putIn [] = lr := ⟨_, rfl⟩
      have h3r := H3.out
      simp only [List.flatten_cons, List.flatten_nil, List.append_nil] at hlr h3r ⊢
      rw [hlr] at h3r ⊢
      obtain ⟨m3, hm3⟩ : ∃ m3, lr.length = m3 := ⟨_, rfl⟩
      rw [hm3] at h3r ⊢
      have hrow3 := owns_set_other (owns_below HWS.out.2.2.2.1 h3r.2) (p := ⟨w1.heap.size, 1, none⟩) (fun e => by have := (HWS.out.2.2.2.1.lt _ e).1; simp at this; omega) (.slice A3 m3 c3)
      have H4 := Lib.hid (show _ ∧ _ ∧ _ ∧ _ from ⟨h3r, hrow3, hlr, hm3⟩)
      clear h3r hrow3 hlr hm3
      obtain ⟨hi, hz0, hz1, hz2⟩ := HI.out
      go_wp2_with (at_builtin; refine wpList_append_own _ rfl _ _ 70 rfl (w1.heap.size + 1) 132 i0 _ 2 48 Tryz.underlying70 hi hz0 hz1 hz2 rfl (by omega) _ k ((os.take k).flatMap encSv) rfl (H4.out.2.1.alloc _) ⟨w3.heap.size, 0, none⟩ 1 1 [.slice A1 y.n c1, .slice A3 m3 c3] rfl rfl (cells_at _ (by simp [World.setCell]) [.slice A1 y.n c1, .slice A3 m3 c3] _) (by simp [Value.oneCell']) (by unfold maxLen; omega) (by omega) (by simp [World.setCell]; omega) ?_)
      intro v5 w5 ho5 hg5 _
      have hb3w : Below wb.heap.size wb w3 := HWS.out.1.trans (H4.out.1.2.mono HWS.out.1.size)
      have hs3w := hb3w.size
      have hw1b : wb.heap.size ≤ w1.heap.size := hs1
      have hba : Below wb.heap.size wb ((w3.setCell ⟨w1.heap.size, 1, none⟩ (.slice A3 m3 c3)).alloc (.cells #[.slice A1 y.n c1, .slice A3 m3 c3] 132)) := (hb3w.setCell hw1b _).alloc (by simp [World.setCell]; omega) _
      have hb5 : Below wb.heap.size wb w5 := hba.grown hg5 hba.size (fun j hj => by have := (HWS.out.2.2.2.1.lt j hj).1; omega)
      have hs5 := hb5.size
      have hsA : w1.heap.size + 1 ≤ w5.heap.size := by have h1 := hg5.size; have h2 := H4.out.1.2.size; simp [World.setCell] at h1; omega
      have hsm1 := owns_set_other H4.out.1.1 (p := ⟨w1.heap.size, 1, none⟩) (fun e => by have := (H4.out.1.1.lt _ e).1; simp at this; omega) (.slice A3 m3 c3)
      have hsm2 := hsm1.alloc (.cells #[.slice A1 y.n c1, .slice A3 m3 c3] 132)
      have hsm5 := hsm2.kept hg5 (owns_apart hsm2 (H4.out.2.1.alloc (.cells #[.slice A1 y.n c1, .slice A3 m3 c3] 132)) (by decide))
      have hlb3 := owns_below (owns_below H1.out.1 HWS.out.2.2.2.2) H4.out.1.2
      have hlb1 := owns_set_other hlb3 (p := ⟨w1.heap.size, 1, none⟩) (fun e => by have h1 := (H1.out.1.lt _ e).2; simp at h1) (.slice A3 m3 c3)
      have hlb2 := hlb1.alloc (.cells #[.slice A1 y.n c1, .slice A3 m3 c3] 132)
      have hlb5 := hlb2.kept hg5 (owns_apart hlb2 (H4.out.2.1.alloc (.cells #[.slice A1 y.n c1, .slice A3 m3 c3] 132)) (by decide))
      have H5 := Lib.hid (show _ ∧ _ ∧ _ ∧ _ from ⟨ho5, hb5, hsm5, hlb5⟩)
      clear ho5 hg5 hb3w hba hb5 hsm1 hsm2 hsm5 hlb3 hlb1 hlb2 hlb5
      go_wp2_with (at_builtin; refine wpList_append_ser (B := w1.heap.size + 1) (A' := A9) (n' := 0) (c' := c9) (src := os.drop k) ((H9.out.1.below (HQ.out.2.2.2 _ H5.out.2.1)).more (HQ.out.2.2.2 _ H5.out.2.1).size) (fun e => ⟨rfl, (H9.out.2 e).2⟩) hi hz0 hz1 hz2 H5.out.1 hsA (by omega) (by omega) _ _ rfl rfl rfl (by first | rfl | simp) ?_)
      intro v6 w6 ho6 hg6
      have hb6 : Below wb.heap.size wb w6 := H5.out.2.1.grown hg6 hs5 (fun j hj => by have := (H5.out.1.lt j hj).1; omega)
      have hsm6 := H5.out.2.2.1.kept hg6 (owns_apart H5.out.2.2.1 H5.out.1 (by decide))
      have hlb6 := H5.out.2.2.2.kept hg6 (owns_apart H5.out.2.2.2 H5.out.1 (by decide))
      have hxl := owns_lst (by simpa using hlb6) Lb.len (by omega)
      have hxm := owns_lst hsm6 encS_len (by omega)
      have hlrl : lr.length ≤ 60000 := by
        have h1 := HL.out.2.2.2.1.sst.1
        have h4 := samU_len y.s
        unfold samU at h4
        rw [H4.out.2.2.1] at h4
        omega
      have hx : Sat w6 w6.heap.size ⟨A1, y.n, c1, y.l, A3, m3, c3, lr⟩ := ⟨hxl.1, hxl.2.1, HL.out.2.2.2.1.few, hxm.1, hxm.2.1, by show m3 ≤ 100000; have := H4.out.2.2.2; omega⟩
      have hend := place_end (n := k) (k := k) (k' := k) (os := os) (fun z hz => (HL.out.2.2.1 z hz).1) hx (HQ.out.2.2.2 _ hb6) HL.out.2.2.2.2 (by omega) (by omega) (by rw [List.append_assoc, Nat.sub_self]; exact ho6)
      have hlaw : (os.take k ++ (⟨A1, y.n, c1, y.l, A3, m3, c3, lr⟩ : Sv) :: os.drop k).map Sv.sr = placeU labelsC (os.map Sv.sr) y.sr := by
        rw [placeU_other (k := k) (placeU_at HR.out.2) (fun p hp => ?_) (by rw [List.length_map]; have := HL.out.2.2.2.2; omega), List.map_append, List.map_cons, List.map_take, List.map_drop]
        · have : samU y.sr.2 = lr := H4.out.2.2.1
          rw [this]; rfl
        · rw [List.getElem?_eq_none (by rw [List.length_map]; have := HL.out.2.2.2.2; omega)] at hp
          cases hp
      have HE := Lib.hid (show _ ∧ _ ∧ _ from ⟨hend.base (show w.heap.size ≤ w1.heap.size + 1 by omega), hlaw, HQ.out.2.2.2 _ hb6⟩)
      clear ho6 hg6 hb6 hsm6 hlb6 hxl hxm hlrl hx hend hlaw hi hz0 hz1 hz2
      go_wp2
      go_ret
      exact ⟨_, _, rfl, HE.out.1, HE.out.2.1, HE.out.2.2⟩
end Go.Proofs.YtihidnmpngeohaaGreat
