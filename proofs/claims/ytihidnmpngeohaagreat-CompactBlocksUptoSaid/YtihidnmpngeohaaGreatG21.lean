/- The document's Intervals. The document's Gone. The document's Cmp, with the world told: it draws alone (turned from RefCmp by genrefcmpq.py). -/
import Derived.Test.YtihidnmpngeohaaGreatG13
import Derived.Test.YtihidnmpngeohaaGreatG20
import Derived.Laws.AppendOwnNone
import Derived.Outline
import Derived.BigQuiet
import Derived.Test.YtihidnmpngeohaaGreatG18
namespace Go.Proofs.YtihidnmpngeohaaGreat
open Go.RowKit Go.Lib

/-- Within the sweep: x's box holds what it has swallowed, the rest is a row of its own, older blocks stand. -/
structure Sweeping (w1 wz : World) (b5 : Nat) (X : Int × Int) (r : List (Int × Int)) (v : Value) : Prop where
  box : wz.heap[b5]? = some (.cells #[.int .i64 X.1, .int .i64 X.2] 25 (0, 0))
  rest : wz.ownsRow (b5 + 1) 25 2 v r.length (r.flatMap encI)
  old : Below b5 w1 wz
  size : b5 + 1 ≤ wz.heap.size
set_option maxHeartbeats 4000000 in
set_option maxRecDepth 100000 in
theorem refIvs_any (A : Option Addr) (n c : Nat) (l : List (Int × Int)) (w : World) (hL : Lst encI 2 w w.heap.size A n l) (hn : n ≤ 1000000) (hw : ∀ x ∈ l, Fits x) :
    Calls Tryz.prog 44 #[.slice A n c] w (PutI (l.foldl refIv []) w) := by
  obtain ⟨i0, hi, hz0, hz1, hz2⟩ := info_parts Tryz.infoInterval
  have HI := Lib.hid (show _ ∧ _ ∧ _ ∧ _ from ⟨hi, hz0, hz1, hz2⟩)
  have HL := Lib.hid (show _ ∧ _ from ⟨hL, hw⟩)
  clear hL hw hi hz0 hz1 hz2
  go_enter Tryz.func44, Tryz.ntmps44
  go_wp2
  go_loopw [3, 4, 5, 6, 7, 8, 9, 10, 11] (fun v iv _ _ _ _ _ _ _ wr => ∃ i : Nat, i ≤ n ∧ iv = .int .i64 i ∧ Hid (wr.ownsRow w.heap.size 25 2 v ((l.take i).foldl refIv []).length (((l.take i).foldl refIv []).flatMap encI) ∧ Below w.heap.size w wr)) (fun _ iv _ _ _ _ _ _ _ _ => n - (intOf iv).toNat)
  case atStart => exact ⟨0, Nat.zero_le _, rfl, Lib.hid ⟨World.ownsRow_nil _ _ _ _, Below.refl _ _⟩⟩
  case round =>
    obtain ⟨i, hi, rfl, HR⟩ := hrel
    by_cases hlt : i < n
    · obtain ⟨b, off, x, rfl, hb, hx, hc⟩ := HL.out.1.at hlt
      have c0 := (HR.out.2.cell (p := ⟨b, off + i * 2 + 0, none⟩) hb).trans (hc 0 _ rfl)
      have c1 := (HR.out.2.cell (p := ⟨b, off + i * 2 + 1, none⟩) hb).trans (hc 1 _ rfl)
      simp only [Nat.add_zero] at c0
      have hsu := refIvs_succ hx
      have hxf := HL.out.2 x (List.mem_of_getElem? hx)
      have hof := refIvs_fits (l := l.take i) (fun z hz => HL.out.2 z (List.mem_of_mem_take hz))
      have hap := (refIvs_law (l.take i)).1
      have hol : ((l.take i).foldl refIv []).length ≤ i := by have := refIvs_length (l.take i); rw [List.length_take] at this; omega
      obtain ⟨o, ho⟩ : ∃ o, (l.take i).foldl refIv [] = o := ⟨_, rfl⟩
      have hR := HR.out
      rw [ho] at hsu hof hap hol hR
      have HX := Lib.hid (show _ ∧ _ ∧ _ ∧ _ ∧ _ from ⟨hsu, hxf, hof, hap, hx⟩)
      have HR2 := Lib.hid hR
      clear hc hx hsu hxf hof hap hR HR
      have hsz := HR2.out.2.size
      by_cases hgt : x.2 < x.1
      · have hN : (wr.alloc (.cells #[.int .i64 x.1, .int .i64 x.2] 25)).ownsRow w.heap.size 25 2 u3 ((l.take (i + 1)).foldl refIv []).length (((l.take (i + 1)).foldl refIv []).flatMap encI) ∧ Below w.heap.size w (wr.alloc (.cells #[.int .i64 x.1, .int .i64 x.2] 25)) := by
          rw [HX.out.1, refIv_none hgt]
          exact ⟨HR2.out.1.alloc _, HR2.out.2.alloc hsz _⟩
        have HN := Lib.hid hN
        clear hN
        go_wp2
        go_roundw
        case measure => simp [intOf]; omega
        case rel => exact ⟨i + 1, hlt, by simp, HN⟩
      · obtain ⟨m, hm⟩ : ∃ m, o.length = m := ⟨_, rfl⟩
        have hR := HR2.out.1
        rw [hm] at hR hol
        obtain ⟨Ao, co, hv3, hco, hLo⟩ := ownsRow_lst hR hm encI_len
        subst hv3
        have hs0 : Sweeping (wr.alloc (.cells #[.int .i64 x.1, .int .i64 x.2] 25)) (wr.alloc (.cells #[.int .i64 x.1, .int .i64 x.2] 25)) wr.heap.size x [] (.slice none 0 0) :=
          ⟨heap_alloc_new _ _, World.ownsRow_nil _ _ _ _, Below.refl _ _, by simp⟩
        have hLa := hLo.below ((Below.refl wr.heap.size wr).alloc (Nat.le_refl _) (.cells #[.int .i64 x.1, .int .i64 x.2] 25))
        have hRo := hR.alloc (.cells #[.int .i64 x.1, .int .i64 x.2] 25)
        have hBo := HR2.out.2.alloc hsz (.cells #[.int .i64 x.1, .int .i64 x.2] 25)
        obtain ⟨b5, hb5⟩ : ∃ b5, wr.heap.size = b5 := ⟨_, rfl⟩
        rw [hb5] at hs0 hLa hsz
        have HM := Lib.hid hm
        go_wp2
        generalize wr.alloc (.cells #[.int .i64 x.1, .int .i64 x.2] 25) = w1 at hs0 hLa hRo hBo ⊢
        have HA := Lib.hid (show _ ∧ _ ∧ _ from ⟨hLa, hRo, hBo⟩)
        have HS0 := Lib.hid hs0
        clear hs0 hLa hRo hBo hLo hR HR2 c0 c1 hm
        go_loopw [6, 7, 8, 9, 10] (fun v kv _ _ _ wz => ∃ k : Nat, k ≤ m ∧ kv = .int .i64 k ∧ Hid (Sweeping w1 wz b5 (swept o x k).1 (swept o x k).2 v)) (fun _ kv _ _ _ _ => m - (intOf kv).toNat)
        case atStart => exact ⟨0, Nat.zero_le _, rfl, HS0⟩
        case round =>
          clear HS0
          obtain ⟨k, hk, rfl, HS⟩ := hrel
          by_cases hkm : k < m
          · obtain ⟨bo, oo, y, hAo, hbo, hy, hcy⟩ := HA.out.1.at hkm
            subst hAo
            have c0 := (HS.out.old.cell (p := ⟨bo, oo + k * 2 + 0, none⟩) hbo).trans (hcy 0 _ rfl)
            have c1 := (HS.out.old.cell (p := ⟨bo, oo + k * 2 + 1, none⟩) hbo).trans (hcy 1 _ rfl)
            simp only [Nat.add_zero] at c0
            have hok := swept_ok HX.out.2.2.2.1 HX.out.2.2.1 (by omega : x.1 ≤ x.2) HX.out.2.1 k
            have hyo := List.mem_of_getElem? hy
            have hyf := HX.out.2.2.1 y hyo
            have hyn := HX.out.2.2.2.1.1 y hyo
            have hss := swept_succ (x := x) hy
            obtain ⟨X, r, hXr⟩ : ∃ X r, swept o x k = (X, r) := ⟨_, _, rfl⟩
            have hS := HS.out
            rw [hXr] at hok hss hS
            simp only at hok hS
            have hbx := hS.box
            have d0 : wr.cell? ⟨b5, 0, none⟩ = some (.int .i64 X.1) := by rw [cell_of_row wr b5 0 _ _ _ hbx]; rfl
            have d1 : wr.cell? ⟨b5, 1, none⟩ = some (.int .i64 X.2) := by rw [cell_of_row wr b5 1 _ _ _ hbx]; rfl
            have HBR := Lib.hid hbx
            have hszw := hS.size
            have hX1 := hok.1
            obtain ⟨x1l, x1h, x2l, x2h⟩ := hok.2.1
            obtain ⟨y1l, y1h, y2l, y2h⟩ := hyf
            have hrl := hok.2.2
            have HSS := Lib.hid (show _ ∧ _ from ⟨hss, hS⟩)
            have i1 : (0 : Int) ≤ (k : Int) := by omega
            have i2 : (k : Int) < (m : Int) := by omega
            clear hcy hy hok hyo hss hXr hS hbx HS
            go_upto_region 12 with (fail)
            obtain ⟨w8, hw8⟩ : ∃ w8, wr.alloc (.cells #[.int .i64 y.1, .int .i64 y.2] 25) = w8 := ⟨_, rfl⟩
            have nb : b5 ≠ wr.heap.size := by omega
            have e0 : w8.cell? ⟨b5, 0, none⟩ = some (.int .i64 X.1) := by rw [← hw8, World.cell?_alloc_lt _ _ _ (by show b5 < _; omega)]; exact d0
            have e1 : w8.cell? ⟨b5, 1, none⟩ = some (.int .i64 X.2) := by rw [← hw8, World.cell?_alloc_lt _ _ _ (by show b5 < _; omega)]; exact d1
            have f0 : w8.cell? ⟨wr.heap.size, 0, none⟩ = some (.int .i64 y.1) := by rw [← hw8]; simp
            have f1 : w8.cell? ⟨wr.heap.size, 1, none⟩ = some (.int .i64 y.2) := by rw [← hw8]; simp
            have hbx8 : w8.heap[b5]? = some (.cells #[.int .i64 X.1, .int .i64 X.2] 25 (0, 0)) := by rw [← hw8, heap_alloc_old _ _ (by omega)]; exact HBR.out
            have g0 : w8.frozen? ⟨b5, 0, none⟩ = false := by simp [World.frozen?, hbx8]
            have g1 : w8.frozen? ⟨b5, 1, none⟩ = false := by simp [World.frozen?, hbx8]
            have HBX := Lib.hid hbx8
            clear hbx8 HBR
            rw [hw8]
            obtain ⟨b8, hb8⟩ : ∃ b8, wr.heap.size = b8 := ⟨_, rfl⟩
            rw [hb8] at f0 f1 nb ⊢
            have HB8 := Lib.hid (show _ ∧ _ from ⟨hw8, hb8⟩)
            clear hw8 hb8 c0 c1 d0 d1
            go_cut [9] from 37 to 95 (fun s9 wc => s9 = .bool (decide (y.1 ≤ X.2 ∧ X.1 ≤ y.2)) ∧ wc = w8)
            case first =>
              by_cases q1 : y.1 ≤ X.2
              · by_cases q2 : X.1 ≤ y.2
                · go_wp2
                  go_meet
                  exact ⟨by rw [decide_eq_true (show y.1 ≤ X.2 ∧ X.1 ≤ y.2 from ⟨q1, q2⟩)], rfl⟩
                · go_wp2
                  go_meet
                  exact ⟨by rw [decide_eq_false (by omega)], rfl⟩
              · go_wp2
                go_meet
                exact ⟨by rw [decide_eq_false (by omega)], rfl⟩
            case rest =>
            obtain ⟨rfl, rfl⟩ := hcut
            obtain ⟨bm, hbm⟩ : ∃ bm, decide (y.1 ≤ X.2 ∧ X.1 ≤ y.2) = bm := ⟨_, rfl⟩
            rw [hbm]
            have HBM := Lib.hid hbm
            clear hbm
            go_upto_region 13 with (fail)
            go_cut [10] from 37 to 95 (fun s10 wx => s10 = .bool (decide ((X.2 < y.1 ∧ X.2 + 1 = y.1) ∨ (y.2 < X.1 ∧ y.2 + 1 = X.1))) ∧ wx = wc)
            case first =>
              by_cases q1 : X.2 < y.1
              · have q4 : ¬ y.2 < X.1 := by omega
                have q6 : IntKind.i64.wrap (X.2 + 1) = X.2 + 1 := by rw [IntKind.wrap_i64]; omega
                by_cases q5 : X.2 + 1 = y.1
                · have z1 : (X.2 + 1 == y.1) = true := by rw [beq_iff_eq]; exact q5
                  go_wp2
                  go_meet
                  exact ⟨by rw [decide_eq_true (.inl ⟨q1, q5⟩)], rfl⟩
                · have z1 : (X.2 + 1 == y.1) = false := by rw [beq_eq_false_iff_ne]; exact q5
                  have z2 : decide (X.2 + 1 = y.1) = false := decide_eq_false q5
                  go_wp2
                  go_meet
                  exact ⟨by rw [decide_eq_false (by omega)], rfl⟩
              · by_cases q4 : y.2 < X.1
                · have q6 : IntKind.i64.wrap (y.2 + 1) = y.2 + 1 := by rw [IntKind.wrap_i64]; omega
                  by_cases q5 : y.2 + 1 = X.1
                  · have z1 : (y.2 + 1 == X.1) = true := by rw [beq_iff_eq]; exact q5
                    go_wp2
                    go_meet
                    exact ⟨by rw [decide_eq_true (.inr ⟨q4, q5⟩)], rfl⟩
                  · have z1 : (y.2 + 1 == X.1) = false := by rw [beq_eq_false_iff_ne]; exact q5
                    have z2 : decide (y.2 + 1 = X.1) = false := decide_eq_false q5
                    go_wp2
                    go_meet
                    exact ⟨by rw [decide_eq_false (by omega)], rfl⟩
                · go_wp2
                  go_meet
                  exact ⟨by rw [decide_eq_false (by omega)], rfl⟩
            case rest =>
            obtain ⟨rfl, rfl⟩ := hcut
            obtain ⟨bt, hbt⟩ : ∃ bt, decide ((X.2 < y.1 ∧ X.2 + 1 = y.1) ∨ (y.2 < X.1 ∧ y.2 + 1 = X.1)) = bt := ⟨_, rfl⟩
            rw [hbt]
            have HBT := Lib.hid hbt
            clear hbt
            go_upto_region 14 with (fail)
            go_cut [80] from 37 to 95 (fun s80 wy => s80 = .bool (meets X y) ∧ wy = wc)
            case first =>
              have hm : meets X y = (bm || bt) := by
                rw [← HBM.out, ← HBT.out]
                unfold meets
                rw [← Bool.decide_or]
              cases bm with
              | true =>
                go_wp2
                go_meet
                exact ⟨by rw [hm]; rfl, rfl⟩
              | false =>
                go_wp2
                go_meet
                exact ⟨by rw [hm]; rfl, rfl⟩
            case rest =>
            obtain ⟨rfl, rfl⟩ := hcut
            have hmn := sweep_in (X := X) (y := y) (r := r)
            have hmo := sweep_out (X := X) (y := y) (r := r)
            have HMM := Lib.hid (show _ ∧ _ from ⟨hmn, hmo⟩)
            clear hmn hmo HBM HBT
            cases hme : meets X y with
            | true =>
              have HME := Lib.hid hme
              clear hme
              go_wp2
              have hnew : Sweeping w1 ((wc.setCell ⟨b5, 0, none⟩ (.int .i64 (min X.1 y.1))).setCell ⟨b5, 1, none⟩ (.int .i64 (max X.2 y.2))) b5 (swept o x (k + 1)).1 (swept o x (k + 1)).2 u6 := by
                rw [HSS.out.1, HMM.out.1 HME.out]
                have h8 := HB8.out.1
                have hsw := HSS.out.2
                have h1 := heap_setCell_same wc b5 0 _ _ (.int .i64 (min X.1 y.1)) HBX.out
                have h2 := heap_setCell_same _ b5 1 _ _ (.int .i64 (max X.2 y.2)) h1
                have ho8 := hsw.rest.alloc (.cells #[.int .i64 y.1, .int .i64 y.2] 25)
                rw [h8] at ho8
                have hne : u6.ownBlock ≠ some b5 := fun e => by have := (hsw.rest.lt b5 e).1; omega
                refine ⟨h2, owns_set_other (owns_set_other ho8 hne _) hne _, ?_, by have := hsw.size; rw [← h8]; simp; omega⟩
                have hb8 : Below b5 w1 wc := by rw [← h8]; exact hsw.old.alloc (by have := hsw.size; omega) _
                exact (hb8.setCell (Nat.le_refl _) _).setCell (Nat.le_refl _) _
              have HN := Lib.hid hnew
              clear hnew e0 e1 f0 f1 g0 g1
              go_roundw
              case measure => simp [intOf]; omega
              case rel => exact ⟨k + 1, hkm, by simp, HN⟩
            | false =>
              have HME := Lib.hid hme
              obtain ⟨hi, hz0, hz1, hz2⟩ := HI.out
              have ho8 := HSS.out.2.rest.alloc (.cells #[.int .i64 y.1, .int .i64 y.2] 25)
              rw [HB8.out.1] at ho8
              have hb8' : Below b5 w1 wc := by rw [← HB8.out.1]; exact HSS.out.2.old.alloc (by have := HSS.out.2.size; omega) _
              have hs8 : wr.heap.size ≤ wc.heap.size := by rw [← HB8.out.1]; simp
              have HO8 := Lib.hid (show _ ∧ _ from ⟨ho8, hb8'⟩)
              clear hme ho8 hb8'
              go_wp2_with (at_builtin; refine wpList_append_own _ rfl _ _ 86 rfl (b5 + 1) 25 i0 _ 2 16 Tryz.underlying86 hi hz0 hz1 hz2 rfl (by omega) _ r.length (r.flatMap encI) rfl (HO8.out.1.alloc _) ⟨wc.heap.size, 0, none⟩ 1 1 (encI y) rfl rfl (fun j u h => cells_newL _ (encI y) _ j u h) (fun u hu => oneInterval [y] u (by simpa using hu)) (by unfold maxLen; omega) (by omega) (by simp; omega) ?_)
              intro v2 w2 ho2 hg2 _
              have hnew : Sweeping w1 w2 b5 (swept o x (k + 1)).1 (swept o x (k + 1)).2 v2 := by
                rw [HSS.out.1, HMM.out.2 HME.out]
                have hne : ∀ b, u6.ownBlock = some b → b5 + 1 ≤ b := fun b e => (HSS.out.2.rest.lt b e).1
                refine ⟨?_, by simpa using ho2, (HO8.out.2.alloc (by omega) _).grown hg2 (by simp; omega) (fun b hb => by have := hne b hb; omega), by have := hg2.size; simp at this; omega⟩
                refine (hg2.block b5 (by simp; omega) (fun e => by have := hne b5 e.symm; omega)).trans ?_
                rw [heap_alloc_old _ _ (by omega)]
                exact HBX.out
              have HN := Lib.hid hnew
              clear hi hz0 hz1 hz2 ho2 hg2 hnew e0 e1 f0 f1 g0 g1
              go_wp2
              go_roundw
              case measure => simp [intOf]; omega
              case rel => exact ⟨k + 1, hkm, by simp, HN⟩
          · obtain rfl : k = m := by omega
            have hok := swept_ok HX.out.2.2.2.1 HX.out.2.2.1 (by omega : x.1 ≤ x.2) HX.out.2.1 k
            have hsome := refIv_some (o := o) (x := x) (by omega)
            rw [HM.out] at hsome
            obtain ⟨X, r, hXr⟩ : ∃ X r, swept o x k = (X, r) := ⟨_, _, rfl⟩
            have hS := HS.out
            rw [hXr] at hok hsome hS
            simp only at hok hsome hS
            have hrl := hok.2.2
            obtain ⟨rl, hrl2⟩ : ∃ rl, r.length = rl := ⟨_, rfl⟩
            have hrest := hS.rest
            rw [hrl2] at hrest hrl
            obtain ⟨Ar, cr, hv6, hcr, hLr⟩ := ownsRow_lst hrest hrl2 encI_len
            have hcapr : rl ≤ cr ∧ cr ≤ maxLen := by
              rw [hv6] at hrest
              exact ⟨(owns_cap hrest).2, (owns_cap hrest).1⟩
            have hform : (Ar = none ∧ rl = 0 ∧ cr = 0) ∨ ∃ g, Ar = some ⟨g, 0, none⟩ := by
              rw [hv6] at hrest
              rcases hrest.2 with ⟨e, h0⟩ | ⟨g, _, _, e, _⟩
              · injection e with e1 e2 e3; exact .inl ⟨e1, h0, e3⟩
              · injection e with e1 _ _; exact .inr ⟨g, e1⟩
            subst hv6
            obtain ⟨w3, rfl⟩ : ∃ w3 : World, w3 = wr := ⟨_, rfl⟩
            have hbx := hS.box
            have d0 : w3.cell? ⟨b5, 0, none⟩ = some (.int .i64 X.1) := by rw [cell_of_row w3 b5 0 _ _ _ hbx]; rfl
            have d1 : w3.cell? ⟨b5, 1, none⟩ = some (.int .i64 X.2) := by rw [cell_of_row w3 b5 1 _ _ _ hbx]; rfl
            have hszw := hS.size
            have hbw : Below w.heap.size w w3 := HA.out.2.2.trans (hS.old.mono hsz)
            have H3 := Lib.hid (show _ ∧ _ ∧ _ ∧ _ ∧ _ ∧ _ from ⟨hsome, hLr, hbw, hrl2, d0, d1⟩)
            have HF := Lib.hid (show _ ∧ _ from ⟨hform, hcapr⟩)
            clear hok hsome hXr hS hrest hLr hcr hbx d0 d1 hbw hrl2 HS hform hcapr
            go_wp2
            go_loopw [3, 11] (fun v kv wz => ∃ j : Nat, j ≤ rl ∧ kv = .int .i64 j ∧ Hid (wz.ownsRow w3.heap.size 25 2 v j ((r.take j).flatMap encI) ∧ Below w3.heap.size w3 wz ∧ ∀ t z, t < j → r[t]? = some z → z.1 < X.1)) (fun _ kv _ => rl - (intOf kv).toNat)
            case atStart => exact ⟨0, Nat.zero_le _, rfl, Lib.hid ⟨World.ownsRow_nil _ _ _ _, Below.refl _ _, fun t z h => absurd h (by omega)⟩⟩
            case round =>
              obtain ⟨j, hj, rfl, HJ⟩ := hrel
              have hszj := HJ.out.2.1.size
              have e0 := (HJ.out.2.1.cell (p := ⟨b5, 0, none⟩) (by show b5 < _; omega)).trans H3.out.2.2.2.2.1
              have e1 := (HJ.out.2.1.cell (p := ⟨b5, 1, none⟩) (by show b5 < _; omega)).trans H3.out.2.2.2.2.2
              obtain ⟨bb, hbb⟩ : ∃ bb, (match r[j]? with | some z => decide (z.1 < X.1) | none => false) = bb := ⟨_, rfl⟩
              have HBB := Lib.hid hbb
              clear hbb
              go_upto_region 19 with (fail)
              go_cut [109] from 96 to 118 (fun s109 wc => s109 = .bool bb ∧ ∃ q, wc = wr.drewN q)
              case first =>
                by_cases hjr : j < rl
                · obtain ⟨br, orr, z, hAr, hbr, hz, hcz⟩ := H3.out.2.1.at hjr
                  subst hAr
                  have f0 := (HJ.out.2.1.cell (p := ⟨br, orr + j * 2 + 0, none⟩) hbr).trans (hcz 0 _ rfl)
                  simp only [Nat.add_zero] at f0
                  have hbb := HBB.out
                  rw [hz] at hbb
                  simp only at hbb
                  have i1 : (0 : Int) ≤ (j : Int) := by omega
                  have i2 : (j : Int) < (rl : Int) := by omega
                  clear hz hcz
                  by_cases hzx : z.1 < X.1
                  · obtain rfl : bb = true := by rw [← hbb]; exact decide_eq_true hzx
                    clear hbb
                    go_wp2_with (go_quiet (fail))
                    go_meet
                    exact ⟨rfl, _, rfl⟩
                  · obtain rfl : bb = false := by rw [← hbb]; exact decide_eq_false hzx
                    clear hbb
                    go_wp2_with (go_quiet (fail))
                    go_meet
                    exact ⟨rfl, _, rfl⟩
                · have hbb := HBB.out
                  rw [List.getElem?_eq_none (by have := H3.out.2.2.2.1; omega)] at hbb
                  obtain rfl : bb = false := hbb.symm
                  clear hbb
                  go_wp2_with (go_quiet (fail))
                  go_meet
                  exact ⟨rfl, _, rfl⟩
              case rest =>
              obtain ⟨rfl, q, rfl⟩ := hcut
              cases bb with
              | true =>
                have hjr : j < rl := by
                  have hbb := HBB.out
                  cases hz : r[j]? with
                  | none => rw [hz] at hbb; cases hbb
                  | some z => have := (List.getElem?_eq_some_iff.1 hz).1; have := H3.out.2.2.2.1; omega
                obtain ⟨br, orr, z, hAr, hbr, hz, hcz⟩ := H3.out.2.1.at hjr
                subst hAr
                have f0 := (HJ.out.2.1.cell (p := ⟨br, orr + j * 2 + 0, none⟩) hbr).trans (hcz 0 _ rfl)
                have f1 := (HJ.out.2.1.cell (p := ⟨br, orr + j * 2 + 1, none⟩) hbr).trans (hcz 1 _ rfl)
                simp only [Nat.add_zero] at f0
                have hzx : z.1 < X.1 := by
                  have hbb := HBB.out
                  rw [hz] at hbb
                  exact of_decide_eq_true hbb
                have hsj : r.take (j + 1) = r.take j ++ [z] := by
                  obtain ⟨h1, e⟩ := List.getElem?_eq_some_iff.1 hz
                  rw [List.take_succ_eq_append_getElem h1, e]
                have HZ := Lib.hid (show _ ∧ _ ∧ _ from ⟨hz, hzx, hsj⟩)
                obtain ⟨hi, hz0, hz1, hz2⟩ := HI.out
                clear hz hcz hzx hsj HBB
                go_wp2_with (at_builtin; refine wpList_append_own _ rfl _ _ 86 rfl w3.heap.size 25 i0 _ 2 16 Tryz.underlying86 hi hz0 hz1 hz2 rfl (by omega) _ j ((r.take j).flatMap encI) rfl (HJ.out.1.alloc _) ⟨wr.heap.size, 0, none⟩ 1 1 (encI z) rfl rfl (fun j u h => cells_newL _ (encI z) _ j u h) (fun u hu => oneInterval [z] u (by simpa using hu)) (by unfold maxLen; omega) (by omega) (by simp; omega) ?_)
                intro v2 w2 ho2 hg2 _
                have hN : w2.ownsRow w3.heap.size 25 2 v2 (j + 1) ((r.take (j + 1)).flatMap encI) ∧ Below w3.heap.size w3 w2 ∧ ∀ t z, t < j + 1 → r[t]? = some z → z.1 < X.1 := by
                  rw [HZ.out.2.2]
                  refine ⟨by simpa using ho2, ((below_drewN HJ.out.2.1 q).alloc hszj _).grown hg2 (by simp; omega) (fun b hb => (HJ.out.1.lt b hb).1), fun t y ht hy => ?_⟩
                  by_cases h : t = j
                  · subst h
                    rw [HZ.out.1] at hy
                    injection hy with hy
                    subst hy
                    exact HZ.out.2.1
                  · exact HJ.out.2.2 t y (by omega) hy
                have HN := Lib.hid hN
                clear hi hz0 hz1 hz2 ho2 hg2 hN e0 e1 f0 f1
                go_wp2
                go_roundw
                case measure => simp [intOf]; omega
                case rel => exact ⟨j + 1, hjr, by simp, HN⟩
              | false =>
                have hja : aheadOf X r = j := by
                  refine ahead_stop HJ.out.2.2 (by have := H3.out.2.2.2.1; omega) (fun z hz h => ?_)
                  have hbb := HBB.out
                  rw [hz] at hbb
                  exact of_decide_eq_false hbb h
                have hla := laid_at X r
                rw [hja, ← H3.out.1, ← HX.out.1] at hla
                have HLA := Lib.hid hla
                clear hja hla HBB
                obtain ⟨hi, hz0, hz1, hz2⟩ := HI.out
                go_wp2_with (at_builtin; refine wpList_append_own _ rfl _ _ 86 rfl w3.heap.size 25 i0 _ 2 16 Tryz.underlying86 hi hz0 hz1 hz2 rfl (by omega) _ j ((r.take j).flatMap encI) rfl (HJ.out.1.alloc _) ⟨wr.heap.size, 0, none⟩ 1 1 (encI X) rfl rfl (fun j u h => cells_newL _ (encI X) _ j u h) (fun u hu => oneInterval [X] u (by simpa using hu)) (by unfold maxLen; omega) (by omega) (by simp; omega) ?_)
                intro v4 w4 ho4 hg4 _
                have hb4 : Below w3.heap.size w3 w4 := ((below_drewN HJ.out.2.1 q).alloc hszj _).grown hg4 (by simp; omega) (fun b hb => (HJ.out.1.lt b hb).1)
                have hs4 := hb4.size
                have H4 := Lib.hid (show _ ∧ _ from ⟨ho4, hb4⟩)
                clear ho4 hg4 hb4 e0 e1
                have hend : ∀ (v5 : Value) (w5 : World) (ms : Nat), w5.ownsRow w3.heap.size 25 2 v5 (j + 1 + ms) ((r.take j).flatMap encI ++ encI X ++ (r.drop j).flatMap encI) → ms = rl - j → w4.grownBy w5 v4.ownBlock →
                    w5.ownsRow w.heap.size 25 2 v5 ((l.take (i + 1)).foldl refIv []).length (((l.take (i + 1)).foldl refIv []).flatMap encI) ∧ Below w.heap.size w w5 := by
                  intro v5 w5 ms ho hms hg
                  have hl3 := H3.out.2.2.2.1
                  have hw3 := H3.out.2.2.1.size
                  refine ⟨?_, H3.out.2.2.1.trans (((H4.out.2.grown hg hs4 (fun b hb => (H4.out.1.lt b hb).1))).mono hw3)⟩
                  rw [HLA.out, List.length_append, List.length_append, List.length_take, List.length_drop, List.flatMap_append, List.flatMap_append, List.flatMap_singleton]
                  rw [show min j r.length + [X].length + (r.length - j) = j + 1 + ms by simp; omega]
                  exact owns_base ho hw3
                have HEND := Lib.hid hend
                have hsuf : ∀ g, Ar = some ⟨g, 0, none⟩ → ∀ t u, ((r.drop j).flatMap encI)[t]? = some u → w4.cell? ((⟨g, j * 2, none⟩ : Addr).add t) = some u := by
                  rintro g rfl t u hu
                  have h1 := (H3.out.2.1.below H4.out.2).flat encI_len (j * 2 + t) u (by
                    conv => lhs; rw [← List.take_append_drop j r, List.flatMap_append]
                    have hl1 : ((r.take j).flatMap encI).length = j * 2 := by rw [flatMap_length encI_len, List.length_take]; have := H3.out.2.2.2.1; omega
                    rw [List.getElem?_append_right (by omega), hl1, Nat.add_sub_cancel_left]; exact hu)
                  rw [← h1]
                  simp only [Addr.add, Nat.zero_add]
                  by_cases q1 : t = 0
                  · subst q1; by_cases q2 : j * 2 = 0 <;> simp [q2]
                  · simp [q1]
                have HSU := Lib.hid hsuf
                have hc63 : cr ≤ 9223372036854775807 := HF.out.2.2
                have hrc := HF.out.2.1
                clear hend hsuf
                rcases HF.out.1 with ⟨hA0, hr0, hc0⟩ | ⟨g, hAg⟩
                · obtain rfl : j = 0 := by omega
                  subst hA0 hr0 hc0
                  have hr0 : r = [] := List.length_eq_zero_iff.1 H3.out.2.2.2.1
                  have HR0 := Lib.hid hr0
                  clear hr0
                  go_wp2_with (at_builtin; refine wpList_append_own_none rfl _ _ 86 rfl w3.heap.size 25 i0 2 Tryz.underlying86 hi _ (0 + 1) ((r.take 0).flatMap encI ++ encI X) rfl H4.out.1 rfl ?_)
                  have hN := HEND.out v4 w4 0 (by have h := H4.out.1; rw [HR0.out] at h ⊢; simpa using h) rfl (grownBy_refl _ _)
                  have HN := Lib.hid hN
                  clear hi hz0 hz1 hz2 hN
                  go_wp2
                  go_roundw
                  case measure => simp [intOf]; omega
                  case rel => exact ⟨i + 1, hlt, by simp, HN⟩
                · subst hAg
                  by_cases hck : cr = j
                  · have HJR := Lib.hid (show rl = j by omega)
                    go_wp2_with (at_builtin; refine wpList_append_own _ rfl _ _ 86 rfl w3.heap.size 25 i0 _ 2 16 Tryz.underlying86 hi hz0 hz1 hz2 rfl (by omega) _ (j + 1) ((r.take j).flatMap encI ++ encI X) rfl H4.out.1 ⟨g, 0, none⟩ (rl - j) 0 [] (by first | rfl | (show Value.slice _ _ _ = Value.slice _ _ _; simp [hck])) (by have := HJR.out; simp; omega) (fun j u h => by simp at h) (fun u h => by simp at h) (by unfold maxLen; omega) (by omega) hs4 ?_)
                    intro v5 w5 ho5 hg5 _
                    have hN := HEND.out v5 w5 (rl - j) (by have hd : r.drop j = [] := List.drop_eq_nil_of_le (by have := H3.out.2.2.2.1; have := HJR.out; omega)
                                                           rw [hd]; simpa using ho5) rfl hg5
                    have HN := Lib.hid hN
                    clear hi hz0 hz1 hz2 hN ho5 hg5
                    go_wp2
                    go_roundw
                    case measure => simp [intOf]; omega
                    case rel => exact ⟨i + 1, hlt, by simp, HN⟩
                  · go_wp2_with (at_builtin; refine wpList_append_own _ rfl _ _ 86 rfl w3.heap.size 25 i0 _ 2 16 Tryz.underlying86 hi hz0 hz1 hz2 rfl (by omega) _ (j + 1) ((r.take j).flatMap encI ++ encI X) rfl H4.out.1 ⟨g, j * 2, none⟩ (rl - j) (cr - j) ((r.drop j).flatMap encI) (by first | rfl | (show Value.slice _ _ _ = Value.slice _ _ _; simp [hck])) (by rw [flatMap_length encI_len, List.length_drop]; have := H3.out.2.2.2.1; omega) (HSU.out g rfl) (oneInterval _) (by unfold maxLen; omega) (by omega) hs4 ?_)
                    intro v5 w5 ho5 hg5 _
                    have hN := HEND.out v5 w5 (rl - j) (by rw [List.append_assoc]; exact ho5) rfl hg5
                    have HN := Lib.hid hN
                    clear hi hz0 hz1 hz2 hN ho5 hg5
                    go_wp2
                    go_roundw
                    case measure => simp [intOf]; omega
                    case rel => exact ⟨i + 1, hlt, by simp, HN⟩
    · obtain rfl : i = n := by omega
      have hr := HR.out
      rw [List.take_of_length_le (by have := HL.out.1.1; omega)] at hr
      have HN := Lib.hid hr
      clear hr HR
      go_wp2
      go_ret
      exact ⟨_, rfl, HN.out.1, HN.out.2⟩
end Go.Proofs.YtihidnmpngeohaaGreat
namespace Go.Proofs.YtihidnmpngeohaaGreat
open Go.RowKit Go.Lib

def GonePost (gs : List (Int × Int)) (w : World) (e : Ending) (w' : World) : Prop := ∃ v, e = .returned v ∧ w'.ownsRow w.heap.size 25 2 v gs.length (gs.flatMap encI) ∧ Below w.heap.size w w'
set_option maxHeartbeats 4000000 in
set_option maxRecDepth 100000 in
theorem refGone_any (A A' : Option Addr) (n c n' c' : Nat) (ys : List Tv) (s : List Lb) (w : World) (hL : Lst encTb 3 w w.heap.size A n ys) (hS : Lst Lb.cells 2 w w.heap.size A' n' s) (hn : n ≤ 4000) (hn' : n' ≤ 100000) (hT : ∀ y ∈ ys, Tat w w.heap.size y) :
    Calls Tryz.prog 45 #[.slice A n c, .slice A' n' c'] w (GonePost (goneK labelsC (ys.map Tv.tb) s) w) := by
  obtain ⟨i1, hi, hz0, hz1, hz2⟩ := info_parts Tryz.infoInterval
  have HJ := Lib.hid (show _ ∧ _ ∧ _ ∧ _ from ⟨hi, hz0, hz1, hz2⟩)
  have HL := Lib.hid (show _ ∧ _ ∧ _ from ⟨hL, hS, hT⟩)
  clear hi hz0 hz1 hz2 hL hS hT
  go_enter Tryz.func45, Tryz.ntmps45
  go_wp2
  go_loopw [5, 6] (fun v iv wr => ∃ k : Nat, k ≤ n ∧ iv = .int .i64 k ∧ Hid (wr.ownsRow w.heap.size 25 2 v (goneK labelsC ((ys.take k).map Tv.tb) s).length ((goneK labelsC ((ys.take k).map Tv.tb) s).flatMap encI) ∧ Below w.heap.size w wr)) (fun _ iv _ => n - (intOf iv).toNat)
  case atStart => exact ⟨0, Nat.zero_le _, rfl, Lib.hid ⟨World.ownsRow_nil _ _ _ _, Below.refl _ _⟩⟩
  case round =>
    obtain ⟨k, hk, rfl, HR⟩ := hrel
    have hsw := HR.out.2.size
    by_cases hlt : k < n
    · obtain ⟨b, off, y, rfl, hb, hy, hcl⟩ := HL.out.1.at hlt
      have hty := HL.out.2.2 y (List.mem_of_getElem? hy)
      have c0 := (HR.out.2.cell (p := ⟨b, off + k * 3 + 0, none⟩) hb).trans (hcl 0 _ rfl)
      have d1 := hcl 1 _ rfl
      have d2 := hcl 2 _ rfl
      simp only [Nat.add_zero] at c0
      have hcon := refCmp_any y.A A' y.n y.c n' c' y.l s wr ((hty.on HR.out.2).lst) ((HL.out.2.1.below HR.out.2).more hsw) (by have := hty.few; omega) (by omega)
      have hlen : (goneK labelsC ((ys.take k).map Tv.tb) s).length ≤ k := by
        unfold goneK
        rw [List.length_map]
        refine Nat.le_trans (List.length_filter_le _ _) ?_
        rw [List.length_map, List.length_take]; omega
      have hnext : goneK labelsC ((ys.take (k + 1)).map Tv.tb) s = goneK labelsC ((ys.take k).map Tv.tb) s ++ if labelsC y.l s = 0 then [y.g] else [] := by
        obtain ⟨q1, q2⟩ := List.getElem?_eq_some_iff.1 hy
        rw [List.take_succ_eq_append_getElem q1, q2, List.map_append, goneK_append]
        congr 1
        unfold goneK
        by_cases h : labelsC y.l s = 0
        · simp [Tv.tb, h]
        · simp [Tv.tb, h]
      obtain ⟨gs, hgs⟩ : ∃ gs, goneK labelsC ((ys.take k).map Tv.tb) s = gs := ⟨_, rfl⟩
      rw [hgs] at hlen hnext
      have HRg := HR.out
      rw [hgs] at HRg
      have HG := Lib.hid HRg
      obtain ⟨r, hr⟩ : ∃ r, labelsC y.l s = r := ⟨_, rfl⟩
      rw [hr] at hcon hnext
      have HC := Lib.hid (show _ ∧ _ ∧ _ ∧ _ ∧ _ from ⟨hcon, hnext, d1, d2, hb⟩)
      have ii : (k : Int) < (n : Int) := by omega
      obtain ⟨hi, hz0, hz1, hz2⟩ := HJ.out
      clear hcl hy hty hcon hnext d1 d2 hgs HRg hr
      by_cases h0 : r = 0
      · subst h0
        have e1 : (0 : Int) == 0 := rfl
        go_wp2_with fail
        refine HC.out.1.mono ?_
        rintro e w5 ⟨rfl, hb5⟩
        have hB5 := HR.out.2.trans (hb5.mono hsw)
        have c1 := (hB5.cell (p := ⟨b, off + k * 3 + 1, none⟩) HC.out.2.2.2.2).trans HC.out.2.2.1
        have c2 := (hB5.cell (p := ⟨b, off + k * 3 + 2, none⟩) HC.out.2.2.2.2).trans HC.out.2.2.2.1
        have hs5 := hB5.size
        have H5 := Lib.hid (show _ ∧ _ from ⟨hB5, owns_below HG.out.1 hb5⟩)
        clear hb5 hB5 c0
        go_wp2_with (at_builtin; refine wpList_append_own _ rfl _ _ 86 rfl w.heap.size 25 i1 _ 2 16 Tryz.underlying86 hi hz0 hz1 hz2 rfl (by omega) _ gs.length _ rfl (H5.out.2.alloc _) ⟨w5.heap.size, 0, none⟩ 1 1 [.int .i64 y.g.1, .int .i64 y.g.2] rfl rfl (cells_newL w5 [.int .i64 y.g.1, .int .i64 y.g.2] _) (by simp [Value.oneCell']) (by unfold maxLen; omega) (by omega) (by simp; omega) ?_)
        intro v6 w6 ho6 hg6 _
        have H6 := Lib.hid (show w6.ownsRow w.heap.size 25 2 v6 (goneK labelsC ((ys.take (k + 1)).map Tv.tb) s).length ((goneK labelsC ((ys.take (k + 1)).map Tv.tb) s).flatMap encI) ∧ Below w.heap.size w w6 from ⟨by (rw [HC.out.2.1]; (first | rw [if_pos rfl] | rw [if_pos trivial]); rw [List.length_append, List.flatMap_append]; exact ho6), (H5.out.1.alloc hs5 _).grown hg6 (by simp; omega) (fun j hj => (HR.out.1.lt j hj).1)⟩)
        clear ho6 hg6
        go_wp2
        go_roundw
        case measure => simp [intOf]; omega
        case rel => exact ⟨k + 1, hlt, by simp, H6⟩
      · have e1 : (r == 0) = false := beq_eq_false_iff_ne.2 h0
        go_wp2_with fail
        refine HC.out.1.mono ?_
        rintro e w5 ⟨rfl, hb5⟩
        have H5 := Lib.hid (show w5.ownsRow w.heap.size 25 2 u5 (goneK labelsC ((ys.take (k + 1)).map Tv.tb) s).length ((goneK labelsC ((ys.take (k + 1)).map Tv.tb) s).flatMap encI) ∧ Below w.heap.size w w5 from ⟨by (rw [HC.out.2.1, if_neg h0, List.append_nil]; exact owns_below HG.out.1 hb5), HR.out.2.trans (hb5.mono hsw)⟩)
        clear hb5
        go_wp2
        go_roundw
        case measure => simp [intOf]; omega
        case rel => exact ⟨k + 1, hlt, by simp, H5⟩
    · obtain rfl : n = k := by omega
      have hf := HR.out.1
      rw [List.take_of_length_le (by have := HL.out.1.1; omega)] at hf
      have HF := Lib.hid hf
      clear hf
      go_wp2
      go_ret
      exact ⟨_, rfl, HF.out, HR.out.2⟩
end Go.Proofs.YtihidnmpngeohaaGreat
namespace Go.Proofs.YtihidnmpngeohaaGreat
open Go.RowKit Go.Lib

set_option maxHeartbeats 4000000 in
set_option maxRecDepth 100000 in
theorem refCmp_q (A A' : Option Addr) (n c n' c' : Nat) (la lb : List Lb) (w : World) (hA : Lst Lb.cells 2 w w.heap.size A n la) (hB : Lst Lb.cells 2 w w.heap.size A' n' lb) (hn : n ≤ 1099511627776) (hn' : n' ≤ 1099511627776) :
    Calls Tryz.prog 43 #[.slice A n c, .slice A' n' c'] w fun e w' => e = .returned (.int .i64 (labelsC la lb)) ∧ ∃ q, w' = w.drewN q := by
  obtain ⟨r, hr⟩ : ∃ r, labelsC la lb = r := ⟨_, rfl⟩
  rw [hr]
  have HL := Lib.hid (show _ ∧ _ ∧ _ from ⟨hA, hB, hr⟩)
  clear hA hB hr
  go_enter Tryz.func43, Tryz.ntmps43
  go_wp2
  go_loopw [5] (fun iv wr => ∃ k q : Nat, k ≤ n ∧ k ≤ n' ∧ iv = .int .i64 k ∧ wr = w.drewN q ∧ Hid (lexC labelC (la.drop k) (lb.drop k) = r)) (fun iv _ => n - (intOf iv).toNat)
  case atStart => exact ⟨0, 0, Nat.zero_le _, Nat.zero_le _, rfl, rfl, Lib.hid HL.out.2.2⟩
  case round =>
    obtain ⟨k, q, hk, hk', rfl, rfl, HE⟩ := hrel
    have i0 : (0 : Int) ≤ (k : Int) := by omega
    by_cases hlt : k < n
    · have i1 : (k : Int) < (n : Int) := by omega
      by_cases hlt2 : k < n'
      · have i2 : (k : Int) < (n' : Int) := by omega
        obtain ⟨b, off, x, rfl, hb, hx, hc⟩ := HL.out.1.at hlt
        obtain ⟨b', off', y, rfl, hb', hy, hc'⟩ := HL.out.2.1.at hlt2
        have c0 := hc 0 _ rfl
        have c1 := hc 1 _ rfl
        have d0 := hc' 0 _ rfl
        have d1 := hc' 1 _ rfl
        simp only [Nat.add_zero] at c0 d0
        have hdr := lexC_drop (c := labelC) hx hy
        have HD := Lib.hid hdr
        clear hc hc' hx hy hdr
        rcases labelC_cases x y with ⟨hl, p1⟩ | ⟨hl, p1, p2, p3⟩ | ⟨hl, p1, p2, p3, p4⟩ | ⟨hl, p1, p2, p3, p4⟩ | ⟨hl, p1, p2⟩
        case inr.inr.inl =>
          have HG : Hid (lexC labelC (la.drop (k + 1)) (lb.drop (k + 1)) = r) := Lib.hid (by rw [← HE.out, HD.out, if_pos hl])
          clear hl
          go_wp2_with (go_quiet (fail))
          go_roundw
          case measure => simp [intOf]; omega
          case rel => exact ⟨k + 1, _, hlt, hlt2, by simp, by first | rfl | exact World.drewN_drewN _ _ _, HG⟩
        all_goals
          have hr := HE.out.symm.trans HD.out
          rw [hl] at hr
          simp at hr
          subst hr
          clear hl
          go_wp2_with (go_quiet (fail))
          go_ret
          exact ⟨rfl, by first | exact ⟨_, rfl⟩ | exact ⟨_, by rw [World.drewN_drewN]⟩ | exact ⟨_, by rw [World.drewN_drewN, World.drewN_drewN]⟩⟩
      · have i2 : ¬ (k : Int) < (n' : Int) := by omega
        obtain rfl : k = n' := by omega
        have hr : r = 1 := by
          rw [← HE.out, List.drop_eq_nil_of_le (by have := HL.out.2.1.1; omega : lb.length ≤ k), List.drop_eq_getElem_cons (by have := HL.out.1.1; omega : k < la.length)]
          rfl
        subst hr
        have i3 : ¬ (n : Int) < (k : Int) := by omega
        go_wp2_with (go_quiet (fail))
        go_ret
        exact ⟨rfl, by first | exact ⟨_, rfl⟩ | exact ⟨_, by rw [World.drewN_drewN]⟩ | exact ⟨_, by rw [World.drewN_drewN, World.drewN_drewN]⟩⟩
    · have i1 : ¬ (k : Int) < (n : Int) := by omega
      obtain rfl : k = n := by omega
      have hd : la.drop k = [] := List.drop_eq_nil_of_le (by have := HL.out.1.1; omega)
      by_cases hlt2 : k < n'
      · have hr : r = -1 := by
          rw [← HE.out, hd, List.drop_eq_getElem_cons (by have := HL.out.2.1.1; omega : k < lb.length)]
          rfl
        subst hr
        have i3 : (k : Int) < (n' : Int) := by omega
        clear hd
        go_wp2_with (go_quiet (fail))
        go_ret
        exact ⟨rfl, by first | exact ⟨_, rfl⟩ | exact ⟨_, by rw [World.drewN_drewN]⟩ | exact ⟨_, by rw [World.drewN_drewN, World.drewN_drewN]⟩⟩
      · obtain rfl : k = n' := by omega
        have hr : r = 0 := by
          rw [← HE.out, hd, List.drop_eq_nil_of_le (by have := HL.out.2.1.1; omega : lb.length ≤ k)]
          rfl
        subst hr
        clear hd
        go_wp2_with (go_quiet (fail))
        go_ret
        exact ⟨rfl, by first | exact ⟨_, rfl⟩ | exact ⟨_, by rw [World.drewN_drewN]⟩ | exact ⟨_, by rw [World.drewN_drewN, World.drewN_drewN]⟩⟩
end Go.Proofs.YtihidnmpngeohaaGreat
