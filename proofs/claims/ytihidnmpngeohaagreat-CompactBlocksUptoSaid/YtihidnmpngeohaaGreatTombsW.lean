/- merge.Tombs: the walk. -/
import Derived.Test.YtihidnmpngeohaaGreatG18
namespace Go.Proofs.YtihidnmpngeohaaGreat
open Go.RowKit Go.Lib Go.Sort

theorem Tryz.enterTombs2 : ∀ args w, (callFunc 33 args).run Tryz.prog w = .ok (.enter 33 args) w := enters_of Tryz.func33 (by kernel_rfl) rfl
theorem take_tb {rest : List Tv} (t : Nat) : ((rest.map Tv.tb).take t).map (·.2) = (rest.take t).map (·.g) := by
  rw [← List.map_take, List.map_map]; rfl
/-- What stands ahead of each run of tombs with the same labels. -/
structure TRun (w w2 wr : World) (bi g n c : Nat) (ys : List Tv) (k : Nat) (v : Value) (os : List Tv) : Prop where
  box : ∃ A' q, wr.heap[bi]? = some (.cells #[.slice A' (n - k) q] 22 (0, 0)) ∧ (k < n → A' = some ⟨g, k * 3, none⟩) ∧ n - k ≤ q ∧ q ≤ c
  row : wr.ownsRow w.heap.size 27 3 (.slice (some ⟨g, 0, none⟩) n c) n (ys.flatMap encTb)
  out : OutTb wr w2.heap.size v os
  law : os.map Tv.tb ++ runsT labelsC n ((ys.drop k).map Tv.tb) = runsT labelsC n (ys.map Tv.tb)
  few : os.length ≤ k
  old : Below w.heap.size w wr
  size : w2.heap.size ≤ wr.heap.size
/-- The tombs that wait. -/
theorem owns_drop {w : World} {B n c g k : Nat} {ys : List Tv} (h : w.ownsRow B 27 3 (.slice (some ⟨g, 0, none⟩) n c) n (ys.flatMap encTb)) (hk : k < n) : Lst encTb 3 w w.heap.size (some ⟨g, k * 3, none⟩) (n - k) (ys.drop k) := by
  have hl := owns_len h encTb_len (by omega)
  refine ⟨by rw [List.length_drop, hl], fun _ => ⟨g, k * 3, rfl, (h.lt g rfl).2, fun j x hx i u hu => ?_⟩⟩
  rw [List.getElem?_drop] at hx
  have := owns_at h encTb_len hx hu
  rwa [show (k + j) * 3 + i = k * 3 + j * 3 + i by omega] at this
theorem grownIn_weak {S S' : Nat → Prop} {a w : World} (h : GrownIn S a w) (hS : ∀ k, k < a.heap.size → S k → S' k) : GrownIn S' a w := ⟨h.os, h.tape, h.output, h.size, fun k hk hn => h.block k hk (fun hs => hn (hS k hk hs))⟩
theorem seen4 {w w' : World} (hb : Below w.heap.size w w') {p1 p2 p3 p4 : Addr} {v1 v2 v3 v4 : Value} (h : w.cell? p1 = some v1 ∧ w.cell? p2 = some v2 ∧ w.cell? p3 = some v3 ∧ w.cell? p4 = some v4) :
    w'.cell? p1 = some v1 ∧ w'.cell? p2 = some v2 ∧ w'.cell? p3 = some v3 ∧ w'.cell? p4 = some v4 :=
  ⟨Below.seen hb h.1, Below.seen hb h.2.1, Below.seen hb h.2.2.1, Below.seen hb h.2.2.2⟩
/-- Within a run: the first j intervals have become tombs. -/
structure TRun3 (w2 wq wz : World) (os : List Tv) (x : Tv) (U : List (Int × Int)) (A7 : Option Addr) (L c7 j : Nat) (v : Value) (os' : List Tv) : Prop where
  law : os'.map Tv.tb = os.map Tv.tb ++ (U.take j).map fun g => (x.l, g)
  len : os'.length = os.length + j
  out : OutTb wz w2.heap.size v os'
  ivs : wz.ownsRow w2.heap.size 25 2 (.slice A7 L c7) L (U.flatMap encI)
  grown : GrownIn (fun b => w2.heap.size ≤ b) wq wz
theorem TRun3.step {w2 wq wz W1 w5 wa w6 : World} {os os' : List Tv} {x : Tv} {U : List (Int × Int)} {A7 A5 : Option Addr} {L c7 c5 j : Nat} {v v' : Value} {y : Int × Int} (h : TRun3 w2 wq wz os x U A7 L c7 j v os') (hy : U[j]? = some y) (hyf : Fits y) (hs : w2.heap.size ≤ wz.heap.size)
    (h1 : Below wz.heap.size wz W1) (ho5 : w5.ownsRow W1.heap.size 29 2 (.slice A5 x.n c5) x.n (x.l.flatMap Lb.cells)) (h5 : Below W1.heap.size W1 w5) (ha : Below w5.heap.size w5 wa)
    (hown : w6.ownsRow w2.heap.size 27 3 v' (os'.length + 1) (os'.flatMap encTb ++ [.slice A5 x.n c5, .int .i64 y.1, .int .i64 y.2])) (hg : wa.grownBy w6 v.ownBlock) :
    TRun3 w2 wq w6 os x U A7 L c7 (j + 1) v' (os' ++ [⟨A5, x.n, c5, x.l, y⟩]) where
  law := by
    obtain ⟨g1, g2⟩ := List.getElem?_eq_some_iff.1 hy
    rw [List.map_append, h.law, List.take_succ_eq_append_getElem g1, g2, List.map_append, List.append_assoc]
    rfl
  len := by rw [List.length_append, h.len]; rfl
  out := (h.out.below h1).snoc (z := ⟨A5, x.n, c5, x.l, y⟩) (by have := h1.size; omega) h5 ho5 ha hyf hown hg
  ivs := by
    have hi := owns_below (owns_below (owns_below h.ivs h1) h5) ha
    have ho := ((h.out.below h1).below h5).below ha
    refine hi.kept hg ?_
    cases hv : (Value.slice A7 L c7).ownBlock with
    | none => exact .inl rfl
    | some b => exact .inr fun e => owns_other hi ho.row (by decide) hv e.symm
  grown := by
    have e1 : GrownIn (fun b => w2.heap.size ≤ b) wz wa := (GrownIn.of_below ((h1.trans (h5.mono h1.size)).trans (ha.mono (Nat.le_trans h1.size h5.size)))).mono (fun k _ hk => by omega)
    have e2 : GrownIn (fun b => w2.heap.size ≤ b) wa w6 := (GrownIn.of_grownBy hg).mono (fun k _ hk => (h.out.row.lt k hk).1)
    exact (h.grown.trans e1 (fun _ _ h => h)).trans e2 (fun _ _ h => h)
theorem TRun.step {w w2 wq wz : World} {bi g n c k t m q : Nat} {ys os os' : List Tv} {v v' : Value} {x : Tv} {U : List (Int × Int)} {A7 A'' : Option Addr} {L c7 : Nat} (h : TRun w w2 wq bi g n c ys k v os) (T : TRun3 w2 wq wz os x U A7 L c7 L v' os')
    (hU : U.length = L) (hL : L ≤ t) (ht : t ≤ m) (hm : n - k = m) (hmq : m ≤ q) (hqc : q ≤ c) (hkn : k < n) (hbi : bi < w2.heap.size) (hbw : w.heap.size ≤ bi) (hg : g < w2.heap.size) (hgb : g < bi) (hs : w2.heap.size ≤ wq.heap.size)
    (hcons : runsT labelsC n ((ys.drop k).map Tv.tb) = (U.map fun g => (x.tb.1, g)) ++ runsT labelsC n (((ys.drop k).map Tv.tb).drop t)) (hA : k + t < n → A'' = some ⟨g, (k + t) * 3, none⟩) :
    TRun w w2 (wz.setCell ⟨bi, 0, none⟩ (.slice A'' (m - t) (q - t))) bi g n c ys (k + t) v' os' := by
  obtain ⟨A', q', hbx, _, _, _⟩ := h.box
  have hbz : wz.heap[bi]? = wq.heap[bi]? := T.grown.block bi (by omega) (by omega)
  have hw2 := h.old.size
  have hgz := T.grown.size
  have hSet : GrownIn (fun b => b = bi) wz (wz.setCell ⟨bi, 0, none⟩ (.slice A'' (m - t) (q - t))) := ⟨rfl, rfl, rfl, by simp [World.setCell], fun b _ hb => Below.heap_setCell _ _ _ _ hb⟩
  refine ⟨⟨A'', q - t, ?_, hA, by omega, by omega⟩, ?_, T.out.kept hSet (fun b hb => by omega), ?_, ?_, ?_, ?_⟩
  · rw [show n - (k + t) = m - t by omega]
    have := heap_setCell_same wz bi 0 _ _ (.slice A'' (m - t) (q - t)) (hbz.trans hbx)
    exact this
  · refine hSet.owns (T.grown.owns h.row (fun b hb => ?_)) (fun b hb => ?_)
    · obtain rfl : g = b := by simpa [Value.ownBlock] using hb
      omega
    · obtain rfl : g = b := by simpa [Value.ownBlock] using hb
      omega
  · rw [T.law, List.take_of_length_le (by omega), List.append_assoc, ← h.law, hcons, ← List.map_drop, List.drop_drop]
    first | rfl | (rw [Nat.add_comm t k]; rfl)
  · have := T.len
    have := h.few
    omega
  · exact (h.old.trans (T.grown.below (fun b hb => by omega) (by omega))).trans (hSet.below (fun b hb => by omega) (by omega))
  · have : (wz.setCell ⟨bi, 0, none⟩ (.slice A'' (m - t) (q - t))).heap.size = wz.heap.size := by simp [World.setCell]
    omega
theorem seen4g {w w' : World} {r : Option Nat} (hg : w.grownBy w' r) {p1 p2 p3 p4 : Addr} {v1 v2 v3 v4 : Value} (h : w.cell? p1 = some v1 ∧ w.cell? p2 = some v2 ∧ w.cell? p3 = some v3 ∧ w.cell? p4 = some v4)
    (n1 : r ≠ some p1.block) (n2 : r ≠ some p2.block) (n3 : r ≠ some p3.block) (n4 : r ≠ some p4.block) :
    w'.cell? p1 = some v1 ∧ w'.cell? p2 = some v2 ∧ w'.cell? p3 = some v3 ∧ w'.cell? p4 = some v4 := by
  have G := GrownIn.of_grownBy hg
  exact ⟨G.cell h.1 n1, G.cell h.2.1 n2, G.cell h.2.2.1 n3, G.cell h.2.2.2 n4⟩
set_option maxHeartbeats 8000000 in
set_option maxRecDepth 100000 in
theorem tombs_any (A : Option Addr) (n c : Nat) (ys0 : List Tv) (w : World) (hL : Lst encTb 3 w w.heap.size A n ys0) (hnil : A = none → n = 0 ∧ c = 0) (hn : n ≤ 1000) (hT : ∀ y ∈ ys0, Tat w w.heap.size y) :
    Calls Tryz.prog 7 #[.slice A n c] w (TombsPost (ys0.map Tv.tb) w) := by
  have HL := Lib.hid (show _ ∧ _ ∧ _ from ⟨hL, hnil, hT⟩)
  clear hL hnil hT
  obtain ⟨i0, hi, hz0, hz1, hz2⟩ := info_parts Tryz.infoTomb
  have HI := Lib.hid (show _ ∧ _ ∧ _ ∧ _ from ⟨hi, hz0, hz1, hz2⟩)
  clear hi hz0 hz1 hz2
  obtain ⟨i1, hi, hz0, hz1, hz2⟩ := info_parts Tryz.infoInterval
  have HJ := Lib.hid (show _ ∧ _ ∧ _ ∧ _ from ⟨hi, hz0, hz1, hz2⟩)
  clear hi hz0 hz1 hz2
  have hmf : ∀ (fn : Fn) (first cap : Array Value) (w : World), (Instr.makeFunc fn first cap).run Tryz.prog w = .ok (.func fn first cap) w := fun _ _ _ _ => rfl
  go_enter Tryz.func7, Tryz.ntmps7
  go_wp2_with fail
  refine (cloneTomb A n c ys0 w HL.out.1 HL.out.2.1 (by omega)).mono ?_
  rintro e w1 ⟨v1, rfl, ho1, hb1⟩
  obtain ⟨A1, c1, rfl, hnc1, hcm1⟩ := owns_slice ho1
  have hs1 := hb1.size
  have H1 := Lib.hid (show _ ∧ _ from ⟨ho1, hb1⟩)
  clear ho1 hb1
  go_wp2_with fail
  have hbx1 : (w1.alloc (.cells #[.slice A1 n c1] 22)).heap[w1.heap.size]? = some (.cells #[.slice A1 n c1] 22 (0, 0)) := heap_alloc_new _ _
  have hb2 : Below w1.heap.size w1 (w1.alloc (.cells #[.slice A1 n c1] 22)) := (Below.refl _ _).alloc (Nat.le_refl _) _
  have hs2 : (w1.alloc (.cells #[.slice A1 n c1] 22)).heap.size = w1.heap.size + 1 := by simp
  change Calls _ _ _ (w1.alloc (.cells #[.slice A1 n c1] 22)) _
  generalize w1.alloc (.cells #[.slice A1 n c1] 22) = w1b at hbx1 hb2 hs2 ⊢
  refine (sortTombs A1 n c1 ys0 w1b w.heap.size (owns_below H1.out.1 hb2) (by omega) (by omega) (fun y hy => (HL.out.2.2 y hy).below (H1.out.2.trans (hb2.mono hs1)))).mono ?_
  rintro e w2 ⟨rfl, ys, hperm, hsort, ho2, hg2⟩
  obtain ⟨bi, hbi⟩ : ∃ bi, w1.heap.size = bi := ⟨_, rfl⟩
  rw [hbi] at hbx1 hs2 ⊢
  have hs12 := hg2.size
  have hne : ∀ k, (Value.slice A1 n c1).ownBlock = some k → w.heap.size ≤ k ∧ k < bi := fun k hk => by have := H1.out.1.lt k hk; omega
  have hbx2 : w2.heap[bi]? = some (.cells #[.slice A1 n c1] 22 (0, 0)) := (hg2.block bi (by omega) (fun e => by have := hne bi e.symm; omega)).trans hbx1
  have hold2 : Below w.heap.size w w2 := (H1.out.2.trans (hb2.mono hs1)).grown hg2 (by omega) (fun k hk => (hne k hk).1)
  have HP := Lib.hid (show _ ∧ _ from ⟨hperm, hsort⟩)
  by_cases hn0 : n = 0
  · subst hn0
    have hy0 : ys0 = [] := List.length_eq_zero_iff.1 HL.out.1.1
    have cb : w2.cell? ⟨bi, 0, none⟩ = some (.slice A1 0 c1) := by rw [cell_of_row w2 bi 0 _ _ (0, 0) hbx2]; rfl
    have HE := Lib.hid (show _ ∧ _ from ⟨hold2, hy0⟩)
    clear hbx1 hb2 hs2 hperm hsort ho2 hg2 hne hbx2 hold2 hy0
    go_wp2
    refine wp_loop_rounds 1 ?_
    rw [rounds_succ]
    go_wp2
    go_ret
    exact ⟨_, [], rfl, OutTb.nil _ _, by rw [HE.out.2]; rfl, HE.out.1⟩
  · obtain ⟨g, rfl, hgl⟩ := owns_some' H1.out.1 (by omega)
    have hgg := hne g rfl
    have hT0 : TRun w w2 w2 bi g n c1 ys 0 (.slice none 0 0) [] := ⟨⟨_, c1, hbx2, fun _ => by rw [Nat.zero_mul], hnc1, Nat.le_refl _⟩, ho2, OutTb.nil _ _, by simp, Nat.zero_le _, hold2, Nat.le_refl _⟩
    have HT0 := Lib.hid hT0
    have hbi2 : bi < w2.heap.size := by omega
    have hg2l : g < w2.heap.size := by omega
    clear hbx1 hb2 hs2 hperm hsort ho2 hg2 hne hbx2 hold2 hT0
    go_wp2
    go_loopg [4] n (fun g1 v wr => ∃ (k : Nat) (os : List Tv), k ≤ n ∧ n - k ≤ g1 ∧ Hid (TRun w w2 wr bi g n c1 ys k v os)) 
    case atStart => exact ⟨0, [], Nat.zero_le _, Nat.le_refl _, HT0⟩
    case round =>
      clear HT0
      obtain ⟨k, os, hk, hg1, HT⟩ := hrel
      obtain ⟨wq, rfl⟩ : ∃ wq : World, wq = wr := ⟨_, rfl⟩
      obtain ⟨A', q, hbx, hA', hmq, hqc⟩ := HT.out.box
      obtain ⟨m, hm⟩ : ∃ m, n - k = m := ⟨_, rfl⟩
      rw [hm] at hbx hmq
      have cbx : wq.cell? ⟨bi, 0, none⟩ = some (.slice A' m q) := by rw [cell_of_row wq bi 0 _ _ (0, 0) hbx]; rfl
      have fbx : wq.frozen? ⟨bi, 0, none⟩ = false := by simp [World.frozen?, hbx]
      have hsr := HT.out.size
      have hs0 := HT.out.old.size
      by_cases hlt : k < n
      · obtain rfl := hA' hlt
        have hmp : 0 < m := by omega
        have hmi : (0 : Int) < (m : Int) := by omega
        have hLr := owns_drop HT.out.row hlt
        rw [hm] at hLr
        obtain ⟨rest, hrest⟩ : ∃ rest, ys.drop k = rest := ⟨_, rfl⟩
        have hlaw := HT.out.law
        rw [hrest] at hLr hlaw
        have hrl := hLr.1
        obtain ⟨x, t0, rfl⟩ : ∃ x t0, rest = x :: t0 := by
          cases rest with
          | nil => simp at hrl; omega
          | cons x t0 => exact ⟨x, t0, rfl⟩
        have hTr : ∀ y ∈ x :: t0, Tat wq wq.heap.size y := fun y hy => by
          have h1 : y ∈ ys := List.mem_of_mem_drop (by rw [hrest]; exact hy)
          exact ((HL.out.2.2 y (HP.out.1.mem_iff.1 h1)).below HT.out.old).more hs0
        have hxw : Tat w w.heap.size x := HL.out.2.2 x (HP.out.1.mem_iff.1 (List.mem_of_mem_drop (by rw [hrest]; simp)))
        obtain ⟨b', off', e', hb', hcl⟩ := hLr.2 hmp
        injection e' with e'
        injection e' with e1 e2 _
        subst e1 e2
        have hx0 := hcl 0 x rfl 0 _ rfl
        simp only [Nat.zero_mul, Nat.add_zero] at hx0
        have hidx := indexFuncTomb 33 #[.pointer (some ⟨bi, 0, none⟩)] Tryz.enterTombs2 (fun y => tombC y x != 0) (some ⟨g, k * 3, none⟩) m q (x :: t0) wq hLr (by omega)
          (fun W hb y hy => tombPred x y bi g (k * 3) m q W hmp (Below.seen hb cbx) (Below.seen hb hx0) ((hTr x (by simp)).on hb) ((hTr y hy).on hb))
        rw [idx_run, hrl] at hidx
        have ht1 : 1 ≤ runLen labelsC x.tb ((x :: t0).map Tv.tb) := runLen_pos labelsC_cmp3 _ _
        have ht2 : runLen labelsC x.tb ((x :: t0).map Tv.tb) ≤ m := by
          have := runLen_le (c := labelsC) x.tb ((x :: t0).map Tv.tb)
          rwa [List.length_map, hrl] at this
        have hcons := runsT_cons (c := labelsC) labelsC_cmp3 (f := n) (x := x.tb) (t := t0.map Tv.tb) (by simp only [List.length_cons, List.length_map] at hrl ⊢; omega)
        rw [show x.tb :: t0.map Tv.tb = (x :: t0).map Tv.tb from rfl] at hcons
        obtain ⟨t, ht⟩ : ∃ t, runLen labelsC x.tb ((x :: t0).map Tv.tb) = t := ⟨_, rfl⟩
        rw [ht] at hidx ht1 ht2 hcons
        rw [take_tb] at hcons
        obtain ⟨gs, hgs⟩ : ∃ gs, ((x :: t0).take t).map (·.g) = gs := ⟨_, rfl⟩
        have hgl' : gs.length = t := by rw [← hgs, List.length_map, List.length_take, hrl]; omega
        have hgf : ∀ y ∈ gs, Fits y := fun y hy => by
          rw [← hgs] at hy
          obtain ⟨z, hz, rfl⟩ := List.mem_map.1 hy
          exact (hTr z (List.mem_of_mem_take hz)).fits
        rw [hgs] at hcons
        have HX := Lib.hid (show _ ∧ _ ∧ _ ∧ _ ∧ _ ∧ _ from ⟨hidx, hLr, hTr, hcons, hlaw, hgs⟩)
        have HG := Lib.hid (show _ ∧ _ ∧ _ ∧ _ from ⟨hgl', hgf, hrest, hxw⟩)
        have HB := Lib.hid (show _ ∧ _ ∧ _ ∧ _ from ⟨hbx, cbx, fbx, hx0⟩)
        clear hidx hLr hTr hcons hlaw hgs hgl' hgf hbx hx0 hcl hA' ht hrest hxw
        have hti : (t : Int) ≤ (q : Int) := by omega
        have ht0 : ¬ (t : Int) < 0 := by omega
        have ht00 : (0 : Int) ≤ (t : Int) := by omega
        by_cases htm : t < m
        · rw [if_pos htm] at HX
          have cbx := HB.out.2.1
          go_wp2_with fail
          refine HX.out.1.mono ?_
          rintro e w3 ⟨rfl, hb3⟩
          have cb3 := Below.seen hb3 HB.out.2.1
          have hs3 := hb3.size
          have H3 := Lib.hid (show _ ∧ _ from ⟨hb3, (HX.out.2.1.below hb3).more hb3.size⟩)
          clear hb3 cbx
          go_wp2
          go_loopw [6, 29] (fun v iv wz => ∃ i : Nat, i ≤ t ∧ iv = .int .i64 i ∧ Hid (wz.ownsRow w3.heap.size 25 2 v i ((((x :: t0).take i).map (·.g)).flatMap encI) ∧ Below w3.heap.size w3 wz)) (fun _ iv _ => t - (intOf iv).toNat)
          case atStart => exact ⟨0, Nat.zero_le _, rfl, Lib.hid ⟨World.ownsRow_nil _ _ _ _, Below.refl _ _⟩⟩
          case round =>
            obtain ⟨i, hi', rfl, HR⟩ := hrel
            have hsz := HR.out.2.size
            by_cases hit : i < t
            · obtain ⟨b', off', y, hAe, hb', hy, hcl⟩ := H3.out.2.at (k := i) (by omega)
              cases hAe
              have d0 := (HR.out.2.cell (p := ⟨g, k * 3 + i * 3 + 0, none⟩) hb').trans (hcl 0 _ rfl)
              have d1 := (HR.out.2.cell (p := ⟨g, k * 3 + i * 3 + 1, none⟩) hb').trans (hcl 1 _ rfl)
              have d2 := (HR.out.2.cell (p := ⟨g, k * 3 + i * 3 + 2, none⟩) hb').trans (hcl 2 _ rfl)
              simp only [Nat.add_zero] at d0
              have hnext : (((x :: t0).take (i + 1)).map (·.g)).flatMap encI = (((x :: t0).take i).map (·.g)).flatMap encI ++ [.int .i64 y.g.1, .int .i64 y.g.2] := by
                obtain ⟨q1, q2⟩ := List.getElem?_eq_some_iff.1 hy
                rw [List.take_succ_eq_append_getElem q1, q2, List.map_append, List.flatMap_append]
                rfl
              have HN := Lib.hid hnext
              have ii : (i : Int) < (t : Int) := by omega
              obtain ⟨hi, hz0, hz1, hz2⟩ := HJ.out
              clear hcl hy hnext
              go_wp2_with (at_builtin; refine wpList_append_own _ rfl _ _ 86 rfl w3.heap.size 25 i1 _ 2 16 Tryz.underlying86 hi hz0 hz1 hz2 rfl (by omega) _ i _ rfl ((HR.out.1.alloc _).alloc _) ⟨wr.heap.size + 1, 0, none⟩ 1 1 [.int .i64 y.g.1, .int .i64 y.g.2] rfl rfl (cells_at _ (by simp) [.int .i64 y.g.1, .int .i64 y.g.2] _) (by simp [Value.oneCell']) (by unfold maxLen; omega) (by omega) (by simp; omega) ?_; intro v5 w5 ho5 hg5 _; have H5 := Lib.hid (show w5.ownsRow w3.heap.size 25 2 v5 (i + 1) ((((x :: t0).take (i + 1)).map (·.g)).flatMap encI) ∧ Below w3.heap.size w3 w5 from ⟨by (rw [HN.out]; exact ho5), ((HR.out.2.alloc hsz _).alloc (by simp; omega) _).grown hg5 (by simp; omega) (fun j hj => (HR.out.1.lt j hj).1)⟩); clear ho5 hg5)
              go_roundw
              case measure => simp [intOf]; omega
              case rel => exact ⟨i + 1, hit, by simp, H5⟩
            · obtain rfl : t = i := by omega
              have hog := HR.out.1
              rw [HX.out.2.2.2.2.2] at hog
              obtain ⟨A6, c6, rfl, _, hL6⟩ := ownsRow_lst hog HG.out.1 encI_len
              have hnil6 : A6 = none → t = 0 ∧ c6 = 0 := fun e => by
                subst e
                rcases hog.2 with ⟨h', h0⟩ | ⟨_, _, _, h', _⟩
                · injection h' with _ _ h'; exact ⟨h0, h'⟩
                · cases h'
              have HI6 := Lib.hid (ivs_any A6 t c6 gs wr hL6 hnil6 (by omega) (fun y hy => HG.out.2.1 y hy))
              clear hog hL6 hnil6
              go_wp2_with fail
              refine HI6.out.mono ?_
              rintro e w4 ⟨v7, d, rfl, hpd, hsd, ho7, hb4⟩
              have hU : ivMerge d = ivU gs := by
                obtain ⟨h1, h2⟩ := ivs_law hpd hsd
                exact ivU_eq h1 h2
              rw [hU] at ho7
              obtain ⟨U, hUU⟩ : ∃ U, ivU gs = U := ⟨_, rfl⟩
              rw [hUU] at ho7
              have hUl : U.length ≤ t := by have := ivU_len gs; rw [hUU] at this; have := HG.out.1; omega
              have hUf : ∀ y ∈ U, Fits y := by rw [← hUU]; exact refIvs_fits HG.out.2.1
              have hcons := HX.out.2.2.2.1
              rw [hUU, ← HG.out.2.2.1] at hcons
              obtain ⟨L, hLL⟩ : ∃ L, U.length = L := ⟨_, rfl⟩
              rw [hLL] at ho7 hUl
              obtain ⟨A7, c7, rfl, hnc7, hcm7⟩ := owns_slice ho7
              have hs4 := hb4.size
              have hb04 : Below wq.heap.size wq w4 := (H3.out.1.trans (HR.out.2.mono hs3)).trans (hb4.mono (by omega))
              have cb4 := Below.seen hb04 HB.out.2.1
              have HT4 := Lib.hid (show TRun3 w2 wq w4 os x U A7 L c7 0 u4 os from ⟨by simp, rfl, HT.out.out.below hb04, owns_base ho7 (by omega), (GrownIn.of_below hb04).mono (fun _ _ h => by omega)⟩)
              have HU := Lib.hid (show _ ∧ _ ∧ _ from ⟨hUf, hcons, hLL⟩)
              clear hpd hsd ho7 hb4 hb04 hU hUU hUf hcons hLL hnc7 hcm7
              go_wp2
              go_loopw [4, 42] (fun v jv wz => ∃ (j : Nat) (os' : List Tv), j ≤ L ∧ jv = .int .i64 j ∧ Hid (TRun3 w2 wq wz os x U A7 L c7 j v os')) (fun _ jv _ => L - (intOf jv).toNat)
              case atStart => exact ⟨0, os, Nat.zero_le _, rfl, HT4⟩
              case round =>
                obtain ⟨j, os', hj, rfl, HR3⟩ := hrel
                have hsq := HR3.out.grown.size
                have hszr : w2.heap.size ≤ wr.heap.size := by omega
                have cbr := HR3.out.grown.cell HB.out.2.1 (by show ¬ w2.heap.size ≤ bi; omega)
                have cgr := HR3.out.grown.cell HB.out.2.2.2 (by show ¬ w2.heap.size ≤ g; omega)
                have fbr : wr.frozen? ⟨bi, 0, none⟩ = false := by
                  have := HR3.out.grown.block bi (by omega) (by show ¬ w2.heap.size ≤ bi; omega)
                  simp [World.frozen?, this, HB.out.1]
                by_cases hjl : j < L
                · obtain ⟨g7, rfl, hg7⟩ := owns_some' HR3.out.ivs (by omega)
                  obtain ⟨y, hy⟩ : ∃ y, U[j]? = some y := ⟨_, List.getElem?_eq_getElem (by have := HU.out.2.2; omega)⟩
                  have e0 := owns_at HR3.out.ivs encI_len hy (j := 0) (u := .int .i64 y.1) rfl
                  have e1 := owns_at HR3.out.ivs encI_len hy (j := 1) (u := .int .i64 y.2) rfl
                  simp only [Nat.add_zero] at e0
                  have hyf := HU.out.1 y (List.mem_of_getElem? hy)
                  have hol := HR3.out.len
                  have hof := HT.out.few
                  have holw : Below w.heap.size w wr := HT.out.old.trans (HR3.out.grown.below (fun b hb => by omega) hs0)
                  have hcl5 := fun W (hb : Below w.heap.size w W) => cloneLabel x.A x.n x.c x.l W ((HG.out.2.2.2.below hb).more hb.size).lst HG.out.2.2.2.nil (by have := HG.out.2.2.2.few; omega)
                  have hW1 : Below wr.heap.size wr (wr.alloc (.cells #[.int .i64 y.1, .int .i64 y.2] 25)) := (Below.refl _ _).alloc (Nat.le_refl _) _
                  have hk4 : (wr.alloc (.cells #[.int .i64 y.1, .int .i64 y.2] 25)).cell? ⟨bi, 0, none⟩ = some (.slice (some ⟨g, k * 3, none⟩) m q) ∧ (wr.alloc (.cells #[.int .i64 y.1, .int .i64 y.2] 25)).cell? ⟨g, k * 3, none⟩ = some (.slice x.A x.n x.c) ∧ (wr.alloc (.cells #[.int .i64 y.1, .int .i64 y.2] 25)).cell? ⟨wr.heap.size, 0, none⟩ = some (.int .i64 y.1) ∧ (wr.alloc (.cells #[.int .i64 y.1, .int .i64 y.2] 25)).cell? ⟨wr.heap.size, 1, none⟩ = some (.int .i64 y.2) := ⟨Below.seen hW1 cbr, Below.seen hW1 cgr, by simp, by simp⟩
                  have hn1 : u4.ownBlock ≠ some bi := fun e => by have := (HR3.out.out.row.lt _ e).1; omega
                  have hn2 : u4.ownBlock ≠ some g := fun e => by have := (HR3.out.out.row.lt _ e).1; omega
                  have hn3 : u4.ownBlock ≠ some wr.heap.size := fun e => by have := (HR3.out.out.row.lt _ e).2; omega
                  have hOW : (wr.alloc (.cells #[.int .i64 y.1, .int .i64 y.2] 25)).ownsRow w2.heap.size 27 3 u4 os'.length (os'.flatMap encTb) := owns_below HR3.out.out.row hW1
                  have HW := Lib.hid (show _ ∧ _ ∧ _ ∧ _ ∧ _ ∧ _ from ⟨hcl5, hW1, hk4, holw, hOW, hy⟩)
                  have HN := Lib.hid (show _ ∧ _ ∧ _ ∧ _ from ⟨hn1, hn2, hn3, hyf⟩)
                  obtain ⟨hi, hz0, hz1, hz2⟩ := HI.out
                  clear hcl5 hW1 hk4 holw hOW hy hn1 hn2 hn3 hyf
                  go_wp2_with fail
                  go_region_held3 (fun w' => w'.cell? ⟨bi, 0, none⟩ = some (.slice (some ⟨g, k * 3, none⟩) m q) ∧ w'.cell? ⟨g, k * 3, none⟩ = some (.slice x.A x.n x.c) ∧ w'.cell? ⟨wr.heap.size, 0, none⟩ = some (.int .i64 y.1) ∧ w'.cell? ⟨wr.heap.size, 1, none⟩ = some (.int .i64 y.2)) (first | exact k7 | exact k6 | exact HW.out.2.2.1 | go_keep)
                    (first
                      | (go_at_call 35; refine (HW.out.1 _ (HW.out.2.2.2.1.trans ((HW.out.2.1.drew).mono (by omega)))).mono ?_; rintro e w5 ⟨v5, rfl, ho5, hb5'⟩; obtain ⟨A5, c5, rfl, _, _⟩ := owns_slice ho5; have hb5 : Below (wr.alloc (.cells #[.int .i64 y.1, .int .i64 y.2] 25)).heap.size (wr.alloc (.cells #[.int .i64 y.1, .int .i64 y.2] 25)) w5 := (Below.refl _ (wr.alloc (.cells #[.int .i64 y.1, .int .i64 y.2] 25))).drew.trans hb5'; have k6 := seen4 hb5 HW.out.2.2.1; have hs5 : wr.heap.size + 1 ≤ w5.heap.size := (by have := hb5.size; simp at this; omega); have hO5 := owns_below HW.out.2.2.2.2.1 hb5; have H5 := Lib.hid (show _ ∧ _ ∧ _ from ⟨(show World.ownsRow w5 (wr.alloc (.cells #[.int .i64 y.1, .int .i64 y.2] 25)).heap.size _ _ _ _ _ from ho5), hb5, hO5⟩); clear ho5 hb5 hb5' hO5)
                      | (refine step_append_lies _ (by rfl) _ _ _ (by rfl) w2.heap.size 27 i0 _ 3 40 Tryz.underlying22 hi hz0 hz1 hz2 rfl (by omega) _ os'.length (os'.flatMap encTb) (by rfl) (by exact H5.out.2.2.alloc _) ⟨w5.heap.size, 0, none⟩ 1 1 [.slice A5 x.n c5, .int .i64 y.1, .int .i64 y.2] (by rfl) (by rfl) (by exact cells_newL w5 [.slice A5 x.n c5, .int .i64 y.1, .int .i64 y.2] _) (by simp [Value.oneCell']) (by omega) (by unfold maxLen; omega) (by omega) (by simp; omega) (w5.heap.size + 1) (by simp) ?_; intro g6 c6' w6 hown6 hg6 hl6 hlt6; have hba : Below w5.heap.size w5 (w5.alloc (.cells #[.slice A5 x.n c5, .int .i64 y.1, .int .i64 y.2] 27)) := (Below.refl _ _).alloc (Nat.le_refl _) _; have k7 := seen4g (show World.grownBy (w5.alloc (.cells #[.slice A5 x.n c5, .int .i64 y.1, .int .i64 y.2] 27)) w6 _ from hg6) (seen4 hba k6) HN.out.1 HN.out.2.1 HN.out.2.2.1 HN.out.2.2.1; have H6 := Lib.hid (HR3.out.step HW.out.2.2.2.2.2 HN.out.2.2.2 hszr HW.out.2.1 H5.out.1 H5.out.2.1 hba hown6 hg6); clear hown6 hg6 hl6 hlt6 hba) | fail)
                  all_goals
                    go_wp2
                    go_roundw
                    case measure => simp [intOf]; omega
                    case rel => exact ⟨j + 1, _, hjl, by simp, (by have h6 := H6; have hl := HR3.out.len; rw [hl] at h6; exact h6)⟩
                · obtain rfl : L = j := by omega
                  have hRS := HR3.out
                  have HS := Lib.hid (show _ ∧ _ from ⟨hRS, HT.out⟩)
                  clear hRS
                  have htqi : (t : Int) < (q : Int) := by omega
                  have hRn := HS.out.2.step HS.out.1 HU.out.2.2 hUl ht2 hm hmq hqc hlt hbi2 (by omega) hg2l hgg.2 hsr HU.out.2.1 (A'' := some ⟨g, k * 3 + t * 3, none⟩) (fun _ => by rw [Nat.add_mul])
                  have HRn := Lib.hid hRn
                  clear hRn HS
                  go_wp2
                  go_roundg (n - (k + t))
                  case measure => omega
                  case rel => exact ⟨k + t, _, by omega, Nat.le_refl _, HRn⟩
        · rw [if_neg htm] at HX
          obtain rfl : t = m := by omega
          have cbx := HB.out.2.1
          go_wp2_with fail
          refine HX.out.1.mono ?_
          rintro e w3 ⟨rfl, hb3⟩
          have cb3 := Below.seen hb3 HB.out.2.1
          have hs3 := hb3.size
          have H3 := Lib.hid (show _ ∧ _ from ⟨hb3, (HX.out.2.1.below hb3).more hb3.size⟩)
          clear hb3 cbx
          go_wp2
          go_loopw [6, 29] (fun v iv wz => ∃ i : Nat, i ≤ t ∧ iv = .int .i64 i ∧ Hid (wz.ownsRow w3.heap.size 25 2 v i ((((x :: t0).take i).map (·.g)).flatMap encI) ∧ Below w3.heap.size w3 wz)) (fun _ iv _ => t - (intOf iv).toNat)
          case atStart => exact ⟨0, Nat.zero_le _, rfl, Lib.hid ⟨World.ownsRow_nil _ _ _ _, Below.refl _ _⟩⟩
          case round =>
            obtain ⟨i, hi', rfl, HR⟩ := hrel
            have hsz := HR.out.2.size
            by_cases hit : i < t
            · obtain ⟨b', off', y, hAe, hb', hy, hcl⟩ := H3.out.2.at (k := i) (by omega)
              cases hAe
              have d0 := (HR.out.2.cell (p := ⟨g, k * 3 + i * 3 + 0, none⟩) hb').trans (hcl 0 _ rfl)
              have d1 := (HR.out.2.cell (p := ⟨g, k * 3 + i * 3 + 1, none⟩) hb').trans (hcl 1 _ rfl)
              have d2 := (HR.out.2.cell (p := ⟨g, k * 3 + i * 3 + 2, none⟩) hb').trans (hcl 2 _ rfl)
              simp only [Nat.add_zero] at d0
              have hnext : (((x :: t0).take (i + 1)).map (·.g)).flatMap encI = (((x :: t0).take i).map (·.g)).flatMap encI ++ [.int .i64 y.g.1, .int .i64 y.g.2] := by
                obtain ⟨q1, q2⟩ := List.getElem?_eq_some_iff.1 hy
                rw [List.take_succ_eq_append_getElem q1, q2, List.map_append, List.flatMap_append]
                rfl
              have HN := Lib.hid hnext
              have ii : (i : Int) < (t : Int) := by omega
              obtain ⟨hi, hz0, hz1, hz2⟩ := HJ.out
              clear hcl hy hnext
              go_wp2_with (at_builtin; refine wpList_append_own _ rfl _ _ 86 rfl w3.heap.size 25 i1 _ 2 16 Tryz.underlying86 hi hz0 hz1 hz2 rfl (by omega) _ i _ rfl ((HR.out.1.alloc _).alloc _) ⟨wr.heap.size + 1, 0, none⟩ 1 1 [.int .i64 y.g.1, .int .i64 y.g.2] rfl rfl (cells_at _ (by simp) [.int .i64 y.g.1, .int .i64 y.g.2] _) (by simp [Value.oneCell']) (by unfold maxLen; omega) (by omega) (by simp; omega) ?_; intro v5 w5 ho5 hg5 _; have H5 := Lib.hid (show w5.ownsRow w3.heap.size 25 2 v5 (i + 1) ((((x :: t0).take (i + 1)).map (·.g)).flatMap encI) ∧ Below w3.heap.size w3 w5 from ⟨by (rw [HN.out]; exact ho5), ((HR.out.2.alloc hsz _).alloc (by simp; omega) _).grown hg5 (by simp; omega) (fun j hj => (HR.out.1.lt j hj).1)⟩); clear ho5 hg5)
              go_roundw
              case measure => simp [intOf]; omega
              case rel => exact ⟨i + 1, hit, by simp, H5⟩
            · obtain rfl : t = i := by omega
              have hog := HR.out.1
              rw [HX.out.2.2.2.2.2] at hog
              obtain ⟨A6, c6, rfl, _, hL6⟩ := ownsRow_lst hog HG.out.1 encI_len
              have hnil6 : A6 = none → t = 0 ∧ c6 = 0 := fun e => by
                subst e
                rcases hog.2 with ⟨h', h0⟩ | ⟨_, _, _, h', _⟩
                · injection h' with _ _ h'; exact ⟨h0, h'⟩
                · cases h'
              have HI6 := Lib.hid (ivs_any A6 t c6 gs wr hL6 hnil6 (by omega) (fun y hy => HG.out.2.1 y hy))
              clear hog hL6 hnil6
              go_wp2_with fail
              refine HI6.out.mono ?_
              rintro e w4 ⟨v7, d, rfl, hpd, hsd, ho7, hb4⟩
              have hU : ivMerge d = ivU gs := by
                obtain ⟨h1, h2⟩ := ivs_law hpd hsd
                exact ivU_eq h1 h2
              rw [hU] at ho7
              obtain ⟨U, hUU⟩ : ∃ U, ivU gs = U := ⟨_, rfl⟩
              rw [hUU] at ho7
              have hUl : U.length ≤ t := by have := ivU_len gs; rw [hUU] at this; have := HG.out.1; omega
              have hUf : ∀ y ∈ U, Fits y := by rw [← hUU]; exact refIvs_fits HG.out.2.1
              have hcons := HX.out.2.2.2.1
              rw [hUU, ← HG.out.2.2.1] at hcons
              obtain ⟨L, hLL⟩ : ∃ L, U.length = L := ⟨_, rfl⟩
              rw [hLL] at ho7 hUl
              obtain ⟨A7, c7, rfl, hnc7, hcm7⟩ := owns_slice ho7
              have hs4 := hb4.size
              have hb04 : Below wq.heap.size wq w4 := (H3.out.1.trans (HR.out.2.mono hs3)).trans (hb4.mono (by omega))
              have cb4 := Below.seen hb04 HB.out.2.1
              have HT4 := Lib.hid (show TRun3 w2 wq w4 os x U A7 L c7 0 u4 os from ⟨by simp, rfl, HT.out.out.below hb04, owns_base ho7 (by omega), (GrownIn.of_below hb04).mono (fun _ _ h => by omega)⟩)
              have HU := Lib.hid (show _ ∧ _ ∧ _ from ⟨hUf, hcons, hLL⟩)
              clear hpd hsd ho7 hb4 hb04 hU hUU hUf hcons hLL hnc7 hcm7
              go_wp2
              go_loopw [4, 42] (fun v jv wz => ∃ (j : Nat) (os' : List Tv), j ≤ L ∧ jv = .int .i64 j ∧ Hid (TRun3 w2 wq wz os x U A7 L c7 j v os')) (fun _ jv _ => L - (intOf jv).toNat)
              case atStart => exact ⟨0, os, Nat.zero_le _, rfl, HT4⟩
              case round =>
                obtain ⟨j, os', hj, rfl, HR3⟩ := hrel
                have hsq := HR3.out.grown.size
                have hszr : w2.heap.size ≤ wr.heap.size := by omega
                have cbr := HR3.out.grown.cell HB.out.2.1 (by show ¬ w2.heap.size ≤ bi; omega)
                have cgr := HR3.out.grown.cell HB.out.2.2.2 (by show ¬ w2.heap.size ≤ g; omega)
                have fbr : wr.frozen? ⟨bi, 0, none⟩ = false := by
                  have := HR3.out.grown.block bi (by omega) (by show ¬ w2.heap.size ≤ bi; omega)
                  simp [World.frozen?, this, HB.out.1]
                by_cases hjl : j < L
                · obtain ⟨g7, rfl, hg7⟩ := owns_some' HR3.out.ivs (by omega)
                  obtain ⟨y, hy⟩ : ∃ y, U[j]? = some y := ⟨_, List.getElem?_eq_getElem (by have := HU.out.2.2; omega)⟩
                  have e0 := owns_at HR3.out.ivs encI_len hy (j := 0) (u := .int .i64 y.1) rfl
                  have e1 := owns_at HR3.out.ivs encI_len hy (j := 1) (u := .int .i64 y.2) rfl
                  simp only [Nat.add_zero] at e0
                  have hyf := HU.out.1 y (List.mem_of_getElem? hy)
                  have hol := HR3.out.len
                  have hof := HT.out.few
                  have holw : Below w.heap.size w wr := HT.out.old.trans (HR3.out.grown.below (fun b hb => by omega) hs0)
                  have hcl5 := fun W (hb : Below w.heap.size w W) => cloneLabel x.A x.n x.c x.l W ((HG.out.2.2.2.below hb).more hb.size).lst HG.out.2.2.2.nil (by have := HG.out.2.2.2.few; omega)
                  have hW1 : Below wr.heap.size wr (wr.alloc (.cells #[.int .i64 y.1, .int .i64 y.2] 25)) := (Below.refl _ _).alloc (Nat.le_refl _) _
                  have hk4 : (wr.alloc (.cells #[.int .i64 y.1, .int .i64 y.2] 25)).cell? ⟨bi, 0, none⟩ = some (.slice (some ⟨g, k * 3, none⟩) t q) ∧ (wr.alloc (.cells #[.int .i64 y.1, .int .i64 y.2] 25)).cell? ⟨g, k * 3, none⟩ = some (.slice x.A x.n x.c) ∧ (wr.alloc (.cells #[.int .i64 y.1, .int .i64 y.2] 25)).cell? ⟨wr.heap.size, 0, none⟩ = some (.int .i64 y.1) ∧ (wr.alloc (.cells #[.int .i64 y.1, .int .i64 y.2] 25)).cell? ⟨wr.heap.size, 1, none⟩ = some (.int .i64 y.2) := ⟨Below.seen hW1 cbr, Below.seen hW1 cgr, by simp, by simp⟩
                  have hn1 : u4.ownBlock ≠ some bi := fun e => by have := (HR3.out.out.row.lt _ e).1; omega
                  have hn2 : u4.ownBlock ≠ some g := fun e => by have := (HR3.out.out.row.lt _ e).1; omega
                  have hn3 : u4.ownBlock ≠ some wr.heap.size := fun e => by have := (HR3.out.out.row.lt _ e).2; omega
                  have hOW : (wr.alloc (.cells #[.int .i64 y.1, .int .i64 y.2] 25)).ownsRow w2.heap.size 27 3 u4 os'.length (os'.flatMap encTb) := owns_below HR3.out.out.row hW1
                  have HW := Lib.hid (show _ ∧ _ ∧ _ ∧ _ ∧ _ ∧ _ from ⟨hcl5, hW1, hk4, holw, hOW, hy⟩)
                  have HN := Lib.hid (show _ ∧ _ ∧ _ ∧ _ from ⟨hn1, hn2, hn3, hyf⟩)
                  obtain ⟨hi, hz0, hz1, hz2⟩ := HI.out
                  clear hcl5 hW1 hk4 holw hOW hy hn1 hn2 hn3 hyf
                  go_wp2_with fail
                  go_region_held3 (fun w' => w'.cell? ⟨bi, 0, none⟩ = some (.slice (some ⟨g, k * 3, none⟩) t q) ∧ w'.cell? ⟨g, k * 3, none⟩ = some (.slice x.A x.n x.c) ∧ w'.cell? ⟨wr.heap.size, 0, none⟩ = some (.int .i64 y.1) ∧ w'.cell? ⟨wr.heap.size, 1, none⟩ = some (.int .i64 y.2)) (first | exact k7 | exact k6 | exact HW.out.2.2.1 | go_keep)
                    (first
                      | (go_at_call 35; refine (HW.out.1 _ (HW.out.2.2.2.1.trans ((HW.out.2.1.drew).mono (by omega)))).mono ?_; rintro e w5 ⟨v5, rfl, ho5, hb5'⟩; obtain ⟨A5, c5, rfl, _, _⟩ := owns_slice ho5; have hb5 : Below (wr.alloc (.cells #[.int .i64 y.1, .int .i64 y.2] 25)).heap.size (wr.alloc (.cells #[.int .i64 y.1, .int .i64 y.2] 25)) w5 := (Below.refl _ (wr.alloc (.cells #[.int .i64 y.1, .int .i64 y.2] 25))).drew.trans hb5'; have k6 := seen4 hb5 HW.out.2.2.1; have hs5 : wr.heap.size + 1 ≤ w5.heap.size := (by have := hb5.size; simp at this; omega); have hO5 := owns_below HW.out.2.2.2.2.1 hb5; have H5 := Lib.hid (show _ ∧ _ ∧ _ from ⟨(show World.ownsRow w5 (wr.alloc (.cells #[.int .i64 y.1, .int .i64 y.2] 25)).heap.size _ _ _ _ _ from ho5), hb5, hO5⟩); clear ho5 hb5 hb5' hO5)
                      | (refine step_append_lies _ (by rfl) _ _ _ (by rfl) w2.heap.size 27 i0 _ 3 40 Tryz.underlying22 hi hz0 hz1 hz2 rfl (by omega) _ os'.length (os'.flatMap encTb) (by rfl) (by exact H5.out.2.2.alloc _) ⟨w5.heap.size, 0, none⟩ 1 1 [.slice A5 x.n c5, .int .i64 y.1, .int .i64 y.2] (by rfl) (by rfl) (by exact cells_newL w5 [.slice A5 x.n c5, .int .i64 y.1, .int .i64 y.2] _) (by simp [Value.oneCell']) (by omega) (by unfold maxLen; omega) (by omega) (by simp; omega) (w5.heap.size + 1) (by simp) ?_; intro g6 c6' w6 hown6 hg6 hl6 hlt6; have hba : Below w5.heap.size w5 (w5.alloc (.cells #[.slice A5 x.n c5, .int .i64 y.1, .int .i64 y.2] 27)) := (Below.refl _ _).alloc (Nat.le_refl _) _; have k7 := seen4g (show World.grownBy (w5.alloc (.cells #[.slice A5 x.n c5, .int .i64 y.1, .int .i64 y.2] 27)) w6 _ from hg6) (seen4 hba k6) HN.out.1 HN.out.2.1 HN.out.2.2.1 HN.out.2.2.1; have H6 := Lib.hid (HR3.out.step HW.out.2.2.2.2.2 HN.out.2.2.2 hszr HW.out.2.1 H5.out.1 H5.out.2.1 hba hown6 hg6); clear hown6 hg6 hl6 hlt6 hba) | fail)
                  all_goals
                    go_wp2
                    go_roundw
                    case measure => simp [intOf]; omega
                    case rel => exact ⟨j + 1, _, hjl, by simp, (by have h6 := H6; have hl := HR3.out.len; rw [hl] at h6; exact h6)⟩
                · obtain rfl : L = j := by omega
                  have hRS := HR3.out
                  have HS := Lib.hid (show _ ∧ _ from ⟨hRS, HT.out⟩)
                  clear hRS
                  by_cases htq : t = q
                  · have htqi : (t : Int) = (q : Int) := by omega
                    have hRn := HS.out.2.step HS.out.1 HU.out.2.2 hUl ht2 hm hmq hqc hlt hbi2 (by omega) hg2l hgg.2 hsr HU.out.2.1 (A'' := some ⟨g, k * 3, none⟩) (fun h => absurd h (by omega))
                    rw [Nat.sub_self, show q - t = 0 by omega] at hRn
                    have HRn := Lib.hid hRn
                    clear hRn HS
                    go_wp2
                    go_roundg (n - (k + t))
                    case measure => omega
                    case rel => exact ⟨k + t, _, by omega, Nat.le_refl _, HRn⟩
                  · have htqi : (t : Int) < (q : Int) := by omega
                    have hRn := HS.out.2.step HS.out.1 HU.out.2.2 hUl ht2 hm hmq hqc hlt hbi2 (by omega) hg2l hgg.2 hsr HU.out.2.1 (A'' := some ⟨g, k * 3 + t * 3, none⟩) (fun h => absurd h (by omega))
                    rw [Nat.sub_self] at hRn
                    have HRn := Lib.hid hRn
                    clear hRn HS
                    go_wp2
                    go_roundg (n - (k + t))
                    case measure => omega
                    case rel => exact ⟨k + t, _, by omega, Nat.le_refl _, HRn⟩
      · obtain rfl : n = k := by omega
        obtain rfl : m = 0 := by omega
        have hlaw := HT.out.law
        rw [List.drop_of_length_le (by have := HP.out.1.length_eq; have := HL.out.1.1; omega)] at hlaw
        have hnil' : runsT labelsC n (List.map Tv.tb ([] : List Tv)) = [] := by cases n <;> rfl
        rw [hnil', List.append_nil] at hlaw
        have hend : os.map Tv.tb = tombsU labelsC (ys0.map Tv.tb) := by
          rw [hlaw]
          refine runsT_is labelsC_cmp3 (by rw [List.length_map]; have := HP.out.1.length_eq; have := HL.out.1.1; omega) ?_ (HP.out.1.map _)
          rw [List.pairwise_map]
          exact HP.out.2
        have HE := Lib.hid hend
        clear hlaw hend hnil' hbx hA'
        go_wp2
        go_ret
        exact ⟨_, os, rfl, HT.out.out.base (by omega), HE.out, HT.out.old⟩
end Go.Proofs.YtihidnmpngeohaaGreat
