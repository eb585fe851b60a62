/- The document's Tombs: the walk. -/
import Derived.Test.YtihidnmpngeohaaGreatRefTombs
namespace Go.Proofs.YtihidnmpngeohaaGreat
open Go.RowKit Go.Lib

theorem quiet_add {P : Program} {f : FuncId} {args : Array Value} {w : World} {a n : Nat} {v : Value} (h : Calls P f args (w.drewN (a + n)) fun e w' => e = .returned v ∧ ∃ m, w' = (w.drewN (a + n)).drewN m) : Calls P f args (w.drewN (a + n)) fun e w'' => e = .returned v ∧ ∃ m, w'' = w.drewN (a + m) :=
  h.mono fun _ _ ⟨he, m, hm⟩ => ⟨he, n + m, by rw [hm, World.drewN_drewN, Nat.add_assoc]⟩
/-- What the document's Tombs hands back. -/
def RTombsPost (r : List (List Lb × (Int × Int))) (w : World) (e : Ending) (w' : World) : Prop :=
  ∃ v os, e = .returned v ∧ OutTb w' w.heap.size v os ∧ os.map Tv.tb = tombsU labelsC r ∧ Below w.heap.size w w'
/-- The tombs of the first sets. -/
structure TOut (wq wr : World) (ks : List (List Lb)) (r : List (List Lb × (Int × Int))) (t : Nat) (v : Value) (os : List Tv) : Prop where
  law : os.map Tv.tb = tombsOf labelsC (ks.take t) r
  out : OutTb wr wq.heap.size v os
  old : Below wq.heap.size wq wr
  len : os.length ≤ t * 1000
theorem TOut.next {wq wo wb wz : World} {ks : List (List Lb)} {r : List (List Lb × (Int × Int))} {t L c7 : Nat} {v v' : Value} {os os' : List Tv} {z : Tv} {A7 : Option Addr} (h : TOut wq wo ks r t v os) (hk : ks[t]? = some z.l) (hb : Below wo.heap.size wo wb)
    (T : TRun3 wq wb wz os z (ivU (goneK labelsC r z.l)) A7 L c7 L v' os') (hL : (ivU (goneK labelsC r z.l)).length = L) (hs : L ≤ 1000) : TOut wq wz ks r (t + 1) v' os' where
  law := by
    obtain ⟨g1, g2⟩ := List.getElem?_eq_some_iff.1 hk
    rw [T.law, List.take_of_length_le (by omega), h.law, List.take_succ_eq_append_getElem g1, g2]
    unfold tombsOf
    rw [List.flatMap_append, List.flatMap_singleton]
  out := T.out
  old := (h.old.trans (hb.mono h.old.size)).trans (T.grown.below (fun b hb => hb) (Nat.le_trans h.old.size hb.size))
  len := by have := T.len; have := h.len; omega
set_option maxHeartbeats 8000000 in
set_option maxRecDepth 100000 in
theorem refTombs_any (A : Option Addr) (n c : Nat) (ys : List Tv) (w : World) (hL : Lst encTb 3 w w.heap.size A n ys) (hn : n ≤ 1000) (hT : ∀ y ∈ ys, Tat w w.heap.size y) :
    Calls Tryz.prog 13 #[.slice A n c] w (RTombsPost (ys.map Tv.tb) w) := by
  obtain ⟨i0, hi, hz0, hz1, hz2⟩ := info_parts Tryz.infoLabels
  have HI := Lib.hid (show _ ∧ _ ∧ _ ∧ _ from ⟨hi, hz0, hz1, hz2⟩)
  clear hi hz0 hz1 hz2
  obtain ⟨i1, hi, hz0, hz1, hz2⟩ := info_parts Tryz.infoLabel
  have HJ := Lib.hid (show _ ∧ _ ∧ _ ∧ _ from ⟨hi, hz0, hz1, hz2⟩)
  clear hi hz0 hz1 hz2
  obtain ⟨i2, hi, hz0, hz1, hz2⟩ := info_parts Tryz.infoTomb
  have HK := Lib.hid (show _ ∧ _ ∧ _ ∧ _ from ⟨hi, hz0, hz1, hz2⟩)
  clear hi hz0 hz1 hz2
  have HL := Lib.hid (show _ ∧ _ from ⟨hL, hT⟩)
  have hln := hL.1
  clear hL hT
  go_enter Tryz.func13, Tryz.ntmps13
  go_wp2
  go_loopw [3, 4] (fun v iv wr => ∃ (i : Nat) (ss : List Tv), i ≤ n ∧ iv = .int .i64 i ∧ Hid (TSets w wr ys i v ss)) (fun _ iv _ => n - (intOf iv).toNat)
  case atStart => exact ⟨0, [], Nat.zero_le _, rfl, Lib.hid ⟨World.ownsRow_nil _ _ _ _, rfl, by simp, Below.refl _ _, Nat.le_refl _⟩⟩
  case round =>
    obtain ⟨i, ss, hi, rfl, HS⟩ := hrel
    obtain ⟨wq, rfl⟩ : ∃ wq : World, wq = wr := ⟨_, rfl⟩
    have hsw := HS.out.old.size
    obtain ⟨A3, c3, rfl, hmc, hcm⟩ := owns_slice HS.out.row
    obtain ⟨m, hm⟩ : ∃ m, ss.length = m := ⟨_, rfl⟩
    have hrow := HS.out.row
    have hlenm := HS.out.len
    rw [hm] at hmc hrow hlenm ⊢
    obtain ⟨A3', c3', e3, _, hL3⟩ := ownsRow_lst hrow hm encV_len
    injection e3 with e31 _ e33
    subst e31 e33
    have hnil3 : A3 = none → m = 0 ∧ c3 = 0 := fun e => by
      subst e
      rcases hrow.2 with ⟨h', h0⟩ | ⟨_, _, _, h', _⟩
      · injection h' with _ _ h'; exact ⟨h0, h'⟩
      · cases h'
    by_cases hlt : i < n
    · obtain ⟨b, off, y, rfl, hb, hy, hcl⟩ := HL.out.1.at hlt
      have hty := HL.out.2 y (List.mem_of_getElem? hy)
      have hSet := HS.out
      have H3 := Lib.hid (show _ ∧ _ ∧ _ ∧ _ ∧ _ ∧ _ from ⟨hL3, hnil3, hm, hy, hcl, hty⟩)
      have HB := Lib.hid (show _ ∧ _ from ⟨hb, hrow⟩)
      have ii : (i : Int) < (n : Int) := by omega
      clear hL3 hnil3 hy hcl hty hSet hrow hm hb
      go_wp2
      go_loopw [5] (fun kv wz => ∃ k : Nat, k ≤ m ∧ kv = .int .i64 k ∧ Hid ((∃ q, wz = wq.drewN q) ∧ ∀ j z, j < k → ss[j]? = some z → labelsC z.l y.l < 0)) (fun kv _ => m - (intOf kv).toNat)
      case atStart => exact ⟨0, Nat.zero_le _, rfl, Lib.hid ⟨⟨0, rfl⟩, fun j z h => absurd h (by omega)⟩⟩
      case round =>
        obtain ⟨k, hk, rfl, HR⟩ := hrel
        have hcell : ∀ p, wr.cell? p = wq.cell? p := fun p => by obtain ⟨q, hq⟩ := HR.out.1; rw [hq]; rfl
        have hsz : wr.heap.size = wq.heap.size := by obtain ⟨q, hq⟩ := HR.out.1; rw [hq]; rfl
        have hbr : Below wq.heap.size wq wr := by obtain ⟨q, hq⟩ := HR.out.1; rw [hq]; exact below_drewN (Below.refl _ _) q
        have c0 := (hcell _).trans ((HS.out.old.cell (p := ⟨b, off + i * 3 + 0, none⟩) HB.out.1).trans (H3.out.2.2.2.2.1 0 _ rfl))
        simp only [Nat.add_zero] at c0
        have HQ := Lib.hid (show _ ∧ _ ∧ _ from ⟨hcell, hsz, hbr⟩)
        clear hcell hsz hbr
        by_cases hkm : k < m
        · obtain ⟨g3, off3, z, rfl, hg3, hz, hzc⟩ := H3.out.1.at hkm
          have d0 := (HQ.out.1 _).trans (hzc 0 _ rfl)
          rw [Nat.mul_one, Nat.add_zero] at d0
          have htz := HL.out.2 z (HS.out.mem z (List.mem_of_getElem? hz))
          have hcon : ∀ W : World, (∃ q, W = wr.drewN q) → Calls Tryz.prog 43 #[.slice z.A z.n z.c, .slice y.A y.n y.c] W fun e w' => e = .returned (.int .i64 (labelsC z.l y.l)) ∧ ∃ q, w' = W.drewN q := fun W ⟨q, hq⟩ => by
            have e1 : ∀ p, p.block < wq.heap.size → W.cell? p = wq.cell? p := fun p _ => by rw [hq]; exact HQ.out.1 p
            have e2 : W.heap.size = wq.heap.size := by rw [hq]; exact HQ.out.2.1
            refine refCmp_q z.A y.A z.n z.c y.n y.c z.l y.l W ?_ ?_ (by have := htz.few; omega) (by have := H3.out.2.2.2.2.2.few; omega)
            · rw [e2]; exact ((htz.on HS.out.old).lst).keep e1
            · rw [e2]; exact ((H3.out.2.2.2.2.2.on HS.out.old).lst).keep e1
          obtain ⟨r, hr⟩ : ∃ r, labelsC z.l y.l = r := ⟨_, rfl⟩
          rw [hr] at hcon
          have HC := Lib.hid (show _ ∧ _ ∧ _ ∧ _ from ⟨hcon, hz, hr, hg3⟩)
          have kk : (k : Int) < (m : Int) := by omega
          have kk0 : (0 : Int) ≤ (k : Int) := by omega
          clear hzc htz hcon hz hr hg3
          by_cases hr0 : r < 0
          · go_wp2_with (go_quiet (first | (go_at_call 43; refine Calls.quiet_of (HC.out.1 _ ⟨_, rfl⟩))))
            go_roundw
            case measure => simp [intOf]; omega
            case rel =>
              refine ⟨k + 1, hkm, by simp, Lib.hid ⟨?_, fun j z' hj hz' => ?_⟩⟩
              · obtain ⟨q, hq⟩ := HR.out.1
                exact ⟨_, by rw [hq]; exact World.drewN_drewN _ _ _⟩
              · by_cases hjk : j = k
                · subst hjk
                  rw [HC.out.2.1] at hz'
                  rw [← Option.some.inj hz', HC.out.2.2.1]; exact hr0
                · exact HR.out.2 j z' (by omega) hz'
          · by_cases hre : r = 0
            · subst hre
              have e00 : ((0 : Int) == 0) = true := rfl
              have hst : ∀ w', Below wq.heap.size wq w' → TSets w w' ys (i + 1) (.slice (some ⟨g3, off3, none⟩) m c3) ss := fun w' hb => by
                have := HS.out.stay H3.out.2.2.2.1 (by have := H3.out.2.2.1; omega) HR.out.2 HC.out.2.1 HC.out.2.2.1 hb
                rw [H3.out.2.2.1] at this
                exact this
              have HST := Lib.hid hst
              clear hst
              go_wp2_with (go_quiet (first | (go_at_call 43; first | refine Calls.quiet_of (HC.out.1 _ ⟨_, rfl⟩) | refine quiet_add (HC.out.1 _ ⟨_, rfl⟩))))
              go_roundw
              case measure => simp [intOf]; omega
              case rel => exact ⟨i + 1, ss, hlt, by simp, Lib.hid (HST.out _ (by first | exact below_drewN HQ.out.2.2 _ | exact below_drewN (below_drewN HQ.out.2.2 _) _ | exact HQ.out.2.2))⟩
            · have hre' : (r == 0) = false := beq_eq_false_iff_ne.2 hre
              have hnx : ∀ v' w', w'.ownsRow w.heap.size 23 1 v' (m + 1) (((ss.take k).flatMap encV ++ encV y) ++ (ss.drop k).flatMap encV) → Below wq.heap.size wq w' → TSets w w' ys (i + 1) v' (ss.take k ++ y :: ss.drop k) := fun v' w' ho hb => by
                have hm := H3.out.2.2.1
                refine HS.out.next H3.out.2.2.2.1 (by omega) HR.out.2 (fun z' hz' => ?_) (by rw [hm]; exact ho) (HS.out.old.trans (hb.mono HS.out.old.size))
                rw [HC.out.2.1] at hz'
                rw [← Option.some.inj hz', HC.out.2.2.1]
                omega
              have htk : ∀ wc, Below wq.heap.size wq wc → Lst encV 1 wc wc.heap.size (some ⟨g3, off3, none⟩) k (ss.take k) := fun wc hb => ((H3.out.1.take (Nat.le_of_lt hkm)).below hb).more hb.size
              have hdr : ∀ wc, Below wq.heap.size wq wc → Lst encV 1 wc wc.heap.size (some ⟨g3, off3 + k, none⟩) (m - k) (ss.drop k) := fun wc hb => ((H3.out.1.dropV (Nat.le_of_lt hkm)).below hb).more hb.size
              have hcy : ∀ wc, Below wq.heap.size wq wc → wc.cell? ⟨b, off + i * 3, none⟩ = some (.slice y.A y.n y.c) := fun wc hb => by
                have := hb.cell (p := ⟨b, off + i * 3 + 0, none⟩) (Nat.lt_of_lt_of_le HB.out.1 HS.out.old.size)
                rw [Nat.add_zero] at this
                rw [this]
                have c1 := (HS.out.old.cell (p := ⟨b, off + i * 3 + 0, none⟩) HB.out.1).trans (H3.out.2.2.2.2.1 0 _ rfl)
                exact c1
              have HN := Lib.hid (show _ ∧ _ ∧ _ ∧ _ from ⟨hnx, htk, hdr, hcy⟩)
              clear hnx htk hdr hcy
              obtain ⟨hi, hz0, hz1, hz2⟩ := HI.out
              go_wp2_with (first | go_quiet (first | (go_at_call 43; first | refine Calls.quiet_of (HC.out.1 _ ⟨_, rfl⟩) | refine quiet_add (HC.out.1 _ ⟨_, rfl⟩))) | (at_builtin; refine wpList_append_sets (B := wq.heap.size) (HN.out.2.1 _ (by first | exact below_drewN HQ.out.2.2 _ | exact below_drewN (below_drewN HQ.out.2.2 _) _ | exact HQ.out.2.2)) (fun e => by cases e) hi hz0 hz1 hz2 (World.ownsRow_nil _ _ _ _) (by first | exact (below_drewN HQ.out.2.2 0).size | exact HQ.out.2.2.size) (by omega) (by omega) _ _ rfl rfl rfl rfl ?_))
              intro v4 w4 ho4 hg4
              have hb4 : Below wq.heap.size wq w4 := by
                first
                | exact (below_drewN HQ.out.2.2 _).grown hg4 HQ.out.2.2.size (fun b hb => by cases hb)
                | exact HQ.out.2.2.grown hg4 HQ.out.2.2.size (fun b hb => by cases hb)
              have hs4 := hb4.size
              have hy4 := HN.out.2.2.2 w4 hb4
              have H4 := Lib.hid (show _ ∧ _ from ⟨ho4, hb4⟩)
              clear ho4 hg4 hb4
              go_wp2_with (at_builtin; refine wpList_append_own _ rfl _ _ 43 rfl wq.heap.size 23 i0 _ 1 24 Tryz.underlying43 hi hz0 hz1 hz2 rfl (by omega) _ k ((ss.take k).flatMap encV) rfl (H4.out.1.alloc _) ⟨w4.heap.size, 0, none⟩ 1 1 (encV y) rfl rfl (fun j u h => cells_newL _ (encV y) _ j u h) (fun u hu => oneV [y] u (by simpa using hu)) (by unfold maxLen; omega) (by omega) (by simp; omega) ?_)
              intro v5 w5 ho5 hg5 _
              have hb5 : Below wq.heap.size wq w5 := (H4.out.2.alloc hs4 _).grown hg5 (by simp; omega) (fun b hb => (H4.out.1.lt b hb).1)
              have hs5 := hb5.size
              have H5 := Lib.hid (show _ ∧ _ from ⟨ho5, hb5⟩)
              have hck : ¬ c3 = k := by omega
              clear ho5 hg5 hb5 hy4
              go_wp2_with (at_builtin; refine wpList_append_sets (B := wq.heap.size) (A' := some ⟨g3, off3 + k, none⟩) (n' := m - k) (c' := c3 - k) (src := ss.drop k) (HN.out.2.2.1 _ H5.out.2) (fun e => by cases e) hi hz0 hz1 hz2 H5.out.1 hs5 (by omega) (by omega) _ _ rfl rfl rfl (by first | rfl | (show Value.slice _ _ _ = Value.slice _ _ _; simp [hck])) ?_)
              intro v6 w6 ho6 hg6
              have hnw : TSets w w6 ys (i + 1) v6 (ss.take k ++ y :: ss.drop k) := HN.out.1 v6 w6 (owns_base (by rw [show m + 1 = k + 1 + (m - k) by omega, List.append_assoc]; exact ho6) HS.out.old.size) (H5.out.2.grown hg6 hs5 (fun b hb => (H5.out.1.lt b hb).1))
              have HW := Lib.hid hnw
              clear ho6 hg6 hnw hi hz0 hz1 hz2
              go_wp2
              go_roundw
              case measure => simp [intOf]; omega
              case rel => exact ⟨i + 1, _, hlt, by simp, HW⟩
        · obtain rfl : m = k := by omega
          have hdm : ss.drop m = [] := List.drop_eq_nil_of_le (by have := H3.out.2.2.1; omega)
          have hnx : ∀ v' w', w'.ownsRow w.heap.size 23 1 v' (m + 1) (((ss.take m).flatMap encV ++ encV y) ++ (ss.drop m).flatMap encV) → Below wq.heap.size wq w' → TSets w w' ys (i + 1) v' (ss.take m ++ y :: ss.drop m) := fun v' w' ho hb => by
            have hm := H3.out.2.2.1
            refine HS.out.next H3.out.2.2.2.1 (by omega) HR.out.2 (fun z' hz' => ?_) (by rw [hm]; exact ho) (HS.out.old.trans (hb.mono HS.out.old.size))
            rw [List.getElem?_eq_none (by omega)] at hz'
            cases hz'
          have htk : ∀ wc, Below wq.heap.size wq wc → Lst encV 1 wc wc.heap.size A3 m (ss.take m) := fun wc hb => ((H3.out.1.take (Nat.le_refl m)).below hb).more hb.size
          have hcy : ∀ wc, Below wq.heap.size wq wc → wc.cell? ⟨b, off + i * 3, none⟩ = some (.slice y.A y.n y.c) := fun wc hb => by
            have := hb.cell (p := ⟨b, off + i * 3 + 0, none⟩) (Nat.lt_of_lt_of_le HB.out.1 HS.out.old.size)
            rw [Nat.add_zero] at this
            rw [this]
            have c1 := (HS.out.old.cell (p := ⟨b, off + i * 3 + 0, none⟩) HB.out.1).trans (H3.out.2.2.2.2.1 0 _ rfl)
            exact c1
          obtain ⟨hi, hz0, hz1, hz2⟩ := HI.out
          rcases HB.out.2.2 with ⟨h', h0⟩ | ⟨g3, c3', _, h', _⟩
          · injection h' with h1 h2 h3
            subst h0 h1 h3
            have HN := Lib.hid (show _ ∧ _ ∧ _ ∧ _ from ⟨hnx, htk, hdm, hcy⟩)
            clear hnx htk hdm hcy h2
            go_wp2_with (first | go_quiet (fail) | (at_builtin; refine wpList_append_sets (B := wq.heap.size) (HN.out.2.1 _ (by first | exact below_drewN HQ.out.2.2 _ | exact below_drewN (below_drewN HQ.out.2.2 _) _ | exact HQ.out.2.2)) (fun _ => ⟨rfl, rfl⟩) hi hz0 hz1 hz2 (World.ownsRow_nil _ _ _ _) (by first | exact (below_drewN HQ.out.2.2 0).size | exact HQ.out.2.2.size) (by omega) (by omega) _ _ rfl rfl rfl rfl ?_))
            intro v4 w4 ho4 hg4
            have hb4 : Below wq.heap.size wq w4 := by
              first
              | exact (below_drewN HQ.out.2.2 _).grown hg4 HQ.out.2.2.size (fun b hb => by cases hb)
              | exact HQ.out.2.2.grown hg4 HQ.out.2.2.size (fun b hb => by cases hb)
            have hs4 := hb4.size
            have hy4 := HN.out.2.2.2 w4 hb4
            have H4 := Lib.hid (show _ ∧ _ from ⟨ho4, hb4⟩)
            clear ho4 hg4 hb4
            go_wp2_with (at_builtin; refine wpList_append_own _ rfl _ _ 43 rfl wq.heap.size 23 i0 _ 1 24 Tryz.underlying43 hi hz0 hz1 hz2 rfl (by omega) _ _ ((ss.take 0).flatMap encV) rfl (H4.out.1.alloc _) ⟨w4.heap.size, 0, none⟩ 1 1 (encV y) rfl rfl (fun j u h => cells_newL _ (encV y) _ j u h) (fun u hu => oneV [y] u (by simpa using hu)) (by unfold maxLen; omega) (by omega) (by simp; omega) ?_)
            intro v5 w5 ho5 hg5 _
            have hb5 : Below wq.heap.size wq w5 := (H4.out.2.alloc hs4 _).grown hg5 (by simp; omega) (fun b hb => (H4.out.1.lt b hb).1)
            have hs5 := hb5.size
            have H5 := Lib.hid (show _ ∧ _ from ⟨ho5, hb5⟩)
            clear ho5 hg5 hb5 hy4
            go_wp2_with (at_builtin; refine wpList_append_sets (B := wq.heap.size) (A' := none) (n' := 0 - 0) (c' := 0) (src := []) (Lst.nil) (fun _ => ⟨rfl, rfl⟩) hi hz0 hz1 hz2 H5.out.1 hs5 (by omega) (by omega) _ _ rfl rfl rfl (by first | rfl | (show Value.slice _ _ _ = Value.slice _ _ _; simp; done) | (show Value.slice _ _ _ = Value.slice _ _ _; simp; omega) | (show Value.slice _ _ _ = Value.slice _ _ _; simp [hck])) ?_)
            intro v6 w6 ho6 hg6
            have hnw : TSets w w6 ys (i + 1) v6 (ss.take 0 ++ y :: ss.drop 0) := HN.out.1 v6 w6 (owns_base (by simpa [HN.out.2.2.1] using ho6) HS.out.old.size) (H5.out.2.grown hg6 hs5 (fun b hb => (H5.out.1.lt b hb).1))
            have HW := Lib.hid hnw
            clear ho6 hg6 hnw hi hz0 hz1 hz2
            go_wp2
            go_roundw
            case measure => simp [intOf]; omega
            case rel => exact ⟨i + 1, _, hlt, by simp, HW⟩
          · injection h' with h1 h2 h3
            subst h1
            have HN := Lib.hid (show _ ∧ _ ∧ _ ∧ _ from ⟨hnx, htk, hdm, hcy⟩)
            clear hnx htk hdm hcy h2 h3
            by_cases hck : c3 = m
            · go_wp2_with (first | go_quiet (fail) | (at_builtin; refine wpList_append_sets (B := wq.heap.size) (HN.out.2.1 _ (by first | exact below_drewN HQ.out.2.2 _ | exact below_drewN (below_drewN HQ.out.2.2 _) _ | exact HQ.out.2.2)) (fun e => by cases e) hi hz0 hz1 hz2 (World.ownsRow_nil _ _ _ _) (by first | exact (below_drewN HQ.out.2.2 0).size | exact HQ.out.2.2.size) (by omega) (by omega) _ _ rfl rfl rfl rfl ?_))
              intro v4 w4 ho4 hg4
              have hb4 : Below wq.heap.size wq w4 := by
                first
                | exact (below_drewN HQ.out.2.2 _).grown hg4 HQ.out.2.2.size (fun b hb => by cases hb)
                | exact HQ.out.2.2.grown hg4 HQ.out.2.2.size (fun b hb => by cases hb)
              have hs4 := hb4.size
              have hy4 := HN.out.2.2.2 w4 hb4
              have H4 := Lib.hid (show _ ∧ _ from ⟨ho4, hb4⟩)
              clear ho4 hg4 hb4
              go_wp2_with (at_builtin; refine wpList_append_own _ rfl _ _ 43 rfl wq.heap.size 23 i0 _ 1 24 Tryz.underlying43 hi hz0 hz1 hz2 rfl (by omega) _ _ ((ss.take m).flatMap encV) rfl (H4.out.1.alloc _) ⟨w4.heap.size, 0, none⟩ 1 1 (encV y) rfl rfl (fun j u h => cells_newL _ (encV y) _ j u h) (fun u hu => oneV [y] u (by simpa using hu)) (by unfold maxLen; omega) (by omega) (by simp; omega) ?_)
              intro v5 w5 ho5 hg5 _
              have hb5 : Below wq.heap.size wq w5 := (H4.out.2.alloc hs4 _).grown hg5 (by simp; omega) (fun b hb => (H4.out.1.lt b hb).1)
              have hs5 := hb5.size
              have H5 := Lib.hid (show _ ∧ _ from ⟨ho5, hb5⟩)
              clear ho5 hg5 hb5 hy4
              go_wp2_with (at_builtin; refine wpList_append_sets (B := wq.heap.size) (A' := some ⟨g3, 0, none⟩) (n' := m - m) (c' := c3 - m) (src := []) (⟨by simp, fun h0 => absurd h0 (by omega)⟩) (fun e => by cases e) hi hz0 hz1 hz2 H5.out.1 hs5 (by omega) (by omega) _ _ rfl rfl rfl (by first | rfl | (show Value.slice _ _ _ = Value.slice _ _ _; simp; done) | (show Value.slice _ _ _ = Value.slice _ _ _; simp; omega) | (show Value.slice _ _ _ = Value.slice _ _ _; simp [hck])) ?_)
              intro v6 w6 ho6 hg6
              have hnw : TSets w w6 ys (i + 1) v6 (ss.take m ++ y :: ss.drop m) := HN.out.1 v6 w6 (owns_base (by simpa [HN.out.2.2.1] using ho6) HS.out.old.size) (H5.out.2.grown hg6 hs5 (fun b hb => (H5.out.1.lt b hb).1))
              have HW := Lib.hid hnw
              clear ho6 hg6 hnw hi hz0 hz1 hz2
              go_wp2
              go_roundw
              case measure => simp [intOf]; omega
              case rel => exact ⟨i + 1, _, hlt, by simp, HW⟩
            · go_wp2_with (first | go_quiet (fail) | (at_builtin; refine wpList_append_sets (B := wq.heap.size) (HN.out.2.1 _ (by first | exact below_drewN HQ.out.2.2 _ | exact below_drewN (below_drewN HQ.out.2.2 _) _ | exact HQ.out.2.2)) (fun e => by cases e) hi hz0 hz1 hz2 (World.ownsRow_nil _ _ _ _) (by first | exact (below_drewN HQ.out.2.2 0).size | exact HQ.out.2.2.size) (by omega) (by omega) _ _ rfl rfl rfl rfl ?_))
              intro v4 w4 ho4 hg4
              have hb4 : Below wq.heap.size wq w4 := by
                first
                | exact (below_drewN HQ.out.2.2 _).grown hg4 HQ.out.2.2.size (fun b hb => by cases hb)
                | exact HQ.out.2.2.grown hg4 HQ.out.2.2.size (fun b hb => by cases hb)
              have hs4 := hb4.size
              have hy4 := HN.out.2.2.2 w4 hb4
              have H4 := Lib.hid (show _ ∧ _ from ⟨ho4, hb4⟩)
              clear ho4 hg4 hb4
              go_wp2_with (at_builtin; refine wpList_append_own _ rfl _ _ 43 rfl wq.heap.size 23 i0 _ 1 24 Tryz.underlying43 hi hz0 hz1 hz2 rfl (by omega) _ _ ((ss.take m).flatMap encV) rfl (H4.out.1.alloc _) ⟨w4.heap.size, 0, none⟩ 1 1 (encV y) rfl rfl (fun j u h => cells_newL _ (encV y) _ j u h) (fun u hu => oneV [y] u (by simpa using hu)) (by unfold maxLen; omega) (by omega) (by simp; omega) ?_)
              intro v5 w5 ho5 hg5 _
              have hb5 : Below wq.heap.size wq w5 := (H4.out.2.alloc hs4 _).grown hg5 (by simp; omega) (fun b hb => (H4.out.1.lt b hb).1)
              have hs5 := hb5.size
              have H5 := Lib.hid (show _ ∧ _ from ⟨ho5, hb5⟩)
              clear ho5 hg5 hb5 hy4
              go_wp2_with (at_builtin; refine wpList_append_sets (B := wq.heap.size) (A' := some ⟨g3, m, none⟩) (n' := m - m) (c' := c3 - m) (src := []) (⟨by simp, fun h0 => absurd h0 (by omega)⟩) (fun e => by cases e) hi hz0 hz1 hz2 H5.out.1 hs5 (by omega) (by omega) _ _ rfl rfl rfl (by first | rfl | (show Value.slice _ _ _ = Value.slice _ _ _; simp; done) | (show Value.slice _ _ _ = Value.slice _ _ _; simp; omega) | (show Value.slice _ _ _ = Value.slice _ _ _; simp [hck])) ?_)
              intro v6 w6 ho6 hg6
              have hnw : TSets w w6 ys (i + 1) v6 (ss.take m ++ y :: ss.drop m) := HN.out.1 v6 w6 (owns_base (by simpa [HN.out.2.2.1] using ho6) HS.out.old.size) (H5.out.2.grown hg6 hs5 (fun b hb => (H5.out.1.lt b hb).1))
              have HW := Lib.hid hnw
              clear ho6 hg6 hnw hi hz0 hz1 hz2
              go_wp2
              go_roundw
              case measure => simp [intOf]; omega
              case rel => exact ⟨i + 1, _, hlt, by simp, HW⟩
    · obtain rfl : i = n := by omega
      have hkeys : ss.map (·.l) = keysOf labelsC (ys.map Tv.tb) := by
        have := HS.out.keys
        rwa [List.take_of_length_le (by omega)] at this
      have HE := Lib.hid (show _ ∧ _ ∧ _ ∧ _ from ⟨hL3, hnil3, hm, hkeys⟩)
      clear hL3 hnil3 hm hkeys hrow
      go_wp2
      go_loopw [7, 8] (fun v iv wr => ∃ (t : Nat) (os : List Tv), t ≤ m ∧ iv = .int .i64 t ∧ Hid (TOut wq wr (ss.map (·.l)) (ys.map Tv.tb) t v os)) (fun _ iv _ => m - (intOf iv).toNat)
      case atStart => exact ⟨0, [], Nat.zero_le _, rfl, Lib.hid ⟨by simp [tombsOf], OutTb.nil _ _, Below.refl _ _, by simp⟩⟩
      case round =>
        obtain ⟨t, os, ht, rfl, HO⟩ := hrel
        obtain ⟨wo, rfl⟩ : ∃ wo : World, wo = wr := ⟨_, rfl⟩
        have hso := HO.out.old.size
        have hlo := HO.out.len
        by_cases htm : t < m
        · obtain ⟨g3, off3, z, rfl, hg3, hz, hzc⟩ := HE.out.1.at htm
          have d0 := (HO.out.old.cell (p := ⟨g3, off3 + t * 1 + 0, none⟩) hg3).trans (hzc 0 _ rfl)
          rw [Nat.mul_one, Nat.add_zero] at d0
          have hLw := (HL.out.1.kept HS.out.old).kept HO.out.old
          have hTw : ∀ y ∈ ys, Tat wo wo.heap.size y := fun y hy => ((HL.out.2 y hy).on HS.out.old).on HO.out.old
          have hzw := hTw z (HS.out.mem z (List.mem_of_getElem? hz))
          have HG := Lib.hid (refGone_any A z.A i c z.n z.c ys z.l wo hLw hzw.lst (by omega) (by have := hzw.few; omega) hTw)
          have hkz : (ss.map (·.l))[t]? = some z.l := by rw [List.getElem?_map, hz]; rfl
          have hzq := (HL.out.2 z (HS.out.mem z (List.mem_of_getElem? hz))).on HS.out.old
          have hdw : ∀ W, Below wq.heap.size wq W → W.cell? ⟨g3, off3 + t, none⟩ = some (.slice z.A z.n z.c) := fun W hb => by
            have := (hb.cell (p := ⟨g3, off3 + t * 1 + 0, none⟩) hg3).trans (hzc 0 _ rfl)
            rwa [Nat.mul_one, Nat.add_zero] at this
          have HZ := Lib.hid (show _ ∧ _ ∧ _ ∧ _ from ⟨hzw, hkz, hzq, hdw⟩)
          have tti : (t : Int) < (m : Int) := by omega
          clear hg3 hz hzc hLw hTw hzw hkz hzq hdw
          go_wp2_with fail
          refine HG.out.mono ?_
          rintro e w1 ⟨gv, rfl, ho1, hb1⟩
          obtain ⟨gs, hgs⟩ : ∃ gs, goneK labelsC (ys.map Tv.tb) z.l = gs := ⟨_, rfl⟩
          rw [hgs] at ho1
          obtain ⟨A5, c5, rfl, _, hL5⟩ := ownsRow_lst ho1 rfl encI_len
          have hgl : gs.length ≤ 1000 := by
            rw [← hgs]
            unfold goneK
            rw [List.length_map]
            have := List.length_filter_le (fun x => decide (labelsC x.1 z.l = 0)) (ys.map Tv.tb)
            rw [List.length_map] at this
            omega
          have hgf : ∀ x ∈ gs, Fits x := fun x hx => by
            rw [← hgs] at hx
            obtain ⟨q, hq, rfl⟩ := List.mem_map.1 hx
            obtain ⟨y, hy, rfl⟩ := List.mem_map.1 (List.mem_filter.1 hq).1
            exact (HL.out.2 y hy).fits
          have HI5 := Lib.hid (refIvs_any A5 gs.length c5 gs w1 hL5 (by omega) hgf)
          have H1 := Lib.hid (show _ ∧ _ ∧ _ ∧ _ from ⟨hb1, hgs, hgl, hgf⟩)
          clear ho1 hb1 hgs hgl hgf hL5
          go_wp2_with fail
          refine HI5.out.mono ?_
          rintro e w2 ⟨v7, rfl, ho7, hb7⟩
          have hUd : gs.foldl refIv [] = ivU gs := rfl
          rw [hUd] at ho7
          obtain ⟨U, hU⟩ : ∃ U, ivU gs = U := ⟨_, rfl⟩
          obtain ⟨L, hLL⟩ : ∃ L, U.length = L := ⟨_, rfl⟩
          rw [hU, hLL] at ho7
          have hL1 : L ≤ 1000 := by have := ivU_len gs; rw [hU, hLL] at this; have := H1.out.2.2.1; omega
          have hUf : ∀ y ∈ U, Fits y := by rw [← hU]; exact refIvs_fits H1.out.2.2.2
          have hUg : ivU (goneK labelsC (ys.map Tv.tb) z.l) = U := by rw [H1.out.2.1, hU]
          obtain ⟨A7, c7, rfl, hnc7, hcm7⟩ := owns_slice ho7
          have hb2 : Below wo.heap.size wo w2 := H1.out.1.trans (hb7.mono H1.out.1.size)
          have hs2 := hb2.size
          have HT4 := Lib.hid (show TRun3 wq w2 w2 os z U A7 L c7 0 u7 os from ⟨by simp, rfl, HO.out.out.below hb2, owns_base ho7 (by have := H1.out.1.size; omega), GrownIn.of_below (Below.refl _ _) |>.mono (fun _ _ h => by omega)⟩)
          have HU := Lib.hid (show _ ∧ _ ∧ _ ∧ _ from ⟨hUf, hUg, hLL, hb2⟩)
          clear ho7 hb7 hU hLL hUf hUg hb2 d0 hUd
          go_wp2
          go_loopw [7, 10] (fun v jv wz => ∃ (j : Nat) (os' : List Tv), j ≤ L ∧ jv = .int .i64 j ∧ Hid (TRun3 wq w2 wz os z U A7 L c7 j v os')) (fun _ jv _ => L - (intOf jv).toNat)
          case atStart => exact ⟨0, os, Nat.zero_le _, rfl, HT4⟩
          case round =>
            obtain ⟨j, os', hj, rfl, HR3⟩ := hrel
            have hsr := HR3.out.grown.size
            have hbr : Below wq.heap.size wq wr := (HO.out.old.trans (HU.out.2.2.2.mono hso)).trans (HR3.out.grown.below (fun b hb => hb) (by omega))
            have hszr : wq.heap.size ≤ wr.heap.size := by omega
            by_cases hjl : j < L
            · obtain ⟨g7, rfl, hg7⟩ := owns_some' HR3.out.ivs (by omega)
              obtain ⟨y, hy⟩ : ∃ y, U[j]? = some y := ⟨_, List.getElem?_eq_getElem (by have := HU.out.2.2.1; omega)⟩
              have hyf := HU.out.1 y (List.mem_of_getElem? hy)
              have e0 := owns_at HR3.out.ivs encI_len hy (j := 0) (u := .int .i64 y.1) rfl
              have e1 := owns_at HR3.out.ivs encI_len hy (j := 1) (u := .int .i64 y.2) rfl
              simp only [Nat.add_zero] at e0
              have d1 := HZ.out.2.2.2 wr hbr
              have hzr := HZ.out.2.2.1.on hbr
              have hol := HR3.out.len
              have hzf := hzr.few
              have HY := Lib.hid (show _ ∧ _ ∧ _ ∧ _ ∧ _ from ⟨hy, hyf, e0, e1, hzr⟩)
              have jj : (j : Int) < (L : Int) := by omega
              clear hy hyf e0 e1 hzr
              obtain ⟨hi, hz0, hz1, hz2⟩ := HJ.out
              go_wp2_with (at_builtin; refine wpList_append_labs (B := wr.heap.size) (A' := z.A) (n' := z.n) (c' := z.c) (src := z.l) (xs := []) HY.out.2.2.2.2.lst HY.out.2.2.2.2.nil hi hz0 hz1 hz2 (World.ownsRow_nil _ _ _ _) (Nat.le_refl _) (by omega) (by omega) _ _ rfl rfl rfl rfl ?_)
              intro v5 w5 ho5 hg5
              have ho5' : w5.ownsRow wr.heap.size 29 2 v5 z.n (z.l.flatMap Lb.cells) := by simpa using ho5
              obtain ⟨A8, c8, rfl, _, _⟩ := owns_slice ho5'
              have hb5 : Below wr.heap.size wr w5 := (Below.refl _ _).grown hg5 (Nat.le_refl _) (fun b hb => by cases hb)
              have hs5 := hb5.size
              have e0 := Below.seen hb5 HY.out.2.2.1
              have e1 := Below.seen hb5 HY.out.2.2.2.1
              have hO5 := owns_below HR3.out.out.row hb5
              have H5 := Lib.hid (show _ ∧ _ ∧ _ from ⟨ho5', hb5, hO5⟩)
              clear ho5 ho5' hb5 hg5 hO5 hi hz0 hz1 hz2
              obtain ⟨hi, hz0, hz1, hz2⟩ := HK.out
              go_wp2_with (at_builtin; refine wpList_append_own _ rfl _ _ 22 rfl wq.heap.size 27 i2 _ 3 40 Tryz.underlying22 hi hz0 hz1 hz2 rfl (by omega) _ os'.length (os'.flatMap encTb) rfl (H5.out.2.2.alloc _) ⟨w5.heap.size, 0, none⟩ 1 1 [.slice A8 z.n c8, .int .i64 y.1, .int .i64 y.2] rfl rfl (fun j u h => cells_newL w5 [.slice A8 z.n c8, .int .i64 y.1, .int .i64 y.2] _ j u h) (by simp [Value.oneCell']) (by unfold maxLen; omega) (by omega) (by simp; omega) ?_)
              intro v6 w6 ho6 hg6 _
              have hba : Below w5.heap.size w5 (w5.alloc (.cells #[.slice A8 z.n c8, .int .i64 y.1, .int .i64 y.2] 27)) := (Below.refl _ _).alloc (Nat.le_refl _) _
              have H6 := Lib.hid (HR3.out.step HY.out.1 HY.out.2.1 hszr (Below.refl _ _) H5.out.1 H5.out.2.1 hba (by rw [hol]; exact ho6) hg6)
              clear ho6 hg6 hba hi hz0 hz1 hz2 e0 e1 d1
              go_wp2
              go_roundw
              case measure => simp [intOf]; omega
              case rel => exact ⟨j + 1, _, hjl, by simp, H6⟩
            · obtain rfl : L = j := by omega
              have hrn := HO.out.next HZ.out.2.1 HU.out.2.2.2 (by rw [HU.out.2.1]; exact HR3.out) (by rw [HU.out.2.1]; exact HU.out.2.2.1) hL1
              have HRN := Lib.hid hrn
              clear hrn hbr
              go_wp2
              go_roundw
              case measure => simp [intOf]; omega
              case rel => exact ⟨t + 1, _, htm, by simp, HRN⟩
        · obtain rfl : m = t := by omega
          have hend : os.map Tv.tb = tombsU labelsC (ys.map Tv.tb) := by
            have h1 := HO.out.law
            rw [List.take_of_length_le (by rw [List.length_map, HE.out.2.2.1]; exact Nat.le_refl _), HE.out.2.2.2] at h1
            exact h1
          have HF := Lib.hid hend
          clear hend
          go_wp2
          go_ret
          exact ⟨_, os, rfl, HO.out.out.base HS.out.old.size, HF.out, HS.out.old.trans (HO.out.old.mono HS.out.old.size)⟩
end Go.Proofs.YtihidnmpngeohaaGreat
