/- merge.Series: the walk. -/
import Derived.Test.YtihidnmpngeohaaGreatG29
import Derived.Test.YtihidnmpngeohaaGreatG23
import Derived.Test.YtihidnmpngeohaaGreatG15
import Derived.Carry
namespace Go.Proofs.YtihidnmpngeohaaGreat
open Go.RowKit Go.Lib
open Go.Maps (Keyed)

theorem wpList_lookup_held {P : Program} (w : World) {ops : Array Oper} {rest : List Oper} {o : Oper} {a : Act} {Q : Exit → Act → World → Prop}
    (hg : o.guard = none) (m x : Operand) (t : TypeId) (hop : o.op = Op.lookup t m x false)
    (k e : TypeId) (K : Keyed P k) (ht : P.underlying t = some (.map k e)) (z : Value) (hz : (zeroValue e).run P w = .ok z w) (b n : Nat) (D : DataW Value)
    (hm : a.eval m = .map (some b)) (hown : w.ownsMap P k RV b n D) (key : Value) (kl : Lit) (hx : a.eval x = key) (hkey : keyOf P k key = some kl) (v : Value) (hv : D.atKey kl (.held z) = .held v)
    (hK : wpList P ops Q rest (a.put o.dst v) w) :
    wpList P ops Q (o :: rest) a w := by
  refine wpList_plain hg fun K' hK' => ?_
  obtain ⟨u, ps, hrun, hat⟩ := hown.lookup K ht hz (zd := .held z) (zp := []) rfl hkey
  rw [hv] at hat
  obtain rfl : u = v := by
    unfold RV at hat
    injection hat with hat
    injection hat with hat _
    injection hat
  unfold Oper.wp
  simp [execOp, hop, hm, hx, hrun, Result.andThen]
  exact hK' _ _ hK
/-- What is asked of series that are put together. -/
structure SerIn (w : World) (y : Sv) : Prop where
  sat : Sat w w.heap.size y
  key : (keyL y.l).length ≤ 10000000
theorem Tryz.infoSamples : (Tryz.prog.info? 90).map (fun i => (i.zero, i.size, i.bytes)) = some (some (.slice none 0 0), 1, 24) := by kernel_rfl
theorem grp_len (L : List Lb) (done : List Sv) : (grp L done).length ≤ done.length := List.length_filter_le _ _
theorem cells_not_own {w : World} {b B sz n : Nat} {cs : Array Value} {fz : Nat × Nat} {e e' : TypeId} {v : Value} {xs : List Value} (h : w.heap[b]? = some (Obj.cells cs e fz)) (ho : w.ownsRow B e' sz v n xs) (hne : e ≠ e') : some b ≠ v.ownBlock := fun hk => by
  obtain ⟨cs', fz', h1⟩ := owns_typed ho hk.symm
  rw [h] at h1
  injection h1 with h1
  injection h1 with _ h1
  exact hne h1
theorem cells_not_map {w : World} {b q n : Nat} {cs : Array Value} {fz : Nat × Nat} {e k : TypeId} {R : Value → Option (DataW Value × List MemPlace)} {D : DataW Value} (h : w.heap[b]? = some (Obj.cells cs e fz)) (hm : w.ownsMap Tryz.prog k R q n D) : some b ≠ some q := fun hk => by
  injection hk with hk
  obtain ⟨es, clock, h1, _⟩ := hm
  rw [← hk, h] at h1
  injection h1 with h1
  cases h1
theorem two_cells {w : World} {b : Nat} {u v : Value} {e : TypeId} (h : w.heap[b]? = some (Obj.cells #[u, v] e (0, 0))) : w.cell? ⟨b, 0, none⟩ = some u ∧ w.cell? ⟨b, 1, none⟩ = some v :=
  ⟨by rw [cell_of_row w b 0 _ _ _ h]; rfl, by rw [cell_of_row w b 1 _ _ _ h]; rfl⟩
theorem Tryz.zeroSamples : ∀ W, (zeroValue 44).run Tryz.prog W = .ok (.slice none 0 0) W := fun W => by kernel_rfl
theorem Tryz.zeroLabs : ∀ W, (zeroValue 23).run Tryz.prog W = .ok (.slice none 0 0) W := fun W => by kernel_rfl
theorem tagAll_length : ∀ (i : Nat) (ls : List (List (Int × Int))), (tagAll i ls).length = ls.flatten.length
  | _, [] => rfl
  | i, xs :: r => by rw [tagAll, List.length_append, tags_length, sortS_length, tagAll_length (i + 1) r, List.flatten_cons, List.length_append]
theorem mem_flat_len {ls : List (List (Int × Int))} {xs : List (Int × Int)} (h : xs ∈ ls) : xs.length ≤ ls.flatten.length := by
  induction ls with
  | nil => cases h
  | cons y r ih =>
    rw [List.flatten_cons, List.length_append]
    rcases List.mem_cons.1 h with rfl | h
    · omega
    · have := ih h; omega
theorem samples_row (A : Option Addr) (n c : Nat) (ls : List (List (Int × Int))) (w : World) (hls : Lls w w.heap.size A n ls) (hn : n ≤ 100000) (hall : ls.flatten.length ≤ 100000) :
    Calls Tryz.prog 39 #[.slice A n c] w (RowPost (ls.flatten.foldl putIn []) w) := by
  refine (samples_any 100000 (sortsStable 100000 (by omega)) A n c ls w hls (fun xs hxs => Nat.le_trans (mem_flat_len hxs) hall) (Nat.le_refl _) hn (by rw [tagAll_length]; exact hall)).mono ?_
  rintro e w' ⟨v, h1, h2, h3⟩
  rw [samples_law] at h2
  exact ⟨v, h1, h2, h3⟩
theorem keyOf_str_inv {key : Value} {kl : Lit} (h : keyOf Tryz.prog 9 key = some kl) : ∃ x, key = .string x := by
  rw [Go.keyOf_string Tryz.underlying9] at h
  unfold mapKey at h
  rw [Tryz.underlying9] at h
  cases key <;> simp at h
  exact ⟨_, rfl⟩
theorem map_size {w : World} {k : TypeId} {R : Value → Option (DataW Value × List MemPlace)} {b n : Nat} {D : DataW Value} (h : w.ownsMap Tryz.prog k R b n D) : Maps.size D ≤ n := by
  obtain ⟨es, clock, _, _, hs, rfl⟩ := h
  show ((es.toList.map _).foldr DataW.insert []).length ≤ n
  rw [length_sorted, List.length_map, Array.length_toList]
  exact hs
theorem gath_le (L : List Lb) (done : List Sv) : ((grp L done).map (·.s)).flatten.length ≤ (done.flatMap (·.s)).length := by
  rw [grp_gath]
  have := gath_len (c := labelsC) L (done.map Sv.sr)
  rwa [List.flatMap_map] at this
/-- The two maps behind the first series. -/
structure GMaps (w wr : World) (bL bN cnt : Nat) (done : List Sv) : Prop where
  ex : ∃ DL DN V, Groups wr w.heap.size bL bN cnt DL DN V done
  old : Below w.heap.size w wr
set_option maxHeartbeats 16000000 in
set_option maxRecDepth 100000 in
theorem series_any (A : Option Addr) (n c : Nat) (ls : List (List Sv)) (w : World) (hls : Sls w w.heap.size A n ls) (hn : n ≤ 4000) (hlen : ls.flatten.length ≤ 4000) (hsm : (ls.flatten.flatMap (·.s)).length ≤ 20000) (hT : ∀ y ∈ ls.flatten, SerIn w y) :
    Calls Tryz.prog 17 #[.slice A n c] w (SeriesPost (ls.flatten.map Sv.sr) w) := by
  obtain ⟨i0, hi, hz0, hz1, hz2⟩ := info_parts Tryz.infoSamples
  have HI := Lib.hid (show _ ∧ _ ∧ _ ∧ _ from ⟨hi, hz0, hz1, hz2⟩)
  clear hi hz0 hz1 hz2
  have HL := Lib.hid (show _ ∧ _ from ⟨hls, hT⟩)
  clear hls hT
  have hmm := @run_makeMap Tryz.prog
  go_enter Tryz.func17, Tryz.ntmps17
  go_wp2
  clear hmm
  have hst : GMaps w ((w.alloc (.map #[] 0)).alloc (.map #[] 0)) w.heap.size (w.heap.size + 1) 0 [] := by
    have hN : ((w.alloc (.map #[] 0)).alloc (.map #[] 0)).ownsMap Tryz.prog 9 RV (w.heap.size + 1) 0 (.map []) := by
      have := World.ownsMap_made (w.alloc (.map #[] 0)) Tryz.prog 9 RV
      simpa using this
    exact ⟨⟨_, _, _, Groups.start ((World.ownsMap_made w Tryz.prog 9 RV).alloc _) hN (by omega) ⟨Nat.le_refl _, by omega⟩⟩, ((Below.refl _ _).alloc (Nat.le_refl _) _).alloc (by simp) _⟩
  have hs0 : w.heap.size + 2 ≤ ((w.alloc (.map #[] 0)).alloc (.map #[] 0)).heap.size := by simp
  have HST := Lib.hid (show _ ∧ _ from ⟨hst, hs0⟩)
  clear hst hs0
  go_loopw [6, 8, 9, 18] (fun _ _ _ iv wr => ∃ i : Nat, i ≤ n ∧ iv = .int .i64 i ∧ Hid (GMaps w wr w.heap.size (w.heap.size + 1) (aheadA ls i 0).length (aheadA ls i 0) ∧ w.heap.size + 2 ≤ wr.heap.size)) (fun _ _ _ iv _ => n - (intOf iv).toNat)
  case atStart => exact ⟨0, Nat.zero_le _, rfl, by rw [aheadA_zero]; exact HST⟩
  case round =>
    obtain ⟨i, hi, rfl, HR⟩ := hrel
    have hsz := HR.out.2
    by_cases hlt : i < n
    · obtain ⟨xs, hxs⟩ : ∃ xs, ls[i]? = some xs := ⟨_, List.getElem?_eq_getElem (by have := HL.out.1.1; omega)⟩
      obtain ⟨b, off, rfl, hb, hc⟩ := HL.out.1.2 (by omega)
      obtain ⟨Ai, ci, h1, h2⟩ := hc i xs hxs
      obtain ⟨m, hm⟩ : ∃ m, xs.length = m := ⟨_, rfl⟩
      rw [hm] at h1 h2
      have c0 := (HR.out.1.old.cell (p := ⟨b, off + i, none⟩) hb).trans h1
      have hmem : ∀ y ∈ xs, y ∈ ls.flatten := fun y hy => List.mem_flatten.2 ⟨xs, List.mem_of_getElem? hxs, hy⟩
      have hm63 : m ≤ 4000 := by
        obtain ⟨r, hr⟩ := aheadA_prefix ls i xs.length
        have : (aheadA ls i xs.length).length = (ls.take i).flatten.length + xs.length := by unfold aheadA; rw [hxs]; simp
        rw [hr, List.length_append] at hlen
        omega
      have HX := Lib.hid (show _ ∧ _ ∧ _ ∧ _ from ⟨hxs, h2, hm, hmem⟩)
      clear hc hxs h1 h2 hm hmem
      obtain ⟨wo, rfl⟩ : ∃ wo : World, wo = wr := ⟨_, rfl⟩
      go_wp2
      clear c0
      go_loopw [8, 9, 24] (fun _ _ kv wz => ∃ k : Nat, k ≤ m ∧ kv = .int .i64 k ∧ Hid (GMaps w wz w.heap.size (w.heap.size + 1) (aheadA ls i k).length (aheadA ls i k) ∧ w.heap.size + 2 ≤ wz.heap.size)) (fun _ _ kv _ => m - (intOf kv).toNat)
      case atStart => exact ⟨0, Nat.zero_le _, rfl, HR⟩
      case round =>
        clear HR hsz
        obtain ⟨k, hk, rfl, HR⟩ := hrel
        have hsz := HR.out.2
        by_cases hkm : k < m
        · obtain ⟨bx, ox, y, rfl, hbx, hy, hcx⟩ := HX.out.2.1.at hkm
          have e0 := (HR.out.1.old.cell (p := ⟨bx, ox + k * 2 + 0, none⟩) hbx).trans (hcx 0 _ rfl)
          have e1 := (HR.out.1.old.cell (p := ⟨bx, ox + k * 2 + 1, none⟩) hbx).trans (hcx 1 _ rfl)
          simp only [Nat.add_zero] at e0
          have hyI := HL.out.2 y (HX.out.2.2.2 y (List.mem_of_getElem? hy))
          have hsucc := aheadA_succ HX.out.1 hy
          obtain ⟨done, hdn⟩ : ∃ done, aheadA ls i k = done := ⟨_, rfl⟩
          have hcnt : done.length ≤ 4000 := by
            obtain ⟨r, hr⟩ := aheadA_prefix ls i k
            rw [hr, List.length_append, hdn] at hlen
            omega
          have hG := HR.out
          rw [hdn] at hG hsucc
          have HG := Lib.hid (show _ ∧ _ ∧ _ from ⟨hG, hsucc, hyI⟩)
          obtain ⟨DL, DN, V, hgr⟩ := hG.1.ex
          have hboxb : Below wr.heap.size wr (wr.alloc (.cells #[.slice y.A y.n y.c, .slice y.D y.m y.d] 132)) := (Below.refl _ _).alloc (Nat.le_refl _) _
          have hbox : (wr.alloc (.cells #[.slice y.A y.n y.c, .slice y.D y.m y.d] 132)).heap[wr.heap.size]? = some (Obj.cells #[.slice y.A y.n y.c, .slice y.D y.m y.d] 132 (0, 0)) := heap_alloc_new _ _
          have hkey : ∀ W, Below w.heap.size w W → Calls Tryz.prog 79 #[.slice y.A y.n y.c] W fun e w' => e = .returned (.string (keyS y.l)) ∧ Below W.heap.size W w' := fun W hb => key_any y.A y.n y.c y.l W ((hyI.sat.on hb).lst) (by have := hyI.sat.few; omega) hyI.key
          have hko := key_of y.l (by have := hyI.key; unfold maxLen; omega)
          have HB := Lib.hid (show _ ∧ _ ∧ _ ∧ _ ∧ _ from ⟨hgr, hboxb, hbox, hkey, hko⟩)
          clear hyI hsucc hdn hG hgr hboxb hbox hkey hko hcx hy
          have hgl := grp_len y.l done
          obtain ⟨hi, hz0, hz1, hz2⟩ := HI.out
          go_wp2_with fail
          refine (HB.out.2.2.2.1 _ ((HG.out.1.1.old).trans (HB.out.2.1.mono (by omega)))).mono ?_
          rintro e w2 ⟨rfl, hb2⟩
          have hb12 : Below wr.heap.size wr w2 := HB.out.2.1.trans (hb2.mono HB.out.2.1.size)
          have hs2 := hb12.size
          have hs2' : wr.heap.size + 1 ≤ w2.heap.size := by have := hb2.size; simp at this; omega
          have hbox2 := (hb2.block wr.heap.size (by simp)).trans HB.out.2.2.1
          have hG2 := HB.out.1.below hb12
          obtain ⟨x0, x1⟩ := two_cells hbox2
          have hold2 : Below w.heap.size w w2 := HG.out.1.1.old.trans (hb12.mono (by omega))
          have H2 := Lib.hid (show _ ∧ _ ∧ _ from ⟨hG2, hbox2, hold2⟩)
          clear hb2 hb12 hG2 hbox2 hold2 e0 e1
          go_wp2_with (first
            | (at_lookup; refine wpList_lookup_held _ rfl _ _ 134 rfl 9 44 Tryz.keyedStr Tryz.underlying134 (.slice none 0 0) (Tryz.zeroSamples _) w.heap.size done.length DL rfl H2.out.1.lists _ (kLit y.l) rfl HB.out.2.2.2.2 (V y.l) (H2.out.1.atL y.l) ?_)
            | (at_builtin; refine wpList_append_full _ rfl _ _ 44 rfl w.heap.size 90 i0 _ 1 24 Tryz.underlying44 hi hz0 hz1 hz2 rfl (by omega) _ (grp y.l done).length ((grp y.l done).map valD) rfl ((H2.out.1.rows y.l).alloc _) ⟨w2.heap.size, 0, none⟩ 1 1 [valD y] rfl rfl (cells_one w2 _ _) (by simp [Value.oneCell', valD]) (by omega) (by unfold maxLen; omega) (by omega) (by simp; omega) ?_)
            | fail)
          intro g cap w3 hown3 hg3 hl3 _
          have hal2 : Below w2.heap.size w2 (w2.alloc (.cells #[.slice y.D y.m y.d] 90)) := (Below.refl _ _).alloc (Nat.le_refl _) _
          have hGa := H2.out.1.below hal2
          have hbox3 := (hg3.block wr.heap.size (by simp; omega) (cells_not_own ((hal2.block wr.heap.size (by omega)).trans H2.out.2.1) (hGa.rows y.l) (by decide))).trans ((hal2.block wr.heap.size (by omega)).trans H2.out.2.1)
          have hL3 := hGa.lists.kept hg3 (map_off hGa.lists (hGa.rows y.l))
          have hN3 := hGa.names.kept hg3 (map_off hGa.names (hGa.rows y.l))
          have hold3 : Below w.heap.size w w3 := (H2.out.2.2.trans (hal2.mono (by omega))).grown hg3 (by simp; omega) (fun j hj => (((hGa.rows y.l).lt j hj).1))
          have hs3 : w2.heap.size + 1 ≤ w3.heap.size := by have := hg3.size; simp at this; omega
          obtain ⟨x0, x1⟩ := two_cells hbox3
          have H3 := Lib.hid (show _ ∧ _ ∧ _ ∧ _ ∧ _ ∧ _ ∧ _ ∧ _ from ⟨hGa, hown3, hg3, (by simpa using hl3 : (V y.l).ownBlock = some g ∨ g = w2.heap.size + 1), hL3, hN3, hbox3, hold3⟩)
          clear hal2 hGa hbox3 hL3 hN3 hold3 hown3 hg3 hl3
          go_wp2_with (first
            | (at_mapUpdate; refine wpList_mapUpdate_own _ rfl _ _ _ 134 rfl 9 44 Tryz.keyedStr Tryz.underlying134 RV w.heap.size done.length DL rfl H3.out.2.2.2.2.1 (by unfold maxLen; omega) _ _ (kLit y.l) rfl rfl HB.out.2.2.2.2 (.held (.slice (some ⟨g, 0, none⟩) ((grp y.l done).length + 1) cap)) [] rfl ?_)
            | fail)
          intro w4 hm4 hg4
          have hbox4 := (hg4.block wr.heap.size (by omega) (cells_not_map H3.out.2.2.2.2.2.2.1 H3.out.2.2.2.2.1)).trans H3.out.2.2.2.2.2.2.1
          have hN4 := H3.out.2.2.2.2.2.1.kept hg4 (fun e => by injection e with e; omega)
          have hold4 : Below w.heap.size w w4 := H3.out.2.2.2.2.2.2.2.grown hg4 (by omega) (fun j hj => by injection hj with hj; omega)
          have hs4 := hg4.size
          obtain ⟨x0, x1⟩ := two_cells hbox4
          have H4 := Lib.hid (show _ ∧ _ ∧ _ ∧ _ from ⟨hm4, hg4, hN4, hold4⟩)
          clear hm4 hg4 hN4 hold4 hbox4
          go_wp2_with (first
            | (at_mapUpdate; refine wpList_mapUpdate_own _ rfl _ _ _ 135 rfl 9 23 Tryz.keyedStr Tryz.underlying135 RV (w.heap.size + 1) done.length DN rfl H4.out.2.2.1 (by unfold maxLen; omega) _ _ (kLit y.l) rfl rfl HB.out.2.2.2.2 (.held (valL y)) [] rfl ?_)
            | fail)
          intro w5 hm5 hg5
          have hstep := H3.out.1.step H3.out.2.1 H3.out.2.2.1 (H3.out.2.2.2.1.imp_right (fun e => by simp [e])) H4.out.1 H4.out.2.1 hm5 hg5
          have hold5 : Below w.heap.size w w5 := H4.out.2.2.2.grown hg5 (by omega) (fun j hj => by injection hj with hj; omega)
          have hs5 := hg5.size
          have HN := Lib.hid (show GMaps w w5 w.heap.size (w.heap.size + 1) (aheadA ls i (k + 1)).length (aheadA ls i (k + 1)) ∧ w.heap.size + 2 ≤ w5.heap.size from ⟨⟨by
            rw [HG.out.2.1, List.length_append, List.length_singleton]
            exact ⟨_, _, _, hstep⟩, hold5⟩, by omega⟩)
          clear hm5 hg5 hstep hold5 hi hz0 hz1 hz2
          go_wp2
          go_roundw
          case measure => simp [intOf]; omega
          case rel => exact ⟨k + 1, hkm, by simp, HN⟩
        · obtain rfl : k = m := by omega
          have hr := HR.out
          rw [← HX.out.2.2.1, aheadA_next HX.out.1] at hr
          have HR2 := Lib.hid hr
          clear hr HR
          go_wp2
          go_roundw
          case measure => simp [intOf]; omega
          case rel => exact ⟨i + 1, hlt, by simp, HR2⟩
    · obtain rfl : i = n := by omega
      have hr := HR.out
      have hin : aheadA ls i 0 = ls.flatten := by rw [← HL.out.1.1]; exact aheadA_all ls
      rw [hin] at hr
      obtain ⟨done, hdn⟩ : ∃ done, ls.flatten = done := ⟨_, rfl⟩
      rw [hdn] at hr hlen hsm HL ⊢
      obtain ⟨DL, DN, V, hgr⟩ := hr.1.ex
      obtain ⟨wq, rfl⟩ : ∃ wq : World, wq = wr := ⟨_, rfl⟩
      have HG := Lib.hid (show _ ∧ _ from ⟨hgr, hr.1.old⟩)
      have HDN := Lib.hid hdn
      clear hr hin hgr HR hdn
      go_wp2_with (first
        | (at_range; refine wpList_range_own _ rfl _ 134 rfl 9 44 Tryz.keyedStr Tryz.underlying134 RV w.heap.size done.length DL rfl HG.out.1.lists ?_)
        | fail)
      intro w1 hrg1 hg1 hs1
      have hold1 : Below w.heap.size w w1 := HG.out.2.grown hg1 HG.out.2.size (fun j hj => by cases hj)
      have HR1 := Lib.hid (show _ ∧ w.heap.size + 2 ≤ w1.heap.size from ⟨HG.out.1.range hrg1 hg1 hold1, by omega⟩)
      clear hrg1 hg1 hold1
      have hms := map_size HG.out.1.lists
      go_wp2
      go_loopw [10, 11, 12, 13] (fun v _ _ _ wr => ∃ (left : Lit → Bool) (cnt : Nat) (vis : List (List Lb)) (os : List Sv), os.length + cnt ≤ done.length ∧ Hid (Rng w wr w.heap.size w.heap.size (w.heap.size + 1) wq.heap.size done.length DL DN V done left cnt vis v os ∧ w.heap.size + 2 ≤ wr.heap.size)) (fun _ _ _ _ wr => wr.rangeLeft w.heap.size wq.heap.size)
      case atStart => exact ⟨_, _, [], [], by simpa using hms, HR1⟩
      case round =>
        obtain ⟨left, cnt, vis, os, hcn, HR⟩ := hrel
        have hsz := HR.out.2
        go_wp2_with (first
          | (at_next; refine wpList_next_ranges _ rfl _ rfl 9 Tryz.keyedStr RV Value.string (fun v : Value => v) (fun key kl h => keyOf_str_inv h) (fun v _ _ => ⟨v, rfl⟩) w.heap.size wq.heap.size done.length DL left cnt rfl HR.out.1.rng ?_ ?_)
          | fail)
        · intro hc0 hl0
          have hend := HR.out.1.end_ hl0
          obtain ⟨A3, c3, rfl, _, _⟩ := owns_slice HR.out.1.out.row
          obtain ⟨no, hno⟩ : ∃ no, os.length = no := ⟨_, rfl⟩
          have hfew : ∀ z ∈ os, z.n ≤ 100000 := fun z hz => by
            have h1 : z.sr ∈ outOf labelsC (done.map Sv.sr) vis := by rw [← HR.out.1.law]; exact List.mem_map.2 ⟨z, hz, rfl⟩
            unfold outOf at h1
            obtain ⟨s, hs, e⟩ := List.mem_map.1 (List.mem_filter.1 h1).1
            obtain ⟨y, hy, e2⟩ := HR.out.1.some_ s hs
            have e3 : s = z.l := congrArg Prod.fst e
            have h2 := owns_len (HR.out.1.out.each z hz).1 Lb.len (by omega)
            have h3 := (HL.out.2 y hy).sat
            have h4 := h3.lst.1
            have h5 := h3.few
            rw [e2, e3] at h4
            omega
          have hO := HR.out.1.out
          rw [hno] at hO ⊢
          have hsort := serSort A3 no c3 os wr w.heap.size hO hno (by omega) hfew
          have HE := Lib.hid (show _ ∧ _ ∧ _ from ⟨hend, hsort, hO.row⟩)
          clear hend hfew hO hsort hl0
          go_wp2_with fail
          refine HE.out.2.1.mono ?_
          rintro e w2 ⟨rfl, os', hp, hsd, hO2, hg2⟩
          have hold2 : Below w.heap.size w w2 := HR.out.1.old.grown hg2 (by omega) (fun j hj => (HE.out.2.2.lt j hj).1)
          have hser : os'.map Sv.sr = serU labelsC (done.map Sv.sr) := (outOf_is labelsC_cmp3 HR.out.1.nd HE.out.1 (by rw [← HR.out.1.law]; exact hp.map _) (List.pairwise_map.2 hsd)).unique labelsC_cmp3 (serU_is labelsC_cmp3 _)
          have HF := Lib.hid (show _ ∧ _ ∧ _ from ⟨hO2, hser, hold2⟩)
          clear hp hsd hO2 hg2 hold2 hser
          go_wp2
          go_ret
          exact ⟨_, os', rfl, HF.out.1, by rw [HDN.out]; exact HF.out.2.1, HF.out.2.2⟩
        · intro x cv kl yd yp w2 cnt2 hkey hlk hv hat hrg2 hlt2 hg2 hs2 hen
          obtain ⟨y0, hy0, rfl, hy0v⟩ := HR.out.1.fresh kl hlk
          obtain ⟨L, hL⟩ : ∃ L, y0.l = L := ⟨_, rfl⟩
          rw [hL] at hkey hlk hat hrg2 hy0v
          obtain rfl := key_back hkey
          have hcv : cv = V L := by
            have h1 := hat (.held (.slice none 0 0))
            rw [HG.out.1.atL] at h1
            unfold RV at hv
            injection hv with hv
            injection hv with hv _
            rw [← hv] at h1
            injection h1 with h1
            exact h1.symm
          subst hcv
          obtain ⟨hd, hnv, hN2, hro2, hout2, hold2⟩ := HR.out.1.took hlk hrg2 hg2 (by have := HG.out.2.size; exact this)
          obtain ⟨A5, c5, hVL, hlls⟩ := lls_of (hro2 L) (fun y hy => by
            have := (HL.out.2 y (grp_mem hy)).sat.on hold2
            exact ⟨this.sst, this.snil⟩)
          have hgl := gath_le L done
          have hgn := grp_len L done
          have hsam := samples_row A5 (grp L done).length c5 ((grp L done).map (·.s)) w2 hlls (by omega) (by omega)
          rw [grp_gath] at hsam
          obtain ⟨r, hr⟩ : ∃ r, samU (gath labelsC (done.map Sv.sr) L) = r := ⟨_, rfl⟩
          have hsam2 : Calls Tryz.prog 39 #[V L] w2 (RowPost r w2) := by rw [hVL, ← hr]; exact hsam
          have hsz2 : w.heap.size + 2 ≤ w2.heap.size := by omega
          have H2 := Lib.hid (show _ ∧ _ ∧ _ ∧ _ ∧ _ ∧ _ ∧ _ ∧ _ ∧ _ from ⟨hsam2, hN2, hro2, hout2, hold2, hd, hnv, hr, hrg2⟩)
          have HK := Lib.hid (show _ ∧ _ from ⟨hg2, hlt2⟩)
          clear hkey hlk hv hat hrg2 hg2 hy0 hy0v hL hd hnv hN2 hro2 hout2 hold2 hVL hlls hgl hgn hsam hsam2 hr hlt2
          go_wp2_with fail
          refine H2.out.1.mono ?_
          rintro e w3 ⟨v3, rfl, ho3, hb3⟩
          obtain ⟨A3, c3, rfl, _, _⟩ := owns_slice ho3
          obtain ⟨m3, hm3⟩ : ∃ m3, r.length = m3 := ⟨_, rfl⟩
          rw [hm3] at ho3 ⊢
          have H3 := Lib.hid (show _ ∧ _ ∧ _ from ⟨ho3, hb3, hm3⟩)
          clear ho3 hb3 hm3 hen
          have hrg3 := ranges_below H2.out.2.2.2.2.2.2.2.2 H3.out.2.1
          have hN3 := ownsMap_below H2.out.2.1 H3.out.2.1
          have hro3 := fun L => owns_below (H2.out.2.2.1 L) H3.out.2.1
          have hout3 := H2.out.2.2.2.1.below H3.out.2.1
          have hold3 := H2.out.2.2.2.2.1.trans (H3.out.2.1.mono (by omega))
          have hs3 := H3.out.2.1.size
          have H4 := Lib.hid (show _ ∧ _ ∧ _ ∧ _ ∧ _ from ⟨hrg3, hN3, hro3, hout3, hold3⟩)
          clear hrg3 hN3 hro3 hout3 hold3
          by_cases h0 : m3 = 0
          · have z0 : ¬ (0 : Int) < (m3 : Int) := by omega
            have hlaw : os.map Sv.sr = outOf labelsC (done.map Sv.sr) (vis ++ [L]) := by
              rw [outOf_snoc, if_pos (by rw [H2.out.2.2.2.2.2.2.2.1]; have := H3.out.2.2; omega)]
              exact HR.out.1.law
            have HD := Lib.hid (HR.out.1.done_ H2.out.2.2.2.2.2.1 H2.out.2.2.2.2.2.2.1 H4.out.1 H4.out.2.1 H4.out.2.2.1 H4.out.2.2.2.1 hlaw H4.out.2.2.2.2)
            clear hlaw
            go_wp2_with fail
            go_roundw
            case measure =>
              show w3.rangeLeft _ _ < wr.rangeLeft _ _
              rw [H4.out.1.left_eq, HR.out.1.rng.left_eq]; exact HK.out.2
            case rel => exact ⟨_, cnt2, vis ++ [L], os, by have := HK.out.2; omega, Lib.hid ⟨HD.out, by omega⟩⟩
          · have z0 : (0 : Int) < (m3 : Int) := by omega
            obtain ⟨y1, hy1, hy1l⟩ := H2.out.2.2.2.2.2.1
            obtain ⟨z, hz, hzl, hzat⟩ := HG.out.1.atN y1 hy1
            rw [hy1l] at hzl hzat
            have hzS := ((HL.out.2 z hz).sat.on H4.out.2.2.2.2)
            have hclone := cloneLabel z.A z.n z.c z.l w3 hzS.lst hzS.nil (by have := hzS.few; omega)
            have hkl : (keyL L).length ≤ maxLen := by rw [← hzl]; have := (HL.out.2 z hz).key; unfold maxLen; omega
            have hko := key_of L hkl
            have HZ := Lib.hid (show _ ∧ _ ∧ _ ∧ _ ∧ _ from ⟨hzl, hzat, hclone, hko, hzS.few⟩)
            clear hy1 hy1l hz hzl hzat hzS hclone hkl hko
            go_wp2_with (first
              | (at_lookup; refine wpList_lookup_held _ rfl _ _ 135 rfl 9 23 Tryz.keyedStr Tryz.underlying135 (.slice none 0 0) (Tryz.zeroLabs _) (w.heap.size + 1) done.length DN rfl H4.out.2.1 _ (kLit L) rfl HZ.out.2.2.2.1 (.slice z.A z.n z.c) HZ.out.2.1 ?_)
              | fail)
            refine HZ.out.2.2.1.mono ?_
            rintro e w4 ⟨v4, rfl, ho4, hb4⟩
            obtain ⟨A4, c4, rfl, _, _⟩ := owns_slice ho4
            have hs4 := hb4.size
            have hba : Below w4.heap.size w4 (w4.alloc (.cells #[.slice A4 z.n c4, .slice A3 m3 c3] 132)) := (Below.refl _ _).alloc (Nat.le_refl _) _
            have hb3a : Below w3.heap.size w3 (w4.alloc (.cells #[.slice A4 z.n c4, .slice A3 m3 c3] 132)) := hb4.trans (hba.mono hs4)
            have hoa := H4.out.2.2.2.1.below hb3a
            obtain ⟨i2, hi, hz0, hz1, hz2⟩ := info_parts Tryz.infoSeries
            have H5 := Lib.hid (show _ ∧ _ ∧ _ ∧ _ ∧ _ from ⟨ho4, hb4, hba, hb3a, hoa⟩)
            have hol := hcn
            clear ho4 hb4 hba hb3a hoa
            go_wp2_with (first
              | (at_builtin; refine wpList_append_own _ rfl _ _ 70 rfl w.heap.size 132 i2 _ 2 48 Tryz.underlying70 hi hz0 hz1 hz2 rfl (by omega) _ os.length (os.flatMap encSv) rfl H5.out.2.2.2.2.row ⟨w4.heap.size, 0, none⟩ 1 1 [.slice A4 z.n c4, .slice A3 m3 c3] rfl rfl (cells_newL w4 [.slice A4 z.n c4, .slice A3 m3 c3] _) (by simp [Value.oneCell']) (by unfold maxLen; omega) (by omega) (by simp; omega) ?_)
              | fail)
            intro v5 w5 ho5 hg5 _
            have hrga := ranges_below H4.out.1 H5.out.2.2.2.1
            have hNa := ownsMap_below H4.out.2.1 H5.out.2.2.2.1
            have hroa := fun L => owns_below (H4.out.2.2.1 L) H5.out.2.2.2.1
            have hrg5 := hrga.kept hg5 (map_off hrga.owns H5.out.2.2.2.2.row) (iter_off hrga H5.out.2.2.2.2.row)
            have hN5 := hNa.kept hg5 (map_off hNa H5.out.2.2.2.2.row)
            have hro5 := fun L => (hroa L).kept hg5 (owns_apart (hroa L) H5.out.2.2.2.2.row (by decide))
            have hout5 : OutSv w5 w.heap.size v5 (os ++ [⟨A4, z.n, c4, L, A3, m3, c3, r⟩]) := H2.out.2.2.2.1.snoc (w1 := w4) (by omega) (H3.out.2.1.trans (H5.out.2.1.mono hs3)) (by
                have := owns_base H5.out.1 hs3
                rw [HZ.out.1] at this
                exact this) (owns_below H3.out.1 H5.out.2.1) H5.out.2.2.1 ho5 hg5
            have hold5 : Below w.heap.size w w5 := (H4.out.2.2.2.2.trans (H5.out.2.2.2.1.mono (by omega))).grown hg5 (by simp; omega) (fun j hj => (H5.out.2.2.2.2.row.lt j hj).1)
            have hlaw : (os ++ [(⟨A4, z.n, c4, L, A3, m3, c3, r⟩ : Sv)]).map Sv.sr = outOf labelsC (done.map Sv.sr) (vis ++ [L]) := by
              rw [outOf_snoc, if_neg (by rw [H2.out.2.2.2.2.2.2.2.1]; have := H3.out.2.2; omega), List.map_append, HR.out.1.law, H2.out.2.2.2.2.2.2.2.1]
              rfl
            have hs5 := hg5.size
            have HD := Lib.hid (show _ ∧ w.heap.size + 2 ≤ w5.heap.size ∧ _ from ⟨HR.out.1.done_ H2.out.2.2.2.2.2.1 H2.out.2.2.2.2.2.2.1 hrg5 hN5 hro5 hout5 hlaw hold5, by simp at hs5; omega, hrg5⟩)
            clear ho5 hg5 hrga hNa hroa hrg5 hN5 hro5 hout5 hold5 hlaw hs5 hi hz0 hz1 hz2
            go_wp2
            go_roundw
            case measure =>
              show w5.rangeLeft _ _ < wr.rangeLeft _ _
              rw [HD.out.2.2.left_eq, HR.out.1.rng.left_eq]; exact HK.out.2
            case rel => exact ⟨_, cnt2, vis ++ [L], os ++ [⟨A4, z.n, c4, L, A3, m3, c3, r⟩], by have := HK.out.2; simp; omega, Lib.hid ⟨HD.out.1, HD.out.2.1⟩⟩
end Go.Proofs.YtihidnmpngeohaaGreat
