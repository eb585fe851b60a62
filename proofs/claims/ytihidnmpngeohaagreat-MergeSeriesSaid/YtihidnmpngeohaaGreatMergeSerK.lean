/- MergeSeries: its calls, one by one. -/
import Derived.Test.YtihidnmpngeohaaGreatG48
namespace Go.Proofs.YtihidnmpngeohaaGreat
open Go.RowKit Go.Lib

theorem much_no {w W : World} {A : Option Addr} {n c : Nat} {ys : List Sv} (h : FewS w A n ys) (hb : Below w.heap.size w W) :
    Calls Tryz.prog 15 #[.slice A n c] W fun e w' => e = .returned (.bool false) ∧ Below w.heap.size w w' :=
  (much_any A n c ys W (h.on hb).arg.lst (h.on hb).arg.few (h.on hb).arg.big).mono fun e w' ⟨h1, q, h2⟩ => ⟨by rw [h1, muchB_few h.few], by rw [h2]; exact below_drewN hb q⟩
theorem much_yes {w W : World} {A : Option Addr} {n c : Nat} {ys : List Sv} (h : ArgS w A n ys) (hn : ¬ SFew n ys) (hb : Below w.heap.size w W) :
    Calls Tryz.prog 15 #[.slice A n c] W fun e w' => e = .returned (.bool true) ∧ Below w.heap.size w w' :=
  (much_any A n c ys W (h.on hb).lst (h.on hb).few (h.on hb).big).mono fun e w' ⟨h1, q, h2⟩ => ⟨by
    rw [h1]
    cases hm : muchB n ys with
    | true => rfl
    | false => exact absurd (muchB_false hm) hn, by rw [h2]; exact below_drewN hb q⟩
theorem FewS.lend {w W : World} {A : Option Addr} {n c : Nat} {ys : List Sv} (h : FewS w A n ys) (hb : Below w.heap.size w W) : Calls Tryz.prog 16 #[.slice A n c] W fun e w' =>
    ∃ g cg zs bo co, e = .returned (.slice (some ⟨g, 0, none⟩) n cg) ∧ LentL w' W.heap.size g n cg ys zs bo co ∧ Below W.heap.size W w' ∧ Below w.heap.size w w' :=
  (h.lent hb).mono fun e w' ⟨g, cg, zs, bo, co, h1, h2, h3, h4, h5⟩ => ⟨g, cg, zs, bo, co, h1, ⟨h2, h3, h4⟩, h5, hb.trans (h5.mono hb.size)⟩
theorem lst3 {w : World} {b : Nat} {cs : Array Value} {t : TypeId} {v : Value} (hg : w.heap[b]? = some (.cells cs t (0, 0))) {k : Nat} (hv : cs[k]? = some v) : w.cell? ⟨b, k, none⟩ = some v := by
  rw [cell_of_row w b k _ _ _ hg]; exact hv
/-- Three lists in one block; and one. -/
theorem sls3 {w W : World} {A0 A1 A2 : Option Addr} {n0 n1 n2 c0 c1 c2 : Nat} {l0 l1 l2 : List Sv} (hb : Below w.heap.size w W) (h0 : Lst encSv 2 w w.heap.size A0 n0 l0) (h1 : Lst encSv 2 w w.heap.size A1 n1 l1) (h2 : Lst encSv 2 w w.heap.size A2 n2 l2)
    {b : Nat} (hg : W.heap[b]? = some (.cells #[.slice A0 n0 c0, .slice A1 n1 c1, .slice A2 n2 c2] 70 (0, 0))) : Sls W W.heap.size (some ⟨b, 0, none⟩) 3 [l0, l1, l2] := by
  have e0 := h0.1
  have e1 := h1.1
  have e2 := h2.1
  refine sls_of (Array.getElem?_eq_some_iff.1 hg).1 rfl fun k xs hxs => ?_
  rcases k with _ | _ | _ | k
  · obtain rfl : l0 = xs := by simpa using hxs
    exact ⟨A0, c0, lst3 hg (by rw [e0]; rfl), by rw [e0]; exact (h0.below hb).more hb.size⟩
  · obtain rfl : l1 = xs := by simpa using hxs
    exact ⟨A1, c1, lst3 hg (by rw [e1]; rfl), by rw [e1]; exact (h1.below hb).more hb.size⟩
  · obtain rfl : l2 = xs := by simpa using hxs
    exact ⟨A2, c2, lst3 hg (by rw [e2]; rfl), by rw [e2]; exact (h2.below hb).more hb.size⟩
  · simp at hxs
theorem sls1 {w W : World} {A0 : Option Addr} {n0 c0 : Nat} {l0 : List Sv} (hb : Below w.heap.size w W) (h0 : Lst encSv 2 w w.heap.size A0 n0 l0)
    {b : Nat} (hg : W.heap[b]? = some (.cells #[.slice A0 n0 c0] 70 (0, 0))) : Sls W W.heap.size (some ⟨b, 0, none⟩) 1 [l0] := by
  have e0 := h0.1
  refine sls_of (Array.getElem?_eq_some_iff.1 hg).1 rfl fun k xs hxs => ?_
  rcases k with _ | k
  · obtain rfl : l0 = xs := by simpa using hxs
    exact ⟨A0, c0, lst3 hg (by rw [e0]; rfl), by rw [e0]; exact (h0.below hb).more hb.size⟩
  · simp at hxs
theorem sr_sams {zs ys : List Sv} (h : zs.map Sv.sr = ys.map Sv.sr) : (zs.flatMap (·.s)).length = (ys.flatMap (·.s)).length := by rw [← flat_sr, h, flat_sr]
/-- What merge.Series hands back for lists that are lent out. -/
def MadeS (w : World) (all : List Sv) (e : Ending) (w' : World) : Prop :=
  ∃ A n c os, e = .returned (.slice A n c) ∧ os.length = n ∧ OutSv w' w.heap.size (.slice A n c) os ∧ os.map Sv.sr = serU labelsC (all.map Sv.sr) ∧ Below w.heap.size w w'
theorem madeS_of {w W : World} {all zs : List Sv} (hb : Below w.heap.size w W) (hz : zs.map Sv.sr = all.map Sv.sr) {e : Ending} {w' : World} (h : SeriesPost (zs.map Sv.sr) W e w') : MadeS w all e w' := by
  obtain ⟨v, os, h1, h2, h3, h4⟩ := h
  obtain ⟨A, c, rfl, _, _⟩ := owns_slice h2.row
  exact ⟨A, os.length, c, os, h1, rfl, h2.base hb.size, by rw [h3, hz], hb.trans (h4.mono hb.size)⟩
theorem LentL.inAt {w W w0 : World} {A : Option Addr} {B g n c bo co : Nat} {ys zs : List Sv} (h : LentL w B g n c ys zs bo co) (hF : FewS w0 A n ys) (hb : Below w.heap.size w W) : (∀ z ∈ zs, SerIn W z) ∧ zs.length ≤ 60 ∧ (zs.flatMap (·.s)).length ≤ 3000 ∧ zs.map Sv.sr = ys.map Sv.sr ∧ Lst encSv 2 w w.heap.size (some ⟨g, 0, none⟩) n zs := by
  obtain ⟨f1, f2, f3⟩ := hF.flat
  obtain ⟨g1, g2, _⟩ := (h.below hb).facts hF
  have g3 := (h.facts hF).2.2
  exact ⟨g1, by rw [g3.1]; exact f2, by rw [sr_sams g2]; exact f3, g2, g3⟩
section
variable {w0 w : World} {A0 A1 A2 : Option Addr} {B0 B1 B2 g0 g1 g2 n0 n1 n2 c0 c1 c2 bo0 bo1 bo2 co0 co1 co2 : Nat} {l0 l1 l2 z0 z1 z2 : List Sv}
theorem made3 (F0 : FewS w0 A0 n0 l0) (F1 : FewS w0 A1 n1 l1) (F2 : FewS w0 A2 n2 l2) (L0 : LentL w B0 g0 n0 c0 l0 z0 bo0 co0) (L1 : LentL w B1 g1 n1 c1 l1 z1 bo1 co1) (L2 : LentL w B2 g2 n2 c2 l2 z2 bo2 co2) :
    Calls Tryz.prog 17 #[.slice (some ⟨w.heap.size, 0, none⟩) 3 3] (w.alloc (.cells #[.slice (some ⟨g0, 0, none⟩) n0 c0, .slice (some ⟨g1, 0, none⟩) n1 c1, .slice (some ⟨g2, 0, none⟩) n2 c2] 70)) (MadeS w (l0 ++ l1 ++ l2)) := by
  have hg := heap_alloc_new w (.cells #[.slice (some ⟨g0, 0, none⟩) n0 c0, .slice (some ⟨g1, 0, none⟩) n1 c1, .slice (some ⟨g2, 0, none⟩) n2 c2] 70)
  have hb : Below w.heap.size w (w.alloc (.cells #[.slice (some ⟨g0, 0, none⟩) n0 c0, .slice (some ⟨g1, 0, none⟩) n1 c1, .slice (some ⟨g2, 0, none⟩) n2 c2] 70)) := (Below.refl _ _).alloc (Nat.le_refl _) _
  generalize w.alloc (.cells #[.slice (some ⟨g0, 0, none⟩) n0 c0, .slice (some ⟨g1, 0, none⟩) n1 c1, .slice (some ⟨g2, 0, none⟩) n2 c2] 70) = W at hg hb ⊢
  obtain ⟨a0, a1, a2, a3, a4⟩ := L0.inAt F0 hb
  obtain ⟨b0, b1, b2, b3, b4⟩ := L1.inAt F1 hb
  obtain ⟨d0, d1, d2, d3, d4⟩ := L2.inAt F2 hb
  have hfl : [z0, z1, z2].flatten = z0 ++ z1 ++ z2 := by simp
  refine (series_any (some ⟨w.heap.size, 0, none⟩) 3 3 [z0, z1, z2] W (sls3 hb a4 b4 d4 hg) (by omega) ?_ ?_ ?_).mono fun e w' h => ?_
  · rw [hfl]; simp only [List.length_append]; omega
  · rw [hfl]; simp only [List.flatMap_append, List.length_append]; omega
  · rw [hfl]
    intro y hy
    rcases List.mem_append.1 hy with hy | hy
    · rcases List.mem_append.1 hy with hy | hy
      · exact a0 y hy
      · exact b0 y hy
    · exact d0 y hy
  · rw [hfl] at h
    exact madeS_of hb (by simp only [List.map_append, a3, b3, d3]) h
theorem made1 (F0 : FewS w0 A0 n0 l0) (L0 : LentL w B0 g0 n0 c0 l0 z0 bo0 co0) :
    Calls Tryz.prog 17 #[.slice (some ⟨w.heap.size, 0, none⟩) 1 1] (w.alloc (.cells #[.slice (some ⟨g0, 0, none⟩) n0 c0] 70)) (MadeS w l0) := by
  have hg := heap_alloc_new w (.cells #[.slice (some ⟨g0, 0, none⟩) n0 c0] 70)
  have hb : Below w.heap.size w (w.alloc (.cells #[.slice (some ⟨g0, 0, none⟩) n0 c0] 70)) := (Below.refl _ _).alloc (Nat.le_refl _) _
  generalize w.alloc (.cells #[.slice (some ⟨g0, 0, none⟩) n0 c0] 70) = W at hg hb ⊢
  obtain ⟨a0, a1, a2, a3, a4⟩ := L0.inAt F0 hb
  have hfl : [z0].flatten = z0 := by simp
  refine (series_any (some ⟨w.heap.size, 0, none⟩) 1 1 [z0] W (sls1 hb a4 hg) (by omega) ?_ ?_ ?_).mono fun e w' h => ?_
  · rw [hfl]; omega
  · rw [hfl]; omega
  · rw [hfl]; exact a0
  · rw [hfl] at h
    exact madeS_of hb a3 h
/-- .. for no list. -/
theorem made0 (w : World) : Calls Tryz.prog 17 #[.slice none 0 0] w fun e w' => ∃ A c, e = .returned (.slice A 0 c) ∧ Below w.heap.size w w' := by
  refine (series_any none 0 0 [] w ⟨rfl, fun h => absurd h (by omega)⟩ (by omega) (by simp) (by simp) (by simp)).mono fun e w' ⟨v, os, h1, h2, h3, h4⟩ => ?_
  obtain rfl : os = [] := by
    have h5 := congrArg List.length h3
    have h6 := serU_len (c := labelsC) (([] : List (List Sv)).flatten.map Sv.sr)
    rw [List.length_map] at h5
    simp at h6 h5
    rw [h6] at h5
    exact List.length_eq_zero_iff.1 (by simpa using h5)
  obtain ⟨A, c, rfl, _, _⟩ := owns_slice h2.row
  exact ⟨A, c, h1, h4⟩
def RefS (w : World) (all : List Sv) (e : Ending) (w' : World) : Prop := ∃ v os, e = .returned v ∧ RSer w' w.heap.size v os ∧ os.map Sv.sr = serU labelsC (all.map Sv.sr) ∧ Below w.heap.size w w'
theorem FewS.inAt {W : World} (h : FewS w0 A0 n0 l0) (hb : Below w0.heap.size w0 W) : (∀ z ∈ l0, Sat W W.heap.size z) ∧ l0.length ≤ 60 ∧ (l0.flatMap (·.s)).length ≤ 3000 := by
  obtain ⟨f1, f2, f3⟩ := h.flat
  exact ⟨fun z hz => ((h.on hb).sat z hz).1, by omega, f3⟩
theorem ref3 (F0 : FewS w0 A0 n0 l0) (F1 : FewS w0 A1 n1 l1) (F2 : FewS w0 A2 n2 l2) (hw : Below w0.heap.size w0 w) :
    Calls Tryz.prog 22 #[.slice (some ⟨w.heap.size, 0, none⟩) 3 3] (w.alloc (.cells #[.slice A0 n0 c0, .slice A1 n1 c1, .slice A2 n2 c2] 70)) (RefS w (l0 ++ l1 ++ l2)) := by
  have hg := heap_alloc_new w (.cells #[.slice A0 n0 c0, .slice A1 n1 c1, .slice A2 n2 c2] 70)
  have hb : Below w.heap.size w (w.alloc (.cells #[.slice A0 n0 c0, .slice A1 n1 c1, .slice A2 n2 c2] 70)) := (Below.refl _ _).alloc (Nat.le_refl _) _
  generalize w.alloc (.cells #[.slice A0 n0 c0, .slice A1 n1 c1, .slice A2 n2 c2] 70) = W at hg hb ⊢
  have hw2 : Below w0.heap.size w0 W := hw.trans (hb.mono hw.size)
  obtain ⟨a0, a1, a2⟩ := F0.inAt hw2
  obtain ⟨b0, b1, b2⟩ := F1.inAt hw2
  obtain ⟨d0, d1, d2⟩ := F2.inAt hw2
  have hfl : [l0, l1, l2].flatten = l0 ++ l1 ++ l2 := by simp
  refine (refSeries_any (some ⟨w.heap.size, 0, none⟩) 3 3 [l0, l1, l2] W (sls3 hb (F0.on hw).arg.lst (F1.on hw).arg.lst (F2.on hw).arg.lst hg) (by omega) ?_ ?_ ?_).mono fun e w' ⟨v, os, h1, h2, h3, h4⟩ => ?_
  · rw [hfl]; simp only [List.length_append]; omega
  · rw [hfl]; simp only [List.flatMap_append, List.length_append]; omega
  · rw [hfl]
    intro y hy
    rcases List.mem_append.1 hy with hy | hy
    · rcases List.mem_append.1 hy with hy | hy
      · exact a0 y hy
      · exact b0 y hy
    · exact d0 y hy
  · rw [hfl] at h3
    exact ⟨v, os, h1, h2.base hb.size, h3, hb.trans (h4.mono hb.size)⟩
theorem ref1 (F0 : FewS w0 A0 n0 l0) (hw : Below w0.heap.size w0 w) :
    Calls Tryz.prog 22 #[.slice (some ⟨w.heap.size, 0, none⟩) 1 1] (w.alloc (.cells #[.slice A0 n0 c0] 70)) (RefS w l0) := by
  have hg := heap_alloc_new w (.cells #[.slice A0 n0 c0] 70)
  have hb : Below w.heap.size w (w.alloc (.cells #[.slice A0 n0 c0] 70)) := (Below.refl _ _).alloc (Nat.le_refl _) _
  generalize w.alloc (.cells #[.slice A0 n0 c0] 70) = W at hg hb ⊢
  have hw2 : Below w0.heap.size w0 W := hw.trans (hb.mono hw.size)
  obtain ⟨a0, a1, a2⟩ := F0.inAt hw2
  have hfl : [l0].flatten = l0 := by simp
  refine (refSeries_any (some ⟨w.heap.size, 0, none⟩) 1 1 [l0] W (sls1 hb (F0.on hw).arg.lst hg) (by omega) ?_ ?_ ?_).mono fun e w' ⟨v, os, h1, h2, h3, h4⟩ => ?_
  · rw [hfl]; omega
  · rw [hfl]; omega
  · rw [hfl]; exact a0
  · rw [hfl] at h3
    exact ⟨v, os, h1, h2.base hb.size, h3, hb.trans (h4.mono hb.size)⟩
theorem whole_at {wc : World} (F0 : FewS w0 A0 n0 l0) (L0 : LentL w B0 g0 n0 c0 l0 z0 bo0 co0) (h0 : Below w0.heap.size w0 w) (hb : Below w.heap.size w wc) {ca : Nat} :
    Calls Tryz.prog 18 #[.slice (some ⟨g0, 0, none⟩) n0 c0, .slice A0 n0 ca] wc fun e w' => e = .returned (.bool true) ∧ Below w.heap.size w w' ∧ Below wc.heap.size wc w' :=
  ((L0.below hb).whole F0 (h0.trans (hb.mono h0.size))).mono fun e w' ⟨h1, q, h2⟩ => ⟨h1, by rw [h2]; exact below_drewN hb q, by rw [h2]; exact below_drewN (Below.refl _ _) q⟩
end
/-- A result and the paper's, alike. -/
theorem same_sr {w : World} {B B' n c : Nat} {A : Option Addr} {v : Value} {os os' : List Sv} (h : OutSv w B (.slice A n c) os) (hn : os.length = n) (h' : RSer w B' v os') (hm : os'.map Sv.sr = os.map Sv.sr) (hl : os.length ≤ 200 ∧ ∀ z ∈ os, z.l.length ≤ 20000 ∧ z.s.length ≤ 20000) :
    Calls Tryz.prog 21 #[.slice A n c, v] w fun e w' => e = .returned (.bool true) ∧ Below w.heap.size w w' := by
  have hn' : os'.length = n := by have := congrArg List.length hm; rw [List.length_map, List.length_map] at this; omega
  have hr := h'.row
  rw [hn'] at hr
  obtain ⟨A', c', rfl, _, hL'⟩ := ownsRow_lst hr hn' encSv_len
  exact (sameSer_q A A' n c c' os os' w (out_ser h hn) hL' (h.sat (m := 20000) (by omega) hl.2) h'.each hm.symm (by omega)).mono fun e w' ⟨h1, q, h2⟩ => ⟨h1, by rw [h2]; exact below_drewN (Below.refl _ _) q⟩
theorem cells_final {cs1 cs2 : Array Value} {a b c a' b' c' : Value} (h1 : BkCells nils cs1 a b c) (h2 : BkCells cs1 cs2 a' b' c') : ∀ k, k < 32 → cs2[k]? = some (if k = 22 then a' else if k = 9 then b' else if k = 10 then c' else .slice none 0 0) := fun k hk => by
  rw [h2 k hk]
  by_cases k22 : k = 22
  · rw [if_pos k22, if_pos k22]
  · rw [if_neg k22, if_neg k22]
    by_cases k9 : k = 9
    · rw [if_pos k9, if_pos k9]
    · rw [if_neg k9, if_neg k9]
      by_cases k10 : k = 10
      · rw [if_pos k10, if_pos k10]
      · rw [if_neg k10, if_neg k10, h1 k hk, if_neg k22, if_neg k9, if_neg k10]
        exact nils_at hk
end Go.Proofs.YtihidnmpngeohaaGreat
