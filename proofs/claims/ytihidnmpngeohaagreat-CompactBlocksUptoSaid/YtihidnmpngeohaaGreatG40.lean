/- MergeSeries: its calls, one by one. Chapter 19's blocks: lists of lists; how much they have. Whether a time lies in one of some intervals, as a function. No program. slices.IndexFunc and slices.DeleteFunc at rows of Samples, for any predicate that lays blocks of its own alone. Written off a master by mk2.py. -/
import Derived.Test.YtihidnmpngeohaaGreatG39
import Derived.Test.YtihidnmpngeohaaGreatG21
import Derived.Test.YtihidnmpngeohaaGreatG05
import Derived.Test.YtihidnmpngeohaaGreatG09
import Derived.Deep.DeepCutAuto
import Derived.OwnWalk
import Derived.WalkLawsBesides
namespace Go.Proofs.YtihidnmpngeohaaGreat
open Go.RowKit Go.Lib

theorem much_no {w W : World} {A : Option Addr} {n c : Nat} {ys : List Sv} (h : FewS w A n ys) (hb : Below w.heap.size w W) :
    Calls Tryz.prog 15 #[.slice A n c] W fun e w' => e = .returned (.bool false) ∧ Below w.heap.size w w' :=
  (much_any A n c ys W (h.on hb).arg.lst (h.on hb).arg.few (h.on hb).arg.big).mono fun e w' ⟨h1, q, h2⟩ => ⟨by rw [h1, muchB_few h.few], by rw [h2]; exact below_drewN hb q⟩
theorem much_yes {w W : World} {A : Option Addr} {n c : Nat} {ys : List Sv} (h : ArgS w A n ys) (hn : ¬ SFew n ys) (hb : Below w.heap.size w W) :
    Calls Tryz.prog 15 #[.slice A n c] W fun e w' => e = .returned (.bool true) ∧ Below w.heap.size w w' :=
  (much_any A n c ys W (h.on hb).lst (h.on hb).few (h.on hb).big).mono fun e w' ⟨h1, q, h2⟩ => ⟨by
    rw [h1]
    cases hm : muchB n ys with
    | true => rfl
    | false => exact absurd (muchB_false hm) hn, by rw [h2]; exact below_drewN hb q⟩
theorem FewS.lend {w W : World} {A : Option Addr} {n c : Nat} {ys : List Sv} (h : FewS w A n ys) (hb : Below w.heap.size w W) : Calls Tryz.prog 16 #[.slice A n c] W fun e w' =>
    ∃ g cg zs bo co, e = .returned (.slice (some ⟨g, 0, none⟩) n cg) ∧ LentL w' W.heap.size g n cg ys zs bo co ∧ Below W.heap.size W w' ∧ Below w.heap.size w w' :=
  (h.lent hb).mono fun e w' ⟨g, cg, zs, bo, co, h1, h2, h3, h4, h5⟩ => ⟨g, cg, zs, bo, co, h1, ⟨h2, h3, h4⟩, h5, hb.trans (h5.mono hb.size)⟩
theorem lst3 {w : World} {b : Nat} {cs : Array Value} {t : TypeId} {v : Value} (hg : w.heap[b]? = some (.cells cs t (0, 0))) {k : Nat} (hv : cs[k]? = some v) : w.cell? ⟨b, k, none⟩ = some v := by
  rw [cell_of_row w b k _ _ _ hg]; exact hv
/-- Three lists in one block; and one. -/
theorem sls3 {w W : World} {A0 A1 A2 : Option Addr} {n0 n1 n2 c0 c1 c2 : Nat} {l0 l1 l2 : List Sv} (hb : Below w.heap.size w W) (h0 : Lst encSv 2 w w.heap.size A0 n0 l0) (h1 : Lst encSv 2 w w.heap.size A1 n1 l1) (h2 : Lst encSv 2 w w.heap.size A2 n2 l2)
    {b : Nat} (hg : W.heap[b]? = some (.cells #[.slice A0 n0 c0, .slice A1 n1 c1, .slice A2 n2 c2] 70 (0, 0))) : Sls W W.heap.size (some ⟨b, 0, none⟩) 3 [l0, l1, l2] := by
  have e0 := h0.1
  have e1 := h1.1
  have e2 := h2.1
  refine sls_of (Array.getElem?_eq_some_iff.1 hg).1 rfl fun k xs hxs => ?_
  rcases k with _ | _ | _ | k
  · obtain rfl : l0 = xs := by simpa using hxs
    exact ⟨A0, c0, lst3 hg (by rw [e0]; rfl), by rw [e0]; exact (h0.below hb).more hb.size⟩
  · obtain rfl : l1 = xs := by simpa using hxs
    exact ⟨A1, c1, lst3 hg (by rw [e1]; rfl), by rw [e1]; exact (h1.below hb).more hb.size⟩
  · obtain rfl : l2 = xs := by simpa using hxs
    exact ⟨A2, c2, lst3 hg (by rw [e2]; rfl), by rw [e2]; exact (h2.below hb).more hb.size⟩
  · simp at hxs
theorem sls1 {w W : World} {A0 : Option Addr} {n0 c0 : Nat} {l0 : List Sv} (hb : Below w.heap.size w W) (h0 : Lst encSv 2 w w.heap.size A0 n0 l0)
    {b : Nat} (hg : W.heap[b]? = some (.cells #[.slice A0 n0 c0] 70 (0, 0))) : Sls W W.heap.size (some ⟨b, 0, none⟩) 1 [l0] := by
  have e0 := h0.1
  refine sls_of (Array.getElem?_eq_some_iff.1 hg).1 rfl fun k xs hxs => ?_
  rcases k with _ | k
  · obtain rfl : l0 = xs := by simpa using hxs
    exact ⟨A0, c0, lst3 hg (by rw [e0]; rfl), by rw [e0]; exact (h0.below hb).more hb.size⟩
  · simp at hxs
theorem sr_sams {zs ys : List Sv} (h : zs.map Sv.sr = ys.map Sv.sr) : (zs.flatMap (·.s)).length = (ys.flatMap (·.s)).length := by rw [← flat_sr, h, flat_sr]
/-- What merge.Series hands back for lists that are lent out. -/
def MadeS (w : World) (all : List Sv) (e : Ending) (w' : World) : Prop :=
  ∃ A n c os, e = .returned (.slice A n c) ∧ os.length = n ∧ OutSv w' w.heap.size (.slice A n c) os ∧ os.map Sv.sr = serU labelsC (all.map Sv.sr) ∧ Below w.heap.size w w'
theorem madeS_of {w W : World} {all zs : List Sv} (hb : Below w.heap.size w W) (hz : zs.map Sv.sr = all.map Sv.sr) {e : Ending} {w' : World} (h : SeriesPost (zs.map Sv.sr) W e w') : MadeS w all e w' := by
  obtain ⟨v, os, h1, h2, h3, h4⟩ := h
  obtain ⟨A, c, rfl, _, _⟩ := owns_slice h2.row
  exact ⟨A, os.length, c, os, h1, rfl, h2.base hb.size, by rw [h3, hz], hb.trans (h4.mono hb.size)⟩
theorem LentL.inAt {w W w0 : World} {A : Option Addr} {B g n c bo co : Nat} {ys zs : List Sv} (h : LentL w B g n c ys zs bo co) (hF : FewS w0 A n ys) (hb : Below w.heap.size w W) : (∀ z ∈ zs, SerIn W z) ∧ zs.length ≤ 60 ∧ (zs.flatMap (·.s)).length ≤ 3000 ∧ zs.map Sv.sr = ys.map Sv.sr ∧ Lst encSv 2 w w.heap.size (some ⟨g, 0, none⟩) n zs := by
  obtain ⟨f1, f2, f3⟩ := hF.flat
  obtain ⟨g1, g2, _⟩ := (h.below hb).facts hF
  have g3 := (h.facts hF).2.2
  exact ⟨g1, by rw [g3.1]; exact f2, by rw [sr_sams g2]; exact f3, g2, g3⟩
section
variable {w0 w : World} {A0 A1 A2 : Option Addr} {B0 B1 B2 g0 g1 g2 n0 n1 n2 c0 c1 c2 bo0 bo1 bo2 co0 co1 co2 : Nat} {l0 l1 l2 z0 z1 z2 : List Sv}
theorem made3 (F0 : FewS w0 A0 n0 l0) (F1 : FewS w0 A1 n1 l1) (F2 : FewS w0 A2 n2 l2) (L0 : LentL w B0 g0 n0 c0 l0 z0 bo0 co0) (L1 : LentL w B1 g1 n1 c1 l1 z1 bo1 co1) (L2 : LentL w B2 g2 n2 c2 l2 z2 bo2 co2) :
    Calls Tryz.prog 17 #[.slice (some ⟨w.heap.size, 0, none⟩) 3 3] (w.alloc (.cells #[.slice (some ⟨g0, 0, none⟩) n0 c0, .slice (some ⟨g1, 0, none⟩) n1 c1, .slice (some ⟨g2, 0, none⟩) n2 c2] 70)) (MadeS w (l0 ++ l1 ++ l2)) := by
  have hg := heap_alloc_new w (.cells #[.slice (some ⟨g0, 0, none⟩) n0 c0, .slice (some ⟨g1, 0, none⟩) n1 c1, .slice (some ⟨g2, 0, none⟩) n2 c2] 70)
  have hb : Below w.heap.size w (w.alloc (.cells #[.slice (some ⟨g0, 0, none⟩) n0 c0, .slice (some ⟨g1, 0, none⟩) n1 c1, .slice (some ⟨g2, 0, none⟩) n2 c2] 70)) := (Below.refl _ _).alloc (Nat.le_refl _) _
  generalize w.alloc (.cells #[.slice (some ⟨g0, 0, none⟩) n0 c0, .slice (some ⟨g1, 0, none⟩) n1 c1, .slice (some ⟨g2, 0, none⟩) n2 c2] 70) = W at hg hb ⊢
  obtain ⟨a0, a1, a2, a3, a4⟩ := L0.inAt F0 hb
  obtain ⟨b0, b1, b2, b3, b4⟩ := L1.inAt F1 hb
  obtain ⟨d0, d1, d2, d3, d4⟩ := L2.inAt F2 hb
  have hfl : [z0, z1, z2].flatten = z0 ++ z1 ++ z2 := by simp
  refine (series_any (some ⟨w.heap.size, 0, none⟩) 3 3 [z0, z1, z2] W (sls3 hb a4 b4 d4 hg) (by omega) ?_ ?_ ?_).mono fun e w' h => ?_
  · rw [hfl]; simp only [List.length_append]; omega
  · rw [hfl]; simp only [List.flatMap_append, List.length_append]; omega
  · rw [hfl]
    intro y hy
    rcases List.mem_append.1 hy with hy | hy
    · rcases List.mem_append.1 hy with hy | hy
      · exact a0 y hy
      · exact b0 y hy
    · exact d0 y hy
  · rw [hfl] at h
    exact madeS_of hb (by simp only [List.map_append, a3, b3, d3]) h
theorem made1 (F0 : FewS w0 A0 n0 l0) (L0 : LentL w B0 g0 n0 c0 l0 z0 bo0 co0) :
    Calls Tryz.prog 17 #[.slice (some ⟨w.heap.size, 0, none⟩) 1 1] (w.alloc (.cells #[.slice (some ⟨g0, 0, none⟩) n0 c0] 70)) (MadeS w l0) := by
  have hg := heap_alloc_new w (.cells #[.slice (some ⟨g0, 0, none⟩) n0 c0] 70)
  have hb : Below w.heap.size w (w.alloc (.cells #[.slice (some ⟨g0, 0, none⟩) n0 c0] 70)) := (Below.refl _ _).alloc (Nat.le_refl _) _
  generalize w.alloc (.cells #[.slice (some ⟨g0, 0, none⟩) n0 c0] 70) = W at hg hb ⊢
  obtain ⟨a0, a1, a2, a3, a4⟩ := L0.inAt F0 hb
  have hfl : [z0].flatten = z0 := by simp
  refine (series_any (some ⟨w.heap.size, 0, none⟩) 1 1 [z0] W (sls1 hb a4 hg) (by omega) ?_ ?_ ?_).mono fun e w' h => ?_
  · rw [hfl]; omega
  · rw [hfl]; omega
  · rw [hfl]; exact a0
  · rw [hfl] at h
    exact madeS_of hb a3 h
/-- .. for no list. -/
theorem made0 (w : World) : Calls Tryz.prog 17 #[.slice none 0 0] w fun e w' => ∃ A c, e = .returned (.slice A 0 c) ∧ Below w.heap.size w w' := by
  refine (series_any none 0 0 [] w ⟨rfl, fun h => absurd h (by omega)⟩ (by omega) (by simp) (by simp) (by simp)).mono fun e w' ⟨v, os, h1, h2, h3, h4⟩ => ?_
  obtain rfl : os = [] := by
    have h5 := congrArg List.length h3
    have h6 := serU_len (c := labelsC) (([] : List (List Sv)).flatten.map Sv.sr)
    rw [List.length_map] at h5
    simp at h6 h5
    rw [h6] at h5
    exact List.length_eq_zero_iff.1 (by simpa using h5)
  obtain ⟨A, c, rfl, _, _⟩ := owns_slice h2.row
  exact ⟨A, c, h1, h4⟩
def RefS (w : World) (all : List Sv) (e : Ending) (w' : World) : Prop := ∃ v os, e = .returned v ∧ RSer w' w.heap.size v os ∧ os.map Sv.sr = serU labelsC (all.map Sv.sr) ∧ Below w.heap.size w w'
theorem FewS.inAt {W : World} (h : FewS w0 A0 n0 l0) (hb : Below w0.heap.size w0 W) : (∀ z ∈ l0, Sat W W.heap.size z) ∧ l0.length ≤ 60 ∧ (l0.flatMap (·.s)).length ≤ 3000 := by
  obtain ⟨f1, f2, f3⟩ := h.flat
  exact ⟨fun z hz => ((h.on hb).sat z hz).1, by omega, f3⟩
theorem ref3 (F0 : FewS w0 A0 n0 l0) (F1 : FewS w0 A1 n1 l1) (F2 : FewS w0 A2 n2 l2) (hw : Below w0.heap.size w0 w) :
    Calls Tryz.prog 22 #[.slice (some ⟨w.heap.size, 0, none⟩) 3 3] (w.alloc (.cells #[.slice A0 n0 c0, .slice A1 n1 c1, .slice A2 n2 c2] 70)) (RefS w (l0 ++ l1 ++ l2)) := by
  have hg := heap_alloc_new w (.cells #[.slice A0 n0 c0, .slice A1 n1 c1, .slice A2 n2 c2] 70)
  have hb : Below w.heap.size w (w.alloc (.cells #[.slice A0 n0 c0, .slice A1 n1 c1, .slice A2 n2 c2] 70)) := (Below.refl _ _).alloc (Nat.le_refl _) _
  generalize w.alloc (.cells #[.slice A0 n0 c0, .slice A1 n1 c1, .slice A2 n2 c2] 70) = W at hg hb ⊢
  have hw2 : Below w0.heap.size w0 W := hw.trans (hb.mono hw.size)
  obtain ⟨a0, a1, a2⟩ := F0.inAt hw2
  obtain ⟨b0, b1, b2⟩ := F1.inAt hw2
  obtain ⟨d0, d1, d2⟩ := F2.inAt hw2
  have hfl : [l0, l1, l2].flatten = l0 ++ l1 ++ l2 := by simp
  refine (refSeries_any (some ⟨w.heap.size, 0, none⟩) 3 3 [l0, l1, l2] W (sls3 hb (F0.on hw).arg.lst (F1.on hw).arg.lst (F2.on hw).arg.lst hg) (by omega) ?_ ?_ ?_).mono fun e w' ⟨v, os, h1, h2, h3, h4⟩ => ?_
  · rw [hfl]; simp only [List.length_append]; omega
  · rw [hfl]; simp only [List.flatMap_append, List.length_append]; omega
  · rw [hfl]
    intro y hy
    rcases List.mem_append.1 hy with hy | hy
    · rcases List.mem_append.1 hy with hy | hy
      · exact a0 y hy
      · exact b0 y hy
    · exact d0 y hy
  · rw [hfl] at h3
    exact ⟨v, os, h1, h2.base hb.size, h3, hb.trans (h4.mono hb.size)⟩
theorem ref1 (F0 : FewS w0 A0 n0 l0) (hw : Below w0.heap.size w0 w) :
    Calls Tryz.prog 22 #[.slice (some ⟨w.heap.size, 0, none⟩) 1 1] (w.alloc (.cells #[.slice A0 n0 c0] 70)) (RefS w l0) := by
  have hg := heap_alloc_new w (.cells #[.slice A0 n0 c0] 70)
  have hb : Below w.heap.size w (w.alloc (.cells #[.slice A0 n0 c0] 70)) := (Below.refl _ _).alloc (Nat.le_refl _) _
  generalize w.alloc (.cells #[.slice A0 n0 c0] 70) = W at hg hb ⊢
  have hw2 : Below w0.heap.size w0 W := hw.trans (hb.mono hw.size)
  obtain ⟨a0, a1, a2⟩ := F0.inAt hw2
  have hfl : [l0].flatten = l0 := by simp
  refine (refSeries_any (some ⟨w.heap.size, 0, none⟩) 1 1 [l0] W (sls1 hb (F0.on hw).arg.lst hg) (by omega) ?_ ?_ ?_).mono fun e w' ⟨v, os, h1, h2, h3, h4⟩ => ?_
  · rw [hfl]; omega
  · rw [hfl]; omega
  · rw [hfl]; exact a0
  · rw [hfl] at h3
    exact ⟨v, os, h1, h2.base hb.size, h3, hb.trans (h4.mono hb.size)⟩
theorem whole_at {wc : World} (F0 : FewS w0 A0 n0 l0) (L0 : LentL w B0 g0 n0 c0 l0 z0 bo0 co0) (h0 : Below w0.heap.size w0 w) (hb : Below w.heap.size w wc) {ca : Nat} :
    Calls Tryz.prog 18 #[.slice (some ⟨g0, 0, none⟩) n0 c0, .slice A0 n0 ca] wc fun e w' => e = .returned (.bool true) ∧ Below w.heap.size w w' ∧ Below wc.heap.size wc w' :=
  ((L0.below hb).whole F0 (h0.trans (hb.mono h0.size))).mono fun e w' ⟨h1, q, h2⟩ => ⟨h1, by rw [h2]; exact below_drewN hb q, by rw [h2]; exact below_drewN (Below.refl _ _) q⟩
end
/-- A result and the paper's, alike. -/
theorem same_sr {w : World} {B B' n c : Nat} {A : Option Addr} {v : Value} {os os' : List Sv} (h : OutSv w B (.slice A n c) os) (hn : os.length = n) (h' : RSer w B' v os') (hm : os'.map Sv.sr = os.map Sv.sr) (hl : os.length ≤ 200 ∧ ∀ z ∈ os, z.l.length ≤ 20000 ∧ z.s.length ≤ 20000) :
    Calls Tryz.prog 21 #[.slice A n c, v] w fun e w' => e = .returned (.bool true) ∧ Below w.heap.size w w' := by
  have hn' : os'.length = n := by have := congrArg List.length hm; rw [List.length_map, List.length_map] at this; omega
  have hr := h'.row
  rw [hn'] at hr
  obtain ⟨A', c', rfl, _, hL'⟩ := ownsRow_lst hr hn' encSv_len
  exact (sameSer_q A A' n c c' os os' w (out_ser h hn) hL' (h.sat (m := 20000) (by omega) hl.2) h'.each hm.symm (by omega)).mono fun e w' ⟨h1, q, h2⟩ => ⟨h1, by rw [h2]; exact below_drewN (Below.refl _ _) q⟩
theorem cells_final {cs1 cs2 : Array Value} {a b c a' b' c' : Value} (h1 : BkCells nils cs1 a b c) (h2 : BkCells cs1 cs2 a' b' c') : ∀ k, k < 32 → cs2[k]? = some (if k = 22 then a' else if k = 9 then b' else if k = 10 then c' else .slice none 0 0) := fun k hk => by
  rw [h2 k hk]
  by_cases k22 : k = 22
  · rw [if_pos k22, if_pos k22]
  · rw [if_neg k22, if_neg k22]
    by_cases k9 : k = 9
    · rw [if_pos k9, if_pos k9]
    · rw [if_neg k9, if_neg k9]
      by_cases k10 : k = 10
      · rw [if_pos k10, if_pos k10]
      · rw [if_neg k10, if_neg k10, h1 k hk, if_neg k22, if_neg k9, if_neg k10]
        exact nils_at hk
end Go.Proofs.YtihidnmpngeohaaGreat
namespace Go.Proofs.YtihidnmpngeohaaGreat
open Go.RowKit Go.Lib

/-- Lists of tombs. -/
def Tls (w : World) (B : Nat) (A : Option Addr) (n : Nat) (ls : List (List Tv)) : Prop :=
  ls.length = n ∧ (0 < n → ∃ b off, A = some ⟨b, off, none⟩ ∧ b < B ∧ ∀ (k : Nat) xs, ls[k]? = some xs → ∃ A' c', w.cell? ⟨b, off + k, none⟩ = some (.slice A' xs.length c') ∧ Lst encTb 3 w B A' xs.length xs)
theorem Tls.below {w w' : World} {B n : Nat} {A : Option Addr} {ls : List (List Tv)} (h : Tls w B A n ls) (hb : Below B w w') : Tls w' B A n ls :=
  ⟨h.1, fun h0 => by
    obtain ⟨b, off, e, hlt, hc⟩ := h.2 h0
    refine ⟨b, off, e, hlt, fun k xs hxs => ?_⟩
    obtain ⟨A', c', h1, h2⟩ := hc k xs hxs
    exact ⟨A', c', (hb.cell hlt).trans h1, h2.below hb⟩⟩
theorem Tls.at {w : World} {B n : Nat} {A : Option Addr} {ls : List (List Tv)} (h : Tls w B A n ls) {i : Nat} (hi : i < n) : ∃ b off xs A' c', A = some ⟨b, off, none⟩ ∧ b < B ∧ ls[i]? = some xs ∧ w.cell? ⟨b, off + i, none⟩ = some (.slice A' xs.length c') ∧ Lst encTb 3 w B A' xs.length xs := by
  obtain ⟨b, off, e, hlt, hc⟩ := h.2 (by omega)
  have hx : ls[i]? = some (ls[i]'(by have := h.1; omega)) := List.getElem?_eq_getElem _
  obtain ⟨A', c', h1, h2⟩ := hc i _ hx
  exact ⟨b, off, _, A', c', e, hlt, hx, h1, h2⟩
theorem Sls.at {w : World} {B n : Nat} {A : Option Addr} {ls : List (List Sv)} (h : Sls w B A n ls) {i : Nat} (hi : i < n) : ∃ b off xs A' c', A = some ⟨b, off, none⟩ ∧ b < B ∧ ls[i]? = some xs ∧ w.cell? ⟨b, off + i, none⟩ = some (.slice A' xs.length c') ∧ Lst encSv 2 w B A' xs.length xs := by
  obtain ⟨b, off, e, hlt, hc⟩ := h.2 (by omega)
  have hx : ls[i]? = some (ls[i]'(by have := h.1; omega)) := List.getElem?_eq_getElem _
  obtain ⟨A', c', h1, h2⟩ := hc i _ hx
  exact ⟨b, off, _, A', c', e, hlt, hx, h1, h2⟩
/-- How much is counted. -/
def serC : List Sv → Nat
  | [] => 0
  | y :: l => y.m + y.n + 1 + serC l
def tmbC : List Tv → Nat
  | [] => 0
  | y :: l => y.n + 1 + tmbC l
theorem serC_append (a b : List Sv) : serC (a ++ b) = serC a + serC b := by
  induction a with
  | nil => simp [serC]
  | cons x a ih => simp only [List.cons_append, serC, ih]; omega
theorem tmbC_append (a b : List Tv) : tmbC (a ++ b) = tmbC a + tmbC b := by
  induction a with
  | nil => simp [tmbC]
  | cons x a ih => simp only [List.cons_append, tmbC, ih]; omega
theorem serC_mem {ys : List Sv} {y : Sv} (h : y ∈ ys) : y.m + y.n + 1 ≤ serC ys := by
  induction ys with
  | nil => cases h
  | cons x ys ih =>
    simp only [serC]
    rcases List.mem_cons.1 h with rfl | h
    · omega
    · have := ih h; omega
theorem tmbC_mem {ys : List Tv} {y : Tv} (h : y ∈ ys) : y.n + 1 ≤ tmbC ys := by
  induction ys with
  | nil => cases h
  | cons x ys ih =>
    simp only [tmbC]
    rcases List.mem_cons.1 h with rfl | h
    · omega
    · have := ih h; omega
theorem serC_len (ys : List Sv) : ys.length ≤ serC ys := by
  induction ys with
  | nil => simp
  | cons x ys ih => simp only [serC, List.length_cons]; omega
theorem tmbC_len (ys : List Tv) : ys.length ≤ tmbC ys := by
  induction ys with
  | nil => simp
  | cons x ys ih => simp only [tmbC, List.length_cons]; omega
theorem serC_flat {ys : List Sv} (h : ∀ y ∈ ys, y.s.length = y.m) : (ys.flatMap (·.s)).length ≤ serC ys := by
  induction ys with
  | nil => simp [serC]
  | cons x ys ih =>
    have := ih fun y hy => h y (by simp [hy])
    have hx := h x (by simp)
    simp only [List.flatMap_cons, List.length_append, serC]
    omega
theorem flat_take {α : Type} {ls : List (List α)} {i : Nat} {xs : List α} (h : ls[i]? = some xs) : (ls.take (i + 1)).flatten = (ls.take i).flatten ++ xs := by
  obtain ⟨g1, g2⟩ := List.getElem?_eq_some_iff.1 h
  rw [List.take_succ_eq_append_getElem g1, g2, List.flatten_append]
  simp
theorem mem_flat {α : Type} {ls : List (List α)} {i : Nat} {xs : List α} (h : ls[i]? = some xs) {y : α} (hy : y ∈ xs) : y ∈ ls.flatten := List.mem_flatten.2 ⟨xs, List.mem_of_getElem? h, hy⟩
theorem len_flat {α : Type} {ls : List (List α)} {i : Nat} {xs : List α} (h : ls[i]? = some xs) : xs.length ≤ ls.flatten.length := by
  have h1 := flat_take h
  have h2 : ls.flatten = (ls.take (i + 1)).flatten ++ (ls.drop (i + 1)).flatten := by rw [← List.flatten_append, List.take_append_drop]
  rw [h2, h1, List.length_append, List.length_append]; omega
def Much19 (w : World) (n n' : Nat) (ls : List (List Sv)) (ts : List (List Tv)) (e : Ending) (w' : World) : Prop :=
  ∃ b, e = .returned (.bool b) ∧ (b = false → n + n' + serC ls.flatten + tmbC ts.flatten ≤ 3000) ∧ ∃ q, w' = w.drewN q
end Go.Proofs.YtihidnmpngeohaaGreat
namespace Go.Proofs.YtihidnmpngeohaaGreat

def covB (l : List (Int × Int)) (t : Int) : Bool := l.any fun x => decide (x.1 ≤ t ∧ t ≤ x.2)
theorem covB_iff (l : List (Int × Int)) (t : Int) : covB l t = true ↔ Cov l t := by
  unfold covB Cov
  rw [List.any_eq_true]
  exact ⟨fun ⟨x, hx, h⟩ => ⟨x, hx, of_decide_eq_true h⟩, fun ⟨x, hx, h⟩ => ⟨x, hx, decide_eq_true h⟩⟩
theorem covB_congr {l m : List (Int × Int)} (h : ∀ t, Cov l t ↔ Cov m t) (t : Int) : covB l t = covB m t := by
  rw [Bool.eq_iff_iff, covB_iff, covB_iff]; exact h t
theorem covB_succ {l : List (Int × Int)} {k : Nat} {x : Int × Int} {t : Int} (hx : l[k]? = some x) : covB (l.take (k + 1)) t = (covB (l.take k) t || decide (x.1 ≤ t ∧ t ≤ x.2)) := by
  obtain ⟨hk, e⟩ := List.getElem?_eq_some_iff.1 hx
  unfold covB
  rw [List.take_succ_eq_append_getElem hk, e, List.any_append]
  simp
theorem covB_mem {l : List (Int × Int)} {k : Nat} {x : Int × Int} {t : Int} (hx : l[k]? = some x) (h : x.1 ≤ t ∧ t ≤ x.2) : covB l t = true := (covB_iff l t).2 ⟨x, List.mem_of_getElem? hx, h⟩
/-- Those that lie in none; those that lie in one. -/
def withoutS (s : List (Int × Int)) (l : List (Int × Int)) : List (Int × Int) := s.filter fun x => !covB l x.1
def withinS (s : List (Int × Int)) (l : List (Int × Int)) : List (Int × Int) := s.filter fun x => covB l x.1
theorem filter_succ {s : List (Int × Int)} {k : Nat} {x : Int × Int} (p : Int × Int → Bool) (hx : s[k]? = some x) : (s.take (k + 1)).filter p = (s.take k).filter p ++ (if p x then [x] else []) := by
  obtain ⟨hk, e⟩ := List.getElem?_eq_some_iff.1 hx
  rw [List.take_succ_eq_append_getElem hk, e, List.filter_append]
  by_cases h : p x <;> simp [h]
end Go.Proofs.YtihidnmpngeohaaGreat
namespace Go.Proofs.YtihidnmpngeohaaGreat
open Go.RowKit Go.Lib

/-- What a predicate does in a world. -/
def PredSample (gf : Nat) (lb : Array Value) (p : Int × Int → Bool) (W : World) : Prop :=
  ∀ x : Int × Int, Calls Tryz.prog gf (#[.agg #[.int .i64 x.1, .int .u64 x.2]] ++ lb) W fun e w' => e = .returned (.bool (p x)) ∧ Below W.heap.size W w'
def idxSample (p : Int × Int → Bool) (l : List (Int × Int)) : Int := match l.findIdx? p with | some i => (i : Int) | none => -1
theorem idxSample_none {p : Int × Int → Bool} {l : List (Int × Int)} (h : ∀ x ∈ l, p x = false) : idxSample p l = -1 := by
  unfold idxSample
  rw [List.findIdx?_eq_none_iff.2 h]
theorem idxSample_some {p : Int × Int → Bool} {l : List (Int × Int)} {k : Nat} {x : Int × Int} (hx : l[k]? = some x) (h : p x = true) (hb : ∀ j y, j < k → l[j]? = some y → p y = false) : idxSample p l = k := by
  obtain ⟨hk1, hk2⟩ := List.getElem?_eq_some_iff.1 hx
  unfold idxSample
  have e : l.findIdx? p = some k := by
    rw [List.findIdx?_eq_some_iff_getElem]
    refine ⟨hk1, by rw [hk2]; exact h, fun j hj => ?_⟩
    rw [hb j _ hj (List.getElem?_eq_getElem (by omega))]
    simp
  rw [e]
set_option maxHeartbeats 2000000 in
set_option maxRecDepth 100000 in
theorem indexFuncSample (gf : Nat) (lb : Array Value) (eg : ∀ args w, (callFunc gf args).run Tryz.prog w = .ok (.enter gf args) w) (p : Int × Int → Bool) (A : Option Addr) (n c : Nat) (l : List (Int × Int)) (w : World)
    (hL : Lst encS 2 w w.heap.size A n l) (hn : n ≤ 1099511627776) (hp : ∀ W, Below w.heap.size w W → PredSample gf lb p W) :
    Calls Tryz.prog 147 #[.slice A n c, .func (.func gf) #[] lb] w fun e w' => e = .returned (.int .i64 (idxSample p l)) ∧ Below w.heap.size w w' := by
  have HL := Lib.hid hL
  have HP := Lib.hid hp
  clear hL hp
  go_enter Tryz.func147, Tryz.ntmps147
  go_wp2
  go_loopw [8] (fun i wr => ∃ k : Nat, k ≤ n ∧ i = .int .i64 k ∧ Below w.heap.size w wr ∧ Hid (∀ j y, j < k → l[j]? = some y → p y = false)) (fun i _ => n - (intOf i).toNat)
  case atStart => exact ⟨0, Nat.zero_le _, rfl, Below.refl _ _, Lib.hid (fun j y h => absurd h (by omega))⟩
  case round =>
    obtain ⟨k, hk, rfl, hbl, HB⟩ := hrel
    by_cases hlt : k < n
    · obtain ⟨b, off, x, rfl, hb, hx, hc⟩ := HL.out.at hlt
      have c0 := (hbl.cell (p := ⟨b, off + k * 2 + 0, none⟩) hb).trans (hc 0 _ rfl)
      have c1 := (hbl.cell (p := ⟨b, off + k * 2 + 1, none⟩) hb).trans (hc 1 _ rfl)
      simp only [Nat.add_zero] at c0
      have hcall := HP.out wr hbl x
      have HX := Lib.hid hx
      clear hc hx
      cases hpx : p x with
      | true =>
        rw [hpx] at hcall
        have HC := Lib.hid hcall
        have HPX := Lib.hid hpx
        clear hcall hpx
        go_wp2_with fail
        refine HC.out.mono ?_
        rintro e w' ⟨rfl, hb'⟩
        go_wp2
        go_ret
        exact ⟨by rw [idxSample_some HX.out HPX.out HB.out]; rfl, hbl.trans (hb'.mono hbl.size)⟩
      | false =>
        rw [hpx] at hcall
        have HC := Lib.hid hcall
        have HPX := Lib.hid hpx
        clear hcall hpx
        go_wp2_with fail
        refine HC.out.mono ?_
        rintro e w' ⟨rfl, hb'⟩
        go_wp2
        go_roundw
        case measure => simp [intOf]; omega
        case rel => exact ⟨k + 1, hlt, by simp, hbl.trans (hb'.mono hbl.size), Lib.hid (fun j y hj hy => by
          by_cases hjk : j = k
          · subst hjk
            rw [HX.out] at hy
            injection hy with hy
            rw [← hy]; exact HPX.out
          · exact HB.out j y (by omega) hy)⟩
    · obtain rfl : k = n := by omega
      go_wp2
      go_ret
      exact ⟨by rw [idxSample_none fun x hx => by
        obtain ⟨j, hj, e⟩ := List.getElem_of_mem hx
        exact HB.out j x (by have := HL.out.1; omega) (by rw [List.getElem?_eq_getElem hj, e])]; rfl, hbl⟩
theorem zeroSample (W : World) : (zeroValue 95).run Tryz.prog W = .ok (.agg #[.int .i64 0, .int .u64 0]) W := by kernel_rfl
/-- While it goes: the first i elements are those of the first j that stay, those from j on are as they were. -/
def KeptSample (p : Int × Int → Bool) (l ys : List (Int × Int)) (i j : Nat) : Prop :=
  ys.length = l.length ∧ ys.take i = (l.take j).filter (fun x => !p x) ∧ ys.drop j = l.drop j ∧ i < j ∧ i = ((l.take j).filter (fun x => !p x)).length
theorem KeptSample.skip {p : Int × Int → Bool} {l ys : List (Int × Int)} {i j : Nat} {x : Int × Int} (h : KeptSample p l ys i j) (hx : l[j]? = some x) (hp : p x = true) : KeptSample p l ys i (j + 1) := by
  obtain ⟨h1, h2, h3, h4, h5⟩ := h
  obtain ⟨hj, hxj⟩ := List.getElem?_eq_some_iff.1 hx
  have ht : l.take (j + 1) = l.take j ++ [x] := by rw [List.take_succ_eq_append_getElem hj, hxj]
  have hf : (l.take (j + 1)).filter (fun x => !p x) = (l.take j).filter (fun x => !p x) := by rw [ht, List.filter_append]; simp [hp]
  refine ⟨h1, by rw [hf]; exact h2, ?_, by omega, by rw [hf]; exact h5⟩
  rw [show j + 1 = j + 1 from rfl, ← List.drop_drop, ← List.drop_drop, h3]
theorem KeptSample.keep {p : Int × Int → Bool} {l ys : List (Int × Int)} {i j : Nat} {x : Int × Int} (h : KeptSample p l ys i j) (hx : l[j]? = some x) (hp : p x = false) : KeptSample p l (ys.set i x) (i + 1) (j + 1) := by
  obtain ⟨h1, h2, h3, h4, h5⟩ := h
  obtain ⟨hj, hxj⟩ := List.getElem?_eq_some_iff.1 hx
  have ht : l.take (j + 1) = l.take j ++ [x] := by rw [List.take_succ_eq_append_getElem hj, hxj]
  have hf : (l.take (j + 1)).filter (fun x => !p x) = (l.take j).filter (fun x => !p x) ++ [x] := by rw [ht, List.filter_append]; simp [hp]
  refine ⟨by simpa using h1, ?_, ?_, by omega, by rw [hf]; simp [← h5]⟩
  · rw [take_set_next _ _ _ (by omega), h2, hf]
  · rw [List.drop_set_of_lt (by omega), ← List.drop_drop, ← List.drop_drop, h3]
theorem KeptSample.start {p : Int × Int → Bool} {l : List (Int × Int)} {k : Nat} {x : Int × Int} (hx : l[k]? = some x) (hp : p x = true) (hb : ∀ j y, j < k → l[j]? = some y → p y = false) : KeptSample p l l k (k + 1) := by
  obtain ⟨hj, hxj⟩ := List.getElem?_eq_some_iff.1 hx
  have ht : l.take (k + 1) = l.take k ++ [x] := by rw [List.take_succ_eq_append_getElem hj, hxj]
  have hk : (l.take k).filter (fun x => !p x) = l.take k := List.filter_eq_self.2 fun y hy => by
    obtain ⟨j, hj', e⟩ := List.getElem_of_mem hy
    rw [List.length_take] at hj'
    rw [hb j y (by omega) (by rw [← e, List.getElem_take]; exact List.getElem?_eq_getElem (by omega))]; rfl
  have hf : (l.take (k + 1)).filter (fun x => !p x) = l.take k := by rw [ht, List.filter_append, hk]; simp [hp]
  exact ⟨rfl, by rw [hf], rfl, by omega, by rw [hf, List.length_take]; omega⟩
theorem KeptSample.end_ {p : Int × Int → Bool} {l ys : List (Int × Int)} {i : Nat} (h : KeptSample p l ys i l.length) : ys.take i = l.filter (fun x => !p x) ∧ i = (l.filter (fun x => !p x)).length := by
  obtain ⟨h1, h2, h3, h4, h5⟩ := h
  rw [List.take_length] at h2 h5
  exact ⟨h2, h5⟩
theorem firstSample {p : Int × Int → Bool} {l : List (Int × Int)} (h : ¬ ∀ x ∈ l, p x = false) : ∃ (k : Nat) (x : Int × Int), l[k]? = some x ∧ p x = true ∧ ∀ (j : Nat) y, j < k → l[j]? = some y → p y = false := by
  cases hq : l.findIdx? p with
  | none => exact absurd (List.findIdx?_eq_none_iff.1 hq) h
  | some k =>
    obtain ⟨hk, h1, h2⟩ := List.findIdx?_eq_some_iff_getElem.1 hq
    refine ⟨k, _, List.getElem?_eq_getElem hk, h1, fun j y hj hy => ?_⟩
    have := h2 j hj
    obtain ⟨hj', e⟩ := List.getElem?_eq_some_iff.1 hy
    rw [← e]
    simpa using this
set_option maxHeartbeats 4000000 in
set_option maxRecDepth 100000 in
theorem deleteFuncSample (gf : Nat) (lb : Array Value) (eg : ∀ args w, (callFunc gf args).run Tryz.prog w = .ok (.enter gf args) w) (p : Int × Int → Bool) (A : Option Addr) (n c : Nat) (l : List (Int × Int)) (w : World) (B : Nat)
    (ho : w.ownsRow B 95 2 (.slice A n c) n (l.flatMap encS)) (hn : n ≤ 1099511627776) (hp : ∀ W, w.grownBy W (Value.slice A n c).ownBlock → PredSample gf lb p W) :
    Calls Tryz.prog 114 #[.slice A n c, .func (.func gf) #[] lb] w fun e w' => e = .returned (.slice A (l.filter (fun x => !p x)).length c) ∧
      w'.ownsRow B 95 2 (.slice A (l.filter (fun x => !p x)).length c) (l.filter (fun x => !p x)).length ((l.filter (fun x => !p x)).flatMap encS) ∧ w.grownBy w' (Value.slice A n c).ownBlock := by
  have hll := owns_len ho encS_len (by omega)
  have hL : Lst encS 2 w w.heap.size A n l := by
    obtain ⟨A', c', e, _, h⟩ := ownsRow_lst ho hll encS_len
    injection e with e1 e2 e3
    rw [e1]; exact h
  have hIF := indexFuncSample gf lb eg p A n c l w hL hn (fun W hb => hp W ⟨hb.os, hb.tape, hb.output, hb.size, fun k hk _ => hb.block k hk⟩)
  have HO := Lib.hid ho
  have HP := Lib.hid hp
  have HLL := Lib.hid hll
  have HIF := Lib.hid hIF
  clear ho hp hll hL hIF
  by_cases hany : ∀ x ∈ l, p x = false
  · have hfil : l.filter (fun x => !p x) = l := List.filter_eq_self.2 fun x hx => by rw [hany x hx]; rfl
    rw [hfil, HLL.out]
    have HI := Lib.hid (idxSample_none hany)
    clear hfil hany
    go_enter Tryz.func114, Tryz.ntmps114
    go_wp2_with fail
    refine HIF.out.mono ?_
    rw [HI.out]
    rintro e w' ⟨rfl, hb'⟩
    go_wp2
    go_ret
    exact ⟨rfl, owns_below HO.out hb', ⟨hb'.os, hb'.tape, hb'.output, hb'.size, fun k hk _ => hb'.block k hk⟩⟩
  · obtain ⟨k0, x0, hx0, hp0, hb0⟩ := firstSample hany
    have hk0 := (List.getElem?_eq_some_iff.1 hx0).1
    have hk0n : k0 < n := by have := HLL.out; omega
    have HI := Lib.hid (idxSample_some hx0 hp0 hb0)
    have HK := Lib.hid (KeptSample.start hx0 hp0 hb0)
    obtain ⟨g, rfl, hg⟩ := owns_some' HO.out (by omega)
    obtain ⟨_, hcn⟩ := owns_cap HO.out
    have hne1 : ((k0 : Int) == -1) = false := beq_eq_false_iff_ne.2 (by omega)
    clear hany hx0 hp0 hb0 hk0
    go_enter Tryz.func114, Tryz.ntmps114
    go_wp2_with fail
    refine HIF.out.mono ?_
    rw [HI.out]
    rintro e w1 ⟨rfl, hb1⟩
    have H1 := Lib.hid (show _ ∧ _ from ⟨owns_below HO.out hb1, (⟨hb1.os, hb1.tape, hb1.output, hb1.size, fun k hk _ => hb1.block k hk⟩ : w.grownBy w1 (some g))⟩)
    clear hb1
    go_wp2
    go_loopw [5, 6, 7] (fun s5 s6 _ wr => ∃ (i j : Nat) (ys : List (Int × Int)), s5 = .int .i64 i ∧ s6 = .int .i64 j ∧ i < j ∧ j ≤ n ∧ Hid (KeptSample p l ys i j ∧ wr.ownsRow B 95 2 (.slice (some ⟨g, 0, none⟩) n c) n (ys.flatMap encS) ∧ w.grownBy wr (some g))) (fun _ s6 _ _ => n - (intOf s6).toNat)
    case atStart => exact ⟨k0, k0 + 1, l, rfl, by simp, by omega, by omega, Lib.hid ⟨HK.out, H1.out.1, H1.out.2⟩⟩
    case round =>
      obtain ⟨i, j, ys, rfl, rfl, hij, hj, HR⟩ := hrel
      by_cases hlt : j < n
      · obtain ⟨x, hx⟩ : ∃ x, l[j]? = some x := ⟨_, List.getElem?_eq_getElem (by have := HLL.out; omega)⟩
        have hyx : ys[j]? = some x := by
          have h3 := HR.out.1.2.2.1
          have h4 := congrArg (fun z => z[0]?) h3
          simpa [List.getElem?_drop, hx] using h4
        have c0 := owns_at HR.out.2.1 encS_len hyx (j := 0) rfl
        have c1 := owns_at HR.out.2.1 encS_len hyx (j := 1) rfl
        simp only [Nat.add_zero] at c0
        have HX := Lib.hid hx
        have hgr : w.grownBy (wr.alloc (.cells #[.int .i64 x.1, .int .u64 x.2] 95)) (some g) := grownBy_trans HR.out.2.2 (World.grownBy_alloc _ _ _)
        have hcall := HP.out _ hgr x
        clear hx hyx hgr
        cases hpx : p x with
        | true =>
          rw [hpx] at hcall
          have HC := Lib.hid hcall
          have HPX := Lib.hid hpx
          clear hcall hpx
          go_wp2_with fail
          refine HC.out.mono ?_
          rintro e w' ⟨rfl, hb'⟩
          have hb2 : Below wr.heap.size wr w' := ((Below.refl _ wr).alloc (Nat.le_refl _) _).trans (hb'.mono (by simp))
          have HB := Lib.hid (show _ ∧ _ ∧ _ from ⟨HR.out.1.skip HX.out HPX.out, owns_below HR.out.2.1 hb2, grownBy_below HR.out.2.2 hb2⟩)
          clear hb' hb2 c0 c1
          go_wp2
          go_roundw
          case measure => simp [intOf]; omega
          case rel => exact ⟨i, j + 1, ys, rfl, by simp, by omega, hlt, HB⟩
        | false =>
          rw [hpx] at hcall
          have HC := Lib.hid hcall
          have HPX := Lib.hid hpx
          clear hcall hpx
          go_wp2_with fail
          refine HC.out.mono ?_
          rintro e w' ⟨rfl, hb'⟩
          have hb2 : Below wr.heap.size wr w' := ((Below.refl _ wr).alloc (Nat.le_refl _) _).trans (hb'.mono (by simp))
          have ho2 := owns_below HR.out.2.1 hb2
          have hyl : ys.length = n := HR.out.1.1.trans HLL.out
          obtain ⟨y, hy⟩ : ∃ y, ys[i]? = some y := ⟨_, List.getElem?_eq_getElem (by omega)⟩
          have d0 := owns_at ho2 encS_len hy (j := 0) rfl
          have d1 := owns_at ho2 encS_len hy (j := 1) rfl
          simp only [Nat.add_zero] at d0
          have f0 := ho2.frozenAt (i * 2)
          have f1 := ho2.frozenAt (i * 2 + 1)
          have b0 : w'.cell? ⟨wr.heap.size, 0, none⟩ = some (.int .i64 x.1) := (hb'.cell (p := ⟨wr.heap.size, 0, none⟩) (by simp)).trans (by rw [cell_of_row _ _ _ _ _ _ (heap_alloc_new wr _)]; rfl)
          have b1 : w'.cell? ⟨wr.heap.size, 1, none⟩ = some (.int .u64 x.2) := (hb'.cell (p := ⟨wr.heap.size, 1, none⟩) (by simp)).trans (by rw [cell_of_row _ _ _ _ _ _ (heap_alloc_new wr _)]; rfl)
          have hst := owns_set2 ho2 encS_len (i := i) (by omega) (x := x) rfl
          have HB := Lib.hid (show _ ∧ _ ∧ _ from ⟨HR.out.1.keep HX.out HPX.out, hst.1, grownBy_trans (grownBy_below HR.out.2.2 hb2) hst.2⟩)
          clear hb' hb2 c0 c1 ho2 hyl hy hst
          go_wp2
          go_roundw
          case measure => simp [intOf]; omega
          case rel => exact ⟨i + 1, j + 1, _, by simp, by simp, by omega, hlt, HB⟩
      · obtain rfl : j = n := by omega
        have hK := HR.out.1
        rw [← HLL.out] at hK
        have HE := Lib.hid hK.end_
        obtain ⟨w5, hrun, hown5, hg5⟩ := run_clear_own (P := Tryz.prog) (c := c - i) HR.out.2.1 (i := i) (by omega) 90 0 Tryz.underlying90 _ zeroSample rfl (by simp [Value.cells, Value.oneCell']) (by omega)
        rw [flatMap_take encS_len, HE.out.1] at hown5
        have H5 := Lib.hid (show _ ∧ _ from ⟨hown5, grownBy_trans HR.out.2.2 hg5⟩)
        have hcl : ∀ ty, (Builtin.clear_ #[90] ty #[.slice (some ⟨g, i * 2, none⟩) (j - i) (c - i)]).run Tryz.prog wr = .ok (.tuple #[]) w5 := fun ty => hrun
        clear hrun hown5 hg5 hK
        go_wp2
        go_ret
        rw [← HE.out.2]
        exact ⟨rfl, H5.out.1, H5.out.2⟩
end Go.Proofs.YtihidnmpngeohaaGreat
