/- slices.SortFunc of elements by their labels, then by their numbers. -/
import Derived.Test.YtajaijidecomdaaGreatDoorVEl
import Derived.Test.YtajaijidecomdaaGreatDoorVNum
import Derived.Test.YtajaijidecomdaaGreatDoorG11
import Derived.Test.YtajaijidecomdaaGreatDoorShelf7
import Derived.Shelf.SlSortCmp.NoneTotal
namespace Go.Proofs.YtajaijidecomdaaGreatDoor
open Go.RowKit Go.Lib Go.Sort

theorem cmp3_swo {α K : Type} {c : K → K → Int} (h : Cmp3 c) (f : α → K) : SWO (ltOf fun x y => c (f x) (f y)) where
  irrefl x := by
    show decide (c (f x) (f x) < 0) = false
    rw [h.self]; decide
  trans x y z h1 h2 := by
    have h1 := of_decide_eq_true (show decide (c (f x) (f y) < 0) = true from h1)
    have h2 := of_decide_eq_true (show decide (c (f y) (f z) < 0) = true from h2)
    exact decide_eq_true (h.trans _ _ _ h1 h2)
  ntrans x y z h1 h2 := by
    have h1 := of_decide_eq_false (show decide (c (f x) (f y) < 0) = false from h1)
    have h2 := of_decide_eq_false (show decide (c (f y) (f z) < 0) = false from h2)
    have e1 := h.swap (f x) (f y)
    have e2 := h.swap (f y) (f z)
    have e3 := h.swap (f x) (f z)
    have h3 : c (f z) (f x) ≤ 0 := h.le_trans (show c (f z) (f y) ≤ 0 by omega) (show c (f y) (f x) ≤ 0 by omega)
    exact decide_eq_false (show ¬ c (f x) (f z) < 0 by omega)
set_option maxHeartbeats 1000000 in
theorem evCmp (x y : Ev) (W : World) (hx : Lst Lb.cells 2 W W.heap.size x.A x.n x.l) (hy : Lst Lb.cells 2 W W.heap.size y.A y.n y.l) (hxn : x.n ≤ 100000) (hyn : y.n ≤ 100000) :
    Calls Tryz.prog 103 #[.agg #[.slice x.A x.n x.c, .int .u64 x.v.toNat], .agg #[.slice y.A y.n y.c, .int .u64 y.v.toNat]] W fun e w' => e = .returned (.int .i64 (elL x.el y.el)) ∧ Grw W.heap.size W w' := by
  have HX := Lib.hid (show _ ∧ _ from ⟨hx, hy⟩)
  have hcon := fun w1 (hb : Below W.heap.size W w1) => labelsCmp_g x.A y.A x.n x.c y.n y.c x.l y.l w1 ((HX.out.1.below hb).more hb.size) ((HX.out.2.below hb).more hb.size) (by omega) (by omega)
  have HC := Lib.hid hcon
  clear hx hy hcon
  have hel : elL x.el y.el = if labelsC x.l y.l = 0 then FL.orderP x.v.toNat y.v.toNat else labelsC x.l y.l := rfl
  rw [hel]
  have ho := fun w => order_any x.v.toNat y.v.toNat x.v.toNat_lt y.v.toNat_lt w
  generalize FL.orderP x.v.toNat y.v.toNat = r at ho ⊢
  generalize labelsC x.l y.l = q at HC ⊢
  clear hel
  by_cases hq : q = 0
  · subst hq
    rw [if_pos rfl]
    go_enter Tryz.func103, Tryz.ntmps103
    go_wp2_with fail
    refine (HC.out _ (((Below.refl _ _).alloc (Nat.le_refl _) _).alloc (by simp) _)).mono ?_
    rintro e w1 ⟨rfl, hb1⟩
    have hx1 := (hb1.cell (p := ⟨W.heap.size, 1, none⟩) (by simp; omega)).trans (show _ = some (.int .u64 x.v.toNat) by simp)
    have hy1 := (hb1.cell (p := ⟨W.heap.size + 1, 1, none⟩) (by simp)).trans (show _ = some (.int .u64 y.v.toNat) by simp)
    have H1 : Grw W.heap.size W w1 := ((Grw.refl _ W).alloc (Nat.le_refl _) _).alloc (by simp) _ |>.trans (hb1.mono (by simp; omega))
    clear hb1
    go_wp2_with (go_at_call 165; refine (ho _).mono ?_; rintro e w' ⟨rfl, rfl⟩)
    go_ret
    exact ⟨rfl, H1⟩
  · have z1 : (q != 0) = true := by rw [bne_iff_ne]; exact hq
    rw [if_neg hq]
    go_enter Tryz.func103, Tryz.ntmps103
    go_wp2_with fail
    refine (HC.out _ (((Below.refl _ _).alloc (Nat.le_refl _) _).alloc (by simp) _)).mono ?_
    rintro e w1 ⟨rfl, hb1⟩
    have hx1 := (hb1.cell (p := ⟨W.heap.size, 1, none⟩) (by simp; omega)).trans (show _ = some (.int .u64 x.v.toNat) by simp)
    have hy1 := (hb1.cell (p := ⟨W.heap.size + 1, 1, none⟩) (by simp)).trans (show _ = some (.int .u64 y.v.toNat) by simp)
    have H1 : Grw W.heap.size W w1 := ((Grw.refl _ W).alloc (Nat.le_refl _) _).alloc (by simp) _ |>.trans (hb1.mono (by simp; omega))
    clear hb1
    go_wp2
    go_ret
    exact ⟨rfl, H1⟩
/-- Its labels can be read while block g is turned. -/
structure SortAt (w : World) (g : Nat) (y : Ev) : Prop where
  lst : ∀ w', w.grownBy w' (some g) → Lst Lb.cells 2 w' w'.heap.size y.A y.n y.l
  few : y.n ≤ 100000
abbrev Ez (w : World) (g : Nat) := {y : Ev // SortAt w g y}
instance (w : World) (g : Nat) : Inhabited (Ez w g) := ⟨⟨⟨none, 0, 0, [], 0⟩, fun _ _ => Lst.nil, Nat.zero_le _⟩⟩
def encEz {w : World} {g : Nat} (x : Ez w g) : List Value := encEv x.1
theorem encEz_len {w : World} {g : Nat} (x : Ez w g) : (encEz x).length = 2 := rfl
def cmpEz {w : World} {g : Nat} (x y : Ez w g) : Int := elL x.1.el y.1.el
theorem Tryz.isAggElem : ∀ w, (isAgg 90).run Tryz.prog w = .ok true w := fun w => by kernel_rfl
theorem Tryz.sizeOfElem : ∀ w, (Go.sizeOf 90).run Tryz.prog w = .ok 2 w := fun w => by kernel_rfl
theorem elemSort (A : Option Addr) (n c : Nat) (os : List Ev) (w : World) (B : Nat) (ho : OutEv w B (.slice A n c) os) (hl : os.length = n) (hn : n ≤ 1000000) (hm : ∀ z ∈ os, z.n ≤ 100000) :
    Calls Tryz.prog 102 #[.slice A n c, .func (.func 103) #[] #[]] w fun e w' => e = .returned (.tuple #[]) ∧ ∃ os' : List Ev, os'.Perm os ∧ os'.map Ev.el = srtL (os.map Ev.el) ∧
      OutEv w' B (.slice A n c) os' ∧ w.grownBy w' (Value.slice A n c).ownBlock := by
  have eg : ∀ args w, (callFunc 103 args).run Tryz.prog w = .ok (.enter 103 args) w := enters_of Tryz.func103 (by kernel_rfl) rfl
  have hrow := ho.row
  rw [hl] at hrow
  by_cases h0 : n = 0
  · subst h0
    refine (AnyF.slices_SortFunc_none { Tryz.sortElem with } A c _ w).mono ?_
    rintro e w' ⟨rfl, rfl⟩
    have hl0 : os = [] := List.length_eq_zero_iff.1 hl
    subst hl0
    exact ⟨rfl, [], List.Perm.refl _, rfl, ho, grownBy_refl _ _⟩
  · obtain ⟨g, rfl, hg⟩ := owns_some' hrow (by omega)
    have hS : ∀ z ∈ os, SortAt w g z := fun z hz => ⟨fun w' hgr => by
      have h1 := (ho.each z hz).kept hgr (owns_apart (ho.each z hz) hrow (by decide))
      exact (owns_lst h1 Lb.len (by omega)).1, hm z hz⟩
    obtain ⟨zs, hzs⟩ : ∃ zs : List (Ez w g), zs = os.attachWith _ hS := ⟨_, rfl⟩
    have hval : zs.map (·.1) = os := by rw [hzs]; simp
    have hidx : ∀ q : List (Ez w g), q.flatMap encEz = (q.map (·.1)).flatMap encEv := fun q => by rw [List.flatMap_map]; rfl
    have hoT : w.ownsRow B 90 2 (.slice (some ⟨g, 0, none⟩) n c) n (zs.flatMap encEz) := by rw [hidx, hval]; exact hrow
    have hlz : zs.length = n := by rw [← hl, ← hval, List.length_map]
    have hcmp : CmpLays Tryz.prog 103 #[] encEz 2 (cmpEz (w := w) (g := g)) g 0 zs.toArray.size w := by
      intro m os dk hdk x y
      have hgr := (ownsK_sorted encEz_len hoT m os dk (by rw [hdk]; simp) hlz).2
      refine (evCmp x.1 y.1 _ (x.2.lst _ hgr) (y.2.lst _ hgr) x.2.few y.2.few).mono fun e w' h => ⟨h.1, h.2.grow⟩
    have hsw : SWO (ltOf (cmpEz (w := w) (g := g))) := cmp3_swo elL_cmp3 fun x : Ez w g => x.1.el
    have hcon := AnyQ.slices_SortFunc Tryz.sortElem 2 Tryz.isAggElem Tryz.sizeOfElem encEz encEz_len (fun x v hv => oneEv [x.1] v (by rw [List.flatMap_singleton]; exact hv)) cmpEz hsw 103 #[] g 0 c zs.toArray w eg hcmp (holdsK_own encEz_len hoT) hg (by simp; omega)
    rw [show zs.toArray.size = n by simpa using hlz] at hcon
    refine hcon.mono ?_
    rintro e w' ⟨rfl, d', m, xs, hp, hs, rfl⟩
    have hsz : d'.size = zs.length := by have := hp.1; simpa using this
    obtain ⟨h1, h2⟩ := ownsK_sorted encEz_len hoT m xs d' hsz hlz
    have hperm : d'.toList.Perm zs := by
      have := hp.2.2
      rw [show (zs.toArray.extract 0 n).toList = zs by rw [← hlz]; simp, show (d'.extract 0 n).toList = d'.toList by rw [← hlz, ← hsz]; simp] at this
      exact this
    have hpo : (d'.toList.map (·.1)).Perm os := by rw [← hval]; exact hperm.map _
    refine ⟨rfl, d'.toList.map (·.1), hpo, FL.sortE_eq elL_tot ⟨hpo.map _, ?_⟩, ?_, h2⟩
    · rw [List.map_map, List.pairwise_map, List.pairwise_iff_getElem]
      intro i j hi hj hij
      rw [Array.length_toList] at hi hj
      have := hs i j (Nat.zero_le _) hij (by omega)
      rw [getElem!_pos d' j hj, getElem!_pos d' i hi] at this
      simp only [Array.getElem_toList, Function.comp_apply]
      have h := of_decide_eq_false (show decide (elL d'[j].1.el d'[i].1.el < 0) = false from this)
      have := elL_cmp3.swap d'[j].1.el d'[i].1.el
      omega
    · rw [hidx] at h1
      refine ⟨by rw [hpo.length_eq, hl]; exact h1, fun z hz => ?_, ?_⟩
      · have hz := hpo.mem_iff.1 hz
        exact (ho.each z hz).kept h2 (owns_apart (ho.each z hz) hrow (by decide))
      · exact (hpo.pairwise_iff (fun {a b} h g h1 h2 => h g h2 h1)).2 ho.apart
end Go.Proofs.YtajaijidecomdaaGreatDoor
