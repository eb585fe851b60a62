/- slices.SortFunc of elements by their labels, then by their numbers. slices.Clone at rows of Elems. Written off a master by mk2.py. vec.Sorted: a vector in order, its labels in memory of their own. -/
import Derived.Test.YtajaijidecomdaaGreatDoorG07
import Derived.Test.YtajaijidecomdaaGreatDoorG09
import Derived.Shelf.SlSortCmp.NoneTotal
import Derived.Test.YtajaijidecomdaaGreatDoorG03
import Derived.Deep.DeepCutAuto
import Derived.OwnWalk
import Derived.WalkLawsBesides
namespace Go.Proofs.YtajaijidecomdaaGreatDoor
open Go.RowKit Go.Lib Go.Sort

theorem cmp3_swo {α K : Type} {c : K → K → Int} (h : Cmp3 c) (f : α → K) : SWO (ltOf fun x y => c (f x) (f y)) where
  irrefl x := by
    show decide (c (f x) (f x) < 0) = false
    rw [h.self]; decide
  trans x y z h1 h2 := by
    have h1 := of_decide_eq_true (show decide (c (f x) (f y) < 0) = true from h1)
    have h2 := of_decide_eq_true (show decide (c (f y) (f z) < 0) = true from h2)
    exact decide_eq_true (h.trans _ _ _ h1 h2)
  ntrans x y z h1 h2 := by
    have h1 := of_decide_eq_false (show decide (c (f x) (f y) < 0) = false from h1)
    have h2 := of_decide_eq_false (show decide (c (f y) (f z) < 0) = false from h2)
    have e1 := h.swap (f x) (f y)
    have e2 := h.swap (f y) (f z)
    have e3 := h.swap (f x) (f z)
    have h3 : c (f z) (f x) ≤ 0 := h.le_trans (show c (f z) (f y) ≤ 0 by omega) (show c (f y) (f x) ≤ 0 by omega)
    exact decide_eq_false (show ¬ c (f x) (f z) < 0 by omega)
set_option maxHeartbeats 1000000 in
theorem evCmp (x y : Ev) (W : World) (hx : Lst Lb.cells 2 W W.heap.size x.A x.n x.l) (hy : Lst Lb.cells 2 W W.heap.size y.A y.n y.l) (hxn : x.n ≤ 100000) (hyn : y.n ≤ 100000) :
    Calls Tryz.prog 103 #[.agg #[.slice x.A x.n x.c, .int .u64 x.v.toNat], .agg #[.slice y.A y.n y.c, .int .u64 y.v.toNat]] W fun e w' => e = .returned (.int .i64 (elL x.el y.el)) ∧ Grw W.heap.size W w' := by
  have HX := Lib.hid (show _ ∧ _ from ⟨hx, hy⟩)
  have hcon := fun w1 (hb : Below W.heap.size W w1) => labelsCmp_g x.A y.A x.n x.c y.n y.c x.l y.l w1 ((HX.out.1.below hb).more hb.size) ((HX.out.2.below hb).more hb.size) (by omega) (by omega)
  have HC := Lib.hid hcon
  clear hx hy hcon
  have hel : elL x.el y.el = if labelsC x.l y.l = 0 then FL.orderP x.v.toNat y.v.toNat else labelsC x.l y.l := rfl
  rw [hel]
  have ho := fun w => order_any x.v.toNat y.v.toNat x.v.toNat_lt y.v.toNat_lt w
  generalize FL.orderP x.v.toNat y.v.toNat = r at ho ⊢
  generalize labelsC x.l y.l = q at HC ⊢
  clear hel
  by_cases hq : q = 0
  · subst hq
    rw [if_pos rfl]
    go_enter Tryz.func103, Tryz.ntmps103
    go_wp2_with fail
    refine (HC.out _ (((Below.refl _ _).alloc (Nat.le_refl _) _).alloc (by simp) _)).mono ?_
    rintro e w1 ⟨rfl, hb1⟩
    have hx1 := (hb1.cell (p := ⟨W.heap.size, 1, none⟩) (by simp; omega)).trans (show _ = some (.int .u64 x.v.toNat) by simp)
    have hy1 := (hb1.cell (p := ⟨W.heap.size + 1, 1, none⟩) (by simp)).trans (show _ = some (.int .u64 y.v.toNat) by simp)
    have H1 : Grw W.heap.size W w1 := ((Grw.refl _ W).alloc (Nat.le_refl _) _).alloc (by simp) _ |>.trans (hb1.mono (by simp; omega))
    clear hb1
    go_wp2_with (go_at_call 165; refine (ho _).mono ?_; rintro e w' ⟨rfl, rfl⟩)
    go_ret
    exact ⟨rfl, H1⟩
  · have z1 : (q != 0) = true := by rw [bne_iff_ne]; exact hq
    rw [if_neg hq]
    go_enter Tryz.func103, Tryz.ntmps103
    go_wp2_with fail
    refine (HC.out _ (((Below.refl _ _).alloc (Nat.le_refl _) _).alloc (by simp) _)).mono ?_
    rintro e w1 ⟨rfl, hb1⟩
    have hx1 := (hb1.cell (p := ⟨W.heap.size, 1, none⟩) (by simp; omega)).trans (show _ = some (.int .u64 x.v.toNat) by simp)
    have hy1 := (hb1.cell (p := ⟨W.heap.size + 1, 1, none⟩) (by simp)).trans (show _ = some (.int .u64 y.v.toNat) by simp)
    have H1 : Grw W.heap.size W w1 := ((Grw.refl _ W).alloc (Nat.le_refl _) _).alloc (by simp) _ |>.trans (hb1.mono (by simp; omega))
    clear hb1
    go_wp2
    go_ret
    exact ⟨rfl, H1⟩
/-- Its labels can be read while block g is turned. -/
structure SortAt (w : World) (g : Nat) (y : Ev) : Prop where
  lst : ∀ w', w.grownBy w' (some g) → Lst Lb.cells 2 w' w'.heap.size y.A y.n y.l
  few : y.n ≤ 100000
abbrev Ez (w : World) (g : Nat) := {y : Ev // SortAt w g y}
instance (w : World) (g : Nat) : Inhabited (Ez w g) := ⟨⟨⟨none, 0, 0, [], 0⟩, fun _ _ => Lst.nil, Nat.zero_le _⟩⟩
def encEz {w : World} {g : Nat} (x : Ez w g) : List Value := encEv x.1
theorem encEz_len {w : World} {g : Nat} (x : Ez w g) : (encEz x).length = 2 := rfl
def cmpEz {w : World} {g : Nat} (x y : Ez w g) : Int := elL x.1.el y.1.el
theorem Tryz.isAggElem : ∀ w, (isAgg 90).run Tryz.prog w = .ok true w := fun w => by kernel_rfl
theorem Tryz.sizeOfElem : ∀ w, (Go.sizeOf 90).run Tryz.prog w = .ok 2 w := fun w => by kernel_rfl
theorem elemSort (A : Option Addr) (n c : Nat) (os : List Ev) (w : World) (B : Nat) (ho : OutEv w B (.slice A n c) os) (hl : os.length = n) (hn : n ≤ 1000000) (hm : ∀ z ∈ os, z.n ≤ 100000) :
    Calls Tryz.prog 102 #[.slice A n c, .func (.func 103) #[] #[]] w fun e w' => e = .returned (.tuple #[]) ∧ ∃ os' : List Ev, os'.Perm os ∧ os'.map Ev.el = srtL (os.map Ev.el) ∧
      OutEv w' B (.slice A n c) os' ∧ w.grownBy w' (Value.slice A n c).ownBlock := by
  have eg : ∀ args w, (callFunc 103 args).run Tryz.prog w = .ok (.enter 103 args) w := enters_of Tryz.func103 (by kernel_rfl) rfl
  have hrow := ho.row
  rw [hl] at hrow
  by_cases h0 : n = 0
  · subst h0
    refine (AnyF.slices_SortFunc_none { Tryz.sortElem with } A c _ w).mono ?_
    rintro e w' ⟨rfl, rfl⟩
    have hl0 : os = [] := List.length_eq_zero_iff.1 hl
    subst hl0
    exact ⟨rfl, [], List.Perm.refl _, rfl, ho, grownBy_refl _ _⟩
  · obtain ⟨g, rfl, hg⟩ := owns_some' hrow (by omega)
    have hS : ∀ z ∈ os, SortAt w g z := fun z hz => ⟨fun w' hgr => by
      have h1 := (ho.each z hz).kept hgr (owns_apart (ho.each z hz) hrow (by decide))
      exact (owns_lst h1 Lb.len (by omega)).1, hm z hz⟩
    obtain ⟨zs, hzs⟩ : ∃ zs : List (Ez w g), zs = os.attachWith _ hS := ⟨_, rfl⟩
    have hval : zs.map (·.1) = os := by rw [hzs]; simp
    have hidx : ∀ q : List (Ez w g), q.flatMap encEz = (q.map (·.1)).flatMap encEv := fun q => by rw [List.flatMap_map]; rfl
    have hoT : w.ownsRow B 90 2 (.slice (some ⟨g, 0, none⟩) n c) n (zs.flatMap encEz) := by rw [hidx, hval]; exact hrow
    have hlz : zs.length = n := by rw [← hl, ← hval, List.length_map]
    have hcmp : CmpLays Tryz.prog 103 #[] encEz 2 (cmpEz (w := w) (g := g)) g 0 zs.toArray.size w := by
      intro m os dk hdk x y
      have hgr := (ownsK_sorted encEz_len hoT m os dk (by rw [hdk]; simp) hlz).2
      refine (evCmp x.1 y.1 _ (x.2.lst _ hgr) (y.2.lst _ hgr) x.2.few y.2.few).mono fun e w' h => ⟨h.1, h.2.grow⟩
    have hsw : SWO (ltOf (cmpEz (w := w) (g := g))) := cmp3_swo elL_cmp3 fun x : Ez w g => x.1.el
    have hcon := AnyQ.slices_SortFunc Tryz.sortElem 2 Tryz.isAggElem Tryz.sizeOfElem encEz encEz_len (fun x v hv => oneEv [x.1] v (by rw [List.flatMap_singleton]; exact hv)) cmpEz hsw 103 #[] g 0 c zs.toArray w eg hcmp (holdsK_own encEz_len hoT) hg (by simp; omega)
    rw [show zs.toArray.size = n by simpa using hlz] at hcon
    refine hcon.mono ?_
    rintro e w' ⟨rfl, d', m, xs, hp, hs, rfl⟩
    have hsz : d'.size = zs.length := by have := hp.1; simpa using this
    obtain ⟨h1, h2⟩ := ownsK_sorted encEz_len hoT m xs d' hsz hlz
    have hperm : d'.toList.Perm zs := by
      have := hp.2.2
      rw [show (zs.toArray.extract 0 n).toList = zs by rw [← hlz]; simp, show (d'.extract 0 n).toList = d'.toList by rw [← hlz, ← hsz]; simp] at this
      exact this
    have hpo : (d'.toList.map (·.1)).Perm os := by rw [← hval]; exact hperm.map _
    refine ⟨rfl, d'.toList.map (·.1), hpo, FL.sortE_eq elL_tot ⟨hpo.map _, ?_⟩, ?_, h2⟩
    · rw [List.map_map, List.pairwise_map, List.pairwise_iff_getElem]
      intro i j hi hj hij
      rw [Array.length_toList] at hi hj
      have := hs i j (Nat.zero_le _) hij (by omega)
      rw [getElem!_pos d' j hj, getElem!_pos d' i hi] at this
      simp only [Array.getElem_toList, Function.comp_apply]
      have h := of_decide_eq_false (show decide (elL d'[j].1.el d'[i].1.el < 0) = false from this)
      have := elL_cmp3.swap d'[j].1.el d'[i].1.el
      omega
    · rw [hidx] at h1
      refine ⟨by rw [hpo.length_eq, hl]; exact h1, fun z hz => ?_, ?_⟩
      · have hz := hpo.mem_iff.1 hz
        exact (ho.each z hz).kept h2 (owns_apart (ho.each z hz) hrow (by decide))
      · exact (hpo.pairwise_iff (fun {a b} h g h1 h2 => h g h2 h1)).2 ho.apart
end Go.Proofs.YtajaijidecomdaaGreatDoor
namespace Go.Proofs.YtajaijidecomdaaGreatDoor
open Go.RowKit Go.Lib

def OwnPostElem (B n : Nat) (l : List Ev) (w : World) (e : Ending) (w' : World) : Prop := ∃ v', e = .returned v' ∧ w'.ownsRow B 90 2 v' n (l.flatMap encEv) ∧ Below w.heap.size w w'
set_option maxHeartbeats 2000000 in
set_option maxRecDepth 100000 in
theorem cloneEv (A : Option Addr) (n c : Nat) (l : List Ev) (w : World) (hL : Lst encEv 2 w w.heap.size A n l) (hnil : A = none → n = 0 ∧ c = 0) (hn : n ≤ 1099511627776) :
    Calls Tryz.prog 100 #[.slice A n c] w (OwnPostElem w.heap.size n l w) := by
  obtain ⟨i0, hi, hz0, hz1, hz2⟩ := info_parts Tryz.infoElem
  cases A with
  | none =>
    obtain ⟨rfl, rfl⟩ := hnil rfl
    have hl0 : l = [] := List.length_eq_zero_iff.1 hL.1
    clear hi hz0 hz1 hz2 hL hnil
    have hq := fun w : World => Lib.run_eql_slice_nil w 33 90 none 0 0 0 0 Tryz.underlying33
    go_enter Tryz.func100, Tryz.ntmps100
    go_wp2
    go_ret
    exact ⟨_, rfl, by rw [hl0]; exact World.ownsRow_nil _ _ _ _, Below.refl _ _⟩
  | some ad =>
    have hcells := fun w1 (hb : Below w.heap.size w w1) => (hL.below hb).flat encEv_len
    have HC := Lib.hid hcells
    have HLL := Lib.hid hL.1
    have hq := fun w : World => Lib.run_eql_slice_nil w 33 90 (some ad) n c 0 0 Tryz.underlying33
    clear hcells hL hnil
    go_enter Tryz.func100, Tryz.ntmps100
    go_wp2_with (at_builtin; refine wpList_append_own _ rfl _ _ 33 rfl w.heap.size 90 i0 _ 2 32 Tryz.underlying33 hi hz0 hz1 hz2 rfl (by omega) _ _ _ rfl (World.ownsRow_made w #[] 0 (Nat.le_refl _) (Nat.zero_le _) (by simp)) ad n c (l.flatMap encEv) rfl (by rw [flatMap_length (enc := encEv) (size := 2) (fun _ => rfl), HLL.out]) (HC.out _ ((Below.refl _ w).alloc (Nat.le_refl _) _)) (oneEv _) (by unfold maxLen; omega) (by omega) (by simp) ?_)
    intro v' w1 hown hgrow _
    have HF := Lib.hid (show _ ∧ _ from ⟨hown, ((Below.refl w.heap.size w).alloc (Nat.le_refl _) _).grown hgrow (by simp) (by intro k hk; simp [Value.ownBlock] at hk; omega)⟩)
    clear hi hz0 hz1 hz2 hown hgrow hq
    go_wp2
    go_ret
    exact ⟨v', rfl, by simpa using HF.out.1, HF.out.2⟩
end Go.Proofs.YtajaijidecomdaaGreatDoor
namespace Go.Proofs.YtajaijidecomdaaGreatDoor
open Go.RowKit Go.Lib Go.Sort

theorem set_at2 {x x' : Ev} {a b u : Value} (done rest : List Ev) (hx : encEv x = [a, b]) (hx' : encEv x' = [u, b]) : ((done ++ x :: rest).flatMap encEv).set (done.length * 2) u = (done ++ x' :: rest).flatMap encEv := by
  rw [List.flatMap_append, List.flatMap_append, List.flatMap_cons, List.flatMap_cons, hx, hx', List.set_append_right _ _ (by rw [flatMap_length encEv_len]; exact Nat.le_refl _), flatMap_length encEv_len, Nat.sub_self]
  rfl
/-- While the labels are cloned: the first k elements have labels of their own. -/
structure Half (w wr : World) (v : Value) (n : Nat) (es : List Ev) (k : Nat) (done : List Ev) : Prop where
  row : wr.ownsRow w.heap.size 90 2 v n ((done ++ es.drop k).flatMap encEv)
  each : ∀ z ∈ done, wr.ownsRow w.heap.size 104 2 (valE z) z.n (z.l.flatMap Lb.cells)
  apart : done.Pairwise fun a b => ∀ g, (valE a).ownBlock = some g → (valE b).ownBlock ≠ some g
  el : done.map Ev.el = (es.take k).map Ev.el
  len : done.length = k
  small : ∀ z ∈ done, z.n ≤ 100000
  old : Below w.heap.size w wr
theorem Half.start {w wr : World} {v : Value} {n : Nat} {es : List Ev} (h : wr.ownsRow w.heap.size 90 2 v n (es.flatMap encEv)) (hb : Below w.heap.size w wr) : Half w wr v n es 0 [] :=
  ⟨h, by simp, List.Pairwise.nil, rfl, rfl, by simp, hb⟩
theorem Half.step {w wr w1 : World} {g n cap k m : Nat} {A1 : Option Addr} {c1 : Nat} {es done : List Ev} {x : Ev} (h : Half w wr (.slice (some ⟨g, 0, none⟩) n cap) n es k done) (hx : es[k]? = some x) (hm : x.n = m) (hm2 : m ≤ 100000)
    (hl : w1.ownsRow wr.heap.size 104 2 (.slice A1 m c1) m (x.l.flatMap Lb.cells)) (hb : Below wr.heap.size wr w1) :
    Half w (w1.setCell ⟨g, k * 2, none⟩ (.slice A1 m c1)) (.slice (some ⟨g, 0, none⟩) n cap) n es (k + 1) (done ++ [⟨A1, m, c1, x.l, x.v⟩]) := by
  obtain ⟨hk, he⟩ := List.getElem?_eq_some_iff.1 hx
  have hdr : es.drop k = x :: es.drop (k + 1) := by rw [← he]; exact List.drop_eq_getElem_cons hk
  have hr1 := owns_below h.row hb
  obtain ⟨h1, h2⟩ := hr1.stored (k * 2) (.slice A1 m c1)
  have hsz := h.old.size
  rw [hdr, ← h.len, set_at2 (x := x) (x' := ⟨A1, m, c1, x.l, x.v⟩) (a := .slice x.A x.n x.c) (b := .int .u64 x.v.toNat) (u := .slice A1 m c1) done (es.drop (done.length + 1)) rfl rfl, h.len] at h1
  have hoff : ∀ {v : Value} {q B : Nat} {xs : List Value}, w1.ownsRow B 104 2 v q xs → (w1.setCell ⟨g, k * 2, none⟩ (.slice A1 m c1)).ownsRow B 104 2 v q xs := fun hq => hq.kept h2 (owns_apart hq hr1 (by decide))
  refine ⟨by rw [List.append_assoc]; exact h1, fun z hz => ?_, ?_, ?_, by simp [h.len], fun z hz => ?_, ?_⟩
  · rcases List.mem_append.1 hz with hz | hz
    · exact hoff (owns_below (h.each z hz) hb)
    · rw [List.mem_singleton.1 hz]
      exact hoff (owns_base hl hsz)
  · refine List.pairwise_append.2 ⟨h.apart, List.pairwise_singleton _ _, fun a ha b hb' q h3 h4 => ?_⟩
    rw [List.mem_singleton.1 hb'] at h4
    have := ((h.each a ha).lt q h3).2
    have := (hl.lt q h4).1
    omega
  · rw [List.map_append, h.el, List.take_succ_eq_append_getElem hk, he, List.map_append]; rfl
  · rcases List.mem_append.1 hz with hz | hz
    · exact h.small z hz
    · rw [List.mem_singleton.1 hz]; exact hm2
  · exact (h.old.trans (hb.mono hsz)).grown h2 (Nat.le_trans hsz hb.size) (fun j hj => by injection hj with hj; have := (h.row.lt g rfl).1; omega)
/-- What Sorted hands back. -/
def SortPost (l : List El) (w : World) (e : Ending) (w' : World) : Prop := ∃ v os, e = .returned v ∧ OutEv w' w.heap.size v os ∧ os.map Ev.el = srtL l ∧ Below w.heap.size w w'
set_option maxHeartbeats 2000000 in
set_option maxRecDepth 100000 in
theorem sorted_any (A : Option Addr) (n c : Nat) (es : List Ev) (w : World) (hE : Els w w.heap.size A n c es) : Calls Tryz.prog 27 #[.slice A n c] w (SortPost (es.map Ev.el) w) := by
  have hcl := cloneEv A n c es w hE.lst hE.nil (by have := hE.few; omega)
  have HE := Lib.hid hE
  have HC := Lib.hid hcl
  have hn := hE.few
  have hln := hE.lst.1
  clear hE hcl
  go_enter Tryz.func27, Tryz.ntmps27
  go_wp2_with fail
  refine HC.out.mono ?_
  rintro e w1 ⟨v1, rfl, ho1, hb1⟩
  obtain ⟨A1, c1, rfl, _, _⟩ := owns_slice ho1
  have hst : Half w w1 (.slice A1 n c1) n es 0 [] := Half.start ho1 hb1
  have HS := Lib.hid hst
  clear ho1 hb1 hst HC
  go_wp2
  go_loopw [4, 9] (fun _ iv wr => ∃ (k : Nat) (done : List Ev), k ≤ n ∧ iv = .int .i64 k ∧ Hid (Half w wr (.slice A1 n c1) n es k done)) (fun _ iv _ => n - (intOf iv).toNat)
  case atStart => exact ⟨0, [], Nat.zero_le _, rfl, HS⟩
  case round =>
    obtain ⟨k, done, hk, rfl, HR⟩ := hrel
    by_cases hlt : k < n
    · obtain ⟨x, hx⟩ : ∃ x, es[k]? = some x := ⟨_, List.getElem?_eq_getElem (by omega)⟩
      have hxE := (HE.out.each x (List.mem_of_getElem? hx)).on HR.out.old
      obtain ⟨g, rfl, hg⟩ := owns_some' HR.out.row (by omega)
      have hat : (done ++ es.drop k)[k]? = some x := by rw [List.getElem?_append_right (by have := HR.out.len; omega), HR.out.len, Nat.sub_self, List.getElem?_drop]; simpa using hx
      have c0 := owns_at HR.out.row encEv_len hat (j := 0) rfl
      simp only [Nat.add_zero] at c0
      have hclone := cloneLabel x.A x.n x.c x.l wr hxE.lst hxE.nil (by have := hxE.few; omega)
      have hcn := (owns_cap HR.out.row).1
      have HX := Lib.hid (show _ ∧ _ ∧ _ from ⟨hx, hclone, hxE.few⟩)
      clear hx hxE hat hclone
      go_wp2_with fail
      refine HX.out.2.1.mono ?_
      rintro e w2 ⟨v2, rfl, ho2, hb2⟩
      obtain ⟨A2, c2, rfl, _, _⟩ := owns_slice ho2
      have hr2 := owns_below HR.out.row hb2
      have c0 := (hb2.cell (p := ⟨g, k * 2, none⟩) hg).trans c0
      have f0 := hr2.frozenAt (k * 2)
      have HN := Lib.hid (HR.out.step HX.out.1 rfl HX.out.2.2 ho2 hb2)
      clear ho2 hb2 hr2
      go_wp2
      go_roundw
      case measure => simp [intOf]; omega
      case rel => exact ⟨k + 1, _, hlt, by simp, HN⟩
    · obtain rfl : k = n := by omega
      have hrow := HR.out.row
      rw [List.drop_eq_nil_of_le (by omega), List.append_nil] at hrow
      have hdl := HR.out.len
      have hO : OutEv wr w.heap.size (.slice A1 k c1) done := ⟨by rw [hdl]; exact hrow, HR.out.each, HR.out.apart⟩
      have hel := HR.out.el
      rw [List.take_of_length_le (by omega)] at hel
      have hsort := elemSort A1 k c1 done wr w.heap.size hO hdl (by omega) HR.out.small
      have HF := Lib.hid (show _ ∧ _ ∧ _ ∧ _ from ⟨hsort, hel, hO.row, HR.out.old⟩)
      clear hrow hdl hO hel hsort HR
      go_wp2_with fail
      refine HF.out.1.mono ?_
      rintro e w2 ⟨rfl, os', hp, hsd, hO2, hg2⟩
      have hold2 : Below w.heap.size w w2 := HF.out.2.2.2.grown hg2 HF.out.2.2.2.size (fun j hj => (HF.out.2.2.1.lt j hj).1)
      rw [HF.out.2.1] at hsd
      have HG := Lib.hid (show _ ∧ _ ∧ _ from ⟨hO2, hsd, hold2⟩)
      clear hp hsd hO2 hg2 hold2
      go_wp2
      go_ret
      exact ⟨_, os', rfl, HG.out.1, HG.out.2.1, HG.out.2.2⟩
end Go.Proofs.YtajaijidecomdaaGreatDoor
