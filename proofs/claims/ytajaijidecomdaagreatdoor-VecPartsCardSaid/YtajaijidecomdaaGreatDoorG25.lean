/- slices.Clone at rows of Elems. Written off a master by mk2.py. vec.Sorted: a vector in order, its labels in memory of their own. -/
import Derived.Test.YtajaijidecomdaaGreatDoorVEl
import Derived.Test.YtajaijidecomdaaGreatDoorG05
import Derived.Deep.DeepCutAuto
import Derived.OwnWalk
import Derived.WalkLawsBesides
import Derived.Test.YtajaijidecomdaaGreatDoorVSort
namespace Go.Proofs.YtajaijidecomdaaGreatDoor
open Go.RowKit Go.Lib

def OwnPostElem (B n : Nat) (l : List Ev) (w : World) (e : Ending) (w' : World) : Prop := ∃ v', e = .returned v' ∧ w'.ownsRow B 90 2 v' n (l.flatMap encEv) ∧ Below w.heap.size w w'
set_option maxHeartbeats 2000000 in
set_option maxRecDepth 100000 in
theorem cloneEv (A : Option Addr) (n c : Nat) (l : List Ev) (w : World) (hL : Lst encEv 2 w w.heap.size A n l) (hnil : A = none → n = 0 ∧ c = 0) (hn : n ≤ 1099511627776) :
    Calls Tryz.prog 100 #[.slice A n c] w (OwnPostElem w.heap.size n l w) := by
  obtain ⟨i0, hi, hz0, hz1, hz2⟩ := info_parts Tryz.infoElem
  cases A with
  | none =>
    obtain ⟨rfl, rfl⟩ := hnil rfl
    have hl0 : l = [] := List.length_eq_zero_iff.1 hL.1
    clear hi hz0 hz1 hz2 hL hnil
    have hq := fun w : World => Lib.run_eql_slice_nil w 33 90 none 0 0 0 0 Tryz.underlying33
    go_enter Tryz.func100, Tryz.ntmps100
    go_wp2
    go_ret
    exact ⟨_, rfl, by rw [hl0]; exact World.ownsRow_nil _ _ _ _, Below.refl _ _⟩
  | some ad =>
    have hcells := fun w1 (hb : Below w.heap.size w w1) => (hL.below hb).flat encEv_len
    have HC := Lib.hid hcells
    have HLL := Lib.hid hL.1
    have hq := fun w : World => Lib.run_eql_slice_nil w 33 90 (some ad) n c 0 0 Tryz.underlying33
    clear hcells hL hnil
    go_enter Tryz.func100, Tryz.ntmps100
    go_wp2_with (at_builtin; refine wpList_append_own _ rfl _ _ 33 rfl w.heap.size 90 i0 _ 2 32 Tryz.underlying33 hi hz0 hz1 hz2 rfl (by omega) _ _ _ rfl (World.ownsRow_made w #[] 0 (Nat.le_refl _) (Nat.zero_le _) (by simp)) ad n c (l.flatMap encEv) rfl (by rw [flatMap_length (enc := encEv) (size := 2) (fun _ => rfl), HLL.out]) (HC.out _ ((Below.refl _ w).alloc (Nat.le_refl _) _)) (oneEv _) (by unfold maxLen; omega) (by omega) (by simp) ?_)
    intro v' w1 hown hgrow _
    have HF := Lib.hid (show _ ∧ _ from ⟨hown, ((Below.refl w.heap.size w).alloc (Nat.le_refl _) _).grown hgrow (by simp) (by intro k hk; simp [Value.ownBlock] at hk; omega)⟩)
    clear hi hz0 hz1 hz2 hown hgrow hq
    go_wp2
    go_ret
    exact ⟨v', rfl, by simpa using HF.out.1, HF.out.2⟩
end Go.Proofs.YtajaijidecomdaaGreatDoor
namespace Go.Proofs.YtajaijidecomdaaGreatDoor
open Go.RowKit Go.Lib Go.Sort

theorem set_at2 {x x' : Ev} {a b u : Value} (done rest : List Ev) (hx : encEv x = [a, b]) (hx' : encEv x' = [u, b]) : ((done ++ x :: rest).flatMap encEv).set (done.length * 2) u = (done ++ x' :: rest).flatMap encEv := by
  rw [List.flatMap_append, List.flatMap_append, List.flatMap_cons, List.flatMap_cons, hx, hx', List.set_append_right _ _ (by rw [flatMap_length encEv_len]; exact Nat.le_refl _), flatMap_length encEv_len, Nat.sub_self]
  rfl
/-- While the labels are cloned: the first k elements have labels of their own. -/
structure Half (w wr : World) (v : Value) (n : Nat) (es : List Ev) (k : Nat) (done : List Ev) : Prop where
  row : wr.ownsRow w.heap.size 90 2 v n ((done ++ es.drop k).flatMap encEv)
  each : ∀ z ∈ done, wr.ownsRow w.heap.size 104 2 (valE z) z.n (z.l.flatMap Lb.cells)
  apart : done.Pairwise fun a b => ∀ g, (valE a).ownBlock = some g → (valE b).ownBlock ≠ some g
  el : done.map Ev.el = (es.take k).map Ev.el
  len : done.length = k
  small : ∀ z ∈ done, z.n ≤ 100000
  old : Below w.heap.size w wr
theorem Half.start {w wr : World} {v : Value} {n : Nat} {es : List Ev} (h : wr.ownsRow w.heap.size 90 2 v n (es.flatMap encEv)) (hb : Below w.heap.size w wr) : Half w wr v n es 0 [] :=
  ⟨h, by simp, List.Pairwise.nil, rfl, rfl, by simp, hb⟩
theorem Half.step {w wr w1 : World} {g n cap k m : Nat} {A1 : Option Addr} {c1 : Nat} {es done : List Ev} {x : Ev} (h : Half w wr (.slice (some ⟨g, 0, none⟩) n cap) n es k done) (hx : es[k]? = some x) (hm : x.n = m) (hm2 : m ≤ 100000)
    (hl : w1.ownsRow wr.heap.size 104 2 (.slice A1 m c1) m (x.l.flatMap Lb.cells)) (hb : Below wr.heap.size wr w1) :
    Half w (w1.setCell ⟨g, k * 2, none⟩ (.slice A1 m c1)) (.slice (some ⟨g, 0, none⟩) n cap) n es (k + 1) (done ++ [⟨A1, m, c1, x.l, x.v⟩]) := by
  obtain ⟨hk, he⟩ := List.getElem?_eq_some_iff.1 hx
  have hdr : es.drop k = x :: es.drop (k + 1) := by rw [← he]; exact List.drop_eq_getElem_cons hk
  have hr1 := owns_below h.row hb
  obtain ⟨h1, h2⟩ := hr1.stored (k * 2) (.slice A1 m c1)
  have hsz := h.old.size
  rw [hdr, ← h.len, set_at2 (x := x) (x' := ⟨A1, m, c1, x.l, x.v⟩) (a := .slice x.A x.n x.c) (b := .int .u64 x.v.toNat) (u := .slice A1 m c1) done (es.drop (done.length + 1)) rfl rfl, h.len] at h1
  have hoff : ∀ {v : Value} {q B : Nat} {xs : List Value}, w1.ownsRow B 104 2 v q xs → (w1.setCell ⟨g, k * 2, none⟩ (.slice A1 m c1)).ownsRow B 104 2 v q xs := fun hq => hq.kept h2 (owns_apart hq hr1 (by decide))
  refine ⟨by rw [List.append_assoc]; exact h1, fun z hz => ?_, ?_, ?_, by simp [h.len], fun z hz => ?_, ?_⟩
  · rcases List.mem_append.1 hz with hz | hz
    · exact hoff (owns_below (h.each z hz) hb)
    · rw [List.mem_singleton.1 hz]
      exact hoff (owns_base hl hsz)
  · refine List.pairwise_append.2 ⟨h.apart, List.pairwise_singleton _ _, fun a ha b hb' q h3 h4 => ?_⟩
    rw [List.mem_singleton.1 hb'] at h4
    have := ((h.each a ha).lt q h3).2
    have := (hl.lt q h4).1
    omega
  · rw [List.map_append, h.el, List.take_succ_eq_append_getElem hk, he, List.map_append]; rfl
  · rcases List.mem_append.1 hz with hz | hz
    · exact h.small z hz
    · rw [List.mem_singleton.1 hz]; exact hm2
  · exact (h.old.trans (hb.mono hsz)).grown h2 (Nat.le_trans hsz hb.size) (fun j hj => by injection hj with hj; have := (h.row.lt g rfl).1; omega)
/-- What Sorted hands back. -/
def SortPost (l : List El) (w : World) (e : Ending) (w' : World) : Prop := ∃ v os, e = .returned v ∧ OutEv w' w.heap.size v os ∧ os.map Ev.el = srtL l ∧ Below w.heap.size w w'
set_option maxHeartbeats 2000000 in
set_option maxRecDepth 100000 in
theorem sorted_any (A : Option Addr) (n c : Nat) (es : List Ev) (w : World) (hE : Els w w.heap.size A n c es) : Calls Tryz.prog 27 #[.slice A n c] w (SortPost (es.map Ev.el) w) := by
  have hcl := cloneEv A n c es w hE.lst hE.nil (by have := hE.few; omega)
  have HE := Lib.hid hE
  have HC := Lib.hid hcl
  have hn := hE.few
  have hln := hE.lst.1
  clear hE hcl
  go_enter Tryz.func27, Tryz.ntmps27
  go_wp2_with fail
  refine HC.out.mono ?_
  rintro e w1 ⟨v1, rfl, ho1, hb1⟩
  obtain ⟨A1, c1, rfl, _, _⟩ := owns_slice ho1
  have hst : Half w w1 (.slice A1 n c1) n es 0 [] := Half.start ho1 hb1
  have HS := Lib.hid hst
  clear ho1 hb1 hst HC
  go_wp2
  go_loopw [4, 9] (fun _ iv wr => ∃ (k : Nat) (done : List Ev), k ≤ n ∧ iv = .int .i64 k ∧ Hid (Half w wr (.slice A1 n c1) n es k done)) (fun _ iv _ => n - (intOf iv).toNat)
  case atStart => exact ⟨0, [], Nat.zero_le _, rfl, HS⟩
  case round =>
    obtain ⟨k, done, hk, rfl, HR⟩ := hrel
    by_cases hlt : k < n
    · obtain ⟨x, hx⟩ : ∃ x, es[k]? = some x := ⟨_, List.getElem?_eq_getElem (by omega)⟩
      have hxE := (HE.out.each x (List.mem_of_getElem? hx)).on HR.out.old
      obtain ⟨g, rfl, hg⟩ := owns_some' HR.out.row (by omega)
      have hat : (done ++ es.drop k)[k]? = some x := by rw [List.getElem?_append_right (by have := HR.out.len; omega), HR.out.len, Nat.sub_self, List.getElem?_drop]; simpa using hx
      have c0 := owns_at HR.out.row encEv_len hat (j := 0) rfl
      simp only [Nat.add_zero] at c0
      have hclone := cloneLabel x.A x.n x.c x.l wr hxE.lst hxE.nil (by have := hxE.few; omega)
      have hcn := (owns_cap HR.out.row).1
      have HX := Lib.hid (show _ ∧ _ ∧ _ from ⟨hx, hclone, hxE.few⟩)
      clear hx hxE hat hclone
      go_wp2_with fail
      refine HX.out.2.1.mono ?_
      rintro e w2 ⟨v2, rfl, ho2, hb2⟩
      obtain ⟨A2, c2, rfl, _, _⟩ := owns_slice ho2
      have hr2 := owns_below HR.out.row hb2
      have c0 := (hb2.cell (p := ⟨g, k * 2, none⟩) hg).trans c0
      have f0 := hr2.frozenAt (k * 2)
      have HN := Lib.hid (HR.out.step HX.out.1 rfl HX.out.2.2 ho2 hb2)
      clear ho2 hb2 hr2
      go_wp2
      go_roundw
      case measure => simp [intOf]; omega
      case rel => exact ⟨k + 1, _, hlt, by simp, HN⟩
    · obtain rfl : k = n := by omega
      have hrow := HR.out.row
      rw [List.drop_eq_nil_of_le (by omega), List.append_nil] at hrow
      have hdl := HR.out.len
      have hO : OutEv wr w.heap.size (.slice A1 k c1) done := ⟨by rw [hdl]; exact hrow, HR.out.each, HR.out.apart⟩
      have hel := HR.out.el
      rw [List.take_of_length_le (by omega)] at hel
      have hsort := elemSort A1 k c1 done wr w.heap.size hO hdl (by omega) HR.out.small
      have HF := Lib.hid (show _ ∧ _ ∧ _ ∧ _ from ⟨hsort, hel, hO.row, HR.out.old⟩)
      clear hrow hdl hO hel hsort HR
      go_wp2_with fail
      refine HF.out.1.mono ?_
      rintro e w2 ⟨rfl, os', hp, hsd, hO2, hg2⟩
      have hold2 : Below w.heap.size w w2 := HF.out.2.2.2.grown hg2 HF.out.2.2.2.size (fun j hj => (HF.out.2.2.1.lt j hj).1)
      rw [HF.out.2.1] at hsd
      have HG := Lib.hid (show _ ∧ _ ∧ _ from ⟨hO2, hsd, hold2⟩)
      clear hp hsd hO2 hg2 hold2
      go_wp2
      go_ret
      exact ⟨_, os', rfl, HG.out.1, HG.out.2.1, HG.out.2.2⟩
end Go.Proofs.YtajaijidecomdaaGreatDoor
