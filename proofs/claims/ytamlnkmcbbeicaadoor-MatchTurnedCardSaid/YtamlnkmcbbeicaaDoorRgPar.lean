/- Patterns' reader: what stands in parentheses. -/
import Derived.Test.YtamlnkmcbbeicaaDoorRgIdx
import Derived.Test.YtamlnkmcbbeicaaDoorRgCls
namespace Go.Proofs.YtamlnkmcbbeicaaDoor
open Go.RowKit Go.Lib
open RX (PS Tr Pr)

/-- Where the reader may be. -/
structure PsOk (s : ByteArray) (st : PS) : Prop where
  at_ : st.at_ ≤ s.size
  groups : st.groups ≤ st.at_
  deep : st.deep ≤ st.at_
  deeper : st.deeper ≤ st.at_
/-- What a part of the reader does. -/
def PrPost (w : World) (bk : Nat) (s : ByteArray) (st : PS) (d : Nat) (r : Pr Tr) (e : Ending) (w' : World) : Prop :=
  match r with
  | .ok t st' => ∃ v, e = .returned v ∧ Psr w' bk s st' ∧ TreeV w' (fun b => w.heap.size ≤ b ∧ b < w'.heap.size) t v ∧ GrownIn (fun b => b = bk) w w' ∧ PsOk s st' ∧ st'.deep = st.deep ∧ st.at_ + d ≤ st'.at_
  | .bad a => e = .panicked [{ v := badV a, recovered := false }] ∧ GrownIn (fun b => b = bk) w w'
theorem pr_bad {w W : World} {bk : Nat} {s : ByteArray} {st : PS} {d a : Nat} {r : Pr Tr} (hr : r = .bad a) (hg : GrownIn (fun b => b = bk) w W) : PrPost w bk s st d r (.panicked [{ v := badV a, recovered := false }]) W := by
  subst hr; exact ⟨rfl, hg⟩
def AllDoes (bk : Nat) (s : ByteArray) (f : Nat) : Prop := ∀ (W : World) (st : PS), Psr W bk s st → PsOk s st → s.size + 1 ≤ f + st.at_ → Calls Tryd.prog 37 #[.pointer (some ⟨bk, 0, none⟩)] W (PrPost W bk s st 0 (RX.pAll s.data.toList f st))
theorem TreeV.iface {w : World} {T : Nat → Prop} : ∀ {t : Tr} {v : Value}, TreeV w T t v → ∃ ty x, v = .iface ty x
  | .bytes _, v, h => by rw [TreeV] at h; exact ⟨_, _, h⟩
  | .edge _, v, h => by rw [TreeV] at h; exact ⟨_, _, h⟩
  | .group _ _, v, h => by rw [TreeV] at h; obtain ⟨u, h, _⟩ := h; exact ⟨_, _, h⟩
  | .row _, v, h => by rw [TreeV] at h; obtain ⟨a, vs, h, _⟩ := h; exact ⟨_, _, h⟩
  | .alts _, v, h => by rw [TreeV] at h; obtain ⟨a, vs, h, _⟩ := h; exact ⟨_, _, h⟩
  | .rep _ _ _ _ _, v, h => by rw [TreeV] at h; obtain ⟨u, h, _⟩ := h; exact ⟨_, _, h⟩
/-- A tree stays when only the reader's block changes. -/
theorem tree_moved {w0 w w' : World} {bk : Nat} {t : Tr} {v : Value} {B : Nat} (h : TreeV w (fun b => B ≤ b ∧ b < w.heap.size) t v) (hB : w0.heap.size ≤ B) (hb : bk < w0.heap.size) (hg : GrownIn (fun b => b = bk) w w') : TreeV w' (fun b => w0.heap.size ≤ b ∧ b < w'.heap.size) t v :=
  TreeV.move (fun b h => ⟨by omega, by have := hg.size; omega⟩) (fun b h hlt => hg.block b hlt (by omega)) t v h
set_option maxHeartbeats 4000000 in
set_option maxRecDepth 100000 in
theorem paren_any (bk : Nat) (s : ByteArray) (f : Nat) (hA : AllDoes bk s f) (hbig : s.size ≤ 500) (st : PS) (w : World) (hS : Psr w bk s st) (hk : st.at_ ≤ s.size) (hg : st.groups + 1 ≤ st.at_) (hd : st.deep + 1 ≤ st.at_) (hdd : st.deeper ≤ st.at_) (hf : s.size + 1 ≤ f + st.at_) :
    Calls Tryd.prog 72 #[.pointer (some ⟨bk, 0, none⟩)] w (PrPost w bk s st 0 (RX.pParen (RX.pAll s.data.toList f) s.data.toList st)) := by
  have c3 := hS.c3
  have c4 := hS.c4
  have f3 := hS.fr 3
  have f4 := hS.fr 4
  have w1 : IntKind.i64.wrap ((st.deep : Int) + 1) = (st.deep : Int) + 1 := IntWalk.i64_in _ (by omega)
  have HS := Lib.hid (show _ ∧ _ from ⟨hS, hA⟩)
  clear hS hA
  go_enter Tryd.func72, Tryd.ntmps72
  go_wp2_with fail
  go_region
  obtain ⟨mx, hmx⟩ : ∃ mx : Int, (if (st.deeper : Int) < (st.deep : Int) + 1 then (st.deep : Int) + 1 else (st.deeper : Int)) = mx := ⟨_, rfl⟩
  rw [hmx]
  have hW : ∃ W1, W1 = ((w.setCell ⟨bk, 3, none⟩ (.int .i64 ((st.deep : Int) + 1))).setCell ⟨bk, 4, none⟩ (.int .i64 mx)).drew := ⟨_, rfl⟩
  obtain ⟨W1, hW1⟩ := hW
  rw [← hW1]
  have hp1 : Psr W1 bk s ⟨st.at_, st.groups, st.deep + 1, max st.deeper (st.deep + 1)⟩ := by
    have e : mx = ((max st.deeper (st.deep + 1) : Nat) : Int) := by
      rw [← hmx]
      split <;> omega
    rw [hW1, e]
    exact (HS.out.1.set3 (st.deep + 1)).set4 (max st.deeper (st.deep + 1))
  have hg1 : GrownIn (fun b => b = bk) w W1 := by
    rw [hW1]
    exact (grownIn_set (S := fun b => b = bk) (p := ⟨bk, 4, none⟩) (grownIn_set (S := fun b => b = bk) (p := ⟨bk, 3, none⟩) (GrownIn.refl _ w) rfl _) rfl _).drewN 1
  have H1 := Lib.hid (show _ ∧ _ from ⟨hp1, hg1⟩)
  have hbl := HS.out.1.lt
  clear hW1 hp1 hg1 c3 c4 f3 f4 w1 hmx
  go_wp2_with fail
  refine (skip_any bk s ⟨st.at_, st.groups, st.deep + 1, max st.deeper (st.deep + 1)⟩ 63 W1 H1.out.1 (by show st.at_ ≤ 1000000; omega)).mono ?_
  rintro e w2 (⟨h1, rfl, h2, h3, h4⟩ | ⟨h1, rfl, q0, rfl⟩)
  · have h1 : s.data.toList[st.at_]? = some 63 := h1
    have hlt0 : st.at_ + 1 ≤ s.size := by
      have := (List.getElem?_eq_some_iff.1 h1).1
      rw [Array.length_toList] at this
      exact this
    have H2 := Lib.hid (show Psr w2 bk s ⟨st.at_ + 1, st.groups, st.deep + 1, max st.deeper (st.deep + 1)⟩ ∧ GrownIn (fun b => b = bk) w w2 ∧ _ from ⟨h2, H1.out.2.trans h4 (fun _ _ e => e), h1⟩)
    clear h1 h2 h3 h4
    go_wp2_with fail
    refine (must_any bk s ⟨st.at_ + 1, st.groups, st.deep + 1, max st.deeper (st.deep + 1)⟩ 58 w2 H2.out.1 (by show st.at_ + 1 ≤ 1000000; omega)).mono ?_
    rintro e w3 (⟨h1, rfl, h2, h3, h4⟩ | ⟨h1, rfl, q1, rfl⟩)
    · have h1 : s.data.toList[st.at_ + 1]? = some 58 := h1
      have hlt1 : st.at_ + 2 ≤ s.size := by
        have := (List.getElem?_eq_some_iff.1 h1).1
        rw [Array.length_toList] at this
        exact this
      have HA := Lib.hid (show Psr w3 bk s ⟨st.at_ + 2, st.groups, st.deep + 1, max st.deeper (st.deep + 1)⟩ ∧ GrownIn (fun b => b = bk) w w3 from ⟨h2, H2.out.2.1.trans h4 (fun _ _ e => e)⟩)
      have HP := Lib.hid h1
      have HN := Lib.hid (show bk < w.heap.size ∧ PsOk s ⟨st.at_ + 2, st.groups, st.deep + 1, max st.deeper (st.deep + 1)⟩ ∧ st.at_ ≤ st.at_ + 2 from ⟨hbl, ⟨hlt1, by show st.groups ≤ st.at_ + 2; omega, by show st.deep + 1 ≤ st.at_ + 2; omega, by show max st.deeper (st.deep + 1) ≤ st.at_ + 2; omega⟩, by omega⟩)
      clear h1 h2 h3 h4 hlt0 hlt1
      go_wp2_with fail
      refine (HS.out.2 _ (⟨st.at_ + 2, st.groups, st.deep + 1, max st.deeper (st.deep + 1)⟩) HA.out.1 HN.out.2.1 (by have := HN.out.2.2; have e : st.at_ ≤ (⟨st.at_ + 2, st.groups, st.deep + 1, max st.deeper (st.deep + 1)⟩ : PS).at_ := this; omega)).mono ?_
      rintro e w5 hpost
      unfold PrPost at hpost
      cases hr : RX.pAll s.data.toList f (⟨st.at_ + 2, st.groups, st.deep + 1, max st.deeper (st.deep + 1)⟩) with
      | bad a =>
        rw [hr] at hpost
        obtain ⟨rfl, hg5⟩ := hpost
        have HE := Lib.hid (show _ ∧ _ from ⟨hr, hg5⟩)
        clear hr hg5
        go_wp2_with fail
        exact ⟨rfl, pr_bad (by unfold RX.pParen; rw [if_pos H2.out.2.2, if_pos HP.out]; rw [HE.out.1]; rfl) (HA.out.2.trans HE.out.2 (fun _ _ e => e))⟩
      | ok t st2 =>
        rw [hr] at hpost
        obtain ⟨v, rfl, hp5, ht5, hg5, hok, hdp, hle⟩ := hpost
        obtain ⟨ty, x, rfl⟩ := ht5.iface
        have HE := Lib.hid hr
        have H5 := Lib.hid (show _ ∧ _ ∧ _ ∧ _ ∧ _ ∧ _ from ⟨hp5, ht5, hg5, hok, hdp, hle⟩)
        clear hr hp5 ht5 hg5 hok hdp hle
        go_wp2_with fail
        refine (must_any bk s st2 41 _ H5.out.1 (by have := H5.out.2.2.2.1.at_; omega)).mono ?_
        rintro e w6 (⟨h1, rfl, h2, h3, h4⟩ | ⟨h1, rfl, q, rfl⟩)
        · have hlt : st2.at_ + 1 ≤ s.size := by
            have := (List.getElem?_eq_some_iff.1 h1).1
            rw [Array.length_toList] at this
            exact this
          have H6 := Lib.hid (show _ ∧ _ ∧ _ from ⟨h2, h4, hlt⟩)
          have HL := Lib.hid h1
          clear h1 h2 h3 h4 hlt
          have hdeep : st2.deep = st.deep + 1 := H5.out.2.2.2.2.1
          have d3 : w6.cell? ⟨bk, 3, none⟩ = some (.int .i64 (st2.deep : Int)) := H6.out.1.c3
          have g3 := H6.out.1.fr 3
          have w3 : IntKind.i64.wrap ((st2.deep : Int) - 1) = (st2.deep : Int) - 1 := IntWalk.i64_in _ (by have := H5.out.2.2.2.1.deep; have := H5.out.2.2.2.1.at_; omega)
          have HD := Lib.hid hdeep
          clear hdeep
          go_wp2_with fail
          go_ret
          have hcell : (w6.setCell ⟨bk, 3, none⟩ (.int .i64 ((st2.deep : Int) - 1))) = (w6.setCell ⟨bk, 3, none⟩ (.int .i64 ((st2.deep - 1 : Nat) : Int))) := by
            congr 2
            have := HD.out
            omega
          rw [hcell]
          have hgg : GrownIn (fun b => b = bk) w5 (w6.setCell ⟨bk, 3, none⟩ (.int .i64 ((st2.deep - 1 : Nat) : Int))) := grownIn_set (S := fun b => b = bk) (p := ⟨bk, 3, none⟩) H6.out.2.1 rfl _
          have hres : RX.pParen (RX.pAll s.data.toList f) s.data.toList st = .ok (t) ⟨st2.at_ + 1, st2.groups, st2.deep - 1, st2.deeper⟩ := by unfold RX.pParen; rw [if_pos H2.out.2.2, if_pos HP.out]; rw [HE.out]; unfold RX.pClose; simp only; rw [if_pos HL.out]; rw [if_neg (by omega)]
          rw [hres]
          exact ⟨_, rfl, (H6.out.1.set3 (st2.deep - 1)), tree_moved H5.out.2.1 HA.out.2.size HN.out.1 hgg, HA.out.2.trans (H5.out.2.2.1.trans hgg (fun _ _ e => e)) (fun _ _ e => e), ⟨by have := H6.out.2.2; omega, by have := H5.out.2.2.2.1.groups; show st2.groups ≤ st2.at_ + 1; omega, by have := H5.out.2.2.2.1.deep; show st2.deep - 1 ≤ st2.at_ + 1; omega, by have := H5.out.2.2.2.1.deeper; show st2.deeper ≤ st2.at_ + 1; omega⟩, by have := H5.out.2.2.2.2.1; show st2.deep - 1 = st.deep; have e : (⟨st.at_ + 2, st.groups, st.deep + 1, max st.deeper (st.deep + 1)⟩ : PS).deep = st.deep + 1 := rfl; omega, by have := H5.out.2.2.2.2.2; show st.at_ + 0 ≤ st2.at_ + 1; have e : st.at_ ≤ (⟨st.at_ + 2, st.groups, st.deep + 1, max st.deeper (st.deep + 1)⟩ : PS).at_ := HN.out.2.2; omega⟩
        · have HL := Lib.hid h1
          clear h1
          go_wp2_with fail
          exact ⟨rfl, pr_bad (by unfold RX.pParen; rw [if_pos H2.out.2.2, if_pos HP.out]; rw [HE.out]; unfold RX.pClose; simp only; rw [if_neg HL.out]) (HA.out.2.trans (H5.out.2.2.1.drewN q) (fun _ _ e => e))⟩
    · have HP := Lib.hid (show s.data.toList[st.at_ + 1]? ≠ some 58 from h1)
      clear h1
      go_wp2_with fail
      exact ⟨rfl, pr_bad (by unfold RX.pParen; rw [if_pos H2.out.2.2, if_neg HP.out]) (H2.out.2.1.drewN q1)⟩
  · have HP := Lib.hid (show s.data.toList[st.at_]? ≠ some 63 from h1)
    have d2 : W1.cell? ⟨bk, 2, none⟩ = some (.int .i64 (st.groups : Int)) := H1.out.1.c2
    have g2 := H1.out.1.fr 2
    have w2 : IntKind.i64.wrap ((st.groups : Int) + 1) = (st.groups : Int) + 1 := IntWalk.i64_in _ (by omega)
    have ng : (0 : Int) < (st.groups : Int) + 1 := by omega
    have HA := Lib.hid (show Psr ((W1.drewN q0).setCell ⟨bk, 2, none⟩ (.int .i64 ((st.groups : Int) + 1))) bk s ⟨st.at_, st.groups + 1, st.deep + 1, max st.deeper (st.deep + 1)⟩ ∧ GrownIn (fun b => b = bk) w ((W1.drewN q0).setCell ⟨bk, 2, none⟩ (.int .i64 ((st.groups : Int) + 1))) from ⟨(H1.out.1.drewN q0).set2 (st.groups + 1), grownIn_set (S := fun b => b = bk) (p := ⟨bk, 2, none⟩) (H1.out.2.drewN q0) rfl _⟩)
    have HN := Lib.hid (show bk < w.heap.size ∧ PsOk s ⟨st.at_, st.groups + 1, st.deep + 1, max st.deeper (st.deep + 1)⟩ ∧ st.at_ ≤ st.at_ from ⟨hbl, ⟨hk, hg, hd, by show max st.deeper (st.deep + 1) ≤ st.at_; omega⟩, Nat.le_refl _⟩)
    clear h1
    go_wp2_with fail
    refine (HS.out.2 _ (⟨st.at_, st.groups + 1, st.deep + 1, max st.deeper (st.deep + 1)⟩) HA.out.1 HN.out.2.1 (by have := HN.out.2.2; have e : st.at_ ≤ (⟨st.at_, st.groups + 1, st.deep + 1, max st.deeper (st.deep + 1)⟩ : PS).at_ := this; omega)).mono ?_
    rintro e w5 hpost
    unfold PrPost at hpost
    cases hr : RX.pAll s.data.toList f (⟨st.at_, st.groups + 1, st.deep + 1, max st.deeper (st.deep + 1)⟩) with
    | bad a =>
      rw [hr] at hpost
      obtain ⟨rfl, hg5⟩ := hpost
      have HE := Lib.hid (show _ ∧ _ from ⟨hr, hg5⟩)
      clear hr hg5
      go_wp2_with fail
      exact ⟨rfl, pr_bad (by unfold RX.pParen; rw [if_neg HP.out]; rw [HE.out.1]; rfl) (HA.out.2.trans HE.out.2 (fun _ _ e => e))⟩
    | ok t st2 =>
      rw [hr] at hpost
      obtain ⟨v, rfl, hp5, ht5, hg5, hok, hdp, hle⟩ := hpost
      obtain ⟨ty, x, rfl⟩ := ht5.iface
      have HE := Lib.hid hr
      have H5 := Lib.hid (show _ ∧ _ ∧ _ ∧ _ ∧ _ ∧ _ from ⟨hp5, ht5, hg5, hok, hdp, hle⟩)
      clear hr hp5 ht5 hg5 hok hdp hle
      go_wp2_with fail
      refine (must_any bk s st2 41 _ H5.out.1 (by have := H5.out.2.2.2.1.at_; omega)).mono ?_
      rintro e w6 (⟨h1, rfl, h2, h3, h4⟩ | ⟨h1, rfl, q, rfl⟩)
      · have hlt : st2.at_ + 1 ≤ s.size := by
          have := (List.getElem?_eq_some_iff.1 h1).1
          rw [Array.length_toList] at this
          exact this
        have H6 := Lib.hid (show _ ∧ _ ∧ _ from ⟨h2, h4, hlt⟩)
        have HL := Lib.hid h1
        clear h1 h2 h3 h4 hlt
        have hdeep : st2.deep = st.deep + 1 := H5.out.2.2.2.2.1
        have d3 : w6.cell? ⟨bk, 3, none⟩ = some (.int .i64 (st2.deep : Int)) := H6.out.1.c3
        have g3 := H6.out.1.fr 3
        have w3 : IntKind.i64.wrap ((st2.deep : Int) - 1) = (st2.deep : Int) - 1 := IntWalk.i64_in _ (by have := H5.out.2.2.2.1.deep; have := H5.out.2.2.2.1.at_; omega)
        have HD := Lib.hid hdeep
        clear hdeep
        go_wp2_with fail
        go_ret
        have hcell : (w6.setCell ⟨bk, 3, none⟩ (.int .i64 ((st2.deep : Int) - 1))) = (w6.setCell ⟨bk, 3, none⟩ (.int .i64 ((st2.deep - 1 : Nat) : Int))) := by
          congr 2
          have := HD.out
          omega
        rw [hcell]
        have hgg : GrownIn (fun b => b = bk) w5 (w6.setCell ⟨bk, 3, none⟩ (.int .i64 ((st2.deep - 1 : Nat) : Int))) := grownIn_set (S := fun b => b = bk) (p := ⟨bk, 3, none⟩) H6.out.2.1 rfl _
        have hres : RX.pParen (RX.pAll s.data.toList f) s.data.toList st = .ok (.group (st.groups + 1) t) ⟨st2.at_ + 1, st2.groups, st2.deep - 1, st2.deeper⟩ := by unfold RX.pParen; rw [if_neg HP.out]; rw [HE.out]; unfold RX.pClose; simp only; rw [if_pos HL.out]; rw [if_pos (Nat.succ_pos _)]
        rw [hres]
        exact ⟨_, rfl, (H6.out.1.set3 (st2.deep - 1)), by rw [TreeV]; exact ⟨_, rfl, by omega, tree_moved H5.out.2.1 HA.out.2.size HN.out.1 hgg⟩, HA.out.2.trans (H5.out.2.2.1.trans hgg (fun _ _ e => e)) (fun _ _ e => e), ⟨by have := H6.out.2.2; omega, by have := H5.out.2.2.2.1.groups; show st2.groups ≤ st2.at_ + 1; omega, by have := H5.out.2.2.2.1.deep; show st2.deep - 1 ≤ st2.at_ + 1; omega, by have := H5.out.2.2.2.1.deeper; show st2.deeper ≤ st2.at_ + 1; omega⟩, by have := H5.out.2.2.2.2.1; show st2.deep - 1 = st.deep; have e : (⟨st.at_, st.groups + 1, st.deep + 1, max st.deeper (st.deep + 1)⟩ : PS).deep = st.deep + 1 := rfl; omega, by have := H5.out.2.2.2.2.2; show st.at_ + 0 ≤ st2.at_ + 1; have e : st.at_ ≤ (⟨st.at_, st.groups + 1, st.deep + 1, max st.deeper (st.deep + 1)⟩ : PS).at_ := HN.out.2.2; omega⟩
      · have HL := Lib.hid h1
        clear h1
        go_wp2_with fail
        exact ⟨rfl, pr_bad (by unfold RX.pParen; rw [if_neg HP.out]; rw [HE.out]; unfold RX.pClose; simp only; rw [if_neg HL.out]) (HA.out.2.trans (H5.out.2.2.1.drewN q) (fun _ _ e => e))⟩
end Go.Proofs.YtamlnkmcbbeicaaDoor
