/- Comparisons of numbers by the operator's number. Plain law of vectors of labels: the form, what comes out, an operator of a vector and a number. vec.twice, sets, form, done. LentLabels. Written off a master by mk2.py. WholeLabels, SpoilLabels. Written off a master by mk2.py. -/
import Derived.Test.YtajaijidecomdaaGreatDoorG07
import Derived.Test.YtajaijidecomdaaGreatDoorG12
import Derived.Test.YtajaijidecomdaaGreatDoorTurn7
import Derived.Test.YtajaijidecomdaaGreatDoorG10
import Derived.Deep.RegionHeld3
import Derived.Test.YtajaijidecomdaaGreatDoorG03
import Derived.OwnWalk
import Derived.Laws.AppendOwnNone
import Derived.RangeFuncBox
import Derived.Laws.Rows
import Derived.BigQuiet
namespace Go.Proofs.YtajaijidecomdaaGreatDoor
open Go.RowKit Go.Lib

/-- Does a comparison hold? (8 eq, 9 ne, 10 gt, 11 lt, 12 ge, 13 le) -/
def holdsB (op : Int) (a b : Nat) : Bool :=
  if !cmpOk a b then op == 9 else if op == 12 then decide (0 ≤ cmpN a b) else if op == 10 then decide (0 < cmpN a b) else if op == 13 then decide (cmpN a b ≤ 0) else if op == 11 then decide (cmpN a b < 0) else if op == 9 then cmpN a b != 0 else cmpN a b == 0
/-- What a comparison makes of two numbers. -/
def oneU : UInt64 := 0x3ff0000000000000
def numC (op : Int) (isBool : Bool) (a b : UInt64) : UInt64 × Bool :=
  if isBool then (if holdsB op a.toNat b.toNat then oneU else 0, true) else if holdsB op a.toNat b.toNat then (a, true) else (0, false)
end Go.Proofs.YtajaijidecomdaaGreatDoor
namespace Go.Proofs.YtajaijidecomdaaGreatDoor
open Go.RowKit Go.Lib Go.Sort

/-- The name's label. -/
def nameT : ByteArray := ⟨#[95, 95, 110, 97, 109, 101, 95, 95]⟩
def setsL (v : List El) : Bool := v.all fun x => decide (checkE x.1 = 0)
def twiceL (v : List El) : Bool := FL.sideB labelsC (srtL v)
def formL (v : List El) : Bool := setsL v && !twiceL v
/-- What comes out: an error, or the elements in order. -/
def doneL (v : List El) : Int × List El := if twiceL v then (252, []) else if !setsL v then (253, []) else (0, srtL v)
theorem setsL_perm {v v' : List El} (h : v.Perm v') : setsL v = setsL v' := by
  unfold setsL
  rw [Bool.eq_iff_iff, List.all_eq_true, List.all_eq_true]
  exact ⟨fun g x hx => g x (h.mem_iff.2 hx), fun g x hx => g x (h.mem_iff.1 hx)⟩
theorem srt_perm (v : List El) : (srtL v).Perm v := (FL.sortE_srt elL_tot v).1
theorem setsL_srt (v : List El) : setsL (srtL v) = setsL v := setsL_perm (srt_perm v)
theorem srt_of_perm {v v' : List El} (h : v.Perm v') : srtL v = srtL v' := FL.sortE_perm elL_tot h
theorem twiceL_iff (v : List El) : twiceL v = false ↔ (v.map (·.1)).Nodup := FL.sideB_sort labelsC_tot v
theorem doneL_perm {v v' : List El} (h : v.Perm v') : doneL v = doneL v' := by
  unfold doneL twiceL
  rw [srt_of_perm h, setsL_perm h]
/-- A set without some of its labels is a set. -/
theorem upB_iff (l : List Lb) : upB l = true ↔ ∀ j, j < l.length - 1 → ¬ nameC (l[j + 1]!) (l[j]!) < 0 := decide_eq_true_iff
theorem upB_cons (x y : Lb) (l : List Lb) : upB (x :: y :: l) = (decide (¬ nameC y x < 0) && upB (y :: l)) := by
  rw [Bool.eq_iff_iff, Bool.and_eq_true, decide_eq_true_iff, upB_iff, upB_iff]
  constructor
  · intro h
    refine ⟨by have := h 0 (by simp); simpa using this, fun j hj => ?_⟩
    have := h (j + 1) (by simp at hj ⊢; omega)
    simpa using this
  · rintro ⟨h1, h2⟩ j hj
    cases j with
    | zero => simpa using h1
    | succ j =>
      have := h2 j (by simp at hj ⊢; omega)
      simpa using this
theorem upB_pair : ∀ l : List Lb, upB l = true ↔ l.Pairwise fun x y => ¬ nameC y x < 0
  | [] => by simp [upB]
  | [x] => by simp [upB]
  | x :: y :: l => by
    rw [upB_cons, Bool.and_eq_true, decide_eq_true_iff, upB_pair (y :: l), List.pairwise_cons (a := x)]
    constructor
    · rintro ⟨h1, h2⟩
      refine ⟨fun z hz => ?_, h2⟩
      rcases List.mem_cons.1 hz with rfl | hz
      · exact h1
      · have h3 := (List.pairwise_cons.1 h2).1 z hz
        unfold nameC at *
        have e1 := textC_cmp3.swap y.nm z.nm
        have e2 := textC_cmp3.swap x.nm y.nm
        have e3 := textC_cmp3.swap x.nm z.nm
        have := textC_cmp3.le_trans (x := x.nm) (y := y.nm) (z := z.nm) (by omega) (by omega)
        omega
    · rintro ⟨h1, h2⟩
      exact ⟨h1 y (by simp), h2⟩
theorem twiceN_not (l : List Lb) : ∀ seen, (∀ x ∈ l, x.nm.data.toList ∉ seen) → Apart l → twiceN seen l = false := by
  induction l with
  | nil => intro seen _ _; rfl
  | cons x l ih =>
    intro seen h ha
    obtain ⟨h1, h2⟩ := List.pairwise_cons.1 ha
    unfold twiceN
    rw [if_neg (h x (by simp))]
    refine ih _ (fun y hy hm => ?_) h2
    rcases List.mem_cons.1 hm with e | hm
    · exact h1 y hy e.symm
    · exact h y (by simp [hy]) hm
theorem checkE_zero (l : List Lb) : checkE l = 0 ↔ l.length ≤ 64 ∧ l.any badC = false ∧ twiceN [] l = false ∧ upB l = true := by
  unfold checkE
  by_cases h1 : 64 < l.length
  · rw [if_pos h1]; exact ⟨fun h => by omega, fun h => by omega⟩
  · rw [if_neg h1]
    cases h2 : l.any badC with
    | true => simp
    | false =>
      cases h3 : twiceN [] l with
      | true => simp
      | false =>
        cases h4 : upB l <;> simp <;> omega
theorem checkE_filter {l : List Lb} (h : checkE l = 0) (p : Lb → Bool) : checkE (l.filter p) = 0 := by
  obtain ⟨h1, h2, h3, h4⟩ := (checkE_zero l).1 h
  refine (checkE_zero _).2 ⟨Nat.le_trans (List.length_filter_le _ _) h1, ?_, ?_, ?_⟩
  · rw [List.any_eq_false] at h2 ⊢
    exact fun x hx => h2 x (List.mem_filter.1 hx).1
  · exact twiceN_not _ [] (by simp) ((twiceN_apart l [] h3).1.sublist List.filter_sublist)
  · exact (upB_pair _).2 (((upB_pair l).1 h4).sublist List.filter_sublist)
/-- An operator of a vector and a number: nf is what it makes of two numbers, and whether it stays; fresh: the element is a new one. -/
def numOut (nf : UInt64 → UInt64 → UInt64 × Bool) (fresh : Bool) (s : UInt64) (left : Bool) (v : List El) : List El :=
  v.filterMap fun x => let r := if left then nf s x.2 else nf x.2 s; if !r.2 then none else if fresh then some (lessL x.1 [nameT], r.1) else some x
def numberL (nf : UInt64 → UInt64 → UInt64 × Bool) (fresh : Bool) (s : UInt64) (left : Bool) (v : List El) : Int × List El :=
  if formL v then doneL (numOut nf fresh s left v) else (253, [])
end Go.Proofs.YtajaijidecomdaaGreatDoor
namespace Go.Proofs.YtajaijidecomdaaGreatDoor
open Go.RowKit Go.Lib Go.Sort

theorem cell_two {w w' : World} (hb : Below w.heap.size w w') {p1 p2 : Addr} {v1 v2 : Value} (h : w.cell? p1 = some v1 ∧ w.cell? p2 = some v2) : w'.cell? p1 = some v1 ∧ w'.cell? p2 = some v2 := ⟨cell_seen hb h.1, cell_seen hb h.2⟩
theorem side_step {l : List El} {m : Nat} {x y : El} (hx : l[m]? = some x) (hy : l[m + 1]? = some y) : FL.sideB labelsC (l.drop m) = (decide (labelsC x.1 y.1 = 0) || FL.sideB labelsC (l.drop (m + 1))) := by
  obtain ⟨h1, e1⟩ := List.getElem?_eq_some_iff.1 hx
  obtain ⟨h2, e2⟩ := List.getElem?_eq_some_iff.1 hy
  rw [List.drop_eq_getElem_cons h1, List.drop_eq_getElem_cons h2, e1, e2, FL.sideB]
theorem side_end {l : List El} {m : Nat} (h : l.length ≤ m + 1) : FL.sideB labelsC (l.drop m) = false := by
  have : (l.drop m).length ≤ 1 := by rw [List.length_drop]; omega
  match hd : l.drop m, this with
  | [], _ => rfl
  | [x], _ => rfl
set_option maxHeartbeats 2000000 in
set_option maxRecDepth 100000 in
theorem twice_el (A : Option Addr) (n c : Nat) (es : List Ev) (w : World) (hE : Els w w.heap.size A n c es) : Calls Tryz.prog 147 #[.slice A n c] w fun e w' => e = .returned (.bool (FL.sideB labelsC (es.map Ev.el))) ∧ Below w.heap.size w w' := by
  obtain ⟨r, hr⟩ : ∃ r, FL.sideB labelsC (es.map Ev.el) = r := ⟨_, rfl⟩
  rw [hr]
  have HE := Lib.hid (show _ ∧ _ from ⟨hE, hr⟩)
  have hn := hE.few
  have hln := hE.lst.1
  clear hE hr
  go_enter Tryz.func147, Tryz.ntmps147
  go_wp2
  go_loopw [3] (fun iv wr => ∃ m1 : Nat, (1 ≤ m1 ∧ m1 ≤ n + 1) ∧ iv = .int .i64 m1 ∧ Hid (FL.sideB labelsC ((es.map Ev.el).drop (m1 - 1)) = r ∧ Below w.heap.size w wr)) (fun iv _ => n + 1 - (intOf iv).toNat)
  case atStart => exact ⟨1, ⟨Nat.le_refl _, by omega⟩, rfl, Lib.hid ⟨HE.out.2, Below.refl _ _⟩⟩
  case round =>
    obtain ⟨m1, ⟨hm0, hm⟩, rfl, HR⟩ := hrel
    obtain ⟨m, hmm⟩ : ∃ m, m1 = m + 1 := ⟨m1 - 1, by omega⟩
    have hmd : m1 - 1 = m := by omega
    rw [hmd] at HR
    by_cases hlt : m1 < n
    · obtain ⟨b, off, x, rfl, hb, hx, hcx⟩ := HE.out.1.lst.at (k := m) (by omega)
      obtain ⟨b', off', y, hA, _, hy, hcy⟩ := HE.out.1.lst.at (k := m1) hlt
      cases hA
      have c0 := (HR.out.2.cell (p := ⟨b, off + m * 2 + 0, none⟩) hb).trans (hcx 0 _ rfl)
      have d0 := (HR.out.2.cell (p := ⟨b, off + m1 * 2 + 0, none⟩) hb).trans (hcy 0 _ rfl)
      simp only [Nat.add_zero] at c0 d0
      have hbl := HR.out.2
      have hst := side_step (l := es.map Ev.el) (m := m) (x := x.el) (y := y.el) (by rw [List.getElem?_map, hx]; rfl) (by rw [← hmm, List.getElem?_map, hy]; rfl)
      rw [HR.out.1, ← hmm] at hst
      have hxE := HE.out.1.each x (List.mem_of_getElem? hx)
      have hyE := HE.out.1.each y (List.mem_of_getElem? hy)
      have hcon : ∀ W, Below w.heap.size w W → Calls Tryz.prog 164 #[.slice x.A x.n x.c, .slice y.A y.n y.c] W fun e w' => e = .returned (.int .i64 (labelsC x.l y.l)) ∧ Below W.heap.size W w' := fun W hW =>
        labelsCmp_any x.A y.A x.n x.c y.n y.c x.l y.l W ((hxE.on hW).lst) ((hyE.on hW).lst) (by have := hxE.few; omega) (by have := hyE.few; omega)
      obtain ⟨q, hq⟩ : ∃ q, labelsC x.l y.l = q := ⟨_, rfl⟩
      have hq2 : labelsC x.el.1 y.el.1 = q := hq
      rw [hq2] at hst
      rw [hq] at hcon
      have hw1 : IntKind.i64.wrap ((m1 : Int) - 1) = (m : Int) := by rw [show (m1 : Int) - 1 = m by omega]; exact IntWalk.i64_in _ (by omega)
      have i2 : (m1 : Int) < (n : Int) := by omega
      have i1 : (0 : Int) ≤ (m1 : Int) := by omega
      have i3 : (0 : Int) ≤ (m : Int) := by omega
      have i4 : (m : Int) < (n : Int) := by omega
      obtain ⟨z, hz⟩ : ∃ z, (q == 0) = z := ⟨_, rfl⟩
      have hz2 : decide (q = 0) = z := hz
      rw [hz2] at hst
      have HM := Lib.hid (show _ ∧ _ ∧ _ ∧ _ from ⟨hst, hcon, hbl, hmm⟩)
      clear hst hcon hcx hcy hx hy hxE hyE hq hq2 HR hbl hmm hmd
      go_wp2_with fail
      go_region_held3 (fun w' => w'.cell? ⟨b, off + m * 2, none⟩ = some (.slice x.A x.n x.c) ∧ w'.cell? ⟨b, off + m1 * 2, none⟩ = some (.slice y.A y.n y.c)) (first | exact k6 | exact ⟨c0, d0⟩)
        (first | (go_at_call 164; refine (HM.out.2.1 _ (below_drewN HM.out.2.2.1 1)).mono ?_; rintro e w' ⟨rfl, hbw⟩; have HB1 := Lib.hid ((below_drewN HM.out.2.2.1 1).trans (hbw.mono (below_drewN HM.out.2.2.1 1).size)); have k6 := cell_two hbw (by assumption); clear hbw))
      all_goals
        cases z with
        | true =>
          go_wp2
          go_ret
          exact ⟨by rw [HM.out.1]; rfl, HB1.out⟩
        | false =>
          go_wp2
          go_roundw
          case measure => simp [intOf]; omega
          case rel => exact ⟨m1 + 1, ⟨by omega, by omega⟩, by simp, Lib.hid ⟨by rw [HM.out.1, Bool.false_or, Nat.add_sub_cancel], HB1.out⟩⟩
    · have i2 : ¬ (m1 : Int) < (n : Int) := by omega
      have hf : r = false := by rw [← HR.out.1]; exact side_end (by rw [List.length_map]; omega)
      go_wp2
      go_ret
      exact ⟨by first | rfl | (rw [hf]; rfl), HR.out.2⟩
end Go.Proofs.YtajaijidecomdaaGreatDoor
namespace Go.Proofs.YtajaijidecomdaaGreatDoor
open Go.RowKit Go.Lib

def mALabel : Lb := ⟨⟨#[111]⟩, ByteArray.empty⟩
def mBLabel : Lb := ⟨⟨#[112]⟩, ByteArray.empty⟩
/-- What LentLabels leaves. -/
def LentLabelPost (w : World) (l : List (Lb)) (n : Nat) (e : Ending) (w' : World) : Prop :=
  ∃ g c, e = .returned (.slice (some ⟨g, 0, none⟩) n c) ∧ w'.ownsRow w.heap.size 104 2 (.slice (some ⟨g, 0, none⟩) (n + 2) c) (n + 2) ((l ++ [mALabel, mBLabel]).flatMap Lb.cells) ∧ Below w.heap.size w w'
set_option maxHeartbeats 2000000 in
set_option maxRecDepth 100000 in
theorem lentLabel_any (A : Option Addr) (n c : Nat) (l : List (Lb)) (w : World) (hr : Lst Lb.cells 2 w w.heap.size A n l) (hnil : A = none → n = 0 ∧ c = 0) (hbig : n ≤ 1000000000) :
    Calls Tryz.prog 51 #[.slice A n c] w (LentLabelPost w l n) := by
  obtain ⟨i0, hi, hz0, hz1, hz2⟩ := info_parts Tryz.infoLabel
  have hbts : i0.bytes * (n + 2) ≤ 281474976710656 := by rw [hz2]; omega
  have HB := Lib.hid hbts
  clear hbts
  go_enter Tryz.func51, Tryz.ntmps51
  go_wp2_with (refine wpList_make_own _ rfl _ _ 88 rfl w.heap.size 104 i0 _ 2 Tryz.underlying88 hi hz0 hz1 .i64 .i64 _ (n + 2) rfl rfl (by simp) HB.out (by unfold maxLen; omega) (Nat.le_refl _) ?_)
  intro w1 hown hg
  have hb1 : Below w.heap.size w w1 := (Below.refl _ _).grown hg (Nat.le_refl _) (fun _ h => by cases h)
  have H1 := Lib.hid (show _ ∧ _ from ⟨hown, hb1⟩)
  have HLEN := Lib.hid hr.1
  have hsrc : ∀ ad, A = some ad → ∀ j u, (l.flatMap Lb.cells)[j]? = some u → w1.cell? (ad.add j) = some u := by
    rintro ad rfl
    have := (hr.below hb1).flat Lb.len
    exact this
  have HS := Lib.hid hsrc
  clear hown hg hb1 hr hsrc
  cases A with
  | none =>
    obtain ⟨rfl, rfl⟩ := hnil rfl
    have hl0 : l = [] := List.length_eq_zero_iff.1 HLEN.out
    have hown2 : w1.ownsRow w.heap.size 104 2 (.slice (some ⟨w.heap.size, 0, none⟩) 0 (0 + 2)) 0 (l.flatMap Lb.cells) := by rw [hl0]; exact H1.out.1
    have HO2 := Lib.hid (show _ ∧ _ from ⟨hown2, H1.out.2⟩)
    clear hown2 HS
    go_wp2_with (at_builtin; first | refine wpList_append_own_none rfl _ _ 88 rfl w.heap.size 104 i0 2 Tryz.underlying88 hi _ 0 [] rfl H1.out.1 rfl ?_ | refine wpList_append_own _ rfl _ _ 88 rfl w.heap.size 104 i0 _ 2 32 Tryz.underlying88 hi hz0 hz1 hz2 rfl (by omega) _ 0 (l.flatMap Lb.cells) rfl (HO2.out.1.alloc _) ⟨w1.heap.size, 0, none⟩ 2 2 ([mALabel, mBLabel].flatMap Lb.cells) rfl rfl (cells_newL w1 ([mALabel, mBLabel].flatMap Lb.cells) _) (oneLabel _) (by unfold maxLen; omega) (by omega) (by have := HO2.out.2.size; simp; omega) ?_)
    intro v3 w3 hown3 hg3 _
    have hown3' : w3.ownsRow w.heap.size 104 2 v3 (0 + 2) ((l ++ [mALabel, mBLabel]).flatMap Lb.cells) := by rw [hl0]; simpa using hown3
    clear hown3
    obtain ⟨g, cap, rfl⟩ := ownsRow_succ hown3'
    have hown3 := hown3'
    clear hown3'
    have hb3 := (HO2.out.2.alloc HO2.out.2.size _).grown hg3 (by have := HO2.out.2.size; simp; omega) (fun x hx => (HO2.out.1.lt x hx).1)
    have hcap : 2 ≤ cap := by
      rcases hown3.2 with ⟨h, _⟩ | ⟨_, _, _, h, _, _, h1, _⟩
      · cases h
      · cases h; exact h1
    have HF := Lib.hid (show _ ∧ _ from ⟨hown3, hb3⟩)
    clear hown3 hg3 hb3 hi hz0 hz1 hz2
    go_wp2
    go_ret
    exact ⟨g, cap, rfl, HF.out.1, HF.out.2⟩
  | some ad =>
    go_wp2_with (at_builtin; go_loud (refine wpList_append_own _ rfl _ _ 88 rfl w.heap.size 104 i0 _ 2 32 Tryz.underlying88 hi hz0 hz1 hz2 rfl (by omega) _ 0 [] rfl H1.out.1 ad n c (l.flatMap Lb.cells) rfl (by rw [flatMap_length (enc := Lb.cells) (size := 2) Lb.len, HLEN.out]) (HS.out ad rfl) (oneLabel _) (by unfold maxLen; omega) (by omega) H1.out.2.size ?_))
    intro v2 w2 hown2 hg2 _
    have hb2 := H1.out.2.grown hg2 H1.out.2.size (fun x hx => (H1.out.1.lt x hx).1)
    clear hg2 H1 HS
    have HO2 := Lib.hid (show _ ∧ _ from ⟨hown2, hb2⟩)
    clear hown2 hb2
    go_wp2_with (at_builtin; go_loud (refine wpList_append_own _ rfl _ _ 88 rfl w.heap.size 104 i0 _ 2 32 Tryz.underlying88 hi hz0 hz1 hz2 rfl (by omega) _ n (l.flatMap Lb.cells) rfl (HO2.out.1.alloc _) ⟨w2.heap.size, 0, none⟩ 2 2 ([mALabel, mBLabel].flatMap Lb.cells) rfl rfl (cells_newL w2 ([mALabel, mBLabel].flatMap Lb.cells) _) (oneLabel _) (by unfold maxLen; omega) (by omega) (by have := HO2.out.2.size; simp; omega) ?_))
    intro v3 w3 hown3 hg3 _
    have hown3' : w3.ownsRow w.heap.size 104 2 v3 (n + 2) ((l ++ [mALabel, mBLabel]).flatMap Lb.cells) := by simpa [List.flatMap_append] using hown3
    clear hown3
    obtain ⟨g, cap, rfl⟩ := ownsRow_succ hown3'
    have hown3 := hown3'
    clear hown3'
    have hb3 := (HO2.out.2.alloc HO2.out.2.size _).grown hg3 (by have := HO2.out.2.size; simp; omega) (fun x hx => (HO2.out.1.lt x hx).1)
    have hcap : n + 2 ≤ cap := by
      rcases hown3.2 with ⟨h, _⟩ | ⟨_, _, _, h, _, _, h1, _⟩
      · cases h
      · cases h; exact h1
    have HF := Lib.hid (show _ ∧ _ from ⟨hown3, hb3⟩)
    clear hown3 hg3 hb3 hi hz0 hz1 hz2
    go_wp2
    go_ret
    exact ⟨g, cap, rfl, HF.out.1, HF.out.2⟩
end Go.Proofs.YtajaijidecomdaaGreatDoor
namespace Go.Proofs.YtajaijidecomdaaGreatDoor
open Go.RowKit Go.Lib

set_option maxHeartbeats 2000000 in
theorem wholeLabel_q (g c : Nat) (B : Option Addr) (n cb : Nat) (l : List (Lb)) (w : World) (ha : Lst Lb.cells 2 w w.heap.size (some ⟨g, 0, none⟩) (n + 2) (l ++ [mALabel, mBLabel])) (hc : n + 2 ≤ c) (hb : Lst Lb.cells 2 w w.heap.size B n l) (hbig : n ≤ 1000000000) :
    Calls Tryz.prog 55 #[.slice (some ⟨g, 0, none⟩) n c, .slice B n cb] w fun e w' => e = .returned (.bool true) ∧ ∃ q, w' = w.drewN q := by
  have hl := hb.1
  obtain ⟨b, off, e, hbb, hcc⟩ := ha.2 (by omega)
  cases e
  have hA : (l ++ [mALabel, mBLabel])[n]? = some mALabel := by rw [List.getElem?_append_right (by omega), hl]; simp
  have hB : (l ++ [mALabel, mBLabel])[n + 1]? = some mBLabel := by rw [List.getElem?_append_right (by omega), hl]; simp
  have c0 := hcc n _ hA 0 _ rfl
  have c1 := hcc n _ hA 1 _ rfl
  have d0 := hcc (n + 1) _ hB 0 _ rfl
  have d1 := hcc (n + 1) _ hB 1 _ rfl
  simp only [Nat.zero_add, Nat.add_zero, mALabel, mBLabel] at c0 c1 d0 d1
  have hown : Lst Lb.cells 2 w w.heap.size (some ⟨g, 0, none⟩) n l := by
    have := ha.take (k := n) (by omega)
    rwa [List.take_append_of_le_length (by omega), List.take_of_length_le (by omega)] at this
  have HS := Lib.hid (sameLabel_q (some ⟨g, 0, none⟩) B n c cb l w hown hb hbig)
  clear hown ha hb hcc hA hB hl
  have hci : (n : Int) + 2 ≤ (c : Int) := by omega
  go_enter Tryz.func55, Tryz.ntmps55
  go_wp2_with fail
  refine HS.out.mono ?_
  rintro e w' ⟨rfl, q, rfl⟩
  go_wp2
  go_ret
  exact ⟨rfl, _, by first | rfl | exact World.drewN_drewN _ _ _⟩
theorem wholeLabel_eq (g c : Nat) (B : Option Addr) (n cb : Nat) (l : List (Lb)) (w : World) (ha : Lst Lb.cells 2 w w.heap.size (some ⟨g, 0, none⟩) (n + 2) (l ++ [mALabel, mBLabel])) (hc : n + 2 ≤ c) (hb : Lst Lb.cells 2 w w.heap.size B n l) (hbig : n ≤ 1000000000) :
    Calls Tryz.prog 55 #[.slice (some ⟨g, 0, none⟩) n c, .slice B n cb] w fun e w' => e = .returned (.bool true) ∧ Below w.heap.size w w' :=
  (wholeLabel_q g c B n cb l w ha hc hb hbig).mono fun _ _ ⟨h1, h2⟩ => ⟨h1, below_drewLabel h2⟩
theorem grownBy_setLabel {w wr : World} {g : Nat} (h : w.grownBy wr (some g)) (i : Nat) (v : Value) : w.grownBy (wr.setCell ⟨g, i, none⟩ v) (some g) :=
  ⟨h.os, h.tape, h.output, by simpa using h.size, fun k hk hne => (heap_setCell_other _ _ _ _ (fun e => hne (by rw [e]))).trans (h.block k hk hne)⟩
set_option maxHeartbeats 4000000 in
set_option maxRecDepth 100000 in
theorem spoilLabel_any (g n c : Nat) (cur : Array Value) (w : World) (hg : w.heap[g]? = some (.cells cur 104 (0, 0))) (hsz : cur.size = c * 2) (_hn : n ≤ c) (hc : c ≤ maxLen) :
    Calls Tryz.prog 56 #[.slice (some ⟨g, 0, none⟩) n c] w fun e w' => e = .returned (.tuple #[]) ∧ w.grownBy w' (some g) := by
  have HG := Lib.hid (show _ ∧ _ from ⟨hg, hsz⟩)
  have hc' : c ≤ 9223372036854775807 := hc
  clear hg hsz hc
  go_enter Tryz.func56, Tryz.ntmps56
  go_wp2
  go_loopw [3] (fun i wr => ∃ (k : Nat) (cu : Array Value), k ≤ c ∧ i = .int .i64 k ∧ w.grownBy wr (some g) ∧ Hid (wr.heap[g]? = some (.cells cu 104 (0, 0)) ∧ cu.size = c * 2)) (fun i _ => c - (intOf i).toNat)
  case atStart => exact ⟨0, cur, Nat.zero_le _, rfl, ⟨rfl, rfl, rfl, Nat.le_refl _, fun _ _ _ => rfl⟩, HG⟩
  case round =>
    obtain ⟨k, cu, hk, rfl, hgr, HB⟩ := hrel
    by_cases hlt : k < c
    · have hcell : ∀ j, j < 2 → ∃ x, wr.cell? ⟨g, k * 2 + j, none⟩ = some x := fun j hj => ⟨_, by
        rw [cell_of_row _ _ _ _ _ _ HB.out.1]
        exact Array.getElem?_eq_getElem (by have := HB.out.2; omega)⟩
      have hfr : ∀ j, wr.frozen? ⟨g, j, none⟩ = false := fun j => by simp [World.frozen?, HB.out.1]
      obtain ⟨x0, c0⟩ := hcell 0 (by omega)
      obtain ⟨x1, c1⟩ := hcell 1 (by omega)
      have f0 := hfr (k * 2)
      have f1 := hfr (k * 2 + 1)
      simp only [Nat.add_zero] at c0
      clear hcell hfr
      go_wp2
      go_roundw
      case measure => simp [intOf]; omega
      case rel =>
        refine ⟨k + 1, _, hlt, by simp, grownBy_setLabel (grownBy_setLabel hgr _ _) _ _, Lib.hid ⟨heap_setCell_same _ _ _ _ _ _ (heap_setCell_same _ _ _ _ _ _ HB.out.1), ?_⟩⟩
        simpa using HB.out.2
    · go_wp2
      go_end0
      exact ⟨rfl, hgr⟩
end Go.Proofs.YtajaijidecomdaaGreatDoor
