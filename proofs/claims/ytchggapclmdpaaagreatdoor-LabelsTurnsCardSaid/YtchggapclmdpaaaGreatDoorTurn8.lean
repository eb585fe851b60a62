/- labels.With; the document's Keep, Without, With. -/
import Derived.Test.YtchggapclmdpaaaGreatDoorTurn7
import Derived.Test.YtchggapclmdpaaaGreatDoorIns7
import Derived.Test.YtchggapclmdpaaaGreatDoorSets7
namespace Go.Proofs.YtchggapclmdpaaaGreatDoor
open Go.RowKit Go.Lib Go.Maps Go.WideMaps Go.WideShapes

/-- Does a label's name stand behind s? -/
def above (s : ByteArray) (y : Lb) : Bool := !Op.bytesLess y.nm.toList s.toList && !(y.nm.toList == s.toList)
/-- How many labels stand ahead. -/
def upTo (s : ByteArray) : List Lb → Nat
  | [] => 0
  | y :: t => if above s y = true then 0 else upTo s t + 1
theorem above_nameC (x y : Lb) : above x.nm y = true ↔ nameC x y < 0 := by
  unfold above
  rcases nameC_cases x y with ⟨h, p1, p2⟩ | ⟨h, p1, p2⟩ | ⟨h, p1, p2⟩
  · rw [p1, p2]
    exact ⟨fun _ => h, fun _ => rfl⟩
  · rw [p1, p2]
    exact ⟨fun e => (by cases e), fun e => absurd e h⟩
  · rw [p1, p2]
    exact ⟨fun e => (by cases e), fun e => absurd e h⟩
theorem intoL_ins (x : Lb) : ∀ l : List Lb, intoL l x = insL l (upTo x.nm l) x
  | [] => rfl
  | y :: t => by
    by_cases h : nameC x y < 0
    · rw [intoL_gt h, upTo, if_pos ((above_nameC x y).2 h)]; rfl
    · rw [intoL_le h, upTo, if_neg (fun e => h ((above_nameC x y).1 e)), intoL_ins x t]; rfl
theorem upTo_le (s : ByteArray) : ∀ l : List Lb, upTo s l ≤ l.length
  | [] => Nat.le_refl _
  | y :: t => by
    have := upTo_le s t
    rw [upTo, List.length_cons]
    split <;> omega
theorem idx_from (s : ByteArray) (z : Lb) : ∀ (l : List Lb) (i : Nat), Lib.idxByFrom (fun _ y => above s y) z l i = if upTo s l < l.length then ((i + upTo s l : Nat) : Int) else -1
  | [], i => rfl
  | y :: t, i => by
    rw [Lib.idxByFrom, upTo]
    cases h : above s y with
    | true => simp
    | false =>
      rw [idx_from s z t (i + 1)]
      simp only [Bool.false_eq_true, if_false, List.length_cons]
      have e : (upTo s t + 1 < t.length + 1) ↔ (upTo s t < t.length) := by omega
      by_cases hu : upTo s t < t.length
      · rw [if_pos hu, if_pos (e.2 hu)]
        congr 1
        omega
      · rw [if_neg hu, if_neg (fun h => hu (e.1 h))]
theorem Tryz.enterWith1 : ∀ args w, (callFunc 107 args).run Tryz.prog w = .ok (.enter 107 args) w := enters_of Tryz.func107 (by kernel_rfl) rfl
theorem with1_any (p : Nat) (s : ByteArray) (W : World) (x : Lb) (hp : W.cell? ⟨p, 0, none⟩ = some (.string s)) :
    Calls Tryz.prog 107 (#[.agg #[.string x.nm, .string x.vl]] ++ #[.pointer (some ⟨p, 0, none⟩)]) W fun e w' => e = .returned (.bool (above s x)) ∧ Below W.heap.size W w' := by
  have hpl := World.block_lt_of_cell? _ _ hp
  have hp' : (W.alloc (.cells #[.string x.nm, .string x.vl] 94)).cell? ⟨p, 0, none⟩ = some (.string s) := (((Below.refl W.heap.size W).alloc (Nat.le_refl _) _).cell hpl).trans hp
  obtain ⟨r, hr⟩ : ∃ r, above s x = r := ⟨_, rfl⟩
  have hr' : (!Op.bytesLess x.nm.toList s.toList && !(x.nm.toList == s.toList)) = r := hr
  rw [hr]
  clear hr
  go_enter Tryz.func107, Tryz.ntmps107
  go_wp2
  go_ret
  exact ⟨by rw [← hr']; rfl, (Below.refl _ _).alloc (Nat.le_refl _) _⟩
set_option maxHeartbeats 2000000 in
set_option maxRecDepth 100000 in
/-- slices.IndexFunc at labels. -/
theorem indexLabel_any (g : Nat) (lb : Array Value) (eg : ∀ args w, (callFunc g args).run Tryz.prog w = .ok (.enter g args) w) (p : Lb → Bool) (A : Option Addr) (n c : Nat) (l : List Lb) (w : World)
    (hp : ∀ (W : World) (x : Lb), Below w.heap.size w W → Calls Tryz.prog g (#[.agg #[.string x.nm, .string x.vl]] ++ lb) W fun e w' => e = .returned (.bool (p x)) ∧ Below W.heap.size W w')
    (hL : Lst Lb.cells 2 w w.heap.size A n l) (hbig : n ≤ 1099511627776) :
    Calls Tryz.prog 106 #[.slice A n c, .func (.func g) #[] lb] w fun e w' => e = .returned (.int .i64 (Lib.idxByFrom (fun _ y => p y) default l 0)) ∧ Below w.heap.size w w' := by
  by_cases h0 : n = 0
  · subst h0
    have hl0 : l = [] := List.length_eq_zero_iff.1 hL.1
    rw [hl0]
    clear hL hp eg
    go_enter Tryz.func106, Tryz.ntmps106
    go_wp2
    refine wp_loop_rounds 1 ?_
    rw [rounds_succ]
    go_wp2
    go_ret
    exact ⟨rfl, Below.refl _ _⟩
  · obtain ⟨b, off, x, rfl, hb, _, _⟩ := hL.at (k := 0) (by omega)
    have hcon := AnyQ.slices_IndexFunc Tryz.indexLabel 2 Tryz.isAgg94 Tryz.sizeOf94 Lb.cells Lb.len p g lb eg b off n c l w (fun W x hb => (hp W x hb).mono fun e w' h => ⟨h.1, hb.trans (h.2.mono hb.size)⟩) (by rw [hL.1]; exact Nat.le_refl _) (by omega) hb (fun j hj i v hv => by
      obtain ⟨b', off', y, hA, _, hy, hcl⟩ := hL.at (k := j) (by have := hL.1; omega)
      cases hA
      have h1 := List.getElem?_eq_some_iff.1 hy
      rw [getElem!_pos l j hj, h1.2] at hv
      exact hcl i v hv)
    rw [show l.take n = l by rw [← hL.1]; exact List.take_length] at hcon
    exact hcon
/-- With a label; an empty value: without it. -/
def withL (l : List Lb) (nm vl : ByteArray) : List Lb := if (vl.toList == []) = true then lessL l [nm] else intoL (lessL l [nm]) ⟨nm, vl⟩
theorem lessL_len (l : List Lb) (ns : List ByteArray) : (lessL l ns).length ≤ l.length := List.length_filter_le _ _
set_option maxHeartbeats 4000000 in
set_option maxRecDepth 100000 in
theorem with_any (A : Option Addr) (n c : Nat) (l : List Lb) (nm vl : ByteArray) (w : World) (hL : Lst Lb.cells 2 w w.heap.size A n l) (hn : n ≤ 100000) (hsz : ∀ x ∈ l, x.nm.size ≤ maxLen) (hnm : nm.size ≤ maxLen) :
    Calls Tryz.prog 38 #[.slice A n c, .string nm, .string vl] w (OwnedL (withL l nm vl) w) := by
  have HL := Lib.hid (show _ ∧ _ ∧ _ from ⟨hL, hsz, hnm⟩)
  clear hL hsz hnm
  go_enter Tryz.func38, Tryz.ntmps38
  go_wp2_with fail
  have hb2 : Below w.heap.size w ((w.alloc (.cells #[.string nm] 9)).alloc (.cells #[.string nm] 9)) := ((Below.refl _ _).alloc (Nat.le_refl _) _).alloc (by simp) _
  have hc2 : ((w.alloc (.cells #[.string nm] 9)).alloc (.cells #[.string nm] 9)).cell? ⟨w.heap.size, 0, none⟩ = some (.string nm) := by simp
  have hn2 : Lst encTx 1 ((w.alloc (.cells #[.string nm] 9)).alloc (.cells #[.string nm] 9)) ((w.alloc (.cells #[.string nm] 9)).alloc (.cells #[.string nm] 9)).heap.size (some ⟨w.heap.size + 1, 0, none⟩) 1 [nm] :=
    lst_block (by have := heap_alloc_new (w.alloc (.cells #[.string nm] 9)) (.cells #[.string nm] 9); simpa using this) rfl rfl encTx_len
  have hs2 : ((w.alloc (.cells #[.string nm] 9)).alloc (.cells #[.string nm] 9)).heap.size = w.heap.size + 2 := by simp
  change Calls _ _ _ ((w.alloc (.cells #[.string nm] 9)).alloc (.cells #[.string nm] 9)) _
  generalize (w.alloc (.cells #[.string nm] 9)).alloc (.cells #[.string nm] 9) = w2 at hb2 hc2 hn2 hs2 ⊢
  refine (without_any A (some ⟨w.heap.size + 1, 0, none⟩) n c 1 1 l [nm] w2 (HL.out.1.on hb2) hn2 (by omega) (by omega) HL.out.2.1 (fun x hx => by rw [List.mem_singleton.1 hx]; exact HL.out.2.2)).mono ?_
  rintro e w3 ⟨v3, rfl, ho3, hb3⟩
  have hs3 := hb3.size
  have hll := lessL_len l [nm]
  obtain ⟨R, hR⟩ : ∃ R, lessL l [nm] = R := ⟨_, rfl⟩
  have hwR : withL l nm vl = if (vl.toList == []) = true then R else intoL R ⟨nm, vl⟩ := by unfold withL; rw [hR]
  rw [hR] at ho3 hll
  obtain ⟨m, hm⟩ : ∃ m, R.length = m := ⟨_, rfl⟩
  rw [hm] at ho3 hll
  have hmn : m ≤ 100000 := by have := HL.out.1.1; omega
  have hc3 := (hb3.cell (p := ⟨w.heap.size, 0, none⟩) (by show w.heap.size < w2.heap.size; omega)).trans hc2
  have hbw : Below w.heap.size w w3 := hb2.trans (hb3.mono hb2.size)
  obtain ⟨A3, c3, rfl, hL3, _⟩ := own_arg ho3 hm
  have H3 := Lib.hid (show _ ∧ _ ∧ _ ∧ _ from ⟨owns_base ho3 hb2.size, hbw, hc3, hL3⟩)
  have HW := Lib.hid (show _ ∧ _ from ⟨hwR, hm⟩)
  have hA3 : ∀ k, (Value.slice A3 m c3).ownBlock = some k → k < w3.heap.size := fun k h => (ho3.lt k h).2
  have HA := Lib.hid hA3
  clear ho3 hb3 hb2 hc2 hn2 hbw hL3 hc3 hwR hm hA3
  cases he : (vl.toList == []) with
  | true =>
    go_wp2
    go_ret
    refine ⟨_, rfl, ?_, H3.out.2.1⟩
    rw [HW.out.1, he, if_pos rfl, HW.out.2]
    exact H3.out.1
  | false =>
    have hix := indexLabel_any 107 #[.pointer (some ⟨w.heap.size, 0, none⟩)] Tryz.enterWith1 (above nm) A3 m c3 R w3 (fun W x hb => with1_any w.heap.size nm W x ((hb.cell (World.block_lt_of_cell? _ _ H3.out.2.2.1)).trans H3.out.2.2.1)) H3.out.2.2.2 (by omega)
    rw [idx_from] at hix
    have hul := upTo_le nm R
    rw [HW.out.2] at hix hul
    have hwI : withL l nm vl = insL R (upTo nm R) ⟨nm, vl⟩ := by rw [HW.out.1, he, if_neg (by decide)]; exact intoL_ins ⟨nm, vl⟩ R
    obtain ⟨K, hK⟩ : ∃ K, upTo nm R = K := ⟨_, rfl⟩
    rw [hK] at hix hul hwI
    have hwl : (insL R K ⟨nm, vl⟩).length = m + 1 := by
      have := HW.out.2
      unfold insL; rw [List.length_append, List.length_cons, List.length_take, List.length_drop]; omega
    have HI := Lib.hid (show _ ∧ _ ∧ _ from ⟨hix, hwI, hwl⟩)
    clear hix hwI hK hwl
    by_cases hKm : K < m
    case' pos =>
      have hix := HI.out.1
      rw [if_pos hKm, Nat.zero_add] at hix
      have HX := Lib.hid hix
      have j1 : ¬ (K : Int) < 0 := by omega
    case' neg =>
      have hix := HI.out.1
      rw [if_neg hKm] at hix
      obtain rfl : K = m := by omega
      have HX := Lib.hid hix
    all_goals
      clear hix
      go_wp2_with (first
        | (go_at_call 106; refine HX.out.mono ?_; rintro e w4 ⟨rfl, hb4⟩; have hs4 := hb4.size; have c4 := (hb4.cell (World.block_lt_of_cell? _ _ H3.out.2.2.1)).trans H3.out.2.2.1; have H4 := Lib.hid (show _ ∧ Below w.heap.size w w4 from ⟨owns_below H3.out.1 hb4, H3.out.2.1.trans (hb4.mono H3.out.2.1.size)⟩); clear hb4)
        | (go_at_call 108; refine (insert_any w.heap.size w4.heap.size _ _ _ R ⟨nm, vl⟩ (w4.alloc (.cells #[.string nm, .string vl] 94)) (H4.out.1.alloc _) (heap_alloc_new w4 _) (fun e => by have := HA.out _ e; omega) (by omega) (by omega) (by have := H4.out.2.size; simp; omega)).mono ?_; rintro e w5 ⟨v5, rfl, ho5, hg5⟩; have H5 := Lib.hid (show _ ∧ _ from ⟨ho5, (H4.out.2.alloc H4.out.2.size (.cells #[.string nm, .string vl] 94)).grown hg5 (by have := H4.out.2.size; simp; omega) (fun j hj => (H4.out.1.lt j hj).1)⟩); clear ho5 hg5))
      go_ret
      exact ⟨_, rfl, by rw [HI.out.2.1, HI.out.2.2]; exact H5.out.1, H5.out.2⟩
/-- A filter, a step on. -/
theorem filter_step {α : Type} {p : α → Bool} {l : List α} {k : Nat} {x : α} (hx : l[k]? = some x) : (l.take (k + 1)).filter p = (l.take k).filter p ++ (if p x = true then [x] else []) := by
  obtain ⟨h1, h2⟩ := List.getElem?_eq_some_iff.1 hx
  rw [List.take_succ_eq_append_getElem h1, List.filter_append, h2]
  congr 1
  simp [List.filter_cons]
set_option maxHeartbeats 2000000 in
set_option maxRecDepth 100000 in
theorem refKeep_any (A A' : Option Addr) (n c n' c' : Nat) (l : List Lb) (names : List ByteArray) (w : World) (hL : Lst Lb.cells 2 w w.heap.size A n l) (hM : Lst encTx 1 w w.heap.size A' n' names) (hn : n ≤ 100000) (hn' : n' ≤ 1099511627776) :
    Calls Tryz.prog 45 #[.slice A n c, .slice A' n' c'] w (OwnedL (keepL l names) w) := by
  obtain ⟨i0, hi, hz0, hz1, hz2⟩ := info_parts Tryz.infoLabel
  have HI := Lib.hid (show _ ∧ _ ∧ _ ∧ _ from ⟨hi, hz0, hz1, hz2⟩)
  have HL := Lib.hid (show _ ∧ _ from ⟨hL, hM⟩)
  clear hL hM hi hz0 hz1 hz2
  go_enter Tryz.func45, Tryz.ntmps45
  go_wp2
  go_loopw [5, 6, 7] (fun v i _ wr => ∃ k : Nat, k ≤ n ∧ i = .int .i64 k ∧ Hid (wr.ownsRow w.heap.size 94 2 v (keepL (l.take k) names).length ((keepL (l.take k) names).flatMap Lb.cells) ∧ Below w.heap.size w wr)) (fun _ i _ _ => n - (intOf i).toNat)
  case atStart => exact ⟨0, Nat.zero_le _, rfl, Lib.hid ⟨World.ownsRow_nil _ _ _ _, Below.refl _ _⟩⟩
  case round =>
    obtain ⟨k, hk, rfl, HR⟩ := hrel
    by_cases hlt : k < n
    · have i0' : (0 : Int) ≤ (k : Int) := by omega
      have i1 : (k : Int) < (n : Int) := by omega
      obtain ⟨b, off, x, rfl, hb, hx, hcl⟩ := HL.out.1.at hlt
      have c0 := (HR.out.2.cell (p := ⟨b, off + k * 2 + 0, none⟩) hb).trans (hcl 0 _ rfl)
      have c1 := (HR.out.2.cell (p := ⟨b, off + k * 2 + 1, none⟩) hb).trans (hcl 1 _ rfl)
      simp only [Nat.add_zero] at c0
      have hst : keepL (l.take (k + 1)) names = keepL (l.take k) names ++ (if (fun x => inT names x.nm) x = true then [x] else []) := filter_step hx
      have hlen : (keepL (l.take k) names).length ≤ k := by
        have h1 : (keepL (l.take k) names).length ≤ (l.take k).length := List.length_filter_le _ _
        have h2 := List.length_take_le k l
        omega
      have hhas := has_any A' n' c' names x.nm wr (HL.out.2.on HR.out.2) hn'
      have hpx : (fun x => inT names x.nm) x = inT names x.nm := rfl
      generalize keepL (l.take k) names = fl at hst hlen HR
      rw [hpx] at hst
      generalize inT names x.nm = r at hst hhas
      have HX := Lib.hid (show _ ∧ _ ∧ _ from ⟨hst, hlen, hhas⟩)
      clear hst hlen hhas hpx hcl hx
      cases r with
      | false =>
        have HG : Hid (keepL (l.take (k + 1)) names = fl) := Lib.hid (by have := HX.out.1; simpa using this)
        go_wp2_with (first | (go_at_call 113; refine HX.out.2.2.mono ?_; rintro e w1 ⟨rfl, q, hq⟩; have H1 := Lib.hid (show w1.ownsRow w.heap.size 94 2 u5 fl.length (fl.flatMap Lb.cells) ∧ Below w.heap.size w w1 from ⟨by (rw [hq]; exact HR.out.1), hq ▸ below_drewN HR.out.2 q⟩); clear hq) | go_quiet (fail))
        go_roundw
        case measure => simp [intOf]; omega
        case rel => exact ⟨k + 1, hlt, by simp, by rw [HG.out]; first | exact H1 | exact Lib.hid ⟨H1.out.1, below_drewN H1.out.2 _⟩⟩
      | true =>
        have HG : Hid (keepL (l.take (k + 1)) names = fl ++ [x]) := Lib.hid (by have := HX.out.1; simpa using this)
        obtain ⟨hi, hz0, hz1, hz2⟩ := HI.out
        have hfl := HX.out.2.1
        go_wp2_with (first
          | (go_at_call 113; refine HX.out.2.2.mono ?_; rintro e w1 ⟨rfl, q, hq⟩; have H1 := Lib.hid (show w1.ownsRow w.heap.size 94 2 u5 fl.length (fl.flatMap Lb.cells) ∧ Below w.heap.size w w1 from ⟨by (rw [hq]; exact HR.out.1), hq ▸ below_drewN HR.out.2 q⟩); have d0 := (show w1.cell? _ = wr.cell? _ by rw [hq]; rfl).trans c0; have d1 := (show w1.cell? _ = wr.cell? _ by rw [hq]; rfl).trans c1; clear hq)
          | go_quiet (fail)
          | (at_builtin; refine wpList_append_own _ rfl _ _ 22 rfl w.heap.size 94 i0 _ 2 32 Tryz.underlying22 hi hz0 hz1 hz2 rfl (by omega) _ fl.length (fl.flatMap Lb.cells) rfl (H1.out.1.alloc _) ⟨w1.heap.size, 0, none⟩ 1 1 x.cells rfl rfl (cells_newL w1 x.cells _) (by simp [Lb.cells, Value.oneCell']) (by unfold maxLen; omega) (by omega) (by have := H1.out.2.size; simp; omega) ?_; intro v5 w5 ho5 hg5 _; have H5 := Lib.hid (show w5.ownsRow w.heap.size 94 2 v5 (keepL (l.take (k + 1)) names).length ((keepL (l.take (k + 1)) names).flatMap Lb.cells) ∧ Below w.heap.size w w5 from ⟨by (rw [HG.out, List.length_append, List.flatMap_append, List.flatMap_singleton]; exact ho5), (H1.out.2.alloc H1.out.2.size _).grown hg5 (by have := H1.out.2.size; simp; omega) (fun j hj => (H1.out.1.lt j hj).1)⟩); clear ho5 hg5))
        go_roundw
        case measure => simp [intOf]; omega
        case rel => exact ⟨k + 1, hlt, by simp, H5⟩
    · have hkn : k = n := by omega
      have hfl : l.take k = l := by rw [hkn, ← HL.out.1.1]; exact List.take_length
      rw [hfl] at HR
      go_wp2
      go_ret
      exact ⟨_, rfl, HR.out.1, HR.out.2⟩
set_option maxHeartbeats 2000000 in
set_option maxRecDepth 100000 in
theorem refWithout_any (A A' : Option Addr) (n c n' c' : Nat) (l : List Lb) (names : List ByteArray) (w : World) (hL : Lst Lb.cells 2 w w.heap.size A n l) (hM : Lst encTx 1 w w.heap.size A' n' names) (hn : n ≤ 100000) (hn' : n' ≤ 1099511627776) :
    Calls Tryz.prog 46 #[.slice A n c, .slice A' n' c'] w (OwnedL (lessL l names) w) := by
  obtain ⟨i0, hi, hz0, hz1, hz2⟩ := info_parts Tryz.infoLabel
  have HI := Lib.hid (show _ ∧ _ ∧ _ ∧ _ from ⟨hi, hz0, hz1, hz2⟩)
  have HL := Lib.hid (show _ ∧ _ from ⟨hL, hM⟩)
  clear hL hM hi hz0 hz1 hz2
  go_enter Tryz.func46, Tryz.ntmps46
  go_wp2
  go_loopw [5, 6, 7] (fun v i _ wr => ∃ k : Nat, k ≤ n ∧ i = .int .i64 k ∧ Hid (wr.ownsRow w.heap.size 94 2 v (lessL (l.take k) names).length ((lessL (l.take k) names).flatMap Lb.cells) ∧ Below w.heap.size w wr)) (fun _ i _ _ => n - (intOf i).toNat)
  case atStart => exact ⟨0, Nat.zero_le _, rfl, Lib.hid ⟨World.ownsRow_nil _ _ _ _, Below.refl _ _⟩⟩
  case round =>
    obtain ⟨k, hk, rfl, HR⟩ := hrel
    by_cases hlt : k < n
    · have i0' : (0 : Int) ≤ (k : Int) := by omega
      have i1 : (k : Int) < (n : Int) := by omega
      obtain ⟨b, off, x, rfl, hb, hx, hcl⟩ := HL.out.1.at hlt
      have c0 := (HR.out.2.cell (p := ⟨b, off + k * 2 + 0, none⟩) hb).trans (hcl 0 _ rfl)
      have c1 := (HR.out.2.cell (p := ⟨b, off + k * 2 + 1, none⟩) hb).trans (hcl 1 _ rfl)
      simp only [Nat.add_zero] at c0
      have hst : lessL (l.take (k + 1)) names = lessL (l.take k) names ++ (if (fun x => !inT names x.nm) x = true then [x] else []) := filter_step hx
      have hlen : (lessL (l.take k) names).length ≤ k := by
        have h1 : (lessL (l.take k) names).length ≤ (l.take k).length := List.length_filter_le _ _
        have h2 := List.length_take_le k l
        omega
      have hhas := has_any A' n' c' names x.nm wr (HL.out.2.on HR.out.2) hn'
      have hpx : (fun x => !inT names x.nm) x = (!inT names x.nm) := rfl
      generalize lessL (l.take k) names = fl at hst hlen HR
      rw [hpx] at hst
      generalize inT names x.nm = r at hst hhas
      have HX := Lib.hid (show _ ∧ _ ∧ _ from ⟨hst, hlen, hhas⟩)
      clear hst hlen hhas hpx hcl hx
      cases r with
      | true =>
        have HG : Hid (lessL (l.take (k + 1)) names = fl) := Lib.hid (by have := HX.out.1; simpa using this)
        go_wp2_with (first | (go_at_call 113; refine HX.out.2.2.mono ?_; rintro e w1 ⟨rfl, q, hq⟩; have H1 := Lib.hid (show w1.ownsRow w.heap.size 94 2 u5 fl.length (fl.flatMap Lb.cells) ∧ Below w.heap.size w w1 from ⟨by (rw [hq]; exact HR.out.1), hq ▸ below_drewN HR.out.2 q⟩); clear hq) | go_quiet (fail))
        go_roundw
        case measure => simp [intOf]; omega
        case rel => exact ⟨k + 1, hlt, by simp, by rw [HG.out]; first | exact H1 | exact Lib.hid ⟨H1.out.1, below_drewN H1.out.2 _⟩⟩
      | false =>
        have HG : Hid (lessL (l.take (k + 1)) names = fl ++ [x]) := Lib.hid (by have := HX.out.1; simpa using this)
        obtain ⟨hi, hz0, hz1, hz2⟩ := HI.out
        have hfl := HX.out.2.1
        go_wp2_with (first
          | (go_at_call 113; refine HX.out.2.2.mono ?_; rintro e w1 ⟨rfl, q, hq⟩; have H1 := Lib.hid (show w1.ownsRow w.heap.size 94 2 u5 fl.length (fl.flatMap Lb.cells) ∧ Below w.heap.size w w1 from ⟨by (rw [hq]; exact HR.out.1), hq ▸ below_drewN HR.out.2 q⟩); have d0 := (show w1.cell? _ = wr.cell? _ by rw [hq]; rfl).trans c0; have d1 := (show w1.cell? _ = wr.cell? _ by rw [hq]; rfl).trans c1; clear hq)
          | go_quiet (fail)
          | (at_builtin; refine wpList_append_own _ rfl _ _ 22 rfl w.heap.size 94 i0 _ 2 32 Tryz.underlying22 hi hz0 hz1 hz2 rfl (by omega) _ fl.length (fl.flatMap Lb.cells) rfl (H1.out.1.alloc _) ⟨w1.heap.size, 0, none⟩ 1 1 x.cells rfl rfl (cells_newL w1 x.cells _) (by simp [Lb.cells, Value.oneCell']) (by unfold maxLen; omega) (by omega) (by have := H1.out.2.size; simp; omega) ?_; intro v5 w5 ho5 hg5 _; have H5 := Lib.hid (show w5.ownsRow w.heap.size 94 2 v5 (lessL (l.take (k + 1)) names).length ((lessL (l.take (k + 1)) names).flatMap Lb.cells) ∧ Below w.heap.size w w5 from ⟨by (rw [HG.out, List.length_append, List.flatMap_append, List.flatMap_singleton]; exact ho5), (H1.out.2.alloc H1.out.2.size _).grown hg5 (by have := H1.out.2.size; simp; omega) (fun j hj => (H1.out.1.lt j hj).1)⟩); clear ho5 hg5))
        go_roundw
        case measure => simp [intOf]; omega
        case rel => exact ⟨k + 1, hlt, by simp, H5⟩
    · have hkn : k = n := by omega
      have hfl : l.take k = l := by rw [hkn, ← HL.out.1.1]; exact List.take_length
      rw [hfl] at HR
      go_wp2
      go_ret
      exact ⟨_, rfl, HR.out.1, HR.out.2⟩
end Go.Proofs.YtchggapclmdpaaaGreatDoor
