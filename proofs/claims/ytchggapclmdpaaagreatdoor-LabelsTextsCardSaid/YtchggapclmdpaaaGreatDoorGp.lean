/- The predicates of labels.Set and labels.Check; their ContainsFunc; labels by name. labels.kept; slices.SortFunc and slices.IsSortedFunc of labels by their names. slices.SortFunc and slices.IsSortedFunc of labels by their names. -/
import Derived.Test.YtchggapclmdpaaaGreatDoorName
import Derived.Test.YtchggapclmdpaaaGreatDoorGb
import Derived.Shelf.SlicesQ.IndexFunc
import Derived.Test.YtchggapclmdpaaaGreatDoorGc
import Derived.OwnWalk
import Derived.Laws.AppendOwnNone
import Derived.Shelf.SlSortCmp.NoneTotal
import Derived.Test.YtchggapclmdpaaaGreatDoorShelf7
import Derived.Deep.RegionHeld3
namespace Go.Proofs.YtchggapclmdpaaaGreatDoor
open Go.RowKit Go.Lib Go.Sort

/-- A label that a set can't hold: by its name, or its value is too long. -/
def badS (x : Lb) : Bool := !nameB x.nm.data.toList || decide (1024 < x.vl.size)
/-- .. its value empty, too. -/
def badC (x : Lb) : Bool := !nameB x.nm.data.toList || decide (x.vl.data.toList = []) || decide (1024 < x.vl.size)
def fullV (x : Lb) : Bool := !decide (x.vl.data.toList = [])
set_option maxHeartbeats 1000000 in
theorem setBad (W : World) (x : Lb) : Calls Tryz.prog 55 #[.agg #[.string x.nm, .string x.vl]] W fun e w' => e = .returned (.bool (badS x)) ∧ Below W.heap.size W w' := by
  unfold badS
  have hc := fun W' => name_any x.nm W'
  generalize nameB x.nm.data.toList = r at hc ⊢
  have hc0 : (W.alloc (.cells #[.string x.nm, .string x.vl] 94)).cell? ⟨W.heap.size, 1, none⟩ = some (.string x.vl) := by simp
  cases r with
  | false =>
    go_enter Tryz.func55, Tryz.ntmps55
    go_wp2_with (go_at_call 13; refine (hc _).mono ?_; rintro e w' ⟨rfl, hbw⟩)
    go_ret
    exact ⟨rfl, ((Below.refl _ _).alloc (Nat.le_refl _) _).trans (hbw.mono (by simp))⟩
  | true =>
    obtain ⟨y, hy⟩ : ∃ y, decide (1024 < x.vl.size) = y := ⟨_, rfl⟩
    have hyi : decide ((1024 : Int) < (x.vl.size : Int)) = y := by rw [← hy]; apply decide_eq_decide.2; omega
    rw [hy]
    clear hy
    go_enter Tryz.func55, Tryz.ntmps55
    go_wp2_with (go_at_call 13; refine (hc _).mono ?_; rintro e w' ⟨rfl, hbw⟩; have k1 := (hbw.cell (p := ⟨W.heap.size, 1, none⟩) (by simp)).trans hc0)
    go_ret
    exact ⟨rfl, ((Below.refl _ _).alloc (Nat.le_refl _) _).trans (hbw.mono (by simp))⟩
set_option maxHeartbeats 1000000 in
theorem checkBad (W : World) (x : Lb) : Calls Tryz.prog 62 #[.agg #[.string x.nm, .string x.vl]] W fun e w' => e = .returned (.bool (badC x)) ∧ Below W.heap.size W w' := by
  unfold badC
  have hc := fun W' => name_any x.nm W'
  generalize nameB x.nm.data.toList = r at hc ⊢
  have hc0 : (W.alloc (.cells #[.string x.nm, .string x.vl] 94)).cell? ⟨W.heap.size, 1, none⟩ = some (.string x.vl) := by simp
  cases r with
  | false =>
    go_enter Tryz.func62, Tryz.ntmps62
    go_wp2_with (go_at_call 13; refine (hc _).mono ?_; rintro e w' ⟨rfl, hbw⟩)
    go_ret
    exact ⟨rfl, ((Below.refl _ _).alloc (Nat.le_refl _) _).trans (hbw.mono (by simp))⟩
  | true =>
    obtain ⟨y, hy⟩ : ∃ y, decide (1024 < x.vl.size) = y := ⟨_, rfl⟩
    have hyi : decide ((1024 : Int) < (x.vl.size : Int)) = y := by rw [← hy]; apply decide_eq_decide.2; omega
    obtain ⟨z, hz⟩ : ∃ z, decide (x.vl.data.toList = []) = z := ⟨_, rfl⟩
    have hzi : (x.vl.toList == []) = z := by rw [← hz, ByteArray.toList_eq]; cases x.vl.data.toList <;> rfl
    rw [hy, hz]
    clear hy hz
    cases z with
    | false =>
      go_enter Tryz.func62, Tryz.ntmps62
      go_wp2_with (go_at_call 13; refine (hc _).mono ?_; rintro e w' ⟨rfl, hbw⟩; have k1 := (hbw.cell (p := ⟨W.heap.size, 1, none⟩) (by simp)).trans hc0)
      go_ret
      exact ⟨rfl, ((Below.refl _ _).alloc (Nat.le_refl _) _).trans (hbw.mono (by simp))⟩
    | true =>
      go_enter Tryz.func62, Tryz.ntmps62
      go_wp2_with (go_at_call 13; refine (hc _).mono ?_; rintro e w' ⟨rfl, hbw⟩; have k1 := (hbw.cell (p := ⟨W.heap.size, 1, none⟩) (by simp)).trans hc0)
      go_ret
      exact ⟨rfl, ((Below.refl _ _).alloc (Nat.le_refl _) _).trans (hbw.mono (by simp))⟩
theorem setFull (W : World) (x : Lb) : Calls Tryz.prog 59 #[.agg #[.string x.nm, .string x.vl]] W fun e w' => e = .returned (.bool (fullV x)) ∧ Below W.heap.size W w' := by
  obtain ⟨z, hz⟩ : ∃ z, decide (x.vl.data.toList = []) = z := ⟨_, rfl⟩
  have hzi : (x.vl.toList == []) = z := by rw [← hz, ByteArray.toList_eq]; cases x.vl.data.toList <;> rfl
  unfold fullV
  rw [hz]
  clear hz
  go_enter Tryz.func59, Tryz.ntmps59
  go_wp2
  go_ret
  exact ⟨rfl, (Below.refl _ _).alloc (Nat.le_refl _) _⟩
/-- The one before the other by name. -/
def nameC (x y : Lb) : Int := textC x.nm y.nm
theorem byName_grow (x y : Lb) (W : World) : Calls Tryz.prog 61 #[.agg #[.string x.nm, .string x.vl], .agg #[.string y.nm, .string y.vl]] W fun e w' => e = .returned (.int .i64 (nameC x y)) ∧ ∃ q os', w' = grow (W.drewN q) os' := by
  have hcon := fun W' => compare_str x.nm y.nm W'
  change ∀ W', Calls _ _ _ _ (fun e w' => e = .returned (.int .i64 (nameC x y)) ∧ w' = W') at hcon
  generalize nameC x y = r at hcon ⊢
  go_enter Tryz.func61, Tryz.ntmps61
  go_wp2_with (go_at_call 67; refine (hcon _).mono ?_; rintro e w' ⟨rfl, rfl⟩)
  go_ret
  exact ⟨rfl, 0, _, by rw [alloc_eq_grow, alloc_eq_grow, grow_grow]; rfl⟩
instance : Inhabited Lb := ⟨⟨ByteArray.empty, ByteArray.empty⟩⟩
/-- slices.ContainsFunc at labels, by a predicate that may lay blocks of its own. -/
theorem containsLabel (g : Nat) (eg : ∀ args w, (callFunc g args).run Tryz.prog w = .ok (.enter g args) w) (p : Lb → Bool) (hp : ∀ (W : World) (x : Lb), Calls Tryz.prog g #[.agg #[.string x.nm, .string x.vl]] W fun e w' => e = .returned (.bool (p x)) ∧ Below W.heap.size W w')
    (A : Option Addr) (n c : Nat) (l : List Lb) (w : World) (hL : Lst Lb.cells 2 w w.heap.size A n l) (hbig : n ≤ 1099511627776) :
    Calls Tryz.prog 56 #[.slice A n c, .func (.func g) #[] #[]] w fun e w' => e = .returned (.bool (l.any p)) ∧ Below w.heap.size w w' := by
  by_cases h0 : n = 0
  · subst h0
    have hl0 : l = [] := List.length_eq_zero_iff.1 hL.1
    rw [hl0]
    clear hL hp eg
    go_enter Tryz.func56, Tryz.ntmps56
    go_wp2
    refine wp_loop_rounds 1 ?_
    rw [rounds_succ]
    go_wp2
    go_ret
    exact ⟨rfl, Below.refl _ _⟩
  · obtain ⟨b, off, x, rfl, hb, _, _⟩ := hL.at (k := 0) (by omega)
    have hcon := AnyQ.slices_ContainsFunc { Tryz.hasLabel with } 2 Tryz.isAgg94 Tryz.sizeOf94 Lb.cells Lb.len p g #[] eg b off n c l w (fun W x hb => (hp W x).mono fun e w' h => ⟨h.1, hb.trans (h.2.mono hb.size)⟩) (by rw [hL.1]; exact Nat.le_refl _) (by omega) hb (fun j hj i v hv => by
      obtain ⟨b', off', y, hA, _, hy, hcl⟩ := hL.at (k := j) (by have := hL.1; omega)
      cases hA
      have h1 := List.getElem?_eq_some_iff.1 hy
      rw [getElem!_pos l j hj, h1.2] at hv
      exact hcl i v hv)
    rw [show l.take n = l by rw [← hL.1]; exact List.take_length] at hcon
    exact hcon
end Go.Proofs.YtchggapclmdpaaaGreatDoor
namespace Go.Proofs.YtchggapclmdpaaaGreatDoor
open Go.RowKit Go.Lib Go.Sort

set_option maxHeartbeats 2000000 in
set_option maxRecDepth 100000 in
theorem kept_any (g : Nat) (lb : Array Value) (eg : ∀ args w, (callFunc g args).run Tryz.prog w = .ok (.enter g args) w) (p : Lb → Bool) (A : Option Addr) (n c : Nat) (l : List Lb) (w : World)
    (hp : ∀ (W : World) (x : Lb), x ∈ l → Below w.heap.size w W → Calls Tryz.prog g (#[.agg #[.string x.nm, .string x.vl]] ++ lb) W fun e w' => e = .returned (.bool (p x)) ∧ Below W.heap.size W w')
    (hL : Lst Lb.cells 2 w w.heap.size A n l) (hbig : n ≤ 1099511627776) :
    Calls Tryz.prog 58 #[.slice A n c, .func (.func g) #[] lb] w fun e w' => ∃ v, e = .returned v ∧ w'.ownsRow w.heap.size 94 2 v (l.filter p).length ((l.filter p).flatMap Lb.cells) ∧ Below w.heap.size w w' := by
  obtain ⟨i0, hi, hz0, hz1, hz2⟩ := info_parts Tryz.infoLabel
  have HI := Lib.hid (show _ ∧ _ ∧ _ ∧ _ from ⟨hi, hz0, hz1, hz2⟩)
  have HL := Lib.hid (show _ ∧ _ from ⟨hL, hp⟩)
  clear hL hp hi hz0 hz1 hz2
  go_enter Tryz.func58, Tryz.ntmps58
  go_wp2
  go_loopw [5, 7, 10] (fun v _ i wr => ∃ k : Nat, k ≤ n ∧ i = .int .i64 k ∧ Hid (wr.ownsRow w.heap.size 94 2 v ((l.take k).filter p).length (((l.take k).filter p).flatMap Lb.cells) ∧ Below w.heap.size w wr)) (fun _ _ i _ => n - (intOf i).toNat)
  case atStart => exact ⟨0, Nat.zero_le _, rfl, Lib.hid ⟨World.ownsRow_nil _ _ _ _, Below.refl _ _⟩⟩
  case round =>
    obtain ⟨k, hk, rfl, HR⟩ := hrel
    by_cases hlt : k < n
    · obtain ⟨b, off, x, rfl, hb, hx, hcl⟩ := HL.out.1.at hlt
      have c0 := (HR.out.2.cell (p := ⟨b, off + k * 2 + 0, none⟩) hb).trans (hcl 0 _ rfl)
      have c1 := (HR.out.2.cell (p := ⟨b, off + k * 2 + 1, none⟩) hb).trans (hcl 1 _ rfl)
      simp only [Nat.add_zero] at c0
      obtain ⟨hkl, e1⟩ := List.getElem?_eq_some_iff.1 hx
      have hst : (l.take (k + 1)).filter p = (l.take k).filter p ++ (if p x then [x] else []) := by
        rw [List.take_succ_eq_append_getElem hkl, List.filter_append, e1]
        congr 1
        simp [List.filter_cons]
      have hlen : ((l.take k).filter p).length ≤ k := by
        have h1 := List.length_filter_le p (l.take k)
        have h2 := List.length_take_le k l
        omega
      have hb0 : Below w.heap.size w (wr.alloc (.cells #[.string x.nm, .string x.vl] 94)) := HR.out.2.alloc HR.out.2.size _
      have hcon := HL.out.2 (wr.alloc (.cells #[.string x.nm, .string x.vl] 94)) x (List.mem_of_getElem? hx) hb0
      have ho0 := HR.out.1.alloc (.cells #[.string x.nm, .string x.vl] 94)
      generalize (l.take k).filter p = fl at hst hlen ho0
      have HC := Lib.hid (show _ ∧ _ ∧ _ from ⟨hcon, hb0, ho0⟩)
      have HS := Lib.hid (show _ ∧ _ from ⟨hst, hlen⟩)
      have hx0 : (wr.alloc (.cells #[.string x.nm, .string x.vl] 94)).cell? ⟨wr.heap.size, 0, none⟩ = some (.string x.nm) := by simp
      have hx1 : (wr.alloc (.cells #[.string x.nm, .string x.vl] 94)).cell? ⟨wr.heap.size, 1, none⟩ = some (.string x.vl) := by simp
      clear hcon hb0 ho0 hst hlen hcl hx HR e1
      cases hpx : p x with
      | false =>
        rw [hpx] at HC HS
        go_wp2_with (go_at_fn g; refine HC.out.1.mono ?_; rintro e w1 ⟨rfl, hb1⟩; have H1 := Lib.hid hb1; clear hb1)
        go_roundw
        case measure => simp [intOf]; omega
        case rel =>
          have hbB := HC.out.2.1.trans (H1.out.mono HC.out.2.1.size)
          refine ⟨k + 1, hlt, by simp, Lib.hid ⟨?_, hbB⟩⟩
          rw [HS.out.1]
          simp only [Bool.false_eq_true, if_false, List.append_nil]
          exact HC.out.2.2.kept (row := none) ⟨H1.out.os, H1.out.tape, H1.out.output, H1.out.size, fun j hj _ => H1.out.block j hj⟩ (by cases u5.ownBlock <;> simp)
      | true =>
        rw [hpx] at HC HS
        have hfll := HS.out.2
        obtain ⟨hi, hz0, hz1, hz2⟩ := HI.out
        go_wp2_with (first
          | (go_at_fn g; refine HC.out.1.mono ?_; rintro e w1 ⟨rfl, hb1⟩; have k0 := (hb1.cell (p := ⟨wr.heap.size, 0, none⟩) (by simp)).trans hx0; have k1 := (hb1.cell (p := ⟨wr.heap.size, 1, none⟩) (by simp)).trans hx1; have hsz1 := hb1.size; have H1 := Lib.hid (show w1.ownsRow w.heap.size 94 2 u5 fl.length (fl.flatMap Lb.cells) ∧ Below w.heap.size w w1 from ⟨HC.out.2.2.kept (row := none) ⟨hb1.os, hb1.tape, hb1.output, hb1.size, fun j hj _ => hb1.block j hj⟩ (by cases u5.ownBlock <;> simp), HC.out.2.1.trans (hb1.mono HC.out.2.1.size)⟩); have hsw := H1.out.2.size; clear hb1)
          | (at_builtin; refine wpList_append_own _ rfl _ _ 22 rfl w.heap.size 94 i0 _ 2 32 Tryz.underlying22 hi hz0 hz1 hz2 rfl (by omega) _ fl.length (fl.flatMap Lb.cells) rfl (H1.out.1.alloc _) ⟨w1.heap.size, 0, none⟩ 1 1 (x.cells) rfl rfl (cells_newL w1 x.cells _) ?c2 (by unfold maxLen; omega) (by omega) (by simp; omega) ?_))
        case c2 => exact fun u hu => by simp only [Lb.cells, List.mem_cons, List.not_mem_nil, or_false] at hu; rcases hu with rfl | rfl <;> rfl
        intro v' w5 hown5 hg5 _
        have hb5 := (H1.out.2.alloc H1.out.2.size (.cells #[.string x.nm, .string x.vl] 94)).grown hg5 (by simp; have := H1.out.2.size; omega) (fun j hj => (H1.out.1.lt j hj).1)
        have H5 := Lib.hid (show _ ∧ _ from ⟨hown5, hb5⟩)
        clear hi hz0 hz1 hz2 hown5 hg5 hb5
        go_wp2
        go_roundw
        case measure => simp [intOf]; omega
        case rel =>
          refine ⟨k + 1, hlt, by simp, Lib.hid ⟨?_, H5.out.2⟩⟩
          rw [HS.out.1]
          simp only [if_true]
          rw [List.flatMap_append, List.length_append]
          simpa using H5.out.1
    · have hkn : k = n := by omega
      have hfl : l.take k = l := by rw [hkn, ← HL.out.1.1]; exact List.take_length
      rw [hfl] at HR
      go_wp2
      go_ret
      exact ⟨_, rfl, HR.out.1, HR.out.2⟩
end Go.Proofs.YtchggapclmdpaaaGreatDoor
namespace Go.Proofs.YtchggapclmdpaaaGreatDoor
open Go.RowKit Go.Lib Go.Sort

theorem byName_any (x y : Lb) (W : World) : Calls Tryz.prog 61 #[.agg #[.string x.nm, .string x.vl], .agg #[.string y.nm, .string y.vl]] W fun e w' => e = .returned (.int .i64 (nameC x y)) ∧ Below W.heap.size W w' := by
  have hcon := fun W' => compare_str x.nm y.nm W'
  change ∀ W', Calls _ _ _ _ (fun e w' => e = .returned (.int .i64 (nameC x y)) ∧ w' = W') at hcon
  generalize nameC x y = r at hcon ⊢
  go_enter Tryz.func61, Tryz.ntmps61
  go_wp2_with (go_at_call 67; refine (hcon _).mono ?_; rintro e w' ⟨rfl, rfl⟩)
  go_ret
  exact ⟨rfl, ((Below.refl _ _).alloc (Nat.le_refl _) _).alloc (by simp) _⟩
theorem nameC_lt (x y : Lb) : ltOf nameC x y = decide (nameC x y < 0) := rfl
theorem nameC_swo : SWO (ltOf nameC) where
  irrefl x := by
    rw [nameC_lt]
    have := textC_cmp3.self x.nm
    exact decide_eq_false (by unfold nameC; omega)
  trans x y z h1 h2 := by
    rw [nameC_lt] at *
    exact decide_eq_true (textC_cmp3.trans _ _ _ (of_decide_eq_true h1) (of_decide_eq_true h2))
  ntrans x y z h1 h2 := by
    rw [nameC_lt] at *
    have h3 := of_decide_eq_false h1
    have h4 := of_decide_eq_false h2
    unfold nameC at h3 h4
    have e1 := textC_cmp3.swap x.nm y.nm
    have e2 := textC_cmp3.swap y.nm z.nm
    have e3 := textC_cmp3.swap x.nm z.nm
    have h5 := textC_cmp3.le_trans (x := z.nm) (y := y.nm) (z := x.nm) (by omega) (by omega)
    exact decide_eq_false (by unfold nameC; omega)
theorem nameSort (A : Option Addr) (n c : Nat) (l : List Lb) (w : World) (B : Nat) (ho : w.ownsRow B 94 2 (.slice A n c) n (l.flatMap Lb.cells)) (hn : n ≤ 1099511627776) :
    Calls Tryz.prog 60 #[.slice A n c, .func (.func 61) #[] #[]] w fun e w' => e = .returned (.tuple #[]) ∧ ∃ l' : List Lb, l'.Perm l ∧ l'.Pairwise (fun x y => ¬ nameC y x < 0) ∧
      w'.ownsRow B 94 2 (.slice A n c) n (l'.flatMap Lb.cells) ∧ w.grownBy w' (Value.slice A n c).ownBlock := by
  have hll := owns_len ho Lb.len (by omega)
  have eg : ∀ args w, (callFunc 61 args).run Tryz.prog w = .ok (.enter 61 args) w := enters_of Tryz.func61 (by kernel_rfl) rfl
  by_cases h0 : n = 0
  · subst h0
    refine (AnyF.slices_SortFunc_none { Tryz.sortLabel with } A c _ w).mono ?_
    rintro e w' ⟨rfl, rfl⟩
    have hl0 : l = [] := List.length_eq_zero_iff.1 hll
    subst hl0
    exact ⟨rfl, [], List.Perm.refl _, List.Pairwise.nil, ho, grownBy_refl _ _⟩
  · obtain ⟨g, rfl, hg⟩ := owns_some' ho (by omega)
    have hcmp : CmpLays Tryz.prog 61 #[] Lb.cells 2 nameC g 0 l.toArray.size w := fun _ _ _ _ x y => byName_grow x y _
    have hcon := AnyQ.slices_SortFunc Tryz.sortLabel 2 Tryz.isAgg94 Tryz.sizeOf94 Lb.cells Lb.len (fun x v hv => by simp [Lb.cells] at hv; rcases hv with rfl | rfl <;> rfl) nameC nameC_swo 61 #[] g 0 c l.toArray w eg hcmp (holdsK_own Lb.len ho) hg (by simp; omega)
    rw [show l.toArray.size = n by simpa using hll] at hcon
    refine hcon.mono ?_
    rintro e w' ⟨rfl, d', m, os, hp, hs, rfl⟩
    have hsz : d'.size = l.length := by have := hp.1; simpa using this
    obtain ⟨h1, h2⟩ := ownsK_sorted Lb.len ho m os d' hsz hll
    refine ⟨rfl, d'.toList, ?_, ?_, h1, h2⟩
    · have := hp.2.2
      rw [show (l.toArray.extract 0 n).toList = l by rw [← hll]; simp, show (d'.extract 0 n).toList = d'.toList by rw [← hll, ← hsz]; simp] at this
      exact this
    · rw [List.pairwise_iff_getElem]
      intro i j hi hj hij
      rw [Array.length_toList] at hi hj
      have := hs i j (Nat.zero_le _) hij (by omega)
      rw [nameC_lt, getElem!_pos d' j hj, getElem!_pos d' i hi] at this
      simpa using this
/-- Does each stand not ahead of the one before? -/
def upB (l : List Lb) : Bool := decide (∀ j, j < l.length - 1 → ¬ nameC (l[j + 1]!) (l[j]!) < 0)
theorem cell_seen {w w' : World} (hb : Below w.heap.size w w') {p : Addr} {v : Value} (h : w.cell? p = some v) : w'.cell? p = some v := (hb.cell (World.block_lt_of_cell? w _ h)).trans h
theorem cell_seen4 {w w' : World} (hb : Below w.heap.size w w') {p1 p2 p3 p4 : Addr} {v1 v2 v3 v4 : Value} (h : w.cell? p1 = some v1 ∧ w.cell? p2 = some v2 ∧ w.cell? p3 = some v3 ∧ w.cell? p4 = some v4) :
    w'.cell? p1 = some v1 ∧ w'.cell? p2 = some v2 ∧ w'.cell? p3 = some v3 ∧ w'.cell? p4 = some v4 :=
  ⟨cell_seen hb h.1, cell_seen hb h.2.1, cell_seen hb h.2.2.1, cell_seen hb h.2.2.2⟩
set_option maxHeartbeats 2000000 in
set_option maxRecDepth 100000 in
theorem isUp (A : Option Addr) (n c : Nat) (l : List Lb) (w : World) (hL : Lst Lb.cells 2 w w.heap.size A n l) (hbig : n ≤ 1099511627776) :
    Calls Tryz.prog 63 #[.slice A n c, .func (.func 61) #[] #[]] w fun e w' => e = .returned (.bool (upB l)) ∧ Below w.heap.size w w' := by
  have eg : ∀ args w, (callFunc 61 args).run Tryz.prog w = .ok (.enter 61 args) w := enters_of Tryz.func61 (by kernel_rfl) rfl
  have HL := Lib.hid (show _ ∧ _ from ⟨hL, eg⟩)
  have hln := hL.1
  clear hL eg
  by_cases h0 : n = 0
  · have hu : upB l = true := decide_eq_true (fun j hj => absurd hj (by omega))
    rw [hu]
    subst h0
    clear HL hln hu
    go_enter Tryz.func63, Tryz.ntmps63
    go_wp2
    refine wp_loop_rounds 1 ?_
    rw [rounds_succ]
    go_wp2
    go_ret
    exact ⟨rfl, Below.refl _ _⟩
  have HN := Lib.hid hln
  clear hln
  go_enter Tryz.func63, Tryz.ntmps63
  go_wp2
  go_loopw [5] (fun i wr => ∃ k : Nat, k ≤ n - 1 ∧ i = .int .i64 k ∧ Hid (∀ j, k ≤ j → j < n - 1 → ¬ nameC (l[j + 1]!) (l[j]!) < 0) ∧ Below w.heap.size w wr) (fun i _ => (intOf i).toNat)
  case atStart => exact ⟨n - 1, Nat.le_refl _, by congr 1; omega, Lib.hid (fun j h1 h2 => absurd h2 (by omega)), Below.refl _ _⟩
  case round =>
    obtain ⟨k, hk, rfl, HR, hbl⟩ := hrel
    by_cases hk0 : k = 0
    · subst hk0
      have hu : upB l = true := decide_eq_true (fun j hj => HR.out j (Nat.zero_le _) (by rw [← HN.out]; exact hj))
      have HX := Lib.hid hu
      clear hu
      go_wp2
      go_ret
      exact ⟨by rw [HX.out]; rfl, hbl⟩
    · obtain ⟨m, hm⟩ : ∃ m, k = m + 1 := ⟨k - 1, by omega⟩
      obtain ⟨b, off, x, rfl, hb, hx, hcl⟩ := HL.out.1.at (k := k) (by omega)
      obtain ⟨b', off', y, hA, _, hy, hcm⟩ := HL.out.1.at (k := m) (by omega)
      cases hA
      have c0 := (hbl.cell (p := ⟨b, off + k * 2 + 0, none⟩) hb).trans (hcl 0 _ rfl)
      have c1 := (hbl.cell (p := ⟨b, off + k * 2 + 1, none⟩) hb).trans (hcl 1 _ rfl)
      have d0 := (hbl.cell (p := ⟨b, off + m * 2 + 0, none⟩) hb).trans (hcm 0 _ rfl)
      have d1 := (hbl.cell (p := ⟨b, off + m * 2 + 1, none⟩) hb).trans (hcm 1 _ rfl)
      simp only [Nat.add_zero] at c0 d0
      have hw1 : IntKind.i64.wrap ((k : Int) - 1) = (m : Int) := by rw [show (k : Int) - 1 = m by omega]; exact IntWalk.i64_in _ (by omega)
      have i0 : (0 : Int) < (k : Int) := by omega
      have i1 : (0 : Int) ≤ (k : Int) := by omega
      have i2 : (k : Int) < (n : Int) := by omega
      have i3 : (0 : Int) ≤ (m : Int) := by omega
      have i4 : (m : Int) < (n : Int) := by omega
      have ex : l[m + 1]! = x := by rw [← hm]; obtain ⟨h1, h2⟩ := List.getElem?_eq_some_iff.1 hx; rw [getElem!_pos l k h1, h2]
      have ey : l[m]! = y := by obtain ⟨h1, h2⟩ := List.getElem?_eq_some_iff.1 hy; rw [getElem!_pos l m h1, h2]
      have hc := fun W => byName_any x y W
      have hstep : (∀ j, m ≤ j → j < n - 1 → ¬ nameC (l[j + 1]!) (l[j]!) < 0) ↔ ¬ nameC x y < 0 := by
        constructor
        · intro h; have := h m (Nat.le_refl _) (by omega); rwa [ex, ey] at this
        · intro h j h1 h2
          by_cases e : j = m
          · rw [e, ex, ey]; exact h
          · exact HR.out j (by omega) h2
      have hfalse : nameC x y < 0 → upB l = false := fun h => decide_eq_false (fun g => by have := g m (by rw [HN.out]; omega); rw [ex, ey] at this; exact this h)
      generalize nameC x y = r at hc hstep hfalse
      have HM := Lib.hid (show _ ∧ _ ∧ _ ∧ _ from ⟨hm, hstep, hfalse, hbl⟩)
      clear hm hstep hfalse hx hy hcl hcm ex ey hbl hk0
      obtain ⟨z, hz⟩ : ∃ z, decide (r < 0) = z := ⟨_, rfl⟩
      have HZ := Lib.hid hz
      go_wp2_with fail
      go_region_held3 (fun w' => w'.cell? ⟨b, off + k * 2, none⟩ = some (.string x.nm) ∧ w'.cell? ⟨b, off + k * 2 + 1, none⟩ = some (.string x.vl) ∧ w'.cell? ⟨b, off + m * 2, none⟩ = some (.string y.nm) ∧ w'.cell? ⟨b, off + m * 2 + 1, none⟩ = some (.string y.vl)) (first | exact k6 | exact ⟨c0, c1, d0, d1⟩)
        (first | (go_at_call 61; refine (hc _).mono ?_; rintro e w' ⟨rfl, hbw⟩; have HB1 := Lib.hid ((below_drewN HM.out.2.2.2 1).trans (hbw.mono (below_drewN HM.out.2.2.2 1).size)); have k6 := cell_seen4 hbw (by assumption); clear hbw))
      cases z with
      | true =>
        go_wp2
        go_ret
        exact ⟨by rw [HM.out.2.2.1 (of_decide_eq_true HZ.out)]; rfl, HB1.out⟩
      | false =>
        go_wp2
        go_roundw
        case measure => have := HM.out.1; simp [intOf]; omega
        case rel => exact ⟨m, by have := HM.out.1; omega, rfl, Lib.hid (fun j h1 h2 => by have := (HM.out.2.1.2 (by have := of_decide_eq_false HZ.out; omega)) j h1 h2; omega), HB1.out⟩
end Go.Proofs.YtchggapclmdpaaaGreatDoor
