/- much of chapter 25: whether elements are more than is looked at. VecFilters: the walk. -/
import Derived.Test.YtajaijidecomdaaGreatDoorG07
import Derived.Deep.QuietTactic
import Derived.BigQuiet
import Derived.Test.YtajaijidecomdaaGreatDoorG46
import Derived.Test.YtajaijidecomdaaGreatDoorG36
namespace Go.Proofs.YtajaijidecomdaaGreatDoor
open Go.RowKit Go.Lib

/-- An element that came in, of any size. -/
structure EBig (w : World) (y : Ev) : Prop where
  lst : Lst Lb.cells 2 w w.heap.size y.A y.n y.l
  nil : y.A = none → y.n = 0 ∧ y.c = 0
  few : y.n ≤ 140737488355328
  txt : ∀ x ∈ y.l, x.nm.size ≤ 140737488351232 ∧ x.vl.size ≤ 140737488351232
def labW : List Lb → Nat
  | [] => 0
  | x :: l => (x.nm.size + x.vl.size) / 64 + labW l
theorem labW_append (a b : List Lb) : labW (a ++ b) = labW a + labW b := by
  induction a with
  | nil => simp [labW]
  | cons x a ih => simp only [List.cons_append, labW, ih]; omega
def elsW : List Ev → Nat
  | [] => 0
  | y :: l => y.n + labW y.l + elsW l
theorem elsW_append (a b : List Ev) : elsW (a ++ b) = elsW a + elsW b := by
  induction a with
  | nil => simp [elsW]
  | cons x a ih => simp only [List.cons_append, elsW, ih]; omega
theorem labW_mem {l : List Lb} {x : Lb} (h : x ∈ l) : (x.nm.size + x.vl.size) / 64 ≤ labW l := by
  induction l with
  | nil => cases h
  | cons y l ih =>
    simp only [labW]
    rcases List.mem_cons.1 h with rfl | h
    · omega
    · have := ih h; omega
theorem elsW_mem {ys : List Ev} {y : Ev} (h : y ∈ ys) : y.n + labW y.l ≤ elsW ys := by
  induction ys with
  | nil => cases h
  | cons x ys ih =>
    simp only [elsW]
    rcases List.mem_cons.1 h with rfl | h
    · omega
    · have := ih h; omega
def muchB (n : Nat) (ys : List Ev) : Bool := decide (1000 < n + elsW ys)
/-- No more than is looked at. -/
theorem muchB_els {w : World} {A : Option Addr} {n c : Nat} {ys : List Ev} (hL : Lst encEv 2 w w.heap.size A n ys) (hnil : A = none → n = 0 ∧ c = 0) (hT : ∀ y ∈ ys, EBig w y) (h : muchB n ys = false) : Els w w.heap.size A n c ys ∧ n ≤ 1000 ∧ ∀ y ∈ ys, y.n ≤ 1000 := by
  have h1 := of_decide_eq_false h
  refine ⟨⟨hL, hnil, by omega, fun y hy => ?_⟩, by omega, fun y hy => ?_⟩
  · have h2 := elsW_mem hy
    refine ⟨(hT y hy).lst, (hT y hy).nil, by omega, fun x hx => ?_⟩
    have := labW_mem hx
    omega
  · have h2 := elsW_mem hy
    omega
theorem elsW_take {ys : List Ev} (i : Nat) : elsW (ys.take i) ≤ elsW ys := by
  have h : elsW ys = elsW (ys.take i) + elsW (ys.drop i) := by rw [← elsW_append, List.take_append_drop]
  omega
/-- How the count stands behind the first i. -/
def CountE (n : Nat) (ys : List Ev) (i s : Nat) : Prop := (s ≤ 1000 → s = n + elsW (ys.take i)) ∧ (1000 < s → 1000 < n + elsW ys)
def MuchPost (w : World) (n : Nat) (ys : List Ev) (e : Ending) (w' : World) : Prop := e = .returned (.bool (muchB n ys)) ∧ ∃ q, w' = w.drewN q
set_option maxHeartbeats 4000000 in
set_option maxRecDepth 100000 in
theorem much_any (A : Option Addr) (n c : Nat) (ys : List Ev) (w : World) (hL : Lst encEv 2 w w.heap.size A n ys) (hn : n ≤ 140737488355328) (hT : ∀ y ∈ ys, EBig w y) :
    Calls Tryz.prog 13 #[.slice A n c] w (MuchPost w n ys) := by
  have HL := Lib.hid (show _ ∧ _ from ⟨hL, hT⟩)
  have hln := hL.1
  clear hL hT
  go_enter Tryz.func13, Tryz.ntmps13
  go_wp2
  go_loopw [3, 4, 5] (fun nv iv _ wr => ∃ (i s q : Nat), i ≤ n ∧ iv = .int .i64 i ∧ nv = .int .i64 s ∧ wr = w.drewN q ∧ Hid (CountE n ys i s) ∧ s ≤ 1125899906842624) (fun _ iv _ _ => n - (intOf iv).toNat)
  case atStart => exact ⟨0, n, 0, Nat.zero_le _, rfl, rfl, rfl, Lib.hid ⟨fun _ => by simp [elsW], fun h => by omega⟩, by omega⟩
  case round =>
    obtain ⟨i, s, q, hi, rfl, rfl, rfl, HS, hs63⟩ := hrel
    by_cases hlt : i < n
    · by_cases hs3 : s ≤ 1000
      · obtain ⟨b, off, y, rfl, hb, hy, hc⟩ := HL.out.1.at hlt
        have hyT := HL.out.2 y (List.mem_of_getElem? hy)
        have c0 := hc 0 _ rfl
        simp only [Nat.add_zero] at c0
        have hyn := hyT.few
        have htk : elsW (ys.take (i + 1)) = elsW (ys.take i) + (y.n + labW y.l) := by
          obtain ⟨g1, g2⟩ := List.getElem?_eq_some_iff.1 hy
          rw [List.take_succ_eq_append_getElem g1, g2, elsW_append]
          simp only [elsW]
          omega
        have hnext : ∀ t, (t ≤ 1000 → t = s + y.n + labW y.l) → (1000 < t → t ≤ s + y.n + labW y.l) → CountE n ys (i + 1) t := fun t ht ht2 => by
          have h5 := HS.out.1 hs3
          have h6 := elsW_take (ys := ys) (i + 1)
          refine ⟨fun h3 => ?_, fun h3 => ?_⟩
          · have h4 := ht h3; omega
          · have h4 := ht2 h3; omega
        have HY := Lib.hid (show _ ∧ _ ∧ _ ∧ _ from ⟨hy, hyT, hb, hnext⟩)
        have C0 := Lib.hid c0
        have ii : (i : Int) < (n : Int) := by omega
        have ss : (s : Int) ≤ 1000 := by omega
        clear hy hyT hc hb hnext htk
        go_wp2_with (go_quiet (fail))
        go_loopw [3, 5] (fun nv jv wr => ∃ (j s2 q2 : Nat), j ≤ y.n ∧ jv = .int .i64 j ∧ nv = .int .i64 s2 ∧ wr = w.drewN q2 ∧ Hid ((s2 ≤ 1000 → s2 = s + y.n + labW (y.l.take j)) ∧ s2 ≤ s + y.n + labW y.l) ∧ s2 ≤ 1125899906842624) (fun _ jv _ => y.n - (intOf jv).toNat)
        case atStart => exact ⟨0, s + y.n, _, Nat.zero_le _, rfl, by simp, (by first | rfl | exact World.drewN_drewN _ _ _), Lib.hid ⟨fun _ => by simp [labW], by omega⟩, by omega⟩
        case round =>
          obtain ⟨j, s2, q2, hj, rfl, rfl, rfl, h1, h3⟩ := hrel
          have c0 := C0.out
          by_cases hjl : j < y.n
          · by_cases hs4 : s2 ≤ 1000
            · obtain ⟨b2, off2, x, hA2, hb2, hx, hc2⟩ := HY.out.2.1.lst.at hjl
              rw [hA2] at c0
              have e0 := hc2 0 _ rfl
              have e1 := hc2 1 _ rfl
              simp only [Nat.add_zero] at e0
              obtain ⟨t0, t1⟩ := HY.out.2.1.txt x (List.mem_of_getElem? hx)
              have hlk : labW (y.l.take (j + 1)) = labW (y.l.take j) + (x.nm.size + x.vl.size) / 64 := by
                obtain ⟨g1, g2⟩ := List.getElem?_eq_some_iff.1 hx
                rw [List.take_succ_eq_append_getElem g1, g2, labW_append]
                simp only [labW]
                omega
              have hll : labW (y.l.take (j + 1)) ≤ labW y.l := by
                have h : labW y.l = labW (y.l.take (j + 1)) + labW (y.l.drop (j + 1)) := by rw [← labW_append, List.take_append_drop]
                omega
              have hnx : (s2 + (x.nm.size + x.vl.size) / 64 ≤ 1000 → s2 + (x.nm.size + x.vl.size) / 64 = s + y.n + labW (y.l.take (j + 1))) ∧ s2 + (x.nm.size + x.vl.size) / 64 ≤ s + y.n + labW y.l := by
                have := h1.out.1 hs4
                exact ⟨fun _ => by omega, by omega⟩
              have HN := Lib.hid hnx
              have jj : (j : Int) < (y.n : Int) := by omega
              have jj0 : (0 : Int) ≤ (j : Int) := by omega
              have ss2 : (s2 : Int) ≤ 1000 := by omega
              clear hx hc2 hnx hlk hll
              go_wp2_with (go_quiet (fail))
              go_roundw
              case measure => simp [intOf]; omega
              case rel => exact ⟨j + 1, s2 + (x.nm.size + x.vl.size) / 64, _, hjl, by simp, by simp, by first | rfl | exact World.drewN_drewN _ _ _, HN, by omega⟩
            · have ss2 : (1000 : Int) < (s2 : Int) := by omega
              have hbn : Hid (CountE n ys (i + 1) s2) := Lib.hid (HY.out.2.2.2 s2 (fun h => absurd h hs4) (fun _ => h1.out.2))
              go_wp2_with (go_quiet (fail))
              go_roundw
              case measure => simp [intOf]; omega
              case rel => exact ⟨i + 1, s2, _, hlt, by simp, rfl, by first | rfl | exact World.drewN_drewN _ _ _, hbn, h3⟩
          · have jj : ¬ (j : Int) < (y.n : Int) := by omega
            have hbn : Hid (CountE n ys (i + 1) s2) := Lib.hid (HY.out.2.2.2 s2 (fun h => by
              have := h1.out.1 h
              rwa [List.take_of_length_le (by rw [HY.out.2.1.lst.1]; omega)] at this) (fun _ => h1.out.2))
            go_wp2_with (go_quiet (fail))
            go_roundw
            case measure => simp [intOf]; omega
            case rel => exact ⟨i + 1, s2, _, hlt, by simp, rfl, by first | rfl | exact World.drewN_drewN _ _ _, hbn, h3⟩
      · have ss : (1000 : Int) < (s : Int) := by omega
        have HM := Lib.hid (show muchB n ys = true from decide_eq_true (HS.out.2 (by omega)))
        go_wp2_with (go_quiet (fail))
        go_ret
        exact ⟨by rw [HM.out]; first | rfl | (show Ending.returned (.bool (decide (1000 < (s : Int)))) = _; rw [decide_eq_true ss]), _, (by first | rfl | exact World.drewN_drewN _ _ _)⟩
    · obtain rfl : i = n := by omega
      have hM : muchB i ys = decide ((1000 : Int) < (s : Int)) := by
        unfold muchB
        apply decide_eq_decide.2
        have h1 := HS.out.1
        have h2 := HS.out.2
        rw [List.take_of_length_le (by omega)] at h1
        constructor
        · intro h; by_cases hs : s ≤ 1000
          · have := h1 hs; omega
          · omega
        · intro h; exact h2 (by omega)
      have HM := Lib.hid hM
      clear hM HS
      go_wp2_with (go_quiet (fail))
      go_ret
      exact ⟨by rw [HM.out]; rfl, _, (by first | rfl | exact World.drewN_drewN _ _ _)⟩
end Go.Proofs.YtajaijidecomdaaGreatDoor
namespace Go.Proofs.YtajaijidecomdaaGreatDoor
open Go.RowKit Go.Lib

/-- What is written in Number's post, as slices that can be read. -/
theorem done_els {w : World} {B : Nat} {v : Value} {os : List Ev} (h : OutEv w B v os) (hn : os.length ≤ 100000) (hf : ∀ z ∈ os, Fine z.l) : ∃ A c, v = .slice A os.length c ∧ Els w w.heap.size A os.length c os := by
  obtain ⟨A, c, rfl, _, _⟩ := owns_slice h.row
  exact ⟨A, c, rfl, (h.els hn fun z hz => hf z hz).1⟩
theorem fine_of_mem {es os : List Ev} {w : World} {A : Option Addr} {n c : Nat} (hE : Els w w.heap.size A n c es) (h : ∀ z ∈ os, z.el ∈ srtL (es.map Ev.el)) : ∀ z ∈ os, Fine z.l := fun z hz => by
  obtain ⟨y, hy, e⟩ := List.mem_map.1 ((srt_perm _).mem_iff.1 (h z hz))
  have h2 := (hE.each y hy).fine
  have h3 : y.l = z.l := congrArg Prod.fst e
  rw [h3] at h2
  exact h2
set_option maxHeartbeats 16000000 in
set_option maxRecDepth 100000 in
theorem vecFilters_any (op : Int) (h0 : 0 ≤ op) (h256 : op < 256) (A : Option Addr) (n c : Nat) (es : List Ev) (s : UInt64) (left : Bool) (w : World) (hL : Lst encEv 2 w w.heap.size A n es) (hnil : A = none → n = 0 ∧ c = 0) (hn : n ≤ 140737488355328) (hT : ∀ y ∈ es, EBig w y) :
    Calls Tryz.prog 8 #[.int .u8 op, .slice A n c, .int .u64 s.toNat, .bool left] w fun e w' => e = .returned (.bool true) ∧ Below w.heap.size w w' := by
  have hmuch := much_any A n c es w hL hn hT
  cases hmb : muchB n es with
  | true =>
    have HM := Lib.hid hmuch
    clear hmuch hL hT
    go_enter Tryz.func8, Tryz.ntmps8
    go_wp2_with fail
    refine HM.out.mono ?_
    rintro e w1 ⟨rfl, hq⟩
    rw [hmb]
    have b1 := below_drewLabel hq
    clear hq
    go_wp2
    go_ret
    exact ⟨rfl, b1⟩
  | false =>
    obtain ⟨hE, hn1000, _⟩ := muchB_els hL hnil hT hmb
    obtain ⟨q, hq⟩ : ∃ q, 8 + op % 6 = q := ⟨_, rfl⟩
    have hop : q = 8 ∨ q = 9 ∨ q = 10 ∨ q = 11 ∨ q = 12 ∨ q = 13 := by omega
    have hc1 : ∀ W, Below w.heap.size w W → Calls Tryz.prog 15 #[.int .u8 q, .bool false, .slice A n c, .int .u64 s.toNat, .bool left] W (DonePost (numberL (numC q false) false s left (es.map Ev.el)) W) := fun W hb => number_any q false true (numC q false) (fun a b W => numbers_cmp q hop false a b W) (fun W => by have := compares_any q W; rw [show (decide (8 ≤ q) && decide (q ≤ 13)) = true by rw [decide_eq_true (by omega), decide_eq_true (by omega)]; rfl] at this; exact this) A n c es s left W (hE.on hb)
    have hc2 : ∀ W, Below w.heap.size w W → Calls Tryz.prog 15 #[.int .u8 q, .bool true, .slice A n c, .int .u64 s.toNat, .bool left] W (DonePost (numberL (numC q true) true s left (es.map Ev.el)) W) := fun W hb => number_any q true true (numC q true) (fun a b W => numbers_cmp q hop true a b W) (fun W => by have := compares_any q W; rw [show (decide (8 ≤ q) && decide (q ≤ 13)) = true by rw [decide_eq_true (by omega), decide_eq_true (by omega)]; rfl] at this; exact this) A n c es s left W (hE.on hb)
    obtain ⟨rx, hrx⟩ : ∃ r, numberL (numC q false) false s left (es.map Ev.el) = r := ⟨_, rfl⟩
    obtain ⟨ry, hry⟩ : ∃ r, numberL (numC q true) true s left (es.map Ev.el) = r := ⟨_, rfl⟩
    rw [hrx] at hc1
    rw [hry] at hc2
    have HR0 := Lib.hid (show _ ∧ _ from ⟨hrx, hry⟩)
    clear hrx hry
    have hsrt := fun W (hb : Below w.heap.size w W) => sorted_any A n c es W (hE.on hb)
    have hw1 : IntKind.u8.wrap (8 + op % 6) = q := by rw [hq, IntKind.wrap_u8]; omega
    obtain ⟨f, hf⟩ : ∃ f, formL (es.map Ev.el) = f := ⟨_, rfl⟩
    have HM := Lib.hid (show _ ∧ _ ∧ _ ∧ _ ∧ _ ∧ _ from ⟨hmuch, hc1, hc2, hsrt, hE, hf⟩)
    have hln := hE.lst.1
    have hop2 := Lib.hid hop
    clear hmuch hc1 hc2 hsrt hE hL hT hf hop hnil hn
    go_enter Tryz.func8, Tryz.ntmps8
    go_wp2_with fail
    refine HM.out.1.mono ?_
    rintro e w1 ⟨rfl, hq1⟩
    rw [hmb]
    have b1 := below_drewLabel hq1
    have B1 := Lib.hid b1
    clear b1 hq1
    go_wp2_with fail
    refine (HM.out.2.1 _ B1.out).mono ?_
    rintro e w2 ⟨vx, ox, rfl, hox, hxe, b2⟩
    have B2 := Lib.hid (show _ ∧ _ ∧ _ from ⟨B1.out.trans (b2.mono B1.out.size), hox, hxe⟩)
    clear hox hxe b2
    go_wp2_with fail
    refine (HM.out.2.2.1 _ B2.out.1).mono ?_
    rintro e w3 ⟨vy, oy, rfl, hoy, hye, b3⟩
    have B3 := Lib.hid (show _ ∧ _ ∧ _ ∧ _ from ⟨B2.out.1.trans (b3.mono B2.out.1.size), hoy, hye, B2.out.2.1.below b3⟩)
    clear hoy hye b3
    go_wp2_with fail
    cases f with
    | false =>
      obtain rfl : rx = (253, []) := by rw [← HR0.out.1]; unfold numberL; rw [HM.out.2.2.2.2.2, if_neg (by decide)]
      obtain rfl : ry = (253, []) := by rw [← HR0.out.2]; unfold numberL; rw [HM.out.2.2.2.2.2, if_neg (by decide)]
      have hl : ox.length = 0 := by have := congrArg List.length B2.out.2.2; simpa using this
      obtain ⟨Ax, cx, rfl, _, _⟩ := owns_slice B2.out.2.1.row
      rw [hl] at *
      refine (known_any _).mono ?_
      rintro e w4 ⟨rfl, b4⟩
      have B4 := Lib.hid (B3.out.1.trans (b4.mono B3.out.1.size))
      clear b4
      go_wp2
      go_ret
      exact ⟨rfl, B4.out⟩
    | true =>
      have hfm := HM.out.2.2.2.2.2
      obtain rfl : rx = (0, (srtL (es.map Ev.el)).filter (stays q s left)) := by rw [← HR0.out.1]; exact filters_plain hfm
      have hlx : ox.length ≤ n := by
        have := congrArg List.length B2.out.2.2
        rw [List.length_map] at this
        rw [this, ← hln, ← List.length_map (f := Ev.el), ← FL.sortE_len elL_tot (es.map Ev.el)]
        exact List.length_filter_le _ _
      have hyb := filters_bool (op := q) (s := s) (left := left) hfm
      rw [HR0.out.2] at hyb
      have hyb2 : (ry.1 = 252 ∧ oy.length = 0) ∨ (ry.1 = 0 ∧ oy.length = n) := by
        have h1 := congrArg List.length B3.out.2.2.1
        rw [List.length_map] at h1
        rcases hyb with ⟨a, b⟩ | ⟨a, b⟩
        · exact .inl ⟨a, by rw [h1]; exact congrArg List.length b⟩
        · exact .inr ⟨a, by rw [h1]; exact b.trans (by rw [List.length_map, hln])⟩
      obtain ⟨ye, hye⟩ : ∃ ye, ry.1 = ye := ⟨_, rfl⟩
      rw [hye] at hyb2 ⊢
      obtain ⟨Ay, cy, rfl, _, _⟩ := owns_slice B3.out.2.1.row
      obtain ⟨ky, hky⟩ : ∃ ky, oy.length = ky := ⟨_, rfl⟩
      rw [hky] at hyb2 ⊢
      have hxf : ∀ z ∈ ox, z.el ∈ srtL (es.map Ev.el) := fun z hz => (List.mem_filter.1 (by rw [← show ox.map Ev.el = (srtL (es.map Ev.el)).filter (stays q s left) from B2.out.2.2]; exact List.mem_map.2 ⟨z, hz, rfl⟩)).1
      obtain ⟨Ax, cx, rfl, hxE⟩ := done_els B3.out.2.2.2 (by omega) (fine_of_mem HM.out.2.2.2.2.1 hxf)
      obtain ⟨kx, hkx⟩ : ∃ kx, ox.length = kx := ⟨_, rfl⟩
      rw [hkx] at hxE hlx ⊢
      have hyv : ye = 252 ∨ ye = 0 := hyb2.imp (·.1) (·.1)
      have hfin : (ye == 252 && decide ((ky : Int) = 0) || ye == 0 && decide ((ky : Int) = (n : Int))) = true := by
        rcases hyb2 with ⟨a, b⟩ | ⟨a, b⟩
        · subst a b; rfl
        · subst a b; simp
      have HX := Lib.hid (show _ ∧ _ ∧ _ ∧ _ ∧ _ from ⟨hxE, form_strict hfm, hyb2, hkx, hfin⟩)
      clear hxE hxf hyb hyb2 hye hky hfm hfin hkx
      refine (known_any _).mono ?_
      rintro e w4 ⟨rfl, b4⟩
      have B4 := Lib.hid (show _ ∧ _ from ⟨B3.out.1.trans (b4.mono B3.out.1.size), HX.out.1.on b4⟩)
      clear b4
      have y1 : (ye == 250) = false := by rcases hyv with h | h <;> rw [h] <;> rfl
      go_wp2_with fail
      refine (HM.out.2.2.2.1 _ B4.out.1).mono ?_
      rintro e w5 ⟨va, oa, rfl, hoa, hae, b5⟩
      obtain ⟨Aa, ca, rfl, _, _⟩ := owns_slice hoa.row
      obtain ⟨haE, hal⟩ := sorted_els (HM.out.2.2.2.2.1.on B4.out.1) hoa hae
      rw [hal] at haE ⊢
      have hae2 := hae
      have B5 := Lib.hid (show _ ∧ _ ∧ _ ∧ _ from ⟨B4.out.1.trans (b5.mono B4.out.1.size), haE, hae2, B4.out.2.on b5⟩)
      clear hoa hae hae2 b5 haE hal y1
      have hlx2 : ox.map Ev.el = (srtL (es.map Ev.el)).filter (stays q s left) := B2.out.2.2
      have HF := Lib.hid hlx2
      clear hlx2
      go_wp2
      go_loopw [14, 16] (fun av iv wr => ∃ a i : Nat, a ≤ n ∧ i ≤ kx ∧ av = .int .i64 a ∧ iv = .int .i64 i ∧ Hid ((ox.map Ev.el).drop i = ((oa.map Ev.el).drop a).filter (stays q s left) ∧ Below w5.heap.size w5 wr)) (fun _ iv _ => kx - (intOf iv).toNat)
      case atStart => exact ⟨0, 0, Nat.zero_le _, Nat.zero_le _, rfl, rfl, Lib.hid ⟨by rw [List.drop_zero, List.drop_zero, HF.out, B5.out.2.2.1], Below.refl _ _⟩⟩
      case round =>
        obtain ⟨a, i, ha, hi, rfl, rfl, HR⟩ := hrel
        by_cases hlt : i < kx
        · obtain ⟨bx, offx, x, rfl, hbx, hx, hcx⟩ := B5.out.2.2.2.lst.at hlt
          have hy : (ox.map Ev.el)[i]? = some x.el := by rw [List.getElem?_map, hx]; rfl
          have hxE := B5.out.2.2.2.each x (List.mem_of_getElem? hx)
          have HXI := Lib.hid (show _ ∧ _ ∧ _ ∧ _ ∧ _ ∧ _ from ⟨trivial, hbx, hx, hcx, hy, hxE⟩)
          clear hx hcx hy hxE
          obtain ⟨wo, rfl⟩ : ∃ wo : World, wo = wr := ⟨_, rfl⟩
          go_wp2
          go_loopw [14] (fun av wz => ∃ a2 : Nat, a2 ≤ n ∧ av = .int .i64 a2 ∧ Hid ((ox.map Ev.el).drop i = ((oa.map Ev.el).drop a2).filter (stays q s left) ∧ Below w5.heap.size w5 wz)) (fun av _ => n - (intOf av).toNat)
          case atStart => exact ⟨a, ha, rfl, HR⟩
          case round =>
            clear HR ha
            obtain ⟨a2, ha, rfl, HR⟩ := hrel
            have han : a2 < n := by
              rcases Nat.lt_or_ge a2 n with h | h
              · exact h
              · exfalso
                have h1 := HR.out.1
                have hal : (oa.map Ev.el).length = n := by rw [List.length_map]; exact B5.out.2.1.lst.1
                rw [List.drop_eq_nil_of_le (by omega : (oa.map Ev.el).length ≤ a2), List.filter_nil] at h1
                have h2 := HXI.out.2.2.2.2.1
                rw [← List.head?_drop, h1] at h2
                cases h2
            obtain ⟨ba, offa, ya, rfl, hba, hya, hca⟩ := B5.out.2.1.lst.at han
            have c5 := hca 0 _ rfl
            have c6 := hca 1 _ rfl
            have d5 := HXI.out.2.2.2.1 0 _ rfl
            have d6 := HXI.out.2.2.2.1 1 _ rfl
            simp only [Nat.add_zero] at c5 d5
            have hbl := HR.out.2
            have c0 := (hbl.cell (p := ⟨ba, offa + a2 * 2, none⟩) hba).trans c5
            have d0 := (hbl.cell (p := ⟨bx, offx + i * 2, none⟩) hbx).trans d5
            have hyE := B5.out.2.1.each ya (List.mem_of_getElem? hya)
            have hxE := HXI.out.2.2.2.2.2
            have hcm : ∀ W, Below w5.heap.size w5 W → Calls Tryz.prog 28 #[.slice ya.A ya.n ya.c, .slice x.A x.n x.c] W fun e w' => e = .returned (.int .i64 (labelsC ya.l x.l)) ∧ Below W.heap.size W w' := fun W hb =>
              refCmp_any ya.A x.A ya.n ya.c x.n x.c ya.l x.l W (hyE.on hb).lst (hxE.on hb).lst (by have := hyE.few; omega) (by have := hxE.few; omega)
            obtain ⟨qq, hqq⟩ : ∃ qq, labelsC ya.l x.l = qq := ⟨_, rfl⟩
            rw [hqq] at hcm
            have hay : (oa.map Ev.el)[a2]? = some ya.el := by rw [List.getElem?_map, hya]; rfl
            have i1 : (0 : Int) ≤ (a2 : Int) := by omega
            have i2 : (a2 : Int) < (n : Int) := by omega
            have i3 : (0 : Int) ≤ (i : Int) := by omega
            have i4 : (i : Int) < (kx : Int) := by omega
            obtain ⟨z, hz⟩ : ∃ z, decide (qq < 0) = z := ⟨_, rfl⟩
            have HI := Lib.hid (show _ ∧ _ ∧ _ ∧ _ ∧ _ ∧ _ from ⟨hcm, hbl, hqq, hay, hyE, hxE⟩)
            have HCC := Lib.hid (show _ ∧ _ ∧ _ ∧ _ from ⟨c5, c6, d5, d6⟩)
            have HZ := Lib.hid hz
            clear hcm hqq hay hyE hxE hca hya c5 c6 d5 d6
            go_wp2_with fail
            go_region_held3 (fun w' => w'.cell? ⟨ba, offa + a2 * 2, none⟩ = some (.slice ya.A ya.n ya.c) ∧ w'.cell? ⟨bx, offx + i * 2, none⟩ = some (.slice x.A x.n x.c)) (first | exact k6 | exact ⟨c0, d0⟩)
              (first | (go_at_call 28; refine (HI.out.1 _ (below_drewN HI.out.2.1 1)).mono ?_; rintro e w6 ⟨rfl, hb6⟩; have H6 := Lib.hid ((below_drewN HI.out.2.1 1).trans (hb6.mono (below_drewN HI.out.2.1 1).size)); have k6 := cell_two hb6 (by assumption); clear hb6))
            all_goals
              cases z with
              | true =>
                have hlt0 : qq < 0 := of_decide_eq_true HZ.out
                have HL := Lib.hid (FL.look_less labelsC_tot HR.out.1 HI.out.2.2.2.1 HXI.out.2.2.2.2.1 (by show labelsC ya.l x.l < 0; rw [HI.out.2.2.1]; exact hlt0))
                go_wp2
                go_roundw
                case measure => simp [intOf]; omega
                case rel => exact ⟨a2 + 1, han, by simp, Lib.hid ⟨HL.out, H6.out⟩⟩
              | false =>
                have hge0 : ¬ qq < 0 := of_decide_eq_false HZ.out
                have hfound := FL.look_found (c := labelsC) (a := a2) (i := i) (y := x.el) (by rw [B5.out.2.2.1]; exact HX.out.2.1) HR.out.1 HXI.out.2.2.2.2.1 (fun e he => by
                  rw [HI.out.2.2.2.1] at he
                  injection he with he
                  rw [← he]
                  show ¬ labelsC ya.l x.l < 0
                  rw [HI.out.2.2.1]; exact hge0)
                have hel : ya.el = x.el := by have h := hfound.1; rw [HI.out.2.2.2.1] at h; injection h
                have hv : x.v = ya.v := (congrArg Prod.snd hel).symm
                have hll : x.l = ya.l := (congrArg Prod.fst hel).symm
                have e0 := (H6.out.cell (p := ⟨ba, offa + a2 * 2, none⟩) hba).trans HCC.out.1
                have e1 := (H6.out.cell (p := ⟨ba, offa + a2 * 2 + 1, none⟩) hba).trans HCC.out.2.1
                have f0 := (H6.out.cell (p := ⟨bx, offx + i * 2, none⟩) hbx).trans HCC.out.2.2.1
                have f1 := (H6.out.cell (p := ⟨bx, offx + i * 2 + 1, none⟩) hbx).trans HCC.out.2.2.2
                rw [hv] at f1
                have hyE := HI.out.2.2.2.2.1.on H6.out
                have hxE := HI.out.2.2.2.2.2.on H6.out
                have hsm : ∀ W, (∃ r, W = w6.drewN r) → Calls Tryz.prog 29 #[.slice ya.A ya.n ya.c, .slice x.A x.n x.c] W fun e w' => e = .returned (.bool true) ∧ ∃ r, w' = W.drewN r := fun W hW => by
                  obtain ⟨r, rfl⟩ := hW
                  have h := sameLabels_any ya.A x.A ya.n ya.c x.n x.c ya.l x.l (w6.drewN r) ((hyE.lst.below (below_drewN (Below.refl _ w6) r)).more (Nat.le_refl _)) ((hxE.lst.below (below_drewN (Below.refl _ w6) r)).more (Nat.le_refl _)) (by have := hyE.few; omega) (by have := hxE.few; omega)
                  rw [hll, decide_eq_true (labelsC_cmp3.self ya.l)] at h
                  exact h
                have HS := Lib.hid (show _ ∧ _ from ⟨hsm, hfound.2⟩)
                clear hfound hel hv hll hyE hxE hsm k6 c0 d0
                go_wp2_with (go_quiet (first | (go_at_call 29; refine Calls.quiet_of (HS.out.1 _ ⟨_, rfl⟩)) | fail))
                go_roundw
                case measure => simp [intOf]; omega
                case rel => exact ⟨a2 + 1, i + 1, han, hlt, by simp, by simp, Lib.hid ⟨HS.out.2, by first | exact H6.out | exact below_drewN H6.out _⟩⟩
        · obtain rfl : i = kx := by omega
          rcases HX.out.2.2.1 with ⟨rfl, rfl⟩ | ⟨rfl, rfl⟩
          · go_wp2_with (go_quiet (fail))
            go_ret
            exact ⟨rfl, by first | exact B5.out.1.trans (HR.out.2.mono B5.out.1.size) | exact below_drewN (B5.out.1.trans (HR.out.2.mono B5.out.1.size)) _⟩
          · go_wp2_with (go_quiet (fail))
            go_ret
            exact ⟨rfl, by first | exact B5.out.1.trans (HR.out.2.mono B5.out.1.size) | exact below_drewN (B5.out.1.trans (HR.out.2.mono B5.out.1.size)) _⟩
end Go.Proofs.YtajaijidecomdaaGreatDoor
