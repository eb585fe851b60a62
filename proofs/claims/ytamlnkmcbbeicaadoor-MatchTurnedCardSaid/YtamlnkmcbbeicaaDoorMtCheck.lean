/- Matchers: Check. -/
import Derived.Test.YtamlnkmcbbeicaaDoorG43
import Derived.Test.YtamlnkmcbbeicaaDoorMtName
import Derived.Deep.RegionWith
namespace Go.Proofs.YtamlnkmcbbeicaaDoor
open Go.RowKit Go.Lib
open RX (PS Tr Pr Stp Th)

/-- The code of a pattern's error; 0: none. -/
def errV (v : ByteArray) : Int := if v.size ≤ 500 then match RX.readRx v.data.toList with
    | .ok _ _ => 0
    | .bad x _ => x
  else 81
theorem errV_zero (v : ByteArray) (hs : errV v = 0) : ∃ t g, RX.compileRx v.data.toList = some (t, g) := by
  unfold errV at hs
  unfold RX.compileRx
  have hl : v.data.toList.length = v.size := Array.length_toList
  rw [hl]
  by_cases h : v.size ≤ 500
  · rw [if_pos h] at hs
    rw [if_neg (by omega)]
    cases hr : RX.readRx v.data.toList with
    | ok t g => exact ⟨t, g, rfl⟩
    | bad x a => rw [hr] at hs; have := rd_bad hr; simp at hs; omega
  · rw [if_neg h] at hs; cases hs
theorem compile_code (v : ByteArray) (w : World) : Calls Tryd.prog 12 #[.string v] w fun e w' => Below w.heap.size w w' ∧ ∃ p q, e = .returned (.tuple #[p, .int .u16 (errV v), .int .i64 q]) := by
  refine (compile_any v w).mono ?_
  intro e w' h
  unfold CompPost at h
  unfold errV
  by_cases hs : v.size ≤ 500
  · rw [if_pos hs] at h ⊢
    cases hr : RX.readRx v.data.toList with
    | ok t g => rw [hr] at h; obtain ⟨B, rp, a, h1, h2, _, h4, h5⟩ := h; exact ⟨h5, _, _, h1⟩
    | bad x a => rw [hr] at h; exact ⟨h.2, _, _, h.1⟩
  · rw [if_neg hs] at h ⊢; exact ⟨h.2, _, _, h.1⟩
/-- What Check says of a matcher of a known kind. -/
def codeM (k : Int) (n v : ByteArray) : Int := if nameB n.data.toList = true ∧ v.size ≤ 1024 then (if k = 3 ∨ k = 4 then errV v else 0) else 90
/-- What all ways through the beginning of Check leave. -/
def Chk (w wc : World) (k : Int) (n v : ByteArray) : Prop := wc.heap[w.heap.size]? = some (.cells #[.int .u8 k, .string n, .string v] 24) ∧ Below w.heap.size w wc
theorem store_fn (a : Addr) (f : Fn) (x y : Array Value) (m : Mode) (w : World) : (store a (.func f x y) m).run Tryd.prog w = stored Tryd.prog w a (.func f x y) m := run_store Tryd.prog w a _ m rfl
theorem keepM {W w2 : World} {g : Nat} {o : Obj} (hb : Below W.heap.size W w2) (h : W.heap[g]? = some o) : w2.heap[g]? = some o := (hb.block _ (Array.getElem?_eq_some_iff.1 h).1).trans h
theorem froz0M {w : World} {g : Nat} {cs : Array Value} {t : TypeId} {i : Nat} (h : w.heap[g]? = some (.cells cs t (0, 0))) : w.frozen? ⟨g, i, none⟩ = false := by simp [World.frozen?, h]
theorem alloc2_at (w : World) (A B : Obj) : ((w.alloc A).alloc B).heap[w.heap.size + 1]? = some B := by
  have h := (MapKept.heap_alloc (w.alloc A) B).1
  rwa [show (w.alloc A).heap.size = w.heap.size + 1 from Array.size_push _] at h
theorem keepA {W : World} {g : Nat} {o x : Obj} (h : W.heap[g]? = some o) : (W.alloc x).heap[g]? = some o := ((MapKept.heap_alloc W x).2 g (Array.getElem?_eq_some_iff.1 h).1).trans h
theorem cell0M {w : World} {g : Nat} {cs : Array Value} {t : TypeId} {d : Nat × Nat} {v : Value} {i : Nat} (h : w.heap[g]? = some (.cells cs t d)) (hv : cs[i]? = some v) : w.cell? ⟨g, i, none⟩ = some v := by simp [World.cell?, h, hv]
theorem Chk.alloc {w wc : World} {k : Int} {n v : ByteArray} (h : Chk w wc k n v) (o : Obj) : Chk w (wc.alloc o) k n v := ⟨keepA h.1, h.2.alloc h.2.size o⟩
theorem Chk.set {w wc : World} {k : Int} {n v : ByteArray} (h : Chk w wc k n v) (i : Nat) (u : Value) : Chk w (wc.setCell ⟨w.heap.size + 1, i, none⟩ u) k n v :=
  ⟨(Below.heap_setCell wc _ u _ (by show w.heap.size ≠ w.heap.size + 1; omega)).trans h.1, h.2.setCell (by show w.heap.size ≤ w.heap.size + 1; omega) u⟩
theorem Chk.drew {w wc : World} {k : Int} {n v : ByteArray} (h : Chk w wc k n v) : Chk w wc.drew k n v := ⟨h.1, below_drewN h.2 1⟩
theorem Chk.go {w W wc : World} {k : Int} {n v : ByteArray} (h : Chk w W k n v) (hb : Below W.heap.size W wc) : Chk w wc k n v := ⟨keepM hb h.1, h.2.trans (hb.mono h.2.size)⟩
set_option maxHeartbeats 4000000 in
set_option maxRecDepth 100000 in
theorem check_one (n v : ByteArray) (w : World) : Calls Tryd.prog 5 #[mv 1 n v] w fun e w' => e = .returned (.int .u16 (codeM 1 n v)) ∧ Below w.heap.size w w' := by
  have H1 := Lib.hid (show Chk w _ 1 n v from ⟨(MapKept.heap_alloc w (.cells #[.int .u8 1, .string n, .string v] 24)).1, (Below.refl _ _).alloc (Nat.le_refl _) _⟩)
  have hsf := @store_fn
  unfold mv
  go_enter Tryd.func5, Tryd.ntmps5
  go_wp2_with fail
  go_upto_region 1 with (fail)
  go_cut [3, 4] from 8 (fun s3 s4 wc => s4 = .bool true ∧ Chk w wc 1 n v)
  case first =>
    as_aux_lemma =>
      go_region_with (first | (go_at_call 10; refine (kinds_any _).mono ?_; rintro e w2 ⟨g, b2, b4, rfl, hK, hb⟩; have hl := look_run (k := 1) hK.map rfl true; have hl2 := fun o => look_run (k := 1) (keepA (x := o) hK.map) rfl true; (try unfold notV at hl hl2); have h2 : Chk w w2 1 n v := (show Chk w _ 1 n v from by first | exact H1.out.drew | exact H1.out.drew.alloc _).go hb; have c0 := cell0M (i := 0) h2.1 rfl; (try (have h3 := keepM hb (alloc2_at w _ _); have d0 := cell0M (i := 0) h3 rfl; have d1 := cell0M (i := 1) h3 rfl; have e0 := froz0M (i := 0) h3; have e1 := froz0M (i := 1) h3)); have hlt2 := (Array.getElem?_eq_some_iff.1 h2.1).1; have HK := Lib.hid h2; clear hK hb h2) | fail)
      all_goals go_wp2_with fail
      all_goals go_meet
      all_goals (first | exact ⟨rfl, HK.out.alloc _⟩ | exact ⟨rfl, (HK.out.set _ _).set _ _⟩)
  case rest =>
    obtain ⟨rfl, hC⟩ := hcut
    have HC := Lib.hid hC
    have c1 := cell0M (i := 1) (v := .string n) hC.1 rfl
    clear hC H1 hsf
    cases hn : nameB n.data.toList with
    | false =>
      have hk : codeM 1 n v = 90 := by unfold codeM; rw [if_neg (by rw [hn]; simp)]
      have HKK := Lib.hid hk
      have hN := fun w => name_any n w
      rw [hn] at hN
      clear hk hn
      go_wp2_with (first
        | (go_at_call 11; refine (hN _).mono ?_; rintro e w3 ⟨rfl, hb3⟩; have H3 := Lib.hid (HC.out.go hb3); clear hb3)
        | fail)
      exact bodyPost_ret (v := .int .u16 90) (by simp [results, Tryd.results5, go_sem]) rfl ⟨by rw [HKK.out], H3.out.2⟩
    | true =>
      have hN := fun w => name_any n w
      rw [hn] at hN
      by_cases hv : v.size ≤ 1024
      · have hv2 : ¬ (1024 : Int) < (v.size : Int) := by omega
        have hk : codeM 1 n v = 0 := by unfold codeM; rw [if_pos ⟨hn, hv⟩, if_neg (by decide)]
        have HKK := Lib.hid hk
        clear hk hn hv
        go_wp2_with (first
          | (go_at_call 11; refine (hN _).mono ?_; rintro e w3 ⟨rfl, hb3⟩; have H3 := Lib.hid (HC.out.go hb3); have d0 := cell0M (i := 0) (v := .int .u8 1) H3.out.1 rfl; have d2 := cell0M (i := 2) (v := .string v) H3.out.1 rfl; clear hb3)
          | fail)
        exact bodyPost_ret (v := .int .u16 0) (by simp [results, Tryd.results5, go_sem]) rfl ⟨by rw [HKK.out], H3.out.2⟩
      · have hk : codeM 1 n v = 90 := by unfold codeM; rw [if_neg (fun h => hv h.2)]
        have hv2 : (1024 : Int) < (v.size : Int) := by omega
        have HKK := Lib.hid hk
        clear hk hn hv
        go_wp2_with (first
          | (go_at_call 11; refine (hN _).mono ?_; rintro e w3 ⟨rfl, hb3⟩; have H3 := Lib.hid (HC.out.go hb3); have d2 := cell0M (i := 2) (v := .string v) H3.out.1 rfl; clear hb3)
          | fail)
        exact bodyPost_ret (v := .int .u16 90) (by simp [results, Tryd.results5, go_sem]) rfl ⟨by rw [HKK.out], H3.out.2⟩
set_option maxHeartbeats 4000000 in
set_option maxRecDepth 100000 in
theorem check_two (n v : ByteArray) (w : World) : Calls Tryd.prog 5 #[mv 2 n v] w fun e w' => e = .returned (.int .u16 (codeM 2 n v)) ∧ Below w.heap.size w w' := by
  have H1 := Lib.hid (show Chk w _ 2 n v from ⟨(MapKept.heap_alloc w (.cells #[.int .u8 2, .string n, .string v] 24)).1, (Below.refl _ _).alloc (Nat.le_refl _) _⟩)
  have hsf := @store_fn
  unfold mv
  go_enter Tryd.func5, Tryd.ntmps5
  go_wp2_with fail
  go_upto_region 1 with (fail)
  go_cut [3, 4] from 8 (fun s3 s4 wc => s4 = .bool true ∧ Chk w wc 2 n v)
  case first =>
    as_aux_lemma =>
      go_region_with (first | (go_at_call 10; refine (kinds_any _).mono ?_; rintro e w2 ⟨g, b2, b4, rfl, hK, hb⟩; have hl := look_run (k := 2) hK.map rfl true; have hl2 := fun o => look_run (k := 2) (keepA (x := o) hK.map) rfl true; (try unfold notV at hl hl2); have h2 : Chk w w2 2 n v := (show Chk w _ 2 n v from by first | exact H1.out.drew | exact H1.out.drew.alloc _).go hb; have c0 := cell0M (i := 0) h2.1 rfl; (try (have h3 := keepM hb (alloc2_at w _ _); have d0 := cell0M (i := 0) h3 rfl; have d1 := cell0M (i := 1) h3 rfl; have e0 := froz0M (i := 0) h3; have e1 := froz0M (i := 1) h3)); have hlt2 := (Array.getElem?_eq_some_iff.1 h2.1).1; have HK := Lib.hid h2; clear hK hb h2) | fail)
      all_goals go_wp2_with fail
      all_goals go_meet
      all_goals (first | exact ⟨rfl, HK.out.alloc _⟩ | exact ⟨rfl, (HK.out.set _ _).set _ _⟩)
  case rest =>
    obtain ⟨rfl, hC⟩ := hcut
    have HC := Lib.hid hC
    have c1 := cell0M (i := 1) (v := .string n) hC.1 rfl
    clear hC H1 hsf
    cases hn : nameB n.data.toList with
    | false =>
      have hk : codeM 2 n v = 90 := by unfold codeM; rw [if_neg (by rw [hn]; simp)]
      have HKK := Lib.hid hk
      have hN := fun w => name_any n w
      rw [hn] at hN
      clear hk hn
      go_wp2_with (first
        | (go_at_call 11; refine (hN _).mono ?_; rintro e w3 ⟨rfl, hb3⟩; have H3 := Lib.hid (HC.out.go hb3); clear hb3)
        | fail)
      exact bodyPost_ret (v := .int .u16 90) (by simp [results, Tryd.results5, go_sem]) rfl ⟨by rw [HKK.out], H3.out.2⟩
    | true =>
      have hN := fun w => name_any n w
      rw [hn] at hN
      by_cases hv : v.size ≤ 1024
      · have hv2 : ¬ (1024 : Int) < (v.size : Int) := by omega
        have hk : codeM 2 n v = 0 := by unfold codeM; rw [if_pos ⟨hn, hv⟩, if_neg (by decide)]
        have HKK := Lib.hid hk
        clear hk hn hv
        go_wp2_with (first
          | (go_at_call 11; refine (hN _).mono ?_; rintro e w3 ⟨rfl, hb3⟩; have H3 := Lib.hid (HC.out.go hb3); have d0 := cell0M (i := 0) (v := .int .u8 2) H3.out.1 rfl; have d2 := cell0M (i := 2) (v := .string v) H3.out.1 rfl; clear hb3)
          | fail)
        exact bodyPost_ret (v := .int .u16 0) (by simp [results, Tryd.results5, go_sem]) rfl ⟨by rw [HKK.out], H3.out.2⟩
      · have hk : codeM 2 n v = 90 := by unfold codeM; rw [if_neg (fun h => hv h.2)]
        have hv2 : (1024 : Int) < (v.size : Int) := by omega
        have HKK := Lib.hid hk
        clear hk hn hv
        go_wp2_with (first
          | (go_at_call 11; refine (hN _).mono ?_; rintro e w3 ⟨rfl, hb3⟩; have H3 := Lib.hid (HC.out.go hb3); have d2 := cell0M (i := 2) (v := .string v) H3.out.1 rfl; clear hb3)
          | fail)
        exact bodyPost_ret (v := .int .u16 90) (by simp [results, Tryd.results5, go_sem]) rfl ⟨by rw [HKK.out], H3.out.2⟩
set_option maxHeartbeats 4000000 in
set_option maxRecDepth 100000 in
theorem check_three (n v : ByteArray) (w : World) : Calls Tryd.prog 5 #[mv 3 n v] w fun e w' => e = .returned (.int .u16 (codeM 3 n v)) ∧ Below w.heap.size w w' := by
  have H1 := Lib.hid (show Chk w _ 3 n v from ⟨(MapKept.heap_alloc w (.cells #[.int .u8 3, .string n, .string v] 24)).1, (Below.refl _ _).alloc (Nat.le_refl _) _⟩)
  have hsf := @store_fn
  unfold mv
  go_enter Tryd.func5, Tryd.ntmps5
  go_wp2_with fail
  go_upto_region 1 with (fail)
  go_cut [3, 4] from 8 (fun s3 s4 wc => s4 = .bool true ∧ Chk w wc 3 n v)
  case first =>
    as_aux_lemma =>
      go_region_with (first | (go_at_call 10; refine (kinds_any _).mono ?_; rintro e w2 ⟨g, b2, b4, rfl, hK, hb⟩; have hl := look_run (k := 3) hK.map rfl true; have hl2 := fun o => look_run (k := 3) (keepA (x := o) hK.map) rfl true; (try unfold notV at hl hl2); have h2 : Chk w w2 3 n v := (show Chk w _ 3 n v from by first | exact H1.out.drew | exact H1.out.drew.alloc _).go hb; have c0 := cell0M (i := 0) h2.1 rfl; (try (have h3 := keepM hb (alloc2_at w _ _); have d0 := cell0M (i := 0) h3 rfl; have d1 := cell0M (i := 1) h3 rfl; have e0 := froz0M (i := 0) h3; have e1 := froz0M (i := 1) h3)); have hlt2 := (Array.getElem?_eq_some_iff.1 h2.1).1; have HK := Lib.hid h2; clear hK hb h2) | fail)
      all_goals go_wp2_with fail
      all_goals go_meet
      all_goals (first | exact ⟨rfl, HK.out.alloc _⟩ | exact ⟨rfl, (HK.out.set _ _).set _ _⟩)
  case rest =>
    obtain ⟨rfl, hC⟩ := hcut
    have HC := Lib.hid hC
    have c1 := cell0M (i := 1) (v := .string n) hC.1 rfl
    clear hC H1 hsf
    cases hn : nameB n.data.toList with
    | false =>
      have hk : codeM 3 n v = 90 := by unfold codeM; rw [if_neg (by rw [hn]; simp)]
      have HKK := Lib.hid hk
      have hN := fun w => name_any n w
      rw [hn] at hN
      clear hk hn
      go_wp2_with (first
        | (go_at_call 11; refine (hN _).mono ?_; rintro e w3 ⟨rfl, hb3⟩; have H3 := Lib.hid (HC.out.go hb3); clear hb3)
        | fail)
      exact bodyPost_ret (v := .int .u16 90) (by simp [results, Tryd.results5, go_sem]) rfl ⟨by rw [HKK.out], H3.out.2⟩
    | true =>
      have hN := fun w => name_any n w
      rw [hn] at hN
      by_cases hv : v.size ≤ 1024
      · have hv2 : ¬ (1024 : Int) < (v.size : Int) := by omega
        have hk : codeM 3 n v = errV v := by unfold codeM; rw [if_pos ⟨hn, hv⟩, if_pos (by decide)]
        obtain ⟨x, hx⟩ : ∃ x, errV v = x := ⟨_, rfl⟩
        have HX := Lib.hid hx
        rw [hx] at hk
        have HKK := Lib.hid hk
        clear hk hx hn hv
        go_wp2_with (first
          | (go_at_call 11; refine (hN _).mono ?_; rintro e w3 ⟨rfl, hb3⟩; have H3 := Lib.hid (HC.out.go hb3); have d0 := cell0M (i := 0) (v := .int .u8 3) H3.out.1 rfl; have d2 := cell0M (i := 2) (v := .string v) H3.out.1 rfl; clear hb3)
          | (go_at_call 12; refine (compile_code v _).mono ?_; rintro e w4 ⟨hb4, p, q, rfl⟩; have H4 := Lib.hid (H3.out.go hb4); have hx := HX.out; clear hb4)
          | fail)
        exact bodyPost_ret (v := .int .u16 x) (by simp [results, Tryd.results5, go_sem, HX.out]) rfl ⟨by rw [HKK.out], H4.out.2⟩
      · have hk : codeM 3 n v = 90 := by unfold codeM; rw [if_neg (fun h => hv h.2)]
        have hv2 : (1024 : Int) < (v.size : Int) := by omega
        have HKK := Lib.hid hk
        clear hk hn hv
        go_wp2_with (first
          | (go_at_call 11; refine (hN _).mono ?_; rintro e w3 ⟨rfl, hb3⟩; have H3 := Lib.hid (HC.out.go hb3); have d2 := cell0M (i := 2) (v := .string v) H3.out.1 rfl; clear hb3)
          | fail)
        exact bodyPost_ret (v := .int .u16 90) (by simp [results, Tryd.results5, go_sem]) rfl ⟨by rw [HKK.out], H3.out.2⟩
set_option maxHeartbeats 4000000 in
set_option maxRecDepth 100000 in
theorem check_four (n v : ByteArray) (w : World) : Calls Tryd.prog 5 #[mv 4 n v] w fun e w' => e = .returned (.int .u16 (codeM 4 n v)) ∧ Below w.heap.size w w' := by
  have H1 := Lib.hid (show Chk w _ 4 n v from ⟨(MapKept.heap_alloc w (.cells #[.int .u8 4, .string n, .string v] 24)).1, (Below.refl _ _).alloc (Nat.le_refl _) _⟩)
  have hsf := @store_fn
  unfold mv
  go_enter Tryd.func5, Tryd.ntmps5
  go_wp2_with fail
  go_upto_region 1 with (fail)
  go_cut [3, 4] from 8 (fun s3 s4 wc => s4 = .bool true ∧ Chk w wc 4 n v)
  case first =>
    as_aux_lemma =>
      go_region_with (first | (go_at_call 10; refine (kinds_any _).mono ?_; rintro e w2 ⟨g, b2, b4, rfl, hK, hb⟩; have hl := look_run (k := 4) hK.map rfl true; have hl2 := fun o => look_run (k := 4) (keepA (x := o) hK.map) rfl true; (try unfold notV at hl hl2); have h2 : Chk w w2 4 n v := (show Chk w _ 4 n v from by first | exact H1.out.drew | exact H1.out.drew.alloc _).go hb; have c0 := cell0M (i := 0) h2.1 rfl; (try (have h3 := keepM hb (alloc2_at w _ _); have d0 := cell0M (i := 0) h3 rfl; have d1 := cell0M (i := 1) h3 rfl; have e0 := froz0M (i := 0) h3; have e1 := froz0M (i := 1) h3)); have hlt2 := (Array.getElem?_eq_some_iff.1 h2.1).1; have HK := Lib.hid h2; clear hK hb h2) | fail)
      all_goals go_wp2_with fail
      all_goals go_meet
      all_goals (first | exact ⟨rfl, HK.out.alloc _⟩ | exact ⟨rfl, (HK.out.set _ _).set _ _⟩)
  case rest =>
    obtain ⟨rfl, hC⟩ := hcut
    have HC := Lib.hid hC
    have c1 := cell0M (i := 1) (v := .string n) hC.1 rfl
    clear hC H1 hsf
    cases hn : nameB n.data.toList with
    | false =>
      have hk : codeM 4 n v = 90 := by unfold codeM; rw [if_neg (by rw [hn]; simp)]
      have HKK := Lib.hid hk
      have hN := fun w => name_any n w
      rw [hn] at hN
      clear hk hn
      go_wp2_with (first
        | (go_at_call 11; refine (hN _).mono ?_; rintro e w3 ⟨rfl, hb3⟩; have H3 := Lib.hid (HC.out.go hb3); clear hb3)
        | fail)
      exact bodyPost_ret (v := .int .u16 90) (by simp [results, Tryd.results5, go_sem]) rfl ⟨by rw [HKK.out], H3.out.2⟩
    | true =>
      have hN := fun w => name_any n w
      rw [hn] at hN
      by_cases hv : v.size ≤ 1024
      · have hv2 : ¬ (1024 : Int) < (v.size : Int) := by omega
        have hk : codeM 4 n v = errV v := by unfold codeM; rw [if_pos ⟨hn, hv⟩, if_pos (by decide)]
        obtain ⟨x, hx⟩ : ∃ x, errV v = x := ⟨_, rfl⟩
        have HX := Lib.hid hx
        rw [hx] at hk
        have HKK := Lib.hid hk
        clear hk hx hn hv
        go_wp2_with (first
          | (go_at_call 11; refine (hN _).mono ?_; rintro e w3 ⟨rfl, hb3⟩; have H3 := Lib.hid (HC.out.go hb3); have d0 := cell0M (i := 0) (v := .int .u8 4) H3.out.1 rfl; have d2 := cell0M (i := 2) (v := .string v) H3.out.1 rfl; clear hb3)
          | (go_at_call 12; refine (compile_code v _).mono ?_; rintro e w4 ⟨hb4, p, q, rfl⟩; have H4 := Lib.hid (H3.out.go hb4); have hx := HX.out; clear hb4)
          | fail)
        exact bodyPost_ret (v := .int .u16 x) (by simp [results, Tryd.results5, go_sem, HX.out]) rfl ⟨by rw [HKK.out], H4.out.2⟩
      · have hk : codeM 4 n v = 90 := by unfold codeM; rw [if_neg (fun h => hv h.2)]
        have hv2 : (1024 : Int) < (v.size : Int) := by omega
        have HKK := Lib.hid hk
        clear hk hn hv
        go_wp2_with (first
          | (go_at_call 11; refine (hN _).mono ?_; rintro e w3 ⟨rfl, hb3⟩; have H3 := Lib.hid (HC.out.go hb3); have d2 := cell0M (i := 2) (v := .string v) H3.out.1 rfl; clear hb3)
          | fail)
        exact bodyPost_ret (v := .int .u16 90) (by simp [results, Tryd.results5, go_sem]) rfl ⟨by rw [HKK.out], H3.out.2⟩
end Go.Proofs.YtamlnkmcbbeicaaDoor
