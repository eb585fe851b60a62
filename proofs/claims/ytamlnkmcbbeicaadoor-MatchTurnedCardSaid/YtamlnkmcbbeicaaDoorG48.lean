/- Matchers: the known matcher's Print; All of none. Matchers: Check of a kind that is none. Matchers: what is known of one. -/
import Derived.Test.YtamlnkmcbbeicaaDoorMtIs
import Derived.Test.YtamlnkmcbbeicaaDoorG47
import Derived.Test.YtamlnkmcbbeicaaDoorMtCheck
namespace Go.Proofs.YtamlnkmcbbeicaaDoor
open Go.RowKit Go.Lib

theorem code_known : codeM 3 ⟨#[97]⟩ ⟨#[120, 46, 42]⟩ = 0 := by
  unfold codeM
  rw [if_pos ⟨by decide, by decide⟩]
  rfl
theorem quote_known (w : World) : Calls Tryd.prog 13 #[.string ⟨#[120, 46, 42]⟩] w fun e w' => e = .returned (.string ⟨#[34, 120, 46, 42, 34]⟩) ∧ Below w.heap.size w w' :=
  (quote_any ⟨#[120, 46, 42]⟩ (by decide) w).mono fun _ _ h => ⟨h.1, h.2⟩
set_option maxHeartbeats 4000000 in
set_option maxRecDepth 100000 in
theorem print_known (w : World) : Calls Tryd.prog 8 #[mv 3 ⟨#[97]⟩ ⟨#[120, 46, 42]⟩] w fun e w' => e = .returned (.string ⟨#[97, 61, 126, 34, 120, 46, 42, 34]⟩) ∧ Below w.heap.size w w' := by
  have H1 := Lib.hid (show Chk w _ 3 ⟨#[97]⟩ ⟨#[120, 46, 42]⟩ from ⟨(MapKept.heap_alloc w (.cells #[.int .u8 3, .string ⟨#[97]⟩, .string ⟨#[120, 46, 42]⟩] 24)).1, (Below.refl _ _).alloc (Nat.le_refl _) _⟩)
  have hCK := fun w => check_three ⟨#[97]⟩ ⟨#[120, 46, 42]⟩ w
  rw [code_known] at hCK
  have HCK := Lib.hid hCK
  clear hCK
  have hfs := kind_sign
  unfold mv
  go_enter Tryd.func8, Tryd.ntmps8
  go_wp2_with (first
    | (go_at_call 5; refine (HCK.out _).mono ?_; rintro e w3 ⟨rfl, hb3⟩; have h3 := H1.out.go hb3; have c0 := cell0M (i := 0) (v := .int .u8 3) h3.1 rfl; have c1 := cell0M (i := 1) (v := .string ⟨#[97]⟩) h3.1 rfl; have c2 := cell0M (i := 2) (v := .string ⟨#[120, 46, 42]⟩) h3.1 rfl; have H3 := Lib.hid h3; clear hb3 h3)
    | fail)
  have hst : w3.drew.cell? ⟨w.heap.size, 0, none⟩ = some (.int .u8 3) ∧ w3.drew.cell? ⟨w.heap.size, 1, none⟩ = some (.string ⟨#[97]⟩) ∧ w3.drew.cell? ⟨w.heap.size, 2, none⟩ = some (.string ⟨#[120, 46, 42]⟩) := ⟨c0, c1, c2⟩
  clear c0 c1 c2
  go_region_held3 (fun w' => w'.cell? ⟨w.heap.size, 0, none⟩ = some (.int .u8 3) ∧ w'.cell? ⟨w.heap.size, 1, none⟩ = some (.string ⟨#[97]⟩) ∧ w'.cell? ⟨w.heap.size, 2, none⟩ = some (.string ⟨#[120, 46, 42]⟩)) (first | assumption | fail)
    (first
    | (go_at_call 10; refine (kinds_any _).mono ?_; rintro e w4 ⟨g, b2, b4, rfl, hK, hb4⟩; have hl := look_run (k := 3) hK.map rfl false; have h4 : Chk w w4 3 ⟨#[97]⟩ ⟨#[120, 46, 42]⟩ := (show Chk w _ 3 ⟨#[97]⟩ ⟨#[120, 46, 42]⟩ from by first | exact H3.out.drew | exact H5.out).go hb4; have d0 : w4.cell? ⟨w.heap.size, 0, none⟩ = some (.int .u8 3) ∧ w4.cell? ⟨w.heap.size, 1, none⟩ = some (.string ⟨#[97]⟩) ∧ w4.cell? ⟨w.heap.size, 2, none⟩ = some (.string ⟨#[120, 46, 42]⟩) := ⟨cell0M h4.1 rfl, cell0M h4.1 rfl, cell0M h4.1 rfl⟩; have H4 := Lib.hid h4; have HK := Lib.hid hK; clear hK hb4 h4)
    | (go_at_call 13; refine (quote_known _).mono ?_; rintro e w5 ⟨rfl, hb5⟩; (try have hl2 := look_run (k := 3) (HK.out.below hb5).map rfl false); have h5 : Chk w w5 3 ⟨#[97]⟩ ⟨#[120, 46, 42]⟩ := (show Chk w _ 3 ⟨#[97]⟩ ⟨#[120, 46, 42]⟩ from by first | exact H4.out | exact H3.out.drew).go hb5; have e0 : w5.cell? ⟨w.heap.size, 0, none⟩ = some (.int .u8 3) ∧ w5.cell? ⟨w.heap.size, 1, none⟩ = some (.string ⟨#[97]⟩) ∧ w5.cell? ⟨w.heap.size, 2, none⟩ = some (.string ⟨#[120, 46, 42]⟩) := ⟨cell0M h5.1 rfl, cell0M h5.1 rfl, cell0M h5.1 rfl⟩; have H5 := Lib.hid h5; clear hb5 h5)
    | fail)
  all_goals (go_wp2_with fail)
  · exact bodyPost_ret (v := .string (⟨#[97]⟩ ++ ⟨#[61, 126]⟩ ++ ⟨#[34, 120, 46, 42, 34]⟩)) (by simp [results, Tryd.results8, go_sem]) rfl ⟨rfl, by first | exact H5.out.2 | exact H4.out.2⟩
  · exact bodyPost_ret (v := .string (⟨#[97]⟩ ++ ⟨#[61, 126]⟩ ++ ⟨#[34, 120, 46, 42, 34]⟩)) (by simp [results, Tryd.results8, go_sem]) rfl ⟨rfl, by first | exact H5.out.2 | exact H4.out.2⟩
set_option maxHeartbeats 4000000 in
set_option maxRecDepth 100000 in
theorem index_none (f : Value) (w : World) : Calls Tryd.prog 25 #[.slice none 0 0, f] w fun e w' => e = .returned (.int .i64 (-1)) ∧ w' = w := by
  go_enter Tryd.func25, Tryd.ntmps25
  go_wp2_with fail
  go_loopw [8] (fun i wr => i = .int .i64 0 ∧ wr = w) (fun _ _ => 0)
  case atStart => exact ⟨rfl, rfl⟩
  case round =>
    obtain ⟨rfl, rfl⟩ := hrel
    go_wp2_with fail
    go_ret
    exact ⟨rfl, rfl⟩
set_option maxHeartbeats 4000000 in
set_option maxRecDepth 100000 in
theorem all_none (w : World) : Calls Tryd.prog 9 #[.slice none 0 0, .slice none 0 0] w fun e w' => e = .returned (.bool true) ∧ Below w.heap.size w w' := by
  have hmf : ∀ (fn : Fn) (first cap : Array Value) (w : World), (Instr.makeFunc fn first cap).run Tryd.prog w = .ok (.func fn first cap) w := fun _ _ _ _ => rfl
  go_enter Tryd.func9, Tryd.ntmps9
  go_wp2_with (first | (go_at_call 25; refine (index_none _ _).mono ?_; rintro e w2 ⟨rfl, rfl⟩) | go_in | fail)
  exact bodyPost_ret (v := .bool true) (by simp [results, Tryd.results9, go_sem]) rfl ⟨rfl, (Below.refl _ _).alloc (Nat.le_refl _) _⟩
end Go.Proofs.YtamlnkmcbbeicaaDoor
namespace Go.Proofs.YtamlnkmcbbeicaaDoor
open Go.RowKit Go.Lib

theorem store_nil (a : Addr) (m : Mode) (w : World) : (store a .nilFunc m).run Tryd.prog w = stored Tryd.prog w a .nilFunc m := run_store Tryd.prog w a _ m rfl
theorem find_none {k : Int} (hk : k ≠ 1 ∧ k ≠ 2 ∧ k ≠ 3 ∧ k ≠ 4) (f2 f4 : Value) : Instr.findNow (.int .u8) (.int .u8 k) (kindsM f2 f4).toList 0 = some none := by
  obtain ⟨h1, h2, h3, h4⟩ := hk
  have e1 : (k == 1) = false := by simpa using h1
  have e2 : (k == 2) = false := by simpa using h2
  have e3 : (k == 3) = false := by simpa using h3
  have e4 : (k == 4) = false := by simpa using h4
  simp [kindsM, Instr.findNow, Instr.sameNow, e1, e2, e3, e4]
set_option maxHeartbeats 4000000 in
set_option maxRecDepth 100000 in
theorem check_other (k : Int) (hk : k ≠ 1 ∧ k ≠ 2 ∧ k ≠ 3 ∧ k ≠ 4) (n v : ByteArray) (w : World) : Calls Tryd.prog 5 #[mv k n v] w fun e w' => e = .returned (.int .u16 90) ∧ Below w.heap.size w w' := by
  have H1 := Lib.hid (show Chk w _ k n v from ⟨(MapKept.heap_alloc w (.cells #[.int .u8 k, .string n, .string v] 24)).1, (Below.refl _ _).alloc (Nat.le_refl _) _⟩)
  have hsf := @store_nil
  have HN := Lib.hid hk
  clear hk
  unfold mv
  go_enter Tryd.func5, Tryd.ntmps5
  go_wp2_with fail
  go_upto_region 1 with (fail)
  go_cut [3, 4] from 8 (fun s3 s4 wc => s4 = .bool false ∧ Chk w wc k n v)
  case first =>
    as_aux_lemma =>
      go_region_with (first | (go_at_call 10; refine (kinds_any _).mono ?_; rintro e w2 ⟨g, b2, b4, rfl, hK, hb⟩; have hl := look_none (k := k) hK.map (find_none HN.out _ _); have hl2 := fun o => look_none (k := k) (keepA (x := o) hK.map) (find_none HN.out _ _); (try unfold notV at hl hl2); have h2 : Chk w w2 k n v := (show Chk w _ k n v from by first | exact H1.out.drew | exact H1.out.drew.alloc _).go hb; have c0 := cell0M (i := 0) h2.1 rfl; (try (have h3 := keepM hb (alloc2_at w _ _); have d0 := cell0M (i := 0) h3 rfl; have d1 := cell0M (i := 1) h3 rfl; have e0 := froz0M (i := 0) h3; have e1 := froz0M (i := 1) h3)); have hlt2 := (Array.getElem?_eq_some_iff.1 h2.1).1; have HK := Lib.hid h2; clear hK hb h2) | fail)
      all_goals go_wp2_with fail
      all_goals go_meet
      all_goals (first | exact ⟨rfl, HK.out.alloc _⟩ | exact ⟨rfl, (HK.out.set _ _).set _ _⟩)
  case rest =>
    obtain ⟨rfl, hC⟩ := hcut
    have HC := Lib.hid hC
    clear hC H1 hsf
    go_wp2_with fail
    exact bodyPost_ret (v := .int .u16 90) (by simp [results, Tryd.results5, go_sem]) rfl ⟨rfl, HC.out.2⟩
end Go.Proofs.YtamlnkmcbbeicaaDoor
namespace Go.Proofs.YtamlnkmcbbeicaaDoor
open Go.RowKit Go.Lib

def nmK : ByteArray := ⟨#[97]⟩
def paK : ByteArray := ⟨#[120, 46, 42]⟩
theorem is_xyz : isM 3 ⟨#[97]⟩ ⟨#[120, 46, 42]⟩ ⟨#[120, 121, 122]⟩ = true := by
  unfold isM
  rw [code_known]
  rfl
theorem is_empty : isM 3 ⟨#[97]⟩ ⟨#[120, 46, 42]⟩ ⟨#[]⟩ = false := by
  unfold isM
  rw [code_known]
  rfl
theorem is_known (w : World) : Calls Tryd.prog 6 #[.agg #[.int .u8 3, .string ⟨#[97]⟩, .string ⟨#[120, 46, 42]⟩], .string ⟨#[120, 121, 122]⟩] w fun e w' => e = .returned (.bool true) ∧ Below w.heap.size w w' :=
  (is_three ⟨#[97]⟩ ⟨#[120, 46, 42]⟩ ⟨#[120, 121, 122]⟩ w (by decide)).mono fun _ _ h => ⟨by rw [h.1, is_xyz], h.2⟩
set_option maxHeartbeats 4000000 in
set_option maxRecDepth 100000 in
theorem empty_known (w : World) : Calls Tryd.prog 7 #[.agg #[.int .u8 3, .string ⟨#[97]⟩, .string ⟨#[120, 46, 42]⟩]] w fun e w' => e = .returned (.bool false) ∧ Below w.heap.size w w' := by
  have hI : ∀ w, Calls Tryd.prog 6 #[.agg #[.int .u8 3, .string ⟨#[97]⟩, .string ⟨#[120, 46, 42]⟩], .string ⟨#[]⟩] w fun e w' => e = .returned (.bool false) ∧ Below w.heap.size w w' := fun w =>
    (is_three ⟨#[97]⟩ ⟨#[120, 46, 42]⟩ ⟨#[]⟩ w (by decide)).mono fun _ _ h => ⟨by rw [h.1, is_empty], h.2⟩
  have HI := Lib.hid hI
  clear hI
  have hb1 : Below w.heap.size w (w.alloc (.cells #[.int .u8 3, .string ⟨#[97]⟩, .string ⟨#[120, 46, 42]⟩] 24)) := (Below.refl _ _).alloc (Nat.le_refl _) _
  have H1 := Lib.hid hb1
  clear hb1
  go_enter Tryd.func7, Tryd.ntmps7
  go_wp2_with (first | (go_at_call 6; refine (HI.out _).mono ?_; rintro e w2 ⟨rfl, hb2⟩; have H2 := Lib.hid (H1.out.trans (hb2.mono H1.out.size)); clear hb2) | fail)
  exact bodyPost_ret (v := .bool false) (by simp [results, Tryd.results7, go_sem]) rfl ⟨rfl, H2.out⟩
theorem check_known (w : World) : Calls Tryd.prog 5 #[.agg #[.int .u8 5, .string ⟨#[97]⟩, .string ⟨#[]⟩]] w fun e w' => e = .returned (.int .u16 90) ∧ Below w.heap.size w w' :=
  check_other 5 (by decide) ⟨#[97]⟩ ⟨#[]⟩ w
set_option maxHeartbeats 4000000 in
set_option maxRecDepth 100000 in
theorem known_any (w : World) : Calls Tryd.prog 4 #[] w fun e w' => e = .returned (.bool true) ∧ Below w.heap.size w w' := by
  have H1 := Lib.hid (show Chk w _ 3 ⟨#[97]⟩ ⟨#[120, 46, 42]⟩ from ⟨(MapKept.heap_alloc w (.cells #[.int .u8 3, .string ⟨#[97]⟩, .string ⟨#[120, 46, 42]⟩] 24)).1, (Below.refl _ _).alloc (Nat.le_refl _) _⟩)
  go_enter Tryd.func4, Tryd.ntmps4
  go_wp2_with (first
    | (go_at_call 6; refine (is_known _).mono ?_; rintro e w2 ⟨rfl, hb2⟩; have h2 := H1.out.go hb2; have c0 := cell0M (i := 0) (v := .int .u8 3) h2.1 rfl; have c1 := cell0M (i := 1) (v := .string ⟨#[97]⟩) h2.1 rfl; have c2 := cell0M (i := 2) (v := .string ⟨#[120, 46, 42]⟩) h2.1 rfl; have H2 := Lib.hid h2; clear hb2 h2)
    | (go_at_call 7; refine (empty_known _).mono ?_; rintro e w3 ⟨rfl, hb3⟩; have h3 := H2.out.go hb3; have d0 := cell0M (i := 0) (v := .int .u8 3) h3.1 rfl; have d1 := cell0M (i := 1) (v := .string ⟨#[97]⟩) h3.1 rfl; have d2 := cell0M (i := 2) (v := .string ⟨#[120, 46, 42]⟩) h3.1 rfl; have H3 := Lib.hid h3; clear hb3 h3)
    | (go_at_call 8; refine (print_known _).mono ?_; rintro e w4 ⟨rfl, hb4⟩; have H4 := Lib.hid (H3.out.go hb4); clear hb4)
    | (go_at_call 5; refine (check_known _).mono ?_; rintro e w5 ⟨rfl, hb5⟩; have H5 := Lib.hid (H4.out.go hb5); clear hb5)
    | (go_at_call 9; refine (all_none _).mono ?_; rintro e w6 ⟨rfl, hb6⟩; have H6 := Lib.hid (H5.out.go hb6); clear hb6)
    | fail)
  exact bodyPost_ret (v := .bool true) (by simp [results, Tryd.results4, go_sem]) rfl ⟨rfl, H6.out.2⟩
end Go.Proofs.YtamlnkmcbbeicaaDoor
