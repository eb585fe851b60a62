/- Matchers: Is. -/
import Derived.Test.YtamlnkmcbbeicaaDoorMtCheck
namespace Go.Proofs.YtamlnkmcbbeicaaDoor
open Go.RowKit Go.Lib

/-- Does a value fit? -/
def fitsM (k : Int) (v s : ByteArray) : Bool := if k = 1 then eqT v s else if k = 2 then !eqT v s else if k = 3 then fitB v s else !fitB v s
def isM (k : Int) (n v s : ByteArray) : Bool := codeM k n v == 0 && fitsM k v s
theorem kind_is (f : Fn) (x y : Array Value) (sg : ByteArray) (w : World) : (Instr.field 35 (.agg #[.func f x y, .string sg]) 0).run Tryd.prog w = .ok (.func f x y) w := by kernel_rfl
theorem kind_sign (f : Fn) (x y : Array Value) (sg : ByteArray) (w : World) : (Instr.field 35 (.agg #[.func f x y, .string sg]) 1).run Tryd.prog w = .ok (.string sg) w := by kernel_rfl
theorem err_cases (v : ByteArray) : errV v = 0 ∨ errV v = 80 ∨ errV v = 81 := by
  unfold errV
  by_cases h : v.size ≤ 500
  · rw [if_pos h]
    cases hr : RX.readRx v.data.toList with
    | ok t g => exact .inl rfl
    | bad x a => exact .inr (rd_bad hr)
  · rw [if_neg h]; exact .inr (.inr rfl)
theorem code_cases (k : Int) (n v : ByteArray) : codeM k n v = 0 ∨ codeM k n v = 80 ∨ codeM k n v = 81 ∨ codeM k n v = 90 := by
  unfold codeM
  split
  · split
    · rcases err_cases v with h | h | h
      · exact .inl h
      · exact .inr (.inl h)
      · exact .inr (.inr (.inl h))
    · exact .inl rfl
  · exact .inr (.inr (.inr rfl))
set_option maxHeartbeats 4000000 in
set_option maxRecDepth 100000 in
theorem is_one (n v s : ByteArray) (w : World) (hs : s.size ≤ 50000) : Calls Tryd.prog 6 #[mv 1 n v, .string s] w fun e w' => e = .returned (.bool (isM 1 n v s)) ∧ Below w.heap.size w w' := by
  have H1 := Lib.hid (show Chk w _ 1 n v from ⟨(MapKept.heap_alloc w (.cells #[.int .u8 1, .string n, .string v] 24)).1, (Below.refl _ _).alloc (Nat.le_refl _) _⟩)
  have hfi := kind_is
  have HS := Lib.hid hs
  clear hs
  have hCK := fun w => check_one n v w
  have hlt1 : w.heap.size < (w.alloc (.cells #[.int .u8 1, .string n, .string v] 24)).heap.size := (Array.getElem?_eq_some_iff.1 H1.out.1).1
  by_cases h0 : codeM 1 n v = 0
  · have HR := Lib.hid (show isM 1 n v s = (eqT v s) by unfold isM; rw [h0]; rfl)
    rw [h0] at hCK
    have HCK := Lib.hid hCK
    clear hCK h0
    unfold mv
    go_enter Tryd.func6, Tryd.ntmps6
    go_wp2_with fail
    go_region_with (first
      | (go_at_call 5; refine (HCK.out _).mono ?_; rintro e w3 ⟨rfl, hb3⟩; have h3 : Chk w w3 1 n v := (show Chk w _ 1 n v from H1.out.drew).go hb3; have c0 := cell0M (i := 0) (v := .int .u8 1) h3.1 rfl; have c1 := cell0M (i := 1) (v := .string n) h3.1 rfl; have c2 := cell0M (i := 2) (v := .string v) h3.1 rfl; have H3 := Lib.hid h3; clear hb3 h3)
      | (go_at_call 10; refine (kinds_any _).mono ?_; rintro e w4 ⟨g, b2, b4, rfl, hK, hb4⟩; have hl := look_run (k := 1) hK.map rfl false; (try unfold notV at hl); have h4 := H3.out.go hb4; have d0 := cell0M (i := 0) (v := .int .u8 1) h4.1 rfl; have d1 := cell0M (i := 1) (v := .string n) h4.1 rfl; have d2 := cell0M (i := 2) (v := .string v) h4.1 rfl; have HK := Lib.hid (show _ ∧ _ from ⟨hK, h4⟩); clear hK hb4 h4)
      | (go_at_call 17; refine (same_any 1 n v s _).mono ?_; rintro e w5 ⟨rfl, hb5⟩; have H5 := Lib.hid (HK.out.2.go hb5); clear hb5)
      | fail)
    all_goals go_wp2_with fail
    all_goals exact bodyPost_ret (v := .bool (eqT v s)) (by simp [results, Tryd.results6, go_sem]) rfl ⟨by rw [HR.out], H5.out.2⟩
  · have HR := Lib.hid (show isM 1 n v s = false by unfold isM; rw [show (codeM 1 n v == 0) = false by simpa using h0]; rfl)
    clear hfi
    rcases code_cases 1 n v with hx | hx | hx | hx
    · exact absurd hx h0
    all_goals (
    rw [hx] at hCK
    have HCK := Lib.hid hCK
    clear hCK hx h0
    unfold mv
    go_enter Tryd.func6, Tryd.ntmps6
    go_wp2_with fail
    refine wp_region_any (by kernel_rfl) ?_
    change wpAny _ _ _ _ _ _ _ (World.drew _)
    refine wpAny_ready (rs := [0]) (by kernel_rfl) (by simp) ?_
    refine AllReady.cons rfl (fun K hK => ?_) AllReady.nil
    go_simp
    refine hK _ _ ?_
    clear hK K
    refine wpAny_ready (rs := [1]) (by kernel_rfl) (by simp) ?_
    refine AllReady.cons rfl (fun K hK => ?_) AllReady.nil
    go_simp
    (go_at_call 5; refine (HCK.out _).mono ?_; rintro e w3 ⟨rfl, hb3⟩; have H3 := Lib.hid ((show Chk w _ 1 n v from H1.out.drew).go hb3); clear hb3)
    go_wp2_with fail
    refine wpAny_take (i := 2) (v := .bool false) rfl (by kernel_rfl) (by kernel_rfl) (by kernel_rfl) (fun _ _ _ h => h) (Or.inl ⟨by rfl, ?_⟩) ?_
    · intro w; go_simp; try with_reducible rfl
    simp only [Act.put, List.getElem_toArray, List.getElem_cons_zero, List.getElem_cons_succ, List.setIfInBounds_toArray, List.set_cons_zero, List.set_cons_succ]
    refine wpAny_take (i := 3) (v := .bool false) rfl (by kernel_rfl) (by kernel_rfl) (by kernel_rfl) (fun _ _ _ h => h) (Or.inl ⟨by rfl, ?_⟩) ?_
    · intro w; go_simp; try with_reducible rfl
    simp only [Act.put, List.getElem_toArray, List.getElem_cons_zero, List.getElem_cons_succ, List.setIfInBounds_toArray, List.set_cons_zero, List.set_cons_succ]
    refine wpAny_take (i := 4) (v := undef) rfl (by kernel_rfl) (by kernel_rfl) (by kernel_rfl) (fun _ _ _ h => h) (Or.inr ⟨by rfl, rfl⟩) ?_
    simp only [Act.put, List.getElem_toArray, List.getElem_cons_zero, List.getElem_cons_succ, List.setIfInBounds_toArray, List.set_cons_zero, List.set_cons_succ]
    refine wpAny_take (i := 5) (v := undef) rfl (by kernel_rfl) (by kernel_rfl) (by kernel_rfl) (fun _ _ _ h => h) (Or.inr ⟨by rfl, rfl⟩) ?_
    simp only [Act.put, List.getElem_toArray, List.getElem_cons_zero, List.getElem_cons_succ, List.setIfInBounds_toArray, List.set_cons_zero, List.set_cons_succ]
    refine wpAny_take (i := 6) (v := undef) rfl (by kernel_rfl) (by kernel_rfl) (by kernel_rfl) (fun _ _ _ h => h) (Or.inr ⟨by rfl, rfl⟩) ?_
    simp only [Act.put, List.getElem_toArray, List.getElem_cons_zero, List.getElem_cons_succ, List.setIfInBounds_toArray, List.set_cons_zero, List.set_cons_succ]
    refine wpAny_take (i := 7) (v := undef) rfl (by kernel_rfl) (by kernel_rfl) (by kernel_rfl) (fun _ _ _ h => h) (Or.inr ⟨by rfl, rfl⟩) ?_
    simp only [Act.put, List.getElem_toArray, List.getElem_cons_zero, List.getElem_cons_succ, List.setIfInBounds_toArray, List.set_cons_zero, List.set_cons_succ]
    refine wpAny_take (i := 8) (v := undef) rfl (by kernel_rfl) (by kernel_rfl) (by kernel_rfl) (fun _ _ _ h => h) (Or.inr ⟨by rfl, rfl⟩) ?_
    simp only [Act.put, List.getElem_toArray, List.getElem_cons_zero, List.getElem_cons_succ, List.setIfInBounds_toArray, List.set_cons_zero, List.set_cons_succ]
    refine wpAny_take (i := 9) (v := undef) rfl (by kernel_rfl) (by kernel_rfl) (by kernel_rfl) (fun _ _ _ h => h) (Or.inr ⟨by rfl, rfl⟩) ?_
    simp only [Act.put, List.getElem_toArray, List.getElem_cons_zero, List.getElem_cons_succ, List.setIfInBounds_toArray, List.set_cons_zero, List.set_cons_succ]
    refine wpAny_take (i := 10) (v := undef) rfl (by kernel_rfl) (by kernel_rfl) (by kernel_rfl) (fun _ _ _ h => h) (Or.inr ⟨by rfl, rfl⟩) ?_
    simp only [Act.put, List.getElem_toArray, List.getElem_cons_zero, List.getElem_cons_succ, List.setIfInBounds_toArray, List.set_cons_zero, List.set_cons_succ]
    refine wpAny_take (i := 11) (v := undef) rfl (by kernel_rfl) (by kernel_rfl) (by kernel_rfl) (fun _ _ _ h => h) (Or.inr ⟨by rfl, rfl⟩) ?_
    simp only [Act.put, List.getElem_toArray, List.getElem_cons_zero, List.getElem_cons_succ, List.setIfInBounds_toArray, List.set_cons_zero, List.set_cons_succ]
    refine wpAny_take (i := 12) (v := .bool false) rfl (by kernel_rfl) (by kernel_rfl) (by kernel_rfl) (fun _ _ _ h => h) (Or.inl ⟨by rfl, ?_⟩) ?_
    · intro w; go_simp; try with_reducible rfl
    simp only [Act.put, List.getElem_toArray, List.getElem_cons_zero, List.getElem_cons_succ, List.setIfInBounds_toArray, List.set_cons_zero, List.set_cons_succ]
    refine wpAny_take (i := 13) (v := .bool false) rfl (by kernel_rfl) (by kernel_rfl) (by kernel_rfl) (fun _ _ _ h => h) (Or.inl ⟨by rfl, ?_⟩) ?_
    · intro w; go_simp; try with_reducible rfl
    simp only [Act.put, List.getElem_toArray, List.getElem_cons_zero, List.getElem_cons_succ, List.setIfInBounds_toArray, List.set_cons_zero, List.set_cons_succ]
    refine wpAny_done (by kernel_rfl) ?_ _
    all_goals (go_wp2_with fail)
    all_goals exact bodyPost_ret (v := .bool false) (by simp [results, Tryd.results6, go_sem]) rfl ⟨by rw [HR.out], H3.out.2⟩)
set_option maxHeartbeats 4000000 in
set_option maxRecDepth 100000 in
theorem is_two (n v s : ByteArray) (w : World) (hs : s.size ≤ 50000) : Calls Tryd.prog 6 #[mv 2 n v, .string s] w fun e w' => e = .returned (.bool (isM 2 n v s)) ∧ Below w.heap.size w w' := by
  have H1 := Lib.hid (show Chk w _ 2 n v from ⟨(MapKept.heap_alloc w (.cells #[.int .u8 2, .string n, .string v] 24)).1, (Below.refl _ _).alloc (Nat.le_refl _) _⟩)
  have hfi := kind_is
  have HS := Lib.hid hs
  clear hs
  have hCK := fun w => check_two n v w
  have hlt1 : w.heap.size < (w.alloc (.cells #[.int .u8 2, .string n, .string v] 24)).heap.size := (Array.getElem?_eq_some_iff.1 H1.out.1).1
  by_cases h0 : codeM 2 n v = 0
  · have HR := Lib.hid (show isM 2 n v s = (!eqT v s) by unfold isM; rw [h0]; rfl)
    rw [h0] at hCK
    have HCK := Lib.hid hCK
    clear hCK h0
    unfold mv
    go_enter Tryd.func6, Tryd.ntmps6
    go_wp2_with fail
    go_region_with (first
      | (go_at_call 5; refine (HCK.out _).mono ?_; rintro e w3 ⟨rfl, hb3⟩; have h3 : Chk w w3 2 n v := (show Chk w _ 2 n v from H1.out.drew).go hb3; have c0 := cell0M (i := 0) (v := .int .u8 2) h3.1 rfl; have c1 := cell0M (i := 1) (v := .string n) h3.1 rfl; have c2 := cell0M (i := 2) (v := .string v) h3.1 rfl; have H3 := Lib.hid h3; clear hb3 h3)
      | (go_at_call 10; refine (kinds_any _).mono ?_; rintro e w4 ⟨g, b2, b4, rfl, hK, hb4⟩; have hl := look_run (k := 2) hK.map rfl false; (try unfold notV at hl); have h4 := H3.out.go hb4; have d0 := cell0M (i := 0) (v := .int .u8 2) h4.1 rfl; have d1 := cell0M (i := 1) (v := .string n) h4.1 rfl; have d2 := cell0M (i := 2) (v := .string v) h4.1 rfl; have HK := Lib.hid (show _ ∧ _ from ⟨hK, h4⟩); clear hK hb4 h4)
      | (go_at_call 26; refine (not_same b2 2 n v s (eqT v s) _ HK.out.1.f2 (fun w' _ => same_any 2 n v s w')).mono ?_; rintro e w5 ⟨rfl, hb5⟩; have H5 := Lib.hid (HK.out.2.go hb5); clear hb5)
      | fail)
    all_goals go_wp2_with fail
    all_goals exact bodyPost_ret (v := .bool (!eqT v s)) (by simp [results, Tryd.results6, go_sem]) rfl ⟨by rw [HR.out], H5.out.2⟩
  · have HR := Lib.hid (show isM 2 n v s = false by unfold isM; rw [show (codeM 2 n v == 0) = false by simpa using h0]; rfl)
    clear hfi
    rcases code_cases 2 n v with hx | hx | hx | hx
    · exact absurd hx h0
    all_goals (
    rw [hx] at hCK
    have HCK := Lib.hid hCK
    clear hCK hx h0
    unfold mv
    go_enter Tryd.func6, Tryd.ntmps6
    go_wp2_with fail
    refine wp_region_any (by kernel_rfl) ?_
    change wpAny _ _ _ _ _ _ _ (World.drew _)
    refine wpAny_ready (rs := [0]) (by kernel_rfl) (by simp) ?_
    refine AllReady.cons rfl (fun K hK => ?_) AllReady.nil
    go_simp
    refine hK _ _ ?_
    clear hK K
    refine wpAny_ready (rs := [1]) (by kernel_rfl) (by simp) ?_
    refine AllReady.cons rfl (fun K hK => ?_) AllReady.nil
    go_simp
    (go_at_call 5; refine (HCK.out _).mono ?_; rintro e w3 ⟨rfl, hb3⟩; have H3 := Lib.hid ((show Chk w _ 2 n v from H1.out.drew).go hb3); clear hb3)
    go_wp2_with fail
    refine wpAny_take (i := 2) (v := .bool false) rfl (by kernel_rfl) (by kernel_rfl) (by kernel_rfl) (fun _ _ _ h => h) (Or.inl ⟨by rfl, ?_⟩) ?_
    · intro w; go_simp; try with_reducible rfl
    simp only [Act.put, List.getElem_toArray, List.getElem_cons_zero, List.getElem_cons_succ, List.setIfInBounds_toArray, List.set_cons_zero, List.set_cons_succ]
    refine wpAny_take (i := 3) (v := .bool false) rfl (by kernel_rfl) (by kernel_rfl) (by kernel_rfl) (fun _ _ _ h => h) (Or.inl ⟨by rfl, ?_⟩) ?_
    · intro w; go_simp; try with_reducible rfl
    simp only [Act.put, List.getElem_toArray, List.getElem_cons_zero, List.getElem_cons_succ, List.setIfInBounds_toArray, List.set_cons_zero, List.set_cons_succ]
    refine wpAny_take (i := 4) (v := undef) rfl (by kernel_rfl) (by kernel_rfl) (by kernel_rfl) (fun _ _ _ h => h) (Or.inr ⟨by rfl, rfl⟩) ?_
    simp only [Act.put, List.getElem_toArray, List.getElem_cons_zero, List.getElem_cons_succ, List.setIfInBounds_toArray, List.set_cons_zero, List.set_cons_succ]
    refine wpAny_take (i := 5) (v := undef) rfl (by kernel_rfl) (by kernel_rfl) (by kernel_rfl) (fun _ _ _ h => h) (Or.inr ⟨by rfl, rfl⟩) ?_
    simp only [Act.put, List.getElem_toArray, List.getElem_cons_zero, List.getElem_cons_succ, List.setIfInBounds_toArray, List.set_cons_zero, List.set_cons_succ]
    refine wpAny_take (i := 6) (v := undef) rfl (by kernel_rfl) (by kernel_rfl) (by kernel_rfl) (fun _ _ _ h => h) (Or.inr ⟨by rfl, rfl⟩) ?_
    simp only [Act.put, List.getElem_toArray, List.getElem_cons_zero, List.getElem_cons_succ, List.setIfInBounds_toArray, List.set_cons_zero, List.set_cons_succ]
    refine wpAny_take (i := 7) (v := undef) rfl (by kernel_rfl) (by kernel_rfl) (by kernel_rfl) (fun _ _ _ h => h) (Or.inr ⟨by rfl, rfl⟩) ?_
    simp only [Act.put, List.getElem_toArray, List.getElem_cons_zero, List.getElem_cons_succ, List.setIfInBounds_toArray, List.set_cons_zero, List.set_cons_succ]
    refine wpAny_take (i := 8) (v := undef) rfl (by kernel_rfl) (by kernel_rfl) (by kernel_rfl) (fun _ _ _ h => h) (Or.inr ⟨by rfl, rfl⟩) ?_
    simp only [Act.put, List.getElem_toArray, List.getElem_cons_zero, List.getElem_cons_succ, List.setIfInBounds_toArray, List.set_cons_zero, List.set_cons_succ]
    refine wpAny_take (i := 9) (v := undef) rfl (by kernel_rfl) (by kernel_rfl) (by kernel_rfl) (fun _ _ _ h => h) (Or.inr ⟨by rfl, rfl⟩) ?_
    simp only [Act.put, List.getElem_toArray, List.getElem_cons_zero, List.getElem_cons_succ, List.setIfInBounds_toArray, List.set_cons_zero, List.set_cons_succ]
    refine wpAny_take (i := 10) (v := undef) rfl (by kernel_rfl) (by kernel_rfl) (by kernel_rfl) (fun _ _ _ h => h) (Or.inr ⟨by rfl, rfl⟩) ?_
    simp only [Act.put, List.getElem_toArray, List.getElem_cons_zero, List.getElem_cons_succ, List.setIfInBounds_toArray, List.set_cons_zero, List.set_cons_succ]
    refine wpAny_take (i := 11) (v := undef) rfl (by kernel_rfl) (by kernel_rfl) (by kernel_rfl) (fun _ _ _ h => h) (Or.inr ⟨by rfl, rfl⟩) ?_
    simp only [Act.put, List.getElem_toArray, List.getElem_cons_zero, List.getElem_cons_succ, List.setIfInBounds_toArray, List.set_cons_zero, List.set_cons_succ]
    refine wpAny_take (i := 12) (v := .bool false) rfl (by kernel_rfl) (by kernel_rfl) (by kernel_rfl) (fun _ _ _ h => h) (Or.inl ⟨by rfl, ?_⟩) ?_
    · intro w; go_simp; try with_reducible rfl
    simp only [Act.put, List.getElem_toArray, List.getElem_cons_zero, List.getElem_cons_succ, List.setIfInBounds_toArray, List.set_cons_zero, List.set_cons_succ]
    refine wpAny_take (i := 13) (v := .bool false) rfl (by kernel_rfl) (by kernel_rfl) (by kernel_rfl) (fun _ _ _ h => h) (Or.inl ⟨by rfl, ?_⟩) ?_
    · intro w; go_simp; try with_reducible rfl
    simp only [Act.put, List.getElem_toArray, List.getElem_cons_zero, List.getElem_cons_succ, List.setIfInBounds_toArray, List.set_cons_zero, List.set_cons_succ]
    refine wpAny_done (by kernel_rfl) ?_ _
    all_goals (go_wp2_with fail)
    all_goals exact bodyPost_ret (v := .bool false) (by simp [results, Tryd.results6, go_sem]) rfl ⟨by rw [HR.out], H3.out.2⟩)
set_option maxHeartbeats 4000000 in
set_option maxRecDepth 100000 in
theorem is_three (n v s : ByteArray) (w : World) (hs : s.size ≤ 50000) : Calls Tryd.prog 6 #[mv 3 n v, .string s] w fun e w' => e = .returned (.bool (isM 3 n v s)) ∧ Below w.heap.size w w' := by
  have H1 := Lib.hid (show Chk w _ 3 n v from ⟨(MapKept.heap_alloc w (.cells #[.int .u8 3, .string n, .string v] 24)).1, (Below.refl _ _).alloc (Nat.le_refl _) _⟩)
  have hfi := kind_is
  have HS := Lib.hid hs
  clear hs
  have hCK := fun w => check_three n v w
  have hlt1 : w.heap.size < (w.alloc (.cells #[.int .u8 3, .string n, .string v] 24)).heap.size := (Array.getElem?_eq_some_iff.1 H1.out.1).1
  by_cases h0 : codeM 3 n v = 0
  · have HR := Lib.hid (show isM 3 n v s = (fitB v s) by unfold isM; rw [h0]; rfl)
    rw [h0] at hCK
    have HCK := Lib.hid hCK
    clear hCK h0
    unfold mv
    go_enter Tryd.func6, Tryd.ntmps6
    go_wp2_with fail
    go_region_with (first
      | (go_at_call 5; refine (HCK.out _).mono ?_; rintro e w3 ⟨rfl, hb3⟩; have h3 : Chk w w3 3 n v := (show Chk w _ 3 n v from H1.out.drew).go hb3; have c0 := cell0M (i := 0) (v := .int .u8 3) h3.1 rfl; have c1 := cell0M (i := 1) (v := .string n) h3.1 rfl; have c2 := cell0M (i := 2) (v := .string v) h3.1 rfl; have H3 := Lib.hid h3; clear hb3 h3)
      | (go_at_call 10; refine (kinds_any _).mono ?_; rintro e w4 ⟨g, b2, b4, rfl, hK, hb4⟩; have hl := look_run (k := 3) hK.map rfl false; (try unfold notV at hl); have h4 := H3.out.go hb4; have d0 := cell0M (i := 0) (v := .int .u8 3) h4.1 rfl; have d1 := cell0M (i := 1) (v := .string n) h4.1 rfl; have d2 := cell0M (i := 2) (v := .string v) h4.1 rfl; have HK := Lib.hid (show _ ∧ _ from ⟨hK, h4⟩); clear hK hb4 h4)
      | (go_at_call 19; refine (pattern_any 3 n v s _ HS.out).mono ?_; rintro e w5 ⟨rfl, hb5⟩; have H5 := Lib.hid (HK.out.2.go hb5); clear hb5)
      | fail)
    all_goals go_wp2_with fail
    all_goals exact bodyPost_ret (v := .bool (fitB v s)) (by simp [results, Tryd.results6, go_sem]) rfl ⟨by rw [HR.out], H5.out.2⟩
  · have HR := Lib.hid (show isM 3 n v s = false by unfold isM; rw [show (codeM 3 n v == 0) = false by simpa using h0]; rfl)
    clear hfi
    rcases code_cases 3 n v with hx | hx | hx | hx
    · exact absurd hx h0
    all_goals (
    rw [hx] at hCK
    have HCK := Lib.hid hCK
    clear hCK hx h0
    unfold mv
    go_enter Tryd.func6, Tryd.ntmps6
    go_wp2_with fail
    refine wp_region_any (by kernel_rfl) ?_
    change wpAny _ _ _ _ _ _ _ (World.drew _)
    refine wpAny_ready (rs := [0]) (by kernel_rfl) (by simp) ?_
    refine AllReady.cons rfl (fun K hK => ?_) AllReady.nil
    go_simp
    refine hK _ _ ?_
    clear hK K
    refine wpAny_ready (rs := [1]) (by kernel_rfl) (by simp) ?_
    refine AllReady.cons rfl (fun K hK => ?_) AllReady.nil
    go_simp
    (go_at_call 5; refine (HCK.out _).mono ?_; rintro e w3 ⟨rfl, hb3⟩; have H3 := Lib.hid ((show Chk w _ 3 n v from H1.out.drew).go hb3); clear hb3)
    go_wp2_with fail
    refine wpAny_take (i := 2) (v := .bool false) rfl (by kernel_rfl) (by kernel_rfl) (by kernel_rfl) (fun _ _ _ h => h) (Or.inl ⟨by rfl, ?_⟩) ?_
    · intro w; go_simp; try with_reducible rfl
    simp only [Act.put, List.getElem_toArray, List.getElem_cons_zero, List.getElem_cons_succ, List.setIfInBounds_toArray, List.set_cons_zero, List.set_cons_succ]
    refine wpAny_take (i := 3) (v := .bool false) rfl (by kernel_rfl) (by kernel_rfl) (by kernel_rfl) (fun _ _ _ h => h) (Or.inl ⟨by rfl, ?_⟩) ?_
    · intro w; go_simp; try with_reducible rfl
    simp only [Act.put, List.getElem_toArray, List.getElem_cons_zero, List.getElem_cons_succ, List.setIfInBounds_toArray, List.set_cons_zero, List.set_cons_succ]
    refine wpAny_take (i := 4) (v := undef) rfl (by kernel_rfl) (by kernel_rfl) (by kernel_rfl) (fun _ _ _ h => h) (Or.inr ⟨by rfl, rfl⟩) ?_
    simp only [Act.put, List.getElem_toArray, List.getElem_cons_zero, List.getElem_cons_succ, List.setIfInBounds_toArray, List.set_cons_zero, List.set_cons_succ]
    refine wpAny_take (i := 5) (v := undef) rfl (by kernel_rfl) (by kernel_rfl) (by kernel_rfl) (fun _ _ _ h => h) (Or.inr ⟨by rfl, rfl⟩) ?_
    simp only [Act.put, List.getElem_toArray, List.getElem_cons_zero, List.getElem_cons_succ, List.setIfInBounds_toArray, List.set_cons_zero, List.set_cons_succ]
    refine wpAny_take (i := 6) (v := undef) rfl (by kernel_rfl) (by kernel_rfl) (by kernel_rfl) (fun _ _ _ h => h) (Or.inr ⟨by rfl, rfl⟩) ?_
    simp only [Act.put, List.getElem_toArray, List.getElem_cons_zero, List.getElem_cons_succ, List.setIfInBounds_toArray, List.set_cons_zero, List.set_cons_succ]
    refine wpAny_take (i := 7) (v := undef) rfl (by kernel_rfl) (by kernel_rfl) (by kernel_rfl) (fun _ _ _ h => h) (Or.inr ⟨by rfl, rfl⟩) ?_
    simp only [Act.put, List.getElem_toArray, List.getElem_cons_zero, List.getElem_cons_succ, List.setIfInBounds_toArray, List.set_cons_zero, List.set_cons_succ]
    refine wpAny_take (i := 8) (v := undef) rfl (by kernel_rfl) (by kernel_rfl) (by kernel_rfl) (fun _ _ _ h => h) (Or.inr ⟨by rfl, rfl⟩) ?_
    simp only [Act.put, List.getElem_toArray, List.getElem_cons_zero, List.getElem_cons_succ, List.setIfInBounds_toArray, List.set_cons_zero, List.set_cons_succ]
    refine wpAny_take (i := 9) (v := undef) rfl (by kernel_rfl) (by kernel_rfl) (by kernel_rfl) (fun _ _ _ h => h) (Or.inr ⟨by rfl, rfl⟩) ?_
    simp only [Act.put, List.getElem_toArray, List.getElem_cons_zero, List.getElem_cons_succ, List.setIfInBounds_toArray, List.set_cons_zero, List.set_cons_succ]
    refine wpAny_take (i := 10) (v := undef) rfl (by kernel_rfl) (by kernel_rfl) (by kernel_rfl) (fun _ _ _ h => h) (Or.inr ⟨by rfl, rfl⟩) ?_
    simp only [Act.put, List.getElem_toArray, List.getElem_cons_zero, List.getElem_cons_succ, List.setIfInBounds_toArray, List.set_cons_zero, List.set_cons_succ]
    refine wpAny_take (i := 11) (v := undef) rfl (by kernel_rfl) (by kernel_rfl) (by kernel_rfl) (fun _ _ _ h => h) (Or.inr ⟨by rfl, rfl⟩) ?_
    simp only [Act.put, List.getElem_toArray, List.getElem_cons_zero, List.getElem_cons_succ, List.setIfInBounds_toArray, List.set_cons_zero, List.set_cons_succ]
    refine wpAny_take (i := 12) (v := .bool false) rfl (by kernel_rfl) (by kernel_rfl) (by kernel_rfl) (fun _ _ _ h => h) (Or.inl ⟨by rfl, ?_⟩) ?_
    · intro w; go_simp; try with_reducible rfl
    simp only [Act.put, List.getElem_toArray, List.getElem_cons_zero, List.getElem_cons_succ, List.setIfInBounds_toArray, List.set_cons_zero, List.set_cons_succ]
    refine wpAny_take (i := 13) (v := .bool false) rfl (by kernel_rfl) (by kernel_rfl) (by kernel_rfl) (fun _ _ _ h => h) (Or.inl ⟨by rfl, ?_⟩) ?_
    · intro w; go_simp; try with_reducible rfl
    simp only [Act.put, List.getElem_toArray, List.getElem_cons_zero, List.getElem_cons_succ, List.setIfInBounds_toArray, List.set_cons_zero, List.set_cons_succ]
    refine wpAny_done (by kernel_rfl) ?_ _
    all_goals (go_wp2_with fail)
    all_goals exact bodyPost_ret (v := .bool false) (by simp [results, Tryd.results6, go_sem]) rfl ⟨by rw [HR.out], H3.out.2⟩)
set_option maxHeartbeats 4000000 in
set_option maxRecDepth 100000 in
theorem is_four (n v s : ByteArray) (w : World) (hs : s.size ≤ 50000) : Calls Tryd.prog 6 #[mv 4 n v, .string s] w fun e w' => e = .returned (.bool (isM 4 n v s)) ∧ Below w.heap.size w w' := by
  have H1 := Lib.hid (show Chk w _ 4 n v from ⟨(MapKept.heap_alloc w (.cells #[.int .u8 4, .string n, .string v] 24)).1, (Below.refl _ _).alloc (Nat.le_refl _) _⟩)
  have hfi := kind_is
  have HS := Lib.hid hs
  clear hs
  have hCK := fun w => check_four n v w
  have hlt1 : w.heap.size < (w.alloc (.cells #[.int .u8 4, .string n, .string v] 24)).heap.size := (Array.getElem?_eq_some_iff.1 H1.out.1).1
  by_cases h0 : codeM 4 n v = 0
  · have HR := Lib.hid (show isM 4 n v s = (!fitB v s) by unfold isM; rw [h0]; rfl)
    rw [h0] at hCK
    have HCK := Lib.hid hCK
    clear hCK h0
    unfold mv
    go_enter Tryd.func6, Tryd.ntmps6
    go_wp2_with fail
    go_region_with (first
      | (go_at_call 5; refine (HCK.out _).mono ?_; rintro e w3 ⟨rfl, hb3⟩; have h3 : Chk w w3 4 n v := (show Chk w _ 4 n v from H1.out.drew).go hb3; have c0 := cell0M (i := 0) (v := .int .u8 4) h3.1 rfl; have c1 := cell0M (i := 1) (v := .string n) h3.1 rfl; have c2 := cell0M (i := 2) (v := .string v) h3.1 rfl; have H3 := Lib.hid h3; clear hb3 h3)
      | (go_at_call 10; refine (kinds_any _).mono ?_; rintro e w4 ⟨g, b2, b4, rfl, hK, hb4⟩; have hl := look_run (k := 4) hK.map rfl false; (try unfold notV at hl); have h4 := H3.out.go hb4; have d0 := cell0M (i := 0) (v := .int .u8 4) h4.1 rfl; have d1 := cell0M (i := 1) (v := .string n) h4.1 rfl; have d2 := cell0M (i := 2) (v := .string v) h4.1 rfl; have HK := Lib.hid (show _ ∧ _ from ⟨hK, h4⟩); clear hK hb4 h4)
      | (go_at_call 26; refine (not_pattern b4 4 n v s (fitB v s) _ HK.out.1.f4 (fun w' _ => pattern_any 4 n v s w' HS.out)).mono ?_; rintro e w5 ⟨rfl, hb5⟩; have H5 := Lib.hid (HK.out.2.go hb5); clear hb5)
      | fail)
    all_goals go_wp2_with fail
    all_goals exact bodyPost_ret (v := .bool (!fitB v s)) (by simp [results, Tryd.results6, go_sem]) rfl ⟨by rw [HR.out], H5.out.2⟩
  · have HR := Lib.hid (show isM 4 n v s = false by unfold isM; rw [show (codeM 4 n v == 0) = false by simpa using h0]; rfl)
    clear hfi
    rcases code_cases 4 n v with hx | hx | hx | hx
    · exact absurd hx h0
    all_goals (
    rw [hx] at hCK
    have HCK := Lib.hid hCK
    clear hCK hx h0
    unfold mv
    go_enter Tryd.func6, Tryd.ntmps6
    go_wp2_with fail
    refine wp_region_any (by kernel_rfl) ?_
    change wpAny _ _ _ _ _ _ _ (World.drew _)
    refine wpAny_ready (rs := [0]) (by kernel_rfl) (by simp) ?_
    refine AllReady.cons rfl (fun K hK => ?_) AllReady.nil
    go_simp
    refine hK _ _ ?_
    clear hK K
    refine wpAny_ready (rs := [1]) (by kernel_rfl) (by simp) ?_
    refine AllReady.cons rfl (fun K hK => ?_) AllReady.nil
    go_simp
    (go_at_call 5; refine (HCK.out _).mono ?_; rintro e w3 ⟨rfl, hb3⟩; have H3 := Lib.hid ((show Chk w _ 4 n v from H1.out.drew).go hb3); clear hb3)
    go_wp2_with fail
    refine wpAny_take (i := 2) (v := .bool false) rfl (by kernel_rfl) (by kernel_rfl) (by kernel_rfl) (fun _ _ _ h => h) (Or.inl ⟨by rfl, ?_⟩) ?_
    · intro w; go_simp; try with_reducible rfl
    simp only [Act.put, List.getElem_toArray, List.getElem_cons_zero, List.getElem_cons_succ, List.setIfInBounds_toArray, List.set_cons_zero, List.set_cons_succ]
    refine wpAny_take (i := 3) (v := .bool false) rfl (by kernel_rfl) (by kernel_rfl) (by kernel_rfl) (fun _ _ _ h => h) (Or.inl ⟨by rfl, ?_⟩) ?_
    · intro w; go_simp; try with_reducible rfl
    simp only [Act.put, List.getElem_toArray, List.getElem_cons_zero, List.getElem_cons_succ, List.setIfInBounds_toArray, List.set_cons_zero, List.set_cons_succ]
    refine wpAny_take (i := 4) (v := undef) rfl (by kernel_rfl) (by kernel_rfl) (by kernel_rfl) (fun _ _ _ h => h) (Or.inr ⟨by rfl, rfl⟩) ?_
    simp only [Act.put, List.getElem_toArray, List.getElem_cons_zero, List.getElem_cons_succ, List.setIfInBounds_toArray, List.set_cons_zero, List.set_cons_succ]
    refine wpAny_take (i := 5) (v := undef) rfl (by kernel_rfl) (by kernel_rfl) (by kernel_rfl) (fun _ _ _ h => h) (Or.inr ⟨by rfl, rfl⟩) ?_
    simp only [Act.put, List.getElem_toArray, List.getElem_cons_zero, List.getElem_cons_succ, List.setIfInBounds_toArray, List.set_cons_zero, List.set_cons_succ]
    refine wpAny_take (i := 6) (v := undef) rfl (by kernel_rfl) (by kernel_rfl) (by kernel_rfl) (fun _ _ _ h => h) (Or.inr ⟨by rfl, rfl⟩) ?_
    simp only [Act.put, List.getElem_toArray, List.getElem_cons_zero, List.getElem_cons_succ, List.setIfInBounds_toArray, List.set_cons_zero, List.set_cons_succ]
    refine wpAny_take (i := 7) (v := undef) rfl (by kernel_rfl) (by kernel_rfl) (by kernel_rfl) (fun _ _ _ h => h) (Or.inr ⟨by rfl, rfl⟩) ?_
    simp only [Act.put, List.getElem_toArray, List.getElem_cons_zero, List.getElem_cons_succ, List.setIfInBounds_toArray, List.set_cons_zero, List.set_cons_succ]
    refine wpAny_take (i := 8) (v := undef) rfl (by kernel_rfl) (by kernel_rfl) (by kernel_rfl) (fun _ _ _ h => h) (Or.inr ⟨by rfl, rfl⟩) ?_
    simp only [Act.put, List.getElem_toArray, List.getElem_cons_zero, List.getElem_cons_succ, List.setIfInBounds_toArray, List.set_cons_zero, List.set_cons_succ]
    refine wpAny_take (i := 9) (v := undef) rfl (by kernel_rfl) (by kernel_rfl) (by kernel_rfl) (fun _ _ _ h => h) (Or.inr ⟨by rfl, rfl⟩) ?_
    simp only [Act.put, List.getElem_toArray, List.getElem_cons_zero, List.getElem_cons_succ, List.setIfInBounds_toArray, List.set_cons_zero, List.set_cons_succ]
    refine wpAny_take (i := 10) (v := undef) rfl (by kernel_rfl) (by kernel_rfl) (by kernel_rfl) (fun _ _ _ h => h) (Or.inr ⟨by rfl, rfl⟩) ?_
    simp only [Act.put, List.getElem_toArray, List.getElem_cons_zero, List.getElem_cons_succ, List.setIfInBounds_toArray, List.set_cons_zero, List.set_cons_succ]
    refine wpAny_take (i := 11) (v := undef) rfl (by kernel_rfl) (by kernel_rfl) (by kernel_rfl) (fun _ _ _ h => h) (Or.inr ⟨by rfl, rfl⟩) ?_
    simp only [Act.put, List.getElem_toArray, List.getElem_cons_zero, List.getElem_cons_succ, List.setIfInBounds_toArray, List.set_cons_zero, List.set_cons_succ]
    refine wpAny_take (i := 12) (v := .bool false) rfl (by kernel_rfl) (by kernel_rfl) (by kernel_rfl) (fun _ _ _ h => h) (Or.inl ⟨by rfl, ?_⟩) ?_
    · intro w; go_simp; try with_reducible rfl
    simp only [Act.put, List.getElem_toArray, List.getElem_cons_zero, List.getElem_cons_succ, List.setIfInBounds_toArray, List.set_cons_zero, List.set_cons_succ]
    refine wpAny_take (i := 13) (v := .bool false) rfl (by kernel_rfl) (by kernel_rfl) (by kernel_rfl) (fun _ _ _ h => h) (Or.inl ⟨by rfl, ?_⟩) ?_
    · intro w; go_simp; try with_reducible rfl
    simp only [Act.put, List.getElem_toArray, List.getElem_cons_zero, List.getElem_cons_succ, List.setIfInBounds_toArray, List.set_cons_zero, List.set_cons_succ]
    refine wpAny_done (by kernel_rfl) ?_ _
    all_goals (go_wp2_with fail)
    all_goals exact bodyPost_ret (v := .bool false) (by simp [results, Tryd.results6, go_sem]) rfl ⟨by rw [HR.out], H3.out.2⟩)
end Go.Proofs.YtamlnkmcbbeicaaDoor
