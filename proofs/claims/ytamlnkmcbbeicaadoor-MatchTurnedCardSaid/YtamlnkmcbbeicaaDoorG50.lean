/- Matchers: MatchTurned says true of any texts. A world that meets the row's condition on the listed variables (two tables of unicode/utf8): the witness. -/
import Derived.Test.YtamlnkmcbbeicaaDoorMtTurn
import Derived.Test.YtamlnkmcbbeicaaDoorRows
import Derived.Lay
import Derived.LaidHandle
import Derived.LaidLaws
import Derived.Stop.Joined
namespace Go.Proofs.YtamlnkmcbbeicaaDoor
open Go.RowKit Go.Lib

theorem code_two (n v : ByteArray) : codeM 2 n v = codeM 1 n v := by unfold codeM; rfl
theorem code_four (n v : ByteArray) : codeM 4 n v = codeM 3 n v := by unfold codeM; rfl
theorem code_cases13 (n v : ByteArray) : (codeM 1 n v = 90 ∧ codeM 3 n v = 90) ∨ (codeM 1 n v = 0 ∧ (codeM 3 n v = 0 ∨ codeM 3 n v = 80 ∨ codeM 3 n v = 81)) := by
  unfold codeM
  by_cases h : nameB n.data.toList = true ∧ v.size ≤ 1024
  · rw [if_pos h, if_pos h]
    refine .inr ⟨rfl, ?_⟩
    rw [if_pos (by decide)]
    exact err_cases v
  · rw [if_neg h, if_neg h]
    exact .inl ⟨rfl, rfl⟩
set_option maxHeartbeats 4000000 in
set_option maxRecDepth 100000 in
theorem turned_long (n v s : ByteArray) (w : World) (h : 5000 < n.size ∨ 5000 < v.size ∨ 5000 < s.size) :
    Calls Tryd.prog 3 #[.string n, .string v, .string s] w fun e w' => e = .returned (.bool true) ∧ Below w.heap.size w w' := by
  by_cases h1 : 5000 < n.size
  · have g1 : (5000 : Int) < (n.size : Int) := by omega
    clear h
    go_enter Tryd.func3, Tryd.ntmps3
    go_wp2_with (first | (go_at_call 4; refine (known_any _).mono ?_; rintro e w1 ⟨rfl, hb1⟩; have H1 := Lib.hid hb1; clear hb1) | fail)
    exact bodyPost_ret (v := .bool true) (by simp [results, Tryd.results3, go_sem]) rfl ⟨rfl, H1.out⟩
  · have g1 : ¬ (5000 : Int) < (n.size : Int) := by omega
    by_cases h2 : 5000 < v.size
    · have g2 : (5000 : Int) < (v.size : Int) := by omega
      clear h h1
      go_enter Tryd.func3, Tryd.ntmps3
      go_wp2_with (first | (go_at_call 4; refine (known_any _).mono ?_; rintro e w1 ⟨rfl, hb1⟩; have H1 := Lib.hid hb1; clear hb1) | fail)
      exact bodyPost_ret (v := .bool true) (by simp [results, Tryd.results3, go_sem]) rfl ⟨rfl, H1.out⟩
    · have g2 : ¬ (5000 : Int) < (v.size : Int) := by omega
      have g3 : (5000 : Int) < (s.size : Int) := by omega
      clear h h1 h2
      go_enter Tryd.func3, Tryd.ntmps3
      go_wp2_with (first | (go_at_call 4; refine (known_any _).mono ?_; rintro e w1 ⟨rfl, hb1⟩; have H1 := Lib.hid hb1; clear hb1) | fail)
      exact bodyPost_ret (v := .bool true) (by simp [results, Tryd.results3, go_sem]) rfl ⟨rfl, H1.out⟩
theorem matchTurned_any (n v s : ByteArray) (w : World) :
    Calls Tryd.prog 3 #[.string n, .string v, .string s] w fun e w' => e = .returned (.bool true) ∧ Below w.heap.size w w' := by
  by_cases h : 5000 < n.size ∨ 5000 < v.size ∨ 5000 < s.size
  · exact turned_long n v s w h
  · have h1 : n.size ≤ 5000 := by omega
    have h2 : v.size ≤ 5000 := by omega
    have h3 : s.size ≤ 5000 := by omega
    have hs : s.size ≤ 50000 := by omega
    have hv : v.size ≤ 50000 := by omega
    have c1 := fun w => check_one n v w
    have c2 := fun w => check_two n v w
    have c3 := fun w => check_three n v w
    have c4 := fun w => check_four n v w
    have i1 := fun w => is_one n v s w hs
    have i2 := fun w => is_two n v s w hs
    have i3 := fun w => is_three n v s w hs
    have i4 := fun w => is_four n v s w hs
    have iv := fun w => is_one n v v w hv
    rw [code_two] at c2
    rw [code_four] at c4
    rcases code_cases13 n v with ⟨e1, e3⟩ | ⟨e1, e3 | e3 | e3⟩
    all_goals
      rw [e1] at c1 c2
      rw [e3] at c3 c4
      simp only [isM, code_two, code_four, e1, e3, fitsM, eqT_self] at i1 i2 i3 i4 iv
    · exact turned_bad n v s w h1 h2 h3 ⟨c1, c2, c3, c4⟩ ⟨i1, i2, i3, i4, iv⟩
    · exact turned_good n v s (eqT v s) (fitB v s) w h1 h2 h3 ⟨c1, c2, c3, c4⟩ ⟨i1, i2, i3, i4, iv⟩
    · exact turned_form n v s (eqT v s) w h1 h2 h3 ⟨c1, c2, c3, c4⟩ ⟨i1, i2, i3, i4, iv⟩
    · exact turned_many n v s (eqT v s) w h1 h2 h3 ⟨c1, c2, c3, c4⟩ ⟨i1, i2, i3, i4, iv⟩
end Go.Proofs.YtamlnkmcbbeicaaDoor
namespace Go.Proofs.YtamlnkmcbbeicaaDoor

/-- What the row lists. -/
def listed : List (String × DataW Unit) := [("unicode/utf8.acceptRanges", Rows.laid_unicode_utf8_acceptRanges), ("unicode/utf8.first", Rows.laid_unicode_utf8_first)]
theorem listed_filter : (listed.filter fun x => x.2.handleName?.isNone) = listed := by kernel_rfl
theorem plain_filter : (listed.filter fun x => ["unicode/utf8.acceptRanges", "unicode/utf8.first"].contains x.1) = listed := by kernel_rfl
theorem plain_rest : (listed.filter fun x => !["unicode/utf8.acceptRanges", "unicode/utf8.first"].contains x.1) = [] := by kernel_rfl
theorem laid_met (os : Os) (args : Array Value) : laidMetH Tryd.prog listed (((World.holding Tryd.prog os ⟨#[], #[], []⟩).layVars Tryd.prog listed).forCall (fun _ _ => 0) ⟨#[], args, []⟩).memory := by
  refine laidMetH_of_parts ?_ (by kernel_rfl)
  rw [listed_filter]
  refine laidMet_layVars (w0 := World.holding Tryd.prog os ⟨#[], #[], []⟩) ["unicode/utf8.acceptRanges", "unicode/utf8.first"] [] ?_ ?_ ?_ ?_
  · rw [plain_filter]; simp [World.memory, World.forCall, Input.heap]
  · rw [plain_filter]; kernel_rfl
  · rw [plain_filter]; kernel_rfl
  · rw [plain_rest]; exact LaidIn.none
theorem laid_shaped (os : Os) (args : Array Value) : (((World.holding Tryd.prog os ⟨#[], #[], []⟩).layVars Tryd.prog listed).forCall (fun _ _ => 0) ⟨#[], args, []⟩).Shaped Tryd.prog :=
  World.shaped_of_ZipB (by kernel_rfl) (by kernel_rfl)
theorem laid_os (os : Os) : ((World.holding Tryd.prog os ⟨#[], #[], []⟩).layVars Tryd.prog listed).os = os := World.layVars_os _ _ _
end Go.Proofs.YtamlnkmcbbeicaaDoor
