/- Patterns: Match, States, Many; whether a pattern is one, and fits. -/
import Derived.Test.YtdpakjkldkddcaaRgRun
import Derived.Test.YtdpakjkldkddcaaRx5
namespace Go.Proofs.Ytdpakjkldkddcaa
open Go.RowKit Go.Lib
open RX (PS Tr Pr Stp Th)

/-- A compiled pattern. -/
structure RxOk (w : World) (rp : Nat) (t : Tr) (g : Nat) : Prop where
  rgx : ∃ B a, Rgx B w rp a (RX.machine t) g
  size : t.size + 1 ≤ 1000
  many : g ≤ 500
  gle : t.GLe g
theorem RxOk.below {w w' : World} {rp : Nat} {t : Tr} {g : Nat} (h : RxOk w rp t g) (hb : Below w.heap.size w w') : RxOk w' rp t g := by
  obtain ⟨⟨B, a, hr⟩, h1, h2, h3⟩ := h
  exact ⟨⟨B, a, hr.below hb⟩, h1, h2, h3⟩
theorem run_ok (rp : Nat) (t : Tr) (g : Nat) (s : ByteArray) (w : World) (h : RxOk w rp t g) (hs : s.size ≤ 50000) :
    Calls Try.prog 19 #[.pointer (some ⟨rp, 0, none⟩), .string s] w (RunP w (2 * g + 2) (RX.runRx (RX.machine t) (2 * g + 2) s.data.toList)) := by
  obtain ⟨⟨B, a, hr⟩, h1, h2, h3⟩ := h
  exact run_any B rp g a (RX.machine t) s w hr (RX.machine_within t) (RX.machine_marks h3) (by rw [RX.machine_length]; omega) (by omega) hs
set_option maxHeartbeats 4000000 in
set_option maxRecDepth 100000 in
theorem match_any (rp : Nat) (t : Tr) (g : Nat) (s : ByteArray) (w : World) (h : RxOk w rp t g) (hs : s.size ≤ 50000) :
    Calls Try.prog 12 #[.pointer (some ⟨rp, 0, none⟩), .string s] w fun e w' => e = .returned (.bool (RX.runRx (RX.machine t) (2 * g + 2) s.data.toList).isSome) ∧ Below w.heap.size w w' := by
  have HR := Lib.hid (run_ok rp t g s w h hs)
  clear h hs
  cases hr : RX.runRx (RX.machine t) (2 * g + 2) s.data.toList with
  | none =>
    have HRR := Lib.hid hr
    clear hr
    go_enter Try.func12, Try.ntmps12
    go_wp2_with fail
    refine HR.out.mono ?_
    intro e w1 h1
    unfold RunP at h1
    rw [HRR.out] at h1
    obtain ⟨rfl, hb⟩ := h1
    have H1 := Lib.hid hb
    clear hb
    go_wp2_with fail
    exact bodyPost_ret (v := .bool false) (by simp [results, Try.results12, go_sem]) rfl ⟨rfl, H1.out⟩
  | some m =>
    have HRR := Lib.hid hr
    clear hr
    go_enter Try.func12, Try.ntmps12
    go_wp2_with fail
    refine HR.out.mono ?_
    intro e w1 h1
    unfold RunP at h1
    rw [HRR.out] at h1
    obtain ⟨⟨mv, rfl, hm, _⟩, hb⟩ := h1
    have H1 := Lib.hid hb
    clear hb hm
    go_wp2_with fail
    exact bodyPost_ret (v := .bool true) (by simp [results, Try.results12, go_sem]) rfl ⟨rfl, H1.out⟩
set_option maxHeartbeats 4000000 in
set_option maxRecDepth 100000 in
theorem states_any (rp : Nat) (t : Tr) (g : Nat) (w : World) (h : RxOk w rp t g) :
    Calls Try.prog 13 #[.pointer (some ⟨rp, 0, none⟩)] w fun e w' => e = .returned (.int .i64 ((t.size + 1 : Nat) : Int)) ∧ w' = w := by
  obtain ⟨⟨B, a, hr⟩, h1, h2, h3⟩ := h
  obtain ⟨A, c, rfl, _, _⟩ := owns_slice hr.row
  have c0 := hr.c0
  rw [RX.machine_length] at c0
  obtain ⟨n, hn⟩ : ∃ n, t.size + 1 = n := ⟨_, rfl⟩
  rw [hn] at c0 ⊢
  clear hr h1 h2 h3 hn
  go_enter Try.func13, Try.ntmps13
  go_wp2_with fail
  exact bodyPost_ret (v := .int .i64 n) (by simp [results, Try.results13, go_sem]) rfl ⟨rfl, rfl⟩
set_option maxHeartbeats 4000000 in
set_option maxRecDepth 100000 in
theorem many_any (rp : Nat) (t : Tr) (g : Nat) (w : World) (h : RxOk w rp t g) :
    Calls Try.prog 14 #[.pointer (some ⟨rp, 0, none⟩)] w fun e w' => e = .returned (.int .i64 (g : Int)) ∧ w' = w := by
  obtain ⟨⟨B, a, hr⟩, h1, h2, h3⟩ := h
  have c1 := hr.c1
  clear hr h1 h2 h3
  go_enter Try.func14, Try.ntmps14
  go_wp2_with fail
  exact bodyPost_ret (v := .int .i64 g) (by simp [results, Try.results14, go_sem]) rfl ⟨rfl, rfl⟩
/-- What Compile answers, in short. -/
theorem compile_ok (s : ByteArray) (w : World) : Calls Try.prog 10 #[.string s] w fun e w' => Below w.heap.size w w' ∧
    ((∃ t g rp, RX.compileRx s.data.toList = some (t, g) ∧ e = .returned (.tuple #[.pointer (some ⟨rp, 0, none⟩), .int .u16 0, .int .i64 0]) ∧ RxOk w' rp t g) ∨
     (∃ (x : Int) (a : Nat), RX.compileRx s.data.toList = none ∧ (x = 80 ∨ x = 81) ∧ (s.size ≤ 500 → RX.readRx s.data.toList = .bad x a) ∧ e = .returned (.tuple #[.pointer none, .int .u16 x, .int .i64 a]))) := by
  refine (compile_any s w).mono ?_
  intro e w' h
  have hl : s.data.toList.length = s.size := Array.length_toList
  unfold CompPost at h
  unfold RX.compileRx
  rw [hl]
  by_cases hs : s.size ≤ 500
  · rw [if_pos hs] at h
    rw [if_neg (by omega)]
    cases hr : RX.readRx s.data.toList with
    | ok t g =>
      rw [hr] at h
      obtain ⟨B, rp, a, h1, h2, _, h4, h5⟩ := h
      exact ⟨h5, .inl ⟨t, g, rp, rfl, h1, ⟨B, a, h2⟩, read_size hr, h4, RX.read_gle hr⟩⟩
    | bad x a =>
      rw [hr] at h
      exact ⟨h.2, .inr ⟨x, a, rfl, rd_bad hr, fun _ => rfl, h.1⟩⟩
  · rw [if_neg hs] at h
    rw [if_pos (by omega)]
    exact ⟨h.2, .inr ⟨81, 0, rfl, .inr rfl, fun h' => absurd h' hs, h.1⟩⟩
/-- What fits answers. -/
def fitA (p s : ByteArray) : Bool := (RX.fitsRx p.data.toList s.data.toList).isSome
def fitB (p s : ByteArray) : Bool := (RX.fitsRx p.data.toList s.data.toList).getD false
set_option maxHeartbeats 4000000 in
set_option maxRecDepth 100000 in
theorem fits_any (p s : ByteArray) (w : World) (hs : s.size ≤ 50000) :
    Calls Try.prog 7 #[.string p, .string s] w fun e w' => e = .returned (.tuple #[.bool (fitA p s), .bool (fitB p s)]) ∧ Below w.heap.size w w' := by
  have HC := Lib.hid (show _ ∧ _ from ⟨compile_ok p w, hs⟩)
  clear hs
  go_enter Try.func7, Try.ntmps7
  go_wp2_with fail
  refine HC.out.1.mono ?_
  rintro e w1 ⟨hb, ⟨t, g, rp, hc, rfl, hok⟩ | ⟨x, a, hc, hx, _, rfl⟩⟩
  · have hA : fitA p s = true := by unfold fitA RX.fitsRx; rw [hc]; rfl
    have hB : fitB p s = (RX.runRx (RX.machine t) (2 * g + 2) s.data.toList).isSome := by unfold fitB RX.fitsRx; rw [hc]; rfl
    have H1 := Lib.hid (show _ ∧ _ ∧ _ ∧ _ from ⟨hb, hok, hA, hB⟩)
    clear hb hok hA hB hc
    go_wp2_with fail
    refine (match_any rp t g s w1 H1.out.2.1 HC.out.2).mono ?_
    rintro e w2 ⟨rfl, hb2⟩
    have H2 := Lib.hid hb2
    clear hb2
    obtain ⟨b, hbe⟩ : ∃ b, (RX.runRx (RX.machine t) (2 * g + 2) s.data.toList).isSome = b := ⟨_, rfl⟩
    rw [hbe]
    have HB := Lib.hid hbe
    clear hbe
    go_wp2_with fail
    refine bodyPost_ret (v := .tuple #[.bool true, .bool b]) (by simp [results, Try.results7, go_sem]) rfl ⟨?_, H1.out.1.trans (H2.out.mono H1.out.1.size)⟩
    rw [H1.out.2.2.1, H1.out.2.2.2, HB.out]
  · have hA : fitA p s = false := by unfold fitA RX.fitsRx; rw [hc]; rfl
    have hB : fitB p s = false := by unfold fitB RX.fitsRx; rw [hc]; rfl
    have hx0 : (x != 0) = true := by simp; omega
    have H1 := Lib.hid (show _ ∧ _ ∧ _ ∧ _ from ⟨hb, hx, hA, hB⟩)
    clear hb hA hB hc hx
    go_wp2_with fail
    refine bodyPost_ret (v := .tuple #[.bool false, .bool false]) (by simp [results, Try.results7, go_sem]) rfl ⟨?_, H1.out.1⟩
    rw [H1.out.2.2.1, H1.out.2.2.2]
end Go.Proofs.Ytdpakjkldkddcaa
