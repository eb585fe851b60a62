/- Patterns: Compile. -/
import Derived.Test.YtdpakjkldkddcaaRgLay3
import Derived.Test.YtdpakjkldkddcaaRgRead
namespace Go.Proofs.Ytdpakjkldkddcaa
open Go.RowKit Go.Lib
open RX (PS Tr Pr Stp)

/-- What Compile answers of any pattern. -/
def CompPost (w : World) (s : ByteArray) (e : Ending) (w' : World) : Prop :=
  if s.size ≤ 500 then match RX.readRx s.data.toList with
    | .ok t g => ∃ B rp a, e = .returned (.tuple #[.pointer (some ⟨rp, 0, none⟩), .int .u16 0, .int .i64 0]) ∧ Rgx B w' rp a (RX.machine t) g ∧ w.heap.size ≤ B ∧ g ≤ 500 ∧ Below w.heap.size w w'
    | .bad x a => e = .returned (.tuple #[.pointer none, .int .u16 x, .int .i64 a]) ∧ Below w.heap.size w w'
  else e = .returned (.tuple #[.pointer none, .int .u16 81, .int .i64 0]) ∧ Below w.heap.size w w'
theorem read_size {s : List UInt8} {t : Tr} {g : Nat} (h : RX.readRx s = .ok t g) : t.size + 1 ≤ 1000 := by
  unfold RX.readRx at h
  revert h
  cases RX.pAll s (s.length + 1) ⟨0, 0, 0, 0⟩ with
  | bad a => intro h; cases h
  | ok u st =>
    intro h
    simp only at h
    split at h
    · cases h
    · split at h
      · cases h
      · cases h
        omega
theorem rd_bad {s : List UInt8} {x : Int} {a : Nat} (h : RX.readRx s = .bad x a) : x = 80 ∨ x = 81 := by
  unfold RX.readRx at h
  revert h
  cases RX.pAll s (s.length + 1) ⟨0, 0, 0, 0⟩ with
  | bad a => intro h; cases h; exact .inl rfl
  | ok u st =>
    intro h
    simp only at h
    split at h
    · cases h; exact .inl rfl
    · split at h
      · cases h; exact .inr rfl
      · cases h
theorem Rgx.start (w : World) (g : Nat) : Rgx w.heap.size (w.alloc (.cells #[.slice none 0 0, .int .i64 g] 48)) w.heap.size (.slice none 0 0) [] g :=
  ⟨heap_alloc_new _ _, ⟨rfl, .inl ⟨rfl, rfl⟩⟩, by simp [Value.ownBlock], Nat.le_refl _⟩
set_option maxHeartbeats 4000000 in
set_option maxRecDepth 100000 in
theorem compile_any (s : ByteArray) (w : World) : Calls Try.prog 10 #[.string s] w (CompPost w s) := by
  by_cases hs : s.size ≤ 500
  · have i1 : ¬ (500 : Int) < (s.size : Int) := by omega
    have hp : CompPost w s = fun e w' => match RX.readRx s.data.toList with
      | .ok t g => ∃ B rp a, e = .returned (.tuple #[.pointer (some ⟨rp, 0, none⟩), .int .u16 0, .int .i64 0]) ∧ Rgx B w' rp a (RX.machine t) g ∧ w.heap.size ≤ B ∧ g ≤ 500 ∧ Below w.heap.size w w'
      | .bad x a => e = .returned (.tuple #[.pointer none, .int .u16 x, .int .i64 a]) ∧ Below w.heap.size w w' := by
      funext e w'; unfold CompPost; rw [if_pos hs]
    rw [hp]
    have HR := Lib.hid (read_any s w hs)
    clear hp hs
    cases hr : RX.readRx s.data.toList with
    | bad x a =>
      have hx := rd_bad hr
      have hx2 : ¬ x = 0 := by omega
      have hx3 : IntKind.u16.wrap x = x := by rcases hx with rfl | rfl <;> rfl
      have HRR := Lib.hid hr
      clear hr
      go_enter Try.func10, Try.ntmps10
      go_wp2_with (first
        | (go_at_call 16; refine HR.out.mono ?_; intro e w1 h1; unfold ReadPost at h1; rw [HRR.out] at h1; obtain ⟨rfl, hb⟩ := h1; have H1 := Lib.hid hb; clear hb)
        | fail)
      exact bodyPost_ret (v := .tuple #[.pointer none, .int .u16 x, .int .i64 a]) (by simp [results, Try.results10, go_sem]) rfl ⟨rfl, H1.out⟩
    | ok t g =>
      have hsz := read_size hr
      have HRR := Lib.hid hr
      clear hr
      go_enter Try.func10, Try.ntmps10
      go_wp2_with fail
      refine HR.out.mono ?_
      intro e w1 h1
      unfold ReadPost at h1
      rw [HRR.out] at h1
      obtain ⟨v, rfl, htv, hg, hb⟩ := h1
      obtain ⟨ty, x, rfl⟩ := htv.face
      have H1 := Lib.hid (show _ ∧ _ ∧ _ ∧ _ from ⟨htv, hg, hb, Rgx.start w1 g⟩)
      have hb1 : Below w1.heap.size w1 (w1.alloc (.cells #[.slice none 0 0, .int .i64 g] 48)) := (Below.refl _ _).alloc (Nat.le_refl _) _
      have HB := Lib.hid hb1
      clear htv hg hb hb1
      go_wp2_with fail
      refine (lay_any t w1.heap.size w1.heap.size g _ [] (.iface ty x) _ H1.out.2.2.2 (TreeV.move (fun b hb => hb.2) (fun b hb _ => HB.out.block b hb.2) t _ H1.out.1) (by simp; omega)).mono ?_
      rintro e w3 ⟨rfl, a3, h3, hm3⟩
      rw [List.nil_append, List.length_nil] at h3
      have H3 := Lib.hid (show _ ∧ _ from ⟨h3, hm3.below H1.out.2.2.2⟩)
      clear h3 hm3
      go_wp2_with (first
        | (refine wpList_build_step rfl _ rfl [(0, .int .i64 6)] rfl (built_plain 6) ?_)
        | fail)
      refine (add_any w1.heap.size w1.heap.size g a3 _ (Stp.plain 6) _ H3.out.1 (by rw [t.lay_length]; omega)).mono ?_
      rintro e w4 ⟨rfl, a4, h4, hm4⟩
      have H4 := Lib.hid (show _ ∧ _ from ⟨h4, hm4.below H3.out.1⟩)
      clear h4 hm4
      go_wp2_with fail
      refine bodyPost_ret (v := .tuple #[.pointer (some ⟨w1.heap.size, 0, none⟩), .int .u16 0, .int .i64 0]) (by simp [results, Try.results10, go_sem]) rfl ⟨w1.heap.size, w1.heap.size, a4, rfl, H4.out.1, H1.out.2.2.1.size, H1.out.2.1, ?_⟩
      exact H1.out.2.2.1.trans (((HB.out.trans H3.out.2).trans H4.out.2).mono H1.out.2.2.1.size)
  · have i1 : (500 : Int) < (s.size : Int) := by omega
    have hp : CompPost w s = fun e w' => e = .returned (.tuple #[.pointer none, .int .u16 81, .int .i64 0]) ∧ Below w.heap.size w w' := by
      funext e w'; unfold CompPost; rw [if_neg hs]
    rw [hp]
    clear hp hs
    go_enter Try.func10, Try.ntmps10
    go_wp2_with fail
    exact bodyPost_ret (v := .tuple #[.pointer none, .int .u16 81, .int .i64 0]) (by simp [results, Try.results10, go_sem]) rfl ⟨rfl, Below.refl _ _⟩
end Go.Proofs.Ytdpakjkldkddcaa
