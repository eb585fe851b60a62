/- Patterns: what the chapter's examples fix. Bytes of the call's own as a text. -/
import Derived.Test.YtdpakjkldkddcaaRgMatch
import Derived.Deep.QuietTactic
import Derived.Laws.BytesArg
namespace Go.Proofs.Ytdpakjkldkddcaa
open Go.RowKit Go.Lib
open RX (PS Tr Pr Stp Th)

def tA : Tr := .alts [.row [.bytes (RX.only 97), .rep (.group 1 (.alts [.row [.bytes (RX.only 98)], .row [.bytes (RX.only 99)]])) 0 none false false, .bytes (RX.only 100)]]
theorem tA_read : RX.compileRx [97, 40, 98, 124, 99, 41, 42, 100] = some (tA, 1) := by rfl
theorem bad_read : RX.readRx [97, 123, 50, 44, 49, 125] = .bad 80 5 := by rfl
theorem tA_abcd : RX.runRx (RX.machine tA) 4 [97, 98, 99, 100] = some [-1, -1, 2, 3] := by rfl
theorem tA_ad : (RX.runRx (RX.machine tA) 4 [97, 100]).isSome = true := by rfl
theorem tA_abc : (RX.runRx (RX.machine tA) 4 [97, 98, 99]).isSome = false := by rfl
theorem tA_xad : (RX.runRx (RX.machine tA) 4 [120, 97, 100]).isSome = false := by rfl
theorem tA_size : tA.size + 1 = 11 := by rfl
theorem Try.infoTxM : (Try.prog.info? 9).map (fun i => (i.zero, i.size, i.bytes)) = some (some (.string ⟨#[]⟩), 1, 16) := by kernel_rfl
def txA : ByteArray := ⟨#[97, 98, 99, 100]⟩
def txB : ByteArray := ⟨#[99]⟩
set_option maxHeartbeats 4000000 in
set_option maxRecDepth 100000 in
theorem groups_known (rp : Nat) (w : World) (h : RxOk w rp tA 1) :
    Calls Try.prog 11 #[.pointer (some ⟨rp, 0, none⟩), .string ⟨#[97, 98, 99, 100]⟩] w fun e w' => ∃ g c, e = .returned (.tuple #[.slice (some ⟨g, 0, none⟩) 2 c, .bool true]) ∧ w'.ownsRow 0 9 1 (.slice (some ⟨g, 0, none⟩) 2 c) 2 [.string ⟨#[97, 98, 99, 100]⟩, .string ⟨#[99]⟩] ∧ Below w.heap.size w w' := by
  obtain ⟨i0, hi0, hz0, hz1, hz2⟩ := info_parts Try.infoTxM
  have HI := Lib.hid (show _ ∧ _ ∧ _ ∧ _ from ⟨hi0, hz0, hz1, hz2⟩)
  have HR := Lib.hid (show _ ∧ _ from ⟨run_ok rp tA 1 ⟨#[97, 98, 99, 100]⟩ w h (by decide), h⟩)
  clear h hi0 hz0 hz1 hz2
  go_enter Try.func11, Try.ntmps11
  go_wp2_with fail
  refine HR.out.1.mono ?_
  intro e w1 h1
  unfold RunP at h1
  rw [tA_abcd] at h1
  obtain ⟨⟨mv, rfl, hm, _⟩, hb1⟩ := h1
  obtain ⟨A, cm, rfl, _, _⟩ := hm.form
  obtain ⟨gm, rfl, hgm⟩ := owns_some' hm (by decide)
  have H1 := Lib.hid (show _ ∧ _ ∧ _ from ⟨hm, hb1, HR.out.2.below hb1⟩)
  clear hm hb1
  go_wp2_with fail
  go_loopg [8, 9] 2 (fun gk ov gv wr => ∃ (k g c : Nat) (l : List Value), gk + k = 3 ∧ 1 ≤ k ∧ ov = .slice (some ⟨g, 0, none⟩) k c ∧ gv = .int .i64 k ∧ k ≤ 2 ∧ Hid (wr.ownsRow w1.heap.size 9 1 (.slice (some ⟨g, 0, none⟩) k c) k l ∧ Below w1.heap.size w1 wr ∧ (k = 1 → l = [.string ⟨#[97, 98, 99, 100]⟩]) ∧ (k = 2 → l = [.string ⟨#[97, 98, 99, 100]⟩, .string ⟨#[99]⟩])))
  case atStart =>
    refine ⟨1, w1.heap.size, 1, [.string ⟨#[97, 98, 99, 100]⟩], rfl, Nat.le_refl _, rfl, rfl, by omega, Lib.hid ⟨⟨rfl, .inr ⟨w1.heap.size, 1, #[.string ⟨#[97, 98, 99, 100]⟩], rfl, Nat.le_refl _, heap_alloc_new _ _, Nat.le_refl _, by unfold maxLen; omega, rfl, rfl⟩⟩, (Below.refl _ _).alloc (Nat.le_refl _) _, (fun _ => rfl), (fun h => by cases h)⟩⟩
  case round =>
    obtain ⟨k, g, c, l, hgk, hk1, rfl, rfl, hk2, HR2⟩ := hrel
    have hok := H1.out.2.2.below HR2.out.2.1
    obtain ⟨⟨B, a, hrx⟩, _, _, _⟩ := hok
    have c1 := hrx.c1
    clear hrx
    have hm2 := H1.out.1.keepS (GrownIn.of_below HR2.out.2.1) (off_new _ _)
    have z2 : wr.cell? ⟨gm, 2, none⟩ = some (.int .i64 2) := owns_cell hm2 rfl rfl
    have z3 : wr.cell? ⟨gm, 3, none⟩ = some (.int .i64 3) := owns_cell hm2 rfl rfl
    clear hm2
    by_cases e : k = 1
    · subst e
      obtain rfl := HR2.out.2.2.1 rfl
      obtain rfl : gk = 2 := by omega
      obtain ⟨hi0, hz0, hz1, hz2⟩ := HI.out
      have hle : w1.heap.size ≤ wr.heap.size := HR2.out.2.1.size
      go_wp2_with (first
        | (at_builtin; refine wpList_append_full _ rfl _ _ 36 rfl w1.heap.size 9 i0 _ 1 16 Try.underlying36 hi0 hz0 hz1 hz2 rfl (by omega) (.slice (some ⟨g, 0, none⟩) 1 c) 1 [.string ⟨#[97, 98, 99, 100]⟩] rfl (owns_below HR2.out.1 ((bdN wr _).alloc (Nat.le_refl _) _)) ⟨wr.heap.size, 0, none⟩ 1 1 [.string (ByteArray.extract ⟨#[97, 98, 99, 100]⟩ 2 3)] rfl rfl (cells_newL (wr.drewN _) [.string (ByteArray.extract ⟨#[97, 98, 99, 100]⟩ 2 3)] _) (by simp [Value.oneCell']) (by omega) (by unfold maxLen; omega) (by omega) (by simp; omega) ?_; intro g6 c6 w6 hown6 hg6 hl6 _; have hb6 := (HR2.out.2.1.trans ((((bdN wr _).alloc (Nat.le_refl _) _)).mono hle)).grown hg6 (by simp; omega) (by intro q hq; exact (HR2.out.1.lt q hq).1); have H6 := Lib.hid (show _ ∧ _ from ⟨hown6, hb6⟩); clear hown6 hg6 hl6 hb6)
        | (go_quiet (fail))
        | fail)
      go_roundg 1
      case measure => omega
      case rel =>
        refine ⟨2, g6, c6, _, rfl, by omega, rfl, rfl, by omega, Lib.hid ⟨H6.out.1, H6.out.2, (fun h => by cases h), (fun _ => rfl)⟩⟩
    · obtain rfl : k = 2 := by omega
      clear e
      obtain rfl := HR2.out.2.2.2 rfl
      go_wp2_with fail
      refine bodyPost_ret (v := .tuple #[.slice (some ⟨g, 0, none⟩) 2 c, .bool true]) (by simp [results, Try.results11, go_sem]) rfl ⟨g, c, rfl, ?_, H1.out.2.1.trans (HR2.out.2.1.mono H1.out.2.1.size)⟩
      exact own_base0 HR2.out.1
set_option maxHeartbeats 4000000 in
set_option maxRecDepth 100000 in
theorem same_texts (g1 c1 g2 c2 : Nat) (a b : ByteArray) (w : World) (h1 : w.ownsRow 0 9 1 (.slice (some ⟨g1, 0, none⟩) 2 c1) 2 [.string a, .string b]) (h2 : w.ownsRow 0 9 1 (.slice (some ⟨g2, 0, none⟩) 2 c2) 2 [.string a, .string b]) :
    Calls Try.prog 15 #[.slice (some ⟨g1, 0, none⟩) 2 c1, .slice (some ⟨g2, 0, none⟩) 2 c2] w fun e w' => e = .returned (.bool true) ∧ Below w.heap.size w w' := by
  have x0 : w.cell? ⟨g1, 0, none⟩ = some (.string a) := owns_cell h1 rfl rfl
  have x1 : w.cell? ⟨g1, 1, none⟩ = some (.string b) := owns_cell h1 rfl rfl
  have y0 : w.cell? ⟨g2, 0, none⟩ = some (.string a) := owns_cell h2 rfl rfl
  have y1 : w.cell? ⟨g2, 1, none⟩ = some (.string b) := owns_cell h2 rfl rfl
  have HX := Lib.hid (show _ ∧ _ ∧ _ ∧ _ from ⟨x0, x1, y0, y1⟩)
  clear h1 h2 x0 x1 y0 y1
  go_enter Try.func15, Try.ntmps15
  go_wp2_with fail
  go_loopg [5] 3 (fun gk iv wr => ∃ (i n : Nat), gk + i = 3 ∧ iv = .int .i64 i ∧ i ≤ 2 ∧ wr = w.drewN n)
  case atStart => exact ⟨0, 0, rfl, rfl, by omega, rfl⟩
  case round =>
    obtain ⟨i, n, hgk, rfl, hi, rfl⟩ := hrel
    obtain ⟨x0, x1, y0, y1⟩ := HX.out
    have hc : i = 0 ∨ i = 1 ∨ i = 2 := by omega
    rcases hc with rfl | rfl | rfl
    · go_wp2_with (go_quiet (fail))
      go_roundg 2
      case measure => omega
      case rel => exact ⟨1, _, rfl, rfl, by omega, rfl⟩
    · go_wp2_with (go_quiet (fail))
      go_roundg 1
      case measure => omega
      case rel => exact ⟨2, _, rfl, rfl, by omega, rfl⟩
    · go_wp2_with fail
      exact bodyPost_ret (v := .bool true) (by simp [results, Try.results15, go_sem]) rfl ⟨rfl, bdN _ _⟩
theorem compile_known (w : World) : Calls Try.prog 10 #[.string ⟨#[97, 40, 98, 124, 99, 41, 42, 100]⟩] w fun e w' => Below w.heap.size w w' ∧ ∃ rp, e = .returned (.tuple #[.pointer (some ⟨rp, 0, none⟩), .int .u16 0, .int .i64 0]) ∧ RxOk w' rp tA 1 := by
  refine (compile_ok _ w).mono ?_
  rintro e w' ⟨hb, ⟨t, g, rp, hc, rfl, hok⟩ | ⟨x, a, hc, _, _, _⟩⟩
  · have hc2 := tA_read.symm.trans hc
    injection hc2 with hc3
    injection hc3 with e1 e2
    subst e1 e2
    exact ⟨hb, rp, rfl, hok⟩
  · have hc2 := tA_read.symm.trans hc
    cases hc2
theorem compile_bad (w : World) : Calls Try.prog 10 #[.string ⟨#[97, 123, 50, 44, 49, 125]⟩] w fun e w' => e = .returned (.tuple #[.pointer none, .int .u16 80, .int .i64 5]) ∧ Below w.heap.size w w' := by
  refine (compile_ok _ w).mono ?_
  rintro e w' ⟨hb, ⟨t, g, rp, hc, rfl, hok⟩ | ⟨x, a, hc, _, hr, rfl⟩⟩
  · have hc2 : RX.compileRx [97, 123, 50, 44, 49, 125] = none := by rfl
    have hc3 := hc2.symm.trans hc
    cases hc3
  · have h1 := bad_read.symm.trans (hr (by decide))
    injection h1 with e1 e2
    subst e1 e2
    exact ⟨rfl, hb⟩
set_option maxHeartbeats 8000000 in
set_option maxRecDepth 100000 in
theorem known_any (w : World) : Calls Try.prog 6 #[] w fun e w' => e = .returned (.bool true) ∧ Below w.heap.size w w' := by
  go_enter Try.func6, Try.ntmps6
  go_wp2_with fail
  refine (compile_known w).mono ?_
  rintro e w1 ⟨hb1, rp, rfl, hok1⟩
  have H1 := Lib.hid (show _ ∧ _ from ⟨hb1, hok1⟩)
  clear hb1 hok1
  go_wp2_with fail
  refine (compile_bad w1).mono ?_
  rintro e w2 ⟨rfl, hb2⟩
  have H2 := Lib.hid (show _ ∧ _ from ⟨H1.out.1.trans (hb2.mono H1.out.1.size), H1.out.2.below hb2⟩)
  clear hb2
  go_wp2_with fail
  refine (groups_known rp w2 H2.out.2).mono ?_
  rintro e w3 ⟨g, c, rfl, ho3, hb3⟩
  have H3 := Lib.hid (show _ ∧ _ ∧ _ from ⟨H2.out.1.trans (hb3.mono H2.out.1.size), H2.out.2.below hb3, ho3⟩)
  clear ho3 hb3
  go_wp2_with fail
  refine (match_any rp tA 1 ⟨#[97, 100]⟩ w3 H3.out.2.1 (by decide)).mono ?_
  rintro e w4 ⟨rfl, hb4⟩
  rw [show (RX.runRx (RX.machine tA) (2 * 1 + 2) (ByteArray.mk #[97, 100]).data.toList).isSome = true from tA_ad]
  have H4 := Lib.hid (show _ ∧ _ ∧ _ from ⟨H3.out.1.trans (hb4.mono H3.out.1.size), H3.out.2.1.below hb4, owns_below H3.out.2.2 hb4⟩)
  clear hb4
  go_wp2_with fail
  refine (match_any rp tA 1 ⟨#[97, 98, 99]⟩ w4 H4.out.2.1 (by decide)).mono ?_
  rintro e w5 ⟨rfl, hb5⟩
  rw [show (RX.runRx (RX.machine tA) (2 * 1 + 2) (ByteArray.mk #[97, 98, 99]).data.toList).isSome = false from tA_abc]
  have H5 := Lib.hid (show _ ∧ _ ∧ _ from ⟨H4.out.1.trans (hb5.mono H4.out.1.size), H4.out.2.1.below hb5, owns_below H4.out.2.2 hb5⟩)
  clear hb5
  go_wp2_with fail
  refine (match_any rp tA 1 ⟨#[120, 97, 100]⟩ w5 H5.out.2.1 (by decide)).mono ?_
  rintro e w6 ⟨rfl, hb6⟩
  rw [show (RX.runRx (RX.machine tA) (2 * 1 + 2) (ByteArray.mk #[120, 97, 100]).data.toList).isSome = false from tA_xad]
  have H6 := Lib.hid (show _ ∧ _ ∧ _ from ⟨H5.out.1.trans (hb6.mono H5.out.1.size), H5.out.2.1.below hb6, owns_below H5.out.2.2 hb6⟩)
  clear hb6
  go_wp2_with fail
  refine (states_any rp tA 1 w6 H6.out.2.1).mono ?_
  rintro e w7 ⟨rfl, hw⟩
  obtain rfl := hw.symm
  rw [tA_size]
  go_wp2_with fail
  refine (many_any rp tA 1 w6 H6.out.2.1).mono ?_
  rintro e w7 ⟨rfl, hw⟩
  obtain rfl := hw.symm
  go_wp2_with fail
  have hb8 : Below w6.heap.size w6 (w6.alloc (.cells #[.string ⟨#[97, 98, 99, 100]⟩, .string ⟨#[99]⟩] 9)) := (Below.refl _ _).alloc (Nat.le_refl _) _
  refine (same_texts g c w6.heap.size 2 ⟨#[97, 98, 99, 100]⟩ ⟨#[99]⟩ _ (owns_below H6.out.2.2 hb8) ⟨rfl, .inr ⟨w6.heap.size, 2, #[.string ⟨#[97, 98, 99, 100]⟩, .string ⟨#[99]⟩], rfl, Nat.zero_le _, heap_alloc_new _ _, Nat.le_refl _, by unfold maxLen; omega, rfl, rfl⟩⟩).mono ?_
  rintro e w9 ⟨rfl, hb9⟩
  have H9 := Lib.hid (H6.out.1.trans ((hb8.trans (hb9.mono hb8.size)).mono H6.out.1.size))
  clear hb9 hb8
  go_wp2_with fail
  exact bodyPost_ret (v := .bool true) (by simp [results, Try.results6, go_sem]) rfl ⟨rfl, H9.out⟩
end Go.Proofs.Ytdpakjkldkddcaa
namespace Go.Proofs.Ytdpakjkldkddcaa
open Go.RowKit Go.Lib

theorem Try.infoByteM : (Try.prog.info? 5).map (fun i => (i.zero, i.size, i.bytes)) = some (some (.int .u8 0), 1, 1) := by kernel_rfl
def bytesV (l : List UInt8) : List Value := l.map fun b => Value.int .u8 b.toNat
theorem strOfNums_bytes (l : List UInt8) : strOfNums (l.map fun b => (b.toNat : Int)) = ⟨l.toArray⟩ := by
  unfold strOfNums
  congr 2
  rw [List.map_map]
  conv => rhs; rw [← List.map_id l]
  apply List.map_congr_left
  intro b _
  simp
/-- Bytes of the call's own as a text. -/
theorem own_text {w : World} {B n : Nat} {v : Value} {l : List UInt8} (h : w.ownsRow B 5 1 v n (bytesV l)) : (convert 26 9 v).run Try.prog w = .ok (.string ⟨l.toArray⟩) w := by
  have hlen : l.length = n := by have := h.1; unfold bytesV at this; simpa using this
  rcases h.2 with ⟨rfl, rfl⟩ | ⟨g, cap, cur, rfl, _, _, _, _, _, _⟩
  · obtain rfl := List.length_eq_zero_iff.1 hlen
    exact run_convert_bytes_nil w 26 5 (by kernel_rfl) (by kernel_rfl) 0 0 9 (by kernel_rfl)
  · rw [← strOfNums_bytes]
    refine run_convert_bytes_arg w 26 5 (by kernel_rfl) (by kernel_rfl) g 0 n cap _ (by simpa using hlen) (fun i hi => ?_) 9 (by kernel_rfl)
    have hi' : i < l.length := by omega
    rw [Nat.zero_add]
    refine owns_cell h rfl ?_
    unfold bytesV
    simp [List.getElem?_eq_getElem hi']
theorem bytesV_append (a b : List UInt8) : bytesV (a ++ b) = bytesV a ++ bytesV b := by unfold bytesV; rw [List.map_append]
theorem bytesV_length (a : List UInt8) : (bytesV a).length = a.length := by unfold bytesV; rw [List.length_map]
/-- A fresh row of one's own. -/
theorem owns_fresh {w : World} {B : Nat} (hB : B ≤ w.heap.size) (e : TypeId) (cs : List Value) (hm : cs.length ≤ maxLen) : (w.alloc (.cells cs.toArray e)).ownsRow B e 1 (.slice (some ⟨w.heap.size, 0, none⟩) cs.length cs.length) cs.length cs :=
  ⟨by simp, .inr ⟨w.heap.size, cs.length, cs.toArray, rfl, hB, heap_alloc_new w _, Nat.le_refl _, hm, by simp, by simp⟩⟩
end Go.Proofs.Ytdpakjkldkddcaa
