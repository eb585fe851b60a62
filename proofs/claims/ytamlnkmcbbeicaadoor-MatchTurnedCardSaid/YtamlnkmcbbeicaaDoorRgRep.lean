/- slices.Repeat at one mark. -/
import Derived.Test.YtamlnkmcbbeicaaDoorRgThr
import Derived.Laws.Bits64b
import Derived.Deep.OwnRows
import Derived.Laws.CopyOwn
import Derived.Deep.RegionLaw
import Derived.Deep.LoopGhost
namespace Go.Proofs.YtamlnkmcbbeicaaDoor
open Go.RowKit Go.Lib
open RX (PS Tr Pr Stp Th)

theorem mask_small (n : Nat) (hn : n ≤ 100000) : bits .and .u64 (n : Int) 4294967295 = (n : Int) := by
  have h := bits_and_u64_nat n 4294967295 (by omega) (by omega)
  have e : n &&& 4294967295 = n % 4294967296 := Nat.and_two_pow_sub_one_eq_mod n 32
  rw [e, Nat.mod_eq_of_lt (by omega)] at h
  exact h
set_option maxHeartbeats 2000000 in
set_option maxRecDepth 100000 in
theorem mul64_one (n : Nat) (hn : n ≤ 100000) (w : World) :
    Calls Tryd.prog 70 #[.int .u64 1, .int .u64 n] w fun e w' => e = .returned (.tuple #[.int .u64 0, .int .u64 n]) ∧ w' = w := by
  have e1 : bits .and .u64 1 4294967295 = 1 := mask_small 1 (by omega)
  have e2 := mask_small n hn
  have e3 : (n : Int) / 4294967296 = 0 := by omega
  have e4 : bits .and .u64 0 4294967295 = 0 := mask_small 0 (by omega)
  have e5 : IntKind.u64.wrap (n : Int) = (n : Int) := by rw [IntKind.wrap_u64]; omega
  have e6 : IntKind.u64.wrap 0 = 0 := by rfl
  clear hn
  go_enter Tryd.func70, Tryd.ntmps70
  go_wp2_with fail
  exact bodyPost_ret (v := .tuple #[.int .u64 0, .int .u64 n]) (by simp [results, Tryd.results70, go_sem, e1, e2, e3, e4, e5, e6]) rfl ⟨rfl, rfl⟩
set_option maxHeartbeats 2000000 in
set_option maxRecDepth 100000 in
theorem mul_one (n : Nat) (hn : n ≤ 100000) (w : World) :
    Calls Tryd.prog 60 #[.int .u64 1, .int .u64 n] w fun e w' => e = .returned (.tuple #[.int .u64 0, .int .u64 n]) ∧ w' = w := by
  have e5 : IntKind.u64.wrap (n : Int) = (n : Int) := by rw [IntKind.wrap_u64]; omega
  have HN := Lib.hid hn
  clear hn
  go_enter Tryd.func60, Tryd.ntmps60
  go_wp2_with (first
    | (go_at_call 70; refine (mul64_one n HN.out _).mono ?_; rintro e w' ⟨rfl, rfl⟩)
    | fail)
  exact bodyPost_ret (v := .tuple #[.int .u64 0, .int .u64 n]) (by simp [results, Tryd.results60, go_sem]) rfl ⟨rfl, rfl⟩
theorem int_size1 : (Tryd.prog.info? 3).map (·.size) = some 1 := by kernel_rfl
/-- A row whose first k cells are filled. -/
def fillR (k n : Nat) : List Value := List.replicate k (.int .i64 (-1)) ++ List.replicate (n - k) (.int .i64 0)
theorem fillR_len {k n : Nat} (h : k ≤ n) : (fillR k n).length = n := by unfold fillR; rw [List.length_append, List.length_replicate, List.length_replicate]; omega
theorem fillR_splice {k q n : Nat} (h : k + q ≤ n) : splice (fillR k n) k (List.replicate q (.int .i64 (-1))) = fillR (k + q) n := by
  have e : (fillR k n).take k = List.replicate k (.int .i64 (-1)) := by unfold fillR; rw [List.take_left' (List.length_replicate)]
  have e2 : (fillR k n).drop (k + q) = List.replicate (n - (k + q)) (.int .i64 0) := by
    unfold fillR
    rw [← List.drop_drop, List.drop_left' (List.length_replicate), List.drop_replicate]
    congr 1; omega
  unfold splice
  rw [List.length_replicate, e, e2, ← List.append_assoc, List.replicate_append_replicate]
  rfl
theorem made_list (n : Nat) : madeCells #[.int .i64 0] n = (fillR 0 n).toArray := by
  apply Array.ext_getElem?
  intro i
  have e : fillR 0 n = List.replicate n (.int .i64 0) := by simp [fillR]
  rw [e]
  by_cases hi : i < n
  · simp [madeCells, hi, Nat.mod_one]
  · simp [madeCells, hi]
theorem one_at {W : World} {b : Nat} (h : W.heap[b]? = some (.cells #[.int .i64 (-1)] 3 (0, 0))) : ∀ j v, ([.int .i64 (-1)] : List Value)[j]? = some v → W.cell? ((⟨b, 0, none⟩ : Addr).add j) = some v := fun j v hv => by
  rw [show (⟨b, 0, none⟩ : Addr).add j = ⟨b, j, none⟩ by unfold Addr.add; split <;> simp_all, cell_of_row _ b j _ _ (0, 0) h]
  cases j with
  | zero => simpa using hv
  | succ j => cases hv
theorem filled_at {W : World} {g k n q : Nat} (h : W.heap[g]? = some (.cells (fillR k n).toArray 3 (0, 0))) (hq : q ≤ k) : ∀ j v, (List.replicate q (.int .i64 (-1) : Value))[j]? = some v → W.cell? ((⟨g, 0, none⟩ : Addr).add j) = some v := fun j v hv => by
  have hj : j < q := by have := (List.getElem?_eq_some_iff.1 hv).1; rwa [List.length_replicate] at this
  rw [List.getElem?_replicate, if_pos hj] at hv
  rw [show (⟨g, 0, none⟩ : Addr).add j = ⟨g, j, none⟩ by unfold Addr.add; split <;> simp_all, cell_of_row _ g j _ _ (0, 0) h, ← hv]
  unfold fillR
  rw [List.getElem?_toArray, List.getElem?_append_left (by rw [List.length_replicate]; omega), List.getElem?_replicate, if_pos (by omega)]
theorem filled_owns {W : World} {base g n : Nat} (h : W.heap[g]? = some (.cells (fillR n n).toArray 3 (0, 0))) (hb : base ≤ g) (hn : n ≤ 100000) : W.ownsRow base 3 1 (.slice (some ⟨g, 0, none⟩) n n) n ((List.replicate n (-1)).map (Value.int .i64)) := by
  refine ⟨by simp, .inr ⟨g, n, _, rfl, hb, h, Nat.le_refl _, by unfold maxLen; omega, by rw [List.size_toArray, fillR_len (Nat.le_refl _), Nat.mul_one], ?_⟩⟩
  simp [fillR]
set_option maxHeartbeats 4000000 in
set_option maxRecDepth 100000 in
theorem repeat_one (b c n : Nat) (w : World) (hb : w.heap[b]? = some (.cells #[.int .i64 (-1)] 3 (0, 0))) (hn0 : 0 < n) (hn : n ≤ 100000) :
    Calls Tryd.prog 49 #[.slice (some ⟨b, 0, none⟩) 1 c, .int .i64 n] w fun e w' => ∃ g, e = .returned (.slice (some ⟨g, 0, none⟩) n n) ∧ w'.ownsRow w.heap.size 3 1 (.slice (some ⟨g, 0, none⟩) n n) n ((List.replicate n (-1)).map (Value.int .i64)) ∧ Below w.heap.size w w' := by
  have e5 : IntKind.u64.wrap (n : Int) = (n : Int) := by rw [IntKind.wrap_u64]; omega
  have e6 : IntKind.i64.wrap (n : Int) = (n : Int) := IntWalk.i64_in _ (by omega)
  have j1 : ¬ (n : Int) < 0 := by omega
  have j2 : ¬ (9223372036854775807 : Int) < (n : Int) := by omega
  have hmk := run_make_row' (P := Tryd.prog) 98 3 (.int .i64 0) 8 Tryd.underlying98 Tryd.infoIntM rfl .i64 .i64 n (by omega) (by omega)
  have hb1 : Below w.heap.size w (w.alloc (.cells (madeCells #[.int .i64 0] n) 3)) := (Below.refl _ _).alloc (Nat.le_refl _) _
  have hg1 : (w.alloc (.cells (madeCells #[.int .i64 0] n) 3)).heap[w.heap.size]? = some (.cells (fillR 0 n).toArray 3 (0, 0)) := by rw [heap_alloc_new, made_list]
  have ho1 := one_at ((hb1.block b (Array.getElem?_eq_some_iff.1 hb).1).trans hb)
  have HN := Lib.hid (show _ ∧ _ from ⟨hn0, hn⟩)
  have H1 := Lib.hid (show _ ∧ _ ∧ _ from ⟨hg1, ho1, hb1⟩)
  clear hn0 hn hb hb1 hg1 ho1
  go_enter Tryd.func49, Tryd.ntmps49
  go_wp2_with (first
    | (go_at_call 60; refine (mul_one n HN.out.2 _).mono ?_; rintro e w' ⟨rfl, hw⟩; obtain rfl := hw.symm)
    | (refine wpList_copy_splice rfl _ _ 98 98 rfl 3 Tryd.underlying98 int_size1 (some ⟨w.heap.size, 0, none⟩) (some ⟨b, 0, none⟩) n n 1 c rfl rfl w.heap.size 0 (fillR 0 n) 3 H1.out.1 [.int .i64 (-1)] (by rw [List.length_singleton]; exact (Nat.min_eq_left HN.out.1).symm) (fun _ => ⟨rfl, _, rfl, H1.out.2.1⟩) (by rw [fillR_len (Nat.zero_le _), List.length_singleton]; exact HN.out.1) (by simp [Value.oneCell']) w.heap.size w H1.out.2.2 (Nat.le_refl _) ?_; intro w4 hg4 hb4)
    | fail)
  have hg5 : w4.heap[w.heap.size]? = some (.cells (fillR 1 n).toArray 3 (0, 0)) := by
    have h := hg4.out
    rw [show ([.int .i64 (-1)] : List Value) = List.replicate 1 (.int .i64 (-1)) from rfl, fillR_splice (by have := HN.out.1; omega)] at h
    exact h
  have H4 := Lib.hid (show _ ∧ _ from ⟨hg5, hb4⟩)
  clear hg4 hb4 hg5 hmk
  go_wp2_with fail
  go_loopg [8] n (fun gk kv wr => ∃ k : Nat, 1 ≤ k ∧ k ≤ n ∧ gk + k = n + 1 ∧ kv = .int .i64 k ∧ Hid (wr.heap[w.heap.size]? = some (.cells (fillR k n).toArray 3 (0, 0)) ∧ Below w.heap.size w wr))
  case atStart => exact ⟨1, Nat.le_refl _, HN.out.1, rfl, rfl, H4⟩
  case round =>
    obtain ⟨k, hk1, hkn, hgk, rfl, HR⟩ := hrel
    by_cases hlt : k < n
    · have i1 : (k : Int) < (n : Int) := by omega
      have i0 : (0 : Int) ≤ (k : Int) := by omega
      obtain ⟨q, hq⟩ : ∃ q, Nat.min k (n - k) = q := ⟨_, rfl⟩
      have hq1 : 1 ≤ q ∧ q ≤ k ∧ k + q ≤ n := by rw [← hq]; simp only [Nat.min_def]; split <;> omega
      have k1 : IntKind.i64.wrap ((k : Int) + (q : Int)) = ((k + q : Nat) : Int) := by rw [IntWalk.i64_in _ (by have := HN.out.2; omega)]; omega
      have i2 : k ≤ n := hkn
      have i3 : ¬ n = k := by omega
      have HQ := Lib.hid (show _ ∧ _ from ⟨hq, hq1⟩)
      have hlt' := hlt
      clear hq hq1
      go_wp2_with fail
      go_region_law
        (first
          | (refine step_copy_splice rfl (.tmp 41) (.tmp 44) 98 98 rfl 3 Tryd.underlying98 int_size1 (some ⟨w.heap.size, k, none⟩) (some ⟨w.heap.size, 0, none⟩) (n - k) (n - k) k n (by simp [Act.eval, Act.put]) (by simp [Act.eval, Act.put]) w.heap.size k (fillR k n) 3 (by exact HR.out.1) (List.replicate q (.int .i64 (-1))) (by rw [List.length_replicate]; exact HQ.out.1.symm) (fun _ => ⟨rfl, _, rfl, by exact filled_at HR.out.1 HQ.out.2.2.1⟩) (by rw [fillR_len hkn, List.length_replicate]; exact HQ.out.2.2.2) (by intro v hv; rw [List.eq_of_mem_replicate hv]; rfl) w.heap.size w (by exact HR.out.2.drew) (Nat.le_refl _) ?_; intro w5 hg5 hb5)
          | fail)
      have hg6 : w5.heap[w.heap.size]? = some (.cells (fillR (k + q) n).toArray 3 (0, 0)) := by
        have h := hg5.out
        rw [fillR_splice HQ.out.2.2.2] at h
        exact h
      have H5 := Lib.hid (show _ ∧ _ from ⟨hg6, hb5⟩)
      have hq1 := HQ.out.2
      clear hg5 hb5 hg6 k1
      go_wp2_with fail
      go_roundg (gk - q)
      case measure => omega
      case rel => exact ⟨k + q, by omega, hq1.2.2, by omega, by simp, H5⟩
    · obtain rfl : k = n := by omega
      have i1 : ¬ (k : Int) < (k : Int) := by omega
      go_wp2_with fail
      refine bodyPost_ret (v := .slice (some ⟨w.heap.size, 0, none⟩) k k) (by simp [results, Tryd.results49, go_sem]) rfl ⟨w.heap.size, rfl, ?_, HR.out.2⟩
      simpa using filled_owns HR.out.1 (Nat.le_refl _) HN.out.2
end Go.Proofs.YtamlnkmcbbeicaaDoor
