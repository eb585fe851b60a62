/- Patterns' reader: a number. -/
import Derived.Test.YtamlnkmcbbeicaaDoorG03
namespace Go.Proofs.YtamlnkmcbbeicaaDoor
open Go.RowKit Go.Lib
open RX (PS Tr Pr)

theorem idx_in (l : List UInt8) (c : UInt8) : ∃ z : Int, (∀ W, Calls Tryd.prog 64 #[.string ⟨l.toArray⟩, .int .u8 c.toNat] W fun e w' => e = .returned (.int .i64 z) ∧ w' = W) ∧ (0 ≤ z ↔ l.contains c = true) :=
  ⟨indexByte l c, fun W => idx_any ⟨l.toArray⟩ c W, by rw [contains_iff_indexByte]; simp⟩
theorem dig_iff (c : UInt8) : RX.digL.contains c = true ↔ 48 ≤ c.toNat ∧ c.toNat ≤ 57 := by
  rw [List.contains_iff_mem]
  constructor
  · intro h
    have h2 : ∀ x ∈ RX.digL, 48 ≤ x.toNat ∧ x.toNat ≤ 57 := by decide
    exact h2 c h
  · intro ⟨h1, h2⟩
    have : c = UInt8.ofNat c.toNat := by simp
    obtain ⟨n, hn⟩ : ∃ n, c.toNat = n := ⟨_, rfl⟩
    rw [hn] at this h1 h2
    rw [this]
    have h3 : n = 48 ∨ n = 49 ∨ n = 50 ∨ n = 51 ∨ n = 52 ∨ n = 53 ∨ n = 54 ∨ n = 55 ∨ n = 56 ∨ n = 57 := by omega
    rcases h3 with rfl | rfl | rfl | rfl | rfl | rfl | rfl | rfl | rfl | rfl <;> decide
def NumPost (w : World) (bk : Nat) (s : ByteArray) (st : PS) (e : Ending) (w' : World) : Prop :=
  match RX.number s.data.toList st.at_ with
  | .ok n k => e = .returned (.int .i64 n) ∧ Psr w' bk s (st.to k) ∧ k ≤ s.size ∧ n ≤ 1000 ∧ GrownIn (fun b => b = bk) w w'
  | .bad a => e = .panicked [{ v := badV a, recovered := false }] ∧ GrownIn (fun b => b = bk) w w'
theorem numGo_step {s : List UInt8} {f k n : Nat} {c : UInt8} (h : s[k]? = some c) (hc : 48 ≤ c.toNat ∧ c.toNat ≤ 57) : RX.numGo s (f + 1) k n = RX.numGo s f (k + 1) (10 * n + (c.toNat - 48)) := by
  rw [RX.numGo, h]; simp only; rw [if_pos hc]
theorem numGo_stop {s : List UInt8} {f k n : Nat} {c : UInt8} (h : s[k]? = some c) (hc : ¬ (48 ≤ c.toNat ∧ c.toNat ≤ 57)) : RX.numGo s f k n = (n, k) := by
  cases f with
  | zero => rfl
  | succ f => rw [RX.numGo, h]; simp only; rw [if_neg hc]
theorem numGo_end {s : List UInt8} {f k n : Nat} (h : s[k]? = none) : RX.numGo s f k n = (n, k) := by
  cases f with
  | zero => rfl
  | succ f => rw [RX.numGo, h]
/-- What is so far read of a number. -/
structure NumIn (w wr : World) (bk : Nat) (s : ByteArray) (st : PS) (k n f : Nat) : Prop where
  psr : Psr wr bk s (st.to k)
  go : RX.numGo s.data.toList f k n = RX.numGo s.data.toList 4 st.at_ 0
  cnt : k + f = st.at_ + 4
  le : k ≤ s.size
  num : n < 10 ^ (4 - f)
  few : f ≤ 4
  grown : GrownIn (fun b => b = bk) w wr
set_option maxHeartbeats 2000000 in
set_option maxRecDepth 100000 in
theorem number_any (bk : Nat) (s : ByteArray) (st : PS) (w : World) (hS : Psr w bk s st) (hk : st.at_ ≤ s.size) (hbig : s.size ≤ 1000) :
    Calls Tryd.prog 67 #[.pointer (some ⟨bk, 0, none⟩)] w (NumPost w bk s st) := by
  have c1 := hS.c1
  have HS := Lib.hid (show NumIn w w bk s st st.at_ 0 4 from ⟨hS, rfl, rfl, hk, by omega, by omega, GrownIn.refl _ _⟩)
  clear hS
  have k0 : IntKind.i64.wrap ((st.at_ : Int) + 4) = (st.at_ : Int) + 4 := IntWalk.i64_in _ (by omega)
  go_enter Tryd.func67, Tryd.ntmps67
  go_wp2_with (go_quiet (fail))
  clear c1
  go_loopw [3] (fun nv wr => ∃ k n f : Nat, nv = .int .i64 n ∧ Hid (NumIn w wr bk s st k n f)) (fun _ wr => s.size - atOf wr bk)
  case atStart => exact ⟨st.at_, 0, 4, rfl, Lib.hid ⟨HS.out.psr.drewN _, HS.out.go, HS.out.cnt, HS.out.le, HS.out.num, HS.out.few, HS.out.grown.drewN _⟩⟩
  case round =>
    obtain ⟨k, n, f, rfl, HN⟩ := hrel
    have c0 := HN.out.psr.c0
    have c1 : wr.cell? ⟨bk, 1, none⟩ = some (.int .i64 k) := HN.out.psr.c1
    have f1 := HN.out.psr.fr 1
    by_cases hf : f = 0
    · have i1 : ¬ (k : Int) < (st.at_ : Int) + 4 := by have := HN.out.cnt; omega
      have hend : RX.numGo s.data.toList 4 st.at_ 0 = (n, k) := by rw [← HN.out.go, hf]; rfl
      have HE := Lib.hid hend
      clear hend
      by_cases e1 : k = st.at_
      · have b1 : ((k : Int) == (st.at_ : Int)) = true := by rw [e1]; simp
        have HX := Lib.hid e1
        clear e1
        go_wp2_with (go_quiet (fail))
        exact ⟨rfl, by
          have hnum : RX.number s.data.toList st.at_ = .bad k := by unfold RX.number; rw [HE.out]; exact if_pos (.inl HX.out)
          unfold NumPost; rw [hnum]; exact ⟨rfl, HN.out.grown.drewN _⟩⟩
      · have b1 : ((k : Int) == (st.at_ : Int)) = false := by rw [beq_eq_false_iff_ne]; omega
        have HX := Lib.hid e1
        clear e1
        by_cases e2 : 1000 < n
        · have b2 : (1000 : Int) < (n : Int) := by omega
          have HY := Lib.hid e2
          clear e2
          go_wp2_with (go_quiet (fail))
          exact ⟨rfl, by
            have hnum : RX.number s.data.toList st.at_ = .bad k := by unfold RX.number; rw [HE.out]; exact if_pos (.inr HY.out)
            unfold NumPost; rw [hnum]; exact ⟨rfl, HN.out.grown.drewN _⟩⟩
        · have b2 : ¬ (1000 : Int) < (n : Int) := by omega
          have HY := Lib.hid e2
          clear e2
          go_wp2_with (go_quiet (fail))
          go_ret
          have hnum : RX.number s.data.toList st.at_ = .ok n k := by unfold RX.number; rw [HE.out]; exact if_neg (fun h => h.elim HX.out HY.out)
          unfold NumPost; rw [hnum]; exact ⟨rfl, HN.out.psr.drewN _, HN.out.le, by have := HY.out; omega, HN.out.grown.drewN _⟩
    · have i1 : (k : Int) < (st.at_ : Int) + 4 := by have := HN.out.cnt; omega
      by_cases hlt : k < s.size
      · have i2 : (k : Int) < (s.size : Int) := by omega
        have i0 : (0 : Int) ≤ (k : Int) := by omega
        obtain ⟨c, hc⟩ : ∃ c, s[k]'hlt = c := ⟨_, rfl⟩
        have hl : s.data.toList[k]? = some c := by rw [byte_at hlt, hc]
        obtain ⟨z, hz, hzi⟩ := idx_in RX.digL c
        have HZ := Lib.hid (show _ ∧ _ from ⟨hz, hl⟩)
        clear hz hl
        by_cases hd : 48 ≤ c.toNat ∧ c.toNat ≤ 57
        · have iz : (0 : Int) ≤ z := hzi.2 ((dig_iff c).2 hd)
          have hn10 : n < 1000 := by
            have h1 := HN.out.num
            have h2 := HN.out.few
            have h3 : 4 - f ≤ 3 := by omega
            have h4 : 10 ^ (4 - f) ≤ 10 ^ 3 := Nat.pow_le_pow_right (by omega) h3
            omega
          have w1 : IntKind.u8.wrap ((c.toNat : Int) - 48) = (c.toNat : Int) - 48 := by
            unfold IntKind.wrap
            simp [IntKind.signed, IntKind.bits]
            omega
          have w2 : IntKind.i64.wrap ((c.toNat : Int) - 48) = (c.toNat : Int) - 48 := IntWalk.i64_in _ (by omega)
          have w3 : IntKind.i64.wrap (10 * (n : Int)) = 10 * (n : Int) := IntWalk.i64_in _ (by omega)
          have w4 : IntKind.i64.wrap (10 * (n : Int) + ((c.toNat : Int) - 48)) = 10 * (n : Int) + ((c.toNat : Int) - 48) := IntWalk.i64_in _ (by omega)
          have w5 : IntKind.i64.wrap ((k : Int) + 1) = (k : Int) + 1 := IntWalk.i64_in _ (by omega)
          have HD := Lib.hid (show _ ∧ _ ∧ _ ∧ _ from ⟨hd, hf, hlt, hn10⟩)
          clear hzi hd hf hn10
          go_wp2_with (go_quiet (first | (go_at_call 64; refine Calls.quiet_of_same (HZ.out.1 _)) | fail))
          go_roundw
          case measure =>
            refine Nat.lt_of_le_of_lt (m := s.size - (k + 1)) (Nat.le_of_eq (congrArg (s.size - ·) (Psr.at (st := st.to (k + 1)) (HN.out.psr.drewN _).next))) ?_
            rw [HN.out.psr.at]
            have := HD.out.2.2.1
            show s.size - (k + 1) < s.size - k
            omega
          case rel =>
            obtain ⟨h1, h2, h3, h4⟩ := HD.out
            obtain ⟨g, rfl⟩ : ∃ g, f = g + 1 := ⟨f - 1, by omega⟩
            refine ⟨k + 1, 10 * n + (c.toNat - 48), g, ?_, Lib.hid ⟨(HN.out.psr.drewN _).next, ?_, by have := HN.out.cnt; omega, by omega, ?_, by have := HN.out.few; omega, grownIn_set (S := fun b => b = bk) (p := ⟨bk, 1, none⟩) (HN.out.grown.drewN _) rfl _⟩⟩
            · congr 1
              omega
            · rw [← HN.out.go, numGo_step HZ.out.2 h1]
            · have hn := HN.out.num
              have hfw := HN.out.few
              have e : 4 - g = (4 - (g + 1)) + 1 := by omega
              rw [e, Nat.pow_succ]
              omega
        · have iz : ¬ (0 : Int) ≤ z := fun h => hd ((dig_iff c).1 (hzi.1 h))
          have hend : RX.numGo s.data.toList 4 st.at_ 0 = (n, k) := by rw [← HN.out.go]; exact numGo_stop HZ.out.2 hd
          clear hzi hd
          have HE := Lib.hid hend
          clear hend
          by_cases e1 : k = st.at_
          · have b1 : ((k : Int) == (st.at_ : Int)) = true := by rw [e1]; simp
            have HX := Lib.hid e1
            clear e1
            go_wp2_with (go_quiet (first | (go_at_call 64; refine Calls.quiet_of_same (HZ.out.1 _)) | fail))
            exact ⟨rfl, by
              have hnum : RX.number s.data.toList st.at_ = .bad k := by unfold RX.number; rw [HE.out]; exact if_pos (.inl HX.out)
              unfold NumPost; rw [hnum]; exact ⟨rfl, HN.out.grown.drewN _⟩⟩
          · have b1 : ((k : Int) == (st.at_ : Int)) = false := by rw [beq_eq_false_iff_ne]; omega
            have HX := Lib.hid e1
            clear e1
            by_cases e2 : 1000 < n
            · have b2 : (1000 : Int) < (n : Int) := by omega
              have HY := Lib.hid e2
              clear e2
              go_wp2_with (go_quiet (first | (go_at_call 64; refine Calls.quiet_of_same (HZ.out.1 _)) | fail))
              exact ⟨rfl, by
                have hnum : RX.number s.data.toList st.at_ = .bad k := by unfold RX.number; rw [HE.out]; exact if_pos (.inr HY.out)
                unfold NumPost; rw [hnum]; exact ⟨rfl, HN.out.grown.drewN _⟩⟩
            · have b2 : ¬ (1000 : Int) < (n : Int) := by omega
              have HY := Lib.hid e2
              clear e2
              go_wp2_with (go_quiet (first | (go_at_call 64; refine Calls.quiet_of_same (HZ.out.1 _)) | fail))
              go_ret
              have hnum : RX.number s.data.toList st.at_ = .ok n k := by unfold RX.number; rw [HE.out]; exact if_neg (fun h => h.elim HX.out HY.out)
              unfold NumPost; rw [hnum]; exact ⟨rfl, HN.out.psr.drewN _, HN.out.le, by have := HY.out; omega, HN.out.grown.drewN _⟩
      · have i2 : ¬ (k : Int) < (s.size : Int) := by omega
        have hend : RX.numGo s.data.toList 4 st.at_ 0 = (n, k) := by rw [← HN.out.go]; exact numGo_end (byte_none hlt)
        have HE := Lib.hid hend
        clear hend
        by_cases e1 : k = st.at_
        · have b1 : ((k : Int) == (st.at_ : Int)) = true := by rw [e1]; simp
          have HX := Lib.hid e1
          clear e1
          go_wp2_with (go_quiet (fail))
          exact ⟨rfl, by
            have hnum : RX.number s.data.toList st.at_ = .bad k := by unfold RX.number; rw [HE.out]; exact if_pos (.inl HX.out)
            unfold NumPost; rw [hnum]; exact ⟨rfl, HN.out.grown.drewN _⟩⟩
        · have b1 : ((k : Int) == (st.at_ : Int)) = false := by rw [beq_eq_false_iff_ne]; omega
          have HX := Lib.hid e1
          clear e1
          by_cases e2 : 1000 < n
          · have b2 : (1000 : Int) < (n : Int) := by omega
            have HY := Lib.hid e2
            clear e2
            go_wp2_with (go_quiet (fail))
            exact ⟨rfl, by
              have hnum : RX.number s.data.toList st.at_ = .bad k := by unfold RX.number; rw [HE.out]; exact if_pos (.inr HY.out)
              unfold NumPost; rw [hnum]; exact ⟨rfl, HN.out.grown.drewN _⟩⟩
          · have b2 : ¬ (1000 : Int) < (n : Int) := by omega
            have HY := Lib.hid e2
            clear e2
            go_wp2_with (go_quiet (fail))
            go_ret
            have hnum : RX.number s.data.toList st.at_ = .ok n k := by unfold RX.number; rw [HE.out]; exact if_neg (fun h => h.elim HX.out HY.out)
            unfold NumPost; rw [hnum]; exact ⟨rfl, HN.out.psr.drewN _, HN.out.le, by have := HY.out; omega, HN.out.grown.drewN _⟩
end Go.Proofs.YtamlnkmcbbeicaaDoor
