/- Chapter 17's law: has: does a time lie in one? -/
import Derived.Test.YtglafbfbgjihbaaIvLaw
import Derived.Test.YtglafbfbgjihbaaCloneInterval
import Derived.BigQuiet
namespace Go.Proofs.Ytglafbfbgjihbaa
open Go.RowKit Go.Lib

def covB (l : List (Int × Int)) (t : Int) : Bool := l.any fun x => decide (x.1 ≤ t ∧ t ≤ x.2)
theorem covB_iff (l : List (Int × Int)) (t : Int) : covB l t = true ↔ Cov l t := by
  unfold covB Cov
  rw [List.any_eq_true]
  exact ⟨fun ⟨x, hx, h⟩ => ⟨x, hx, of_decide_eq_true h⟩, fun ⟨x, hx, h⟩ => ⟨x, hx, decide_eq_true h⟩⟩
theorem covB_congr {l m : List (Int × Int)} (h : ∀ t, Cov l t ↔ Cov m t) (t : Int) : covB l t = covB m t := by
  rw [Bool.eq_iff_iff, covB_iff, covB_iff]; exact h t
theorem covB_succ {l : List (Int × Int)} {k : Nat} {x : Int × Int} {t : Int} (hx : l[k]? = some x) : covB (l.take (k + 1)) t = (covB (l.take k) t || decide (x.1 ≤ t ∧ t ≤ x.2)) := by
  obtain ⟨hk, e⟩ := List.getElem?_eq_some_iff.1 hx
  unfold covB
  rw [List.take_succ_eq_append_getElem hk, e, List.any_append]
  simp
theorem covB_mem {l : List (Int × Int)} {k : Nat} {x : Int × Int} {t : Int} (hx : l[k]? = some x) (h : x.1 ≤ t ∧ t ≤ x.2) : covB l t = true := (covB_iff l t).2 ⟨x, List.mem_of_getElem? hx, h⟩
set_option maxHeartbeats 1000000 in
theorem has_any (A : Option Addr) (n c B : Nat) (l : List (Int × Int)) (t : Int) (w : World) (hL : Lst encI 2 w B A n l) (hbig : n ≤ 1000000000) :
    Calls Try.prog 27 #[.slice A n c, .int .i64 t] w fun e w' => e = .returned (.bool (covB l t)) ∧ w' = w := by
  have HL := Lib.hid hL
  clear hL
  go_enter Try.func27, Try.ntmps27
  go_wp2
  go_loop [5] (fun i => ∃ k : Nat, k ≤ n ∧ i = .int .i64 k ∧ Hid (covB (l.take k) t = false)) (fun i => n - (intOf i).toNat)
  case atStart => exact ⟨0, Nat.zero_le _, rfl, Lib.hid rfl⟩
  case round =>
    obtain ⟨k, hk, rfl, HF⟩ := hrel
    by_cases hlt : k < n
    · obtain ⟨b, off, x, rfl, hbb, hx, hc⟩ := HL.out.at hlt
      have c0 := hc 0 _ rfl
      have c1 := hc 1 _ rfl
      simp only [Nat.add_zero] at c0
      have HX := Lib.hid hx
      clear hx hc
      by_cases h1 : x.1 ≤ t
      · by_cases h2 : t ≤ x.2
        · go_wp2
          go_ret
          exact ⟨by rw [covB_mem HX.out ⟨h1, h2⟩]; rfl, rfl⟩
        · go_wp2
          go_round
          case measure => simp [intOf]; omega
          case rel => exact ⟨k + 1, hlt, by simp, Lib.hid (by rw [covB_succ HX.out, HF.out]; simp; omega)⟩
      · go_wp2
        go_round
        case measure => simp [intOf]; omega
        case rel => exact ⟨k + 1, hlt, by simp, Lib.hid (by rw [covB_succ HX.out, HF.out]; simp; omega)⟩
    · have hf := HF.out
      rw [List.take_of_length_le (by have := HL.out.1; omega)] at hf
      have HF2 := Lib.hid hf
      clear hf
      go_wp2
      go_ret
      exact ⟨by rw [HF2.out]; rfl, rfl⟩
end Go.Proofs.Ytglafbfbgjihbaa
