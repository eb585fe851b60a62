/- The document's answer for samples of all lists. -/
import Derived.Test.YtglafbfbgjihbaaRefSam
namespace Go.Proofs.Ytglafbfbgjihbaa
open Go.RowKit Go.Lib

theorem into_own (v : Value) (n B : Nat) (l : List (Int × Int)) (s : Int × Int) (w : World) (ho : w.ownsRow B 129 2 v n (l.flatMap encS)) (hn : n ≤ 1000000) :
    Calls Try.prog 77 #[v, .agg #[.int .i64 s.1, .int .u64 s.2]] w (RowPost (putIn l s) w) := by
  have hll := owns_len ho encS_len (by omega)
  rcases ho.2 with ⟨rfl, h0⟩ | ⟨g, cap, cur, rfl, _⟩
  · subst h0
    obtain rfl : l = [] := List.length_eq_zero_iff.1 hll
    exact into_nil s w
  · exact into_some g n cap B l s w ho hn
theorem putIns_len (q : List (Int × Int)) : (q.foldl putIn []).length ≤ q.length := by
  suffices H : ∀ (q o : List (Int × Int)), (q.foldl putIn o).length ≤ o.length + q.length by simpa using H q []
  intro q
  induction q with
  | nil => intro o; simp
  | cons x q ih =>
    intro o
    have h1 := ih (putIn o x)
    have h2 := putIn_len o x
    simp only [List.foldl_cons, List.length_cons]
    omega
/-- All samples ahead of the k-th of list i. -/
def ahead (ls : List (List (Int × Int))) (i k : Nat) : List (Int × Int) := (ls.take i).flatten ++ ((ls[i]?).getD []).take k
theorem ahead_succ {ls : List (List (Int × Int))} {i k : Nat} {xs : List (Int × Int)} {x : Int × Int} (hxs : ls[i]? = some xs) (hx : xs[k]? = some x) : ahead ls i (k + 1) = ahead ls i k ++ [x] := by
  obtain ⟨hk, e⟩ := List.getElem?_eq_some_iff.1 hx
  unfold ahead
  rw [hxs]
  simp only [Option.getD_some]
  rw [List.take_succ_eq_append_getElem hk, e, List.append_assoc]
theorem ahead_next {ls : List (List (Int × Int))} {i : Nat} {xs : List (Int × Int)} (hxs : ls[i]? = some xs) : ahead ls i xs.length = ahead ls (i + 1) 0 := by
  obtain ⟨hi, e⟩ := List.getElem?_eq_some_iff.1 hxs
  unfold ahead
  rw [hxs]
  simp only [Option.getD_some, List.take_zero, List.append_nil, List.take_length]
  rw [List.take_succ_eq_append_getElem hi, e]
  simp
theorem flatten_take_le {α : Type} : ∀ (ls : List (List α)) (i : Nat), (ls.take i).flatten.length ≤ ls.flatten.length
  | _, 0 => by simp
  | [], _ + 1 => by simp
  | x :: ls, i + 1 => by
    have := flatten_take_le ls i
    simp only [List.take_succ_cons, List.flatten_cons, List.length_append]
    omega
theorem ahead_len (ls : List (List (Int × Int))) (i k : Nat) : (ahead ls i k).length ≤ ls.flatten.length := by
  have h : (ahead ls i k).length ≤ (ls.take (i + 1)).flatten.length := by
    unfold ahead
    cases hx : ls[i]? with
    | none =>
      have hle : ls.length ≤ i := by simpa using hx
      have e1 : ls.take i = ls := List.take_of_length_le hle
      have e2 : ls.take (i + 1) = ls := List.take_of_length_le (by omega)
      rw [e1, e2]
      simp
    | some xs =>
      obtain ⟨hi, e⟩ := List.getElem?_eq_some_iff.1 hx
      rw [List.take_succ_eq_append_getElem hi, e]
      simp only [Option.getD_some, List.flatten_append, List.length_append, List.length_take, List.flatten_cons, List.flatten_nil, List.append_nil]
      omega
  exact Nat.le_trans h (flatten_take_le _ _)
theorem ahead_all (ls : List (List (Int × Int))) : ahead ls ls.length 0 = ls.flatten := by
  unfold ahead; simp
set_option maxHeartbeats 2000000 in
set_option maxRecDepth 100000 in
theorem refSamples_any (A : Option Addr) (n c : Nat) (ls : List (List (Int × Int))) (w : World) (hls : Lls w w.heap.size A n ls) (hn : n ≤ 100000) (hall : ls.flatten.length ≤ 100000) :
    Calls Try.prog 22 #[.slice A n c] w (RowPost (ls.flatten.foldl putIn []) w) := by
  have HL := Lib.hid hls
  clear hls
  go_enter Try.func22, Try.ntmps22
  go_wp2
  go_loopw [3, 4, 5] (fun v iv _ wr => ∃ i : Nat, i ≤ n ∧ iv = .int .i64 i ∧ Hid (wr.ownsRow w.heap.size 129 2 v ((ahead ls i 0).foldl putIn []).length (((ahead ls i 0).foldl putIn []).flatMap encS) ∧ Below w.heap.size w wr)) (fun _ iv _ _ => n - (intOf iv).toNat)
  case atStart => exact ⟨0, Nat.zero_le _, rfl, Lib.hid ⟨World.ownsRow_nil _ _ _ _, Below.refl _ _⟩⟩
  case round =>
    obtain ⟨i, hi, rfl, HR⟩ := hrel
    by_cases hlt : i < n
    · obtain ⟨xs, hxs⟩ : ∃ xs, ls[i]? = some xs := ⟨_, List.getElem?_eq_getElem (by have := HL.out.1; omega)⟩
      obtain ⟨b, off, rfl, hb, hc⟩ := HL.out.2 (by omega)
      obtain ⟨Ai, ci, h1, h2, _⟩ := hc i xs hxs
      obtain ⟨m, hm⟩ : ∃ m, xs.length = m := ⟨_, rfl⟩
      rw [hm] at h1 h2
      have hm63 : m ≤ 100000 := by
        have := ahead_len ls i xs.length
        unfold ahead at this
        rw [hxs] at this
        simp only [Option.getD_some, List.take_length, List.length_append] at this
        omega
      have HX := Lib.hid (show _ ∧ _ ∧ _ ∧ _ from ⟨hxs, h1, h2, hm⟩)
      clear hc hxs h1 h2 hm
      obtain ⟨wo, rfl⟩ : ∃ wo : World, wo = wr := ⟨_, rfl⟩
      go_wp2
      go_loopw [3, 5] (fun v kv wz => ∃ k : Nat, k ≤ m ∧ kv = .int .i64 k ∧ Hid (wz.ownsRow w.heap.size 129 2 v ((ahead ls i k).foldl putIn []).length (((ahead ls i k).foldl putIn []).flatMap encS) ∧ Below w.heap.size w wz)) (fun _ kv _ => m - (intOf kv).toNat)
      case atStart => exact ⟨0, Nat.zero_le _, rfl, HR⟩
      case round =>
        clear HR
        obtain ⟨k, hk, rfl, HR⟩ := hrel
        have c0 := (HR.out.2.cell (p := ⟨b, off + i, none⟩) hb).trans HX.out.2.1
        by_cases hkm : k < m
        · obtain ⟨bx, ox, x, rfl, hbx, hx, hcx⟩ := HX.out.2.2.1.at hkm
          have e0 := (HR.out.2.cell (p := ⟨bx, ox + k * 2 + 0, none⟩) hbx).trans (hcx 0 _ rfl)
          have e1 := (HR.out.2.cell (p := ⟨bx, ox + k * 2 + 1, none⟩) hbx).trans (hcx 1 _ rfl)
          simp only [Nat.add_zero] at e0
          have hsucc := ahead_succ HX.out.1 hx
          have hlen := putIns_len (ahead ls i k)
          have hle := ahead_len ls i k
          have hcall := into_own _ _ _ _ x wr HR.out.1 (by omega)
          have HC := Lib.hid (show _ ∧ _ from ⟨hcall, hsucc⟩)
          clear hcall hsucc hlen hle hcx hx
          go_wp2_with fail
          refine HC.out.1.mono ?_
          rintro e w2 ⟨v2, rfl, ho2, hb2⟩
          have hr2 : w2.ownsRow w.heap.size 129 2 v2 ((ahead ls i (k + 1)).foldl putIn []).length (((ahead ls i (k + 1)).foldl putIn []).flatMap encS) ∧ Below w.heap.size w w2 := by
            rw [HC.out.2, List.foldl_append]
            exact ⟨owns_base ho2 HR.out.2.size, HR.out.2.trans (hb2.mono HR.out.2.size)⟩
          have H2 := Lib.hid hr2
          clear hr2 ho2 hb2 HC
          go_wp2
          go_roundw
          case measure => simp [intOf]; omega
          case rel => exact ⟨k + 1, hkm, by simp, H2⟩
        · obtain rfl : k = m := by omega
          have hr := HR.out
          rw [← HX.out.2.2.2, ahead_next HX.out.1] at hr
          have HR2 := Lib.hid hr
          clear hr HR
          go_wp2
          go_roundw
          case measure => simp [intOf]; omega
          case rel => exact ⟨i + 1, hlt, by simp, HR2⟩
    · obtain rfl : i = n := by omega
      have hr := HR.out
      rw [← HL.out.1, ahead_all] at hr
      have HR2 := Lib.hid hr
      clear hr HR
      go_wp2
      go_ret
      exact ⟨_, rfl, HR2.out.1, HR2.out.2⟩
end Go.Proofs.Ytglafbfbgjihbaa
