/- Rows of elements of two cells; clear; what a predicate handed to the library has to do. Rows of labels: what the walks over them ask. Bytes of the call's own; bytes as a text. -/
import Derived.Test.YtajaijidecomdaaGreatDoorG01
import Derived.Test.YtajaijidecomdaaGreatDoorRowset
import Derived.Laws.CopyOwn
import Derived.Test.YtajaijidecomdaaGreatDoorG03
import Derived.Lib.AppendStr
import Derived.Laws.BytesArg
import Derived.OwnWalk
import Derived.Deep.RegionHeld3
import Derived.BigQuiet
import Derived.LoopN
namespace Go.Proofs.YtajaijidecomdaaGreatDoor
open Go.RowKit Go.Lib

theorem cells_at (W : World) {b : Nat} (hb : W.heap.size = b) (cs : List Value) (t : TypeId) : ∀ j u, cs[j]? = some u → (W.alloc (.cells cs.toArray t)).cell? ((⟨b, 0, none⟩ : Addr).add j) = some u := by
  subst hb
  exact cells_newL W cs t
section
variable {α : Type} {enc : α → List Value}
theorem flatMap_set2 (hsz : ∀ x, (enc x).length = 2) (x : α) (a b : Value) (hx : enc x = [a, b]) : ∀ (l : List α) (i : Nat), i < l.length → ((l.flatMap enc).set (i * 2) a).set (i * 2 + 1) b = (l.set i x).flatMap enc
  | [], i, h => by simp at h
  | y :: l, 0, _ => by
    have hy := hsz y
    match hq : enc y, hy with
    | [c, d], _ => simp [hq, hx]
  | y :: l, i + 1, h => by
    have ih := flatMap_set2 hsz x a b hx l i (by simpa using h)
    have hy := hsz y
    match hq : enc y, hy with
    | [c, d], _ =>
      simp only [List.flatMap_cons, hq, List.set_cons_succ, List.cons_append, List.nil_append]
      rw [show (i + 1) * 2 = i * 2 + 1 + 1 by omega]
      simp only [List.set_cons_succ]
      rw [ih]
theorem flatMap_take {n : Nat} (hsz : ∀ x, (enc x).length = n) : ∀ (l : List α) (k : Nat), (l.flatMap enc).take (k * n) = (l.take k).flatMap enc
  | [], k => by simp
  | y :: l, 0 => by simp
  | y :: l, k + 1 => by
    rw [List.flatMap_cons, List.take_succ_cons, List.flatMap_cons, ← flatMap_take hsz l k, Nat.succ_mul, Nat.add_comm, List.take_append, hsz, List.take_of_length_le (by rw [hsz]; omega), Nat.add_sub_cancel_left]
variable {w w' : World} {B n cap g : Nat} {e : TypeId} {l : List α}
/-- One element is stored. -/
theorem owns_set2 (h : w.ownsRow B e 2 (.slice (some ⟨g, 0, none⟩) n cap) n (l.flatMap enc)) (hsz : ∀ x, (enc x).length = 2) {i : Nat} (hi : i < l.length) {x : α} {a b : Value} (hx : enc x = [a, b]) :
    ((w.setCell ⟨g, i * 2, none⟩ a).setCell ⟨g, i * 2 + 1, none⟩ b).ownsRow B e 2 (.slice (some ⟨g, 0, none⟩) n cap) n ((l.set i x).flatMap enc) ∧ w.grownBy ((w.setCell ⟨g, i * 2, none⟩ a).setCell ⟨g, i * 2 + 1, none⟩ b) (some g) := by
  obtain ⟨h1, h2⟩ := h.stored (i * 2) a
  obtain ⟨h3, h4⟩ := h1.stored (i * 2 + 1) b
  rw [flatMap_set2 hsz x a b hx l i hi] at h3
  exact ⟨h3, grownBy_trans h2 h4⟩
/-- An owned row's element. -/
theorem owns_at {size : Nat} (h : w.ownsRow B e size (.slice (some ⟨g, 0, none⟩) n cap) n (l.flatMap enc)) (hsz : ∀ x, (enc x).length = size) {i : Nat} {x : α} (hx : l[i]? = some x) {j : Nat} {u : Value} (hu : (enc x)[j]? = some u) : w.cell? ⟨g, i * size + j, none⟩ = some u :=
  owns_cell h rfl (flatMap_at hsz l i x hx j u hu)
theorem owns_len {size : Nat} {v : Value} (h : w.ownsRow B e size v n (l.flatMap enc)) (hsz : ∀ x, (enc x).length = size) (h0 : 0 < size) : l.length = n := by
  have := h.1
  rw [flatMap_length hsz] at this
  exact Nat.eq_of_mul_eq_mul_right h0 this
/-- The row's beginning, by itself. -/
theorem owns_take {size : Nat} {xs : List Value} (h : w.ownsRow B e size (.slice (some ⟨g, 0, none⟩) n cap) n xs) {i : Nat} (hi : i ≤ n) : w.ownsRow B e size (.slice (some ⟨g, 0, none⟩) i cap) i (xs.take (i * size)) := by
  refine ⟨by rw [List.length_take, h.1]; exact Nat.min_eq_left (Nat.mul_le_mul_right _ hi), ?_⟩
  rcases h.2 with ⟨h', _⟩ | ⟨g', cap', cur, h', hb, hg, hnc, hcm, hcs, htake⟩
  · cases h'
  · cases h'
    refine .inr ⟨g, cap, cur, rfl, hb, hg, by omega, hcm, hcs, ?_⟩
    rw [← htake, List.take_take, Nat.min_eq_left (Nat.mul_le_mul_right _ hi)]
theorem owns_some' {size : Nat} {A : Option Addr} {c : Nat} {xs : List Value} (h : w.ownsRow B e size (.slice A n c) n xs) (hn : 0 < n) : ∃ g, A = some ⟨g, 0, none⟩ ∧ g < w.heap.size := by
  obtain ⟨g, cap, hv, _, hlt⟩ := h.form hn
  injection hv with hA _ _
  exact ⟨g, hA, hlt⟩
theorem owns_cap {size : Nat} {A : Option Addr} {c : Nat} {xs : List Value} (h : w.ownsRow B e size (.slice A n c) n xs) : c ≤ maxLen ∧ n ≤ c := by
  obtain ⟨A', c', e, h1, h2⟩ := owns_slice h
  injection e with _ _ e3
  omega
theorem owns_base {B' size : Nat} {v : Value} {xs : List Value} (h : w.ownsRow B e size v n xs) (hB : B' ≤ B) : w.ownsRow B' e size v n xs := by
  refine ⟨h.1, ?_⟩
  rcases h.2 with h2 | ⟨g, cap, cur, hv, hb, r⟩
  · exact .inl h2
  · exact .inr ⟨g, cap, cur, hv, by omega, r⟩
/-- clear of the row's end. -/
theorem run_clear_own {P : Program} {size : Nat} {xs : List Value} (h : w.ownsRow B e size (.slice (some ⟨g, 0, none⟩) n cap) n xs) {i c : Nat} (hi : i ≤ n) (t ty : TypeId) (ht : P.underlying t = some (.slice e)) (z : Value) (hz : ∀ W, (zeroValue e).run P W = .ok z W) (hzs : z.cells.size = size) (hz1 : ∀ u ∈ z.cells.toList, u.oneCell' = true) (h0 : 0 < size) :
    ∃ w', (Builtin.clear_ #[t] ty #[.slice (some ⟨g, i * size, none⟩) (n - i) c]).run P w = .ok (.tuple #[]) w' ∧ w'.ownsRow B e size (.slice (some ⟨g, 0, none⟩) i cap) i (xs.take (i * size)) ∧ w.grownBy w' (some g) := by
  by_cases hni : n - i = 0
  · rw [hni]
    exact ⟨w, by simp [Builtin.clear_, run_underlying ht], owns_take h hi, grownBy_refl _ _⟩
  · rcases h.2 with ⟨h', _⟩ | ⟨g', cap', cur, h', hb, hg, hnc, hcm, hcs, htake⟩
    · cases h'
    · cases h'
      have hlen : (Builtin.zeroCells z.cells (n - i)).toList.length = (n - i) * size := by rw [Array.length_toList, size_zeroCells, hzs]
      have hfit : i * size + (n - i) * size ≤ cur.size := by rw [← Nat.add_mul, hcs]; exact Nat.mul_le_mul_right _ (by omega)
      have h1 : ∀ u ∈ (Builtin.zeroCells z.cells (n - i)).toList, u.oneCell' = true := by
        intro u hu
        rw [Array.mem_toList_iff] at hu
        simp only [Builtin.zeroCells, Array.mem_map] at hu
        obtain ⟨k, _, rfl⟩ := hu
        have hk : k % z.cells.size < z.cells.size := Nat.mod_lt _ (by omega)
        rw [getElem!_pos z.cells _ hk]
        exact hz1 _ (by simp)
      have hst := run_storeCells_at P g (i * size) e (Builtin.zeroCells z.cells (n - i)).toList 0 cur w hg (by rw [hlen]; omega) h1
      simp only [Nat.add_zero] at hst
      obtain ⟨m, hm⟩ : ∃ m, n - i = m + 1 := ⟨n - i - 1, by omega⟩
      refine ⟨w.setRow g (cur.toList.take (i * size) ++ (Builtin.zeroCells z.cells (n - i)).toList ++ cur.toList.drop (i * size + (Builtin.zeroCells z.cells (n - i)).toList.length)).toArray, ?_, ?_, ?_⟩
      · rw [hm] at hst ⊢
        simp [Builtin.clear_, run_underlying ht, hz, hst]
      · refine ⟨by rw [List.length_take, h.1]; exact Nat.min_eq_left (Nat.mul_le_mul_right _ hi), .inr ⟨g, cap, _, rfl, hb, setRow_heap w g cur _ e _ hg, by omega, hcm, ?_, ?_⟩⟩
        · simp only [List.size_toArray, List.length_append, List.length_take, List.length_drop, Array.length_toList]
          rw [Array.length_toList] at hlen
          omega
        · have hil : i * size ≤ cur.size := by rw [hcs]; exact Nat.mul_le_mul_right _ (by omega)
          rw [← htake, List.take_take, Nat.min_eq_left (Nat.mul_le_mul_right _ hi), List.append_assoc, List.take_append_of_le_length (by rw [List.length_take, Array.length_toList]; omega), List.take_take, Nat.min_self]
      · exact ⟨rfl, rfl, rfl, by simp, fun k _ hk => setRow_other w g k _ (fun e => hk (by rw [e]))⟩
end
end Go.Proofs.YtajaijidecomdaaGreatDoor
namespace Go.Proofs.YtajaijidecomdaaGreatDoor
open Go.RowKit Go.Lib

theorem Tryz.infoLabel : (Tryz.prog.info? 104).map (fun i => (i.zero, i.size, i.bytes)) = some (some (.agg #[.string ByteArray.empty, .string ByteArray.empty]), 2, 32) := by kernel_rfl
theorem oneLabel (l : List Lb) : ∀ u ∈ l.flatMap Lb.cells, u.oneCell' = true := by
  intro u hu
  obtain ⟨m, _, h⟩ := List.mem_flatMap.1 hu
  simp only [Lb.cells, List.mem_cons, List.not_mem_nil, or_false] at h
  rcases h with rfl | rfl <;> rfl
theorem below_drewLabel {w w' : World} (h : ∃ q, w' = w.drewN q) : Below w.heap.size w w' := by
  obtain ⟨q, rfl⟩ := h
  exact below_drewN (Below.refl _ _) q
theorem sameLabel_q (A B : Option Addr) (n ca cb : Nat) (l : List Lb) (w : World) (ha : Lst Lb.cells 2 w w.heap.size A n l) (hb : Lst Lb.cells 2 w w.heap.size B n l) (hbig : n ≤ 1000000000) :
    Calls Tryz.prog 29 #[.slice A n ca, .slice B n cb] w fun e w' => e = .returned (.bool true) ∧ ∃ q, w' = w.drewN q := by
  refine (sameLabels_any A B n ca n cb l l w ha hb (by omega) (by omega)).mono ?_
  rintro e w' ⟨h1, h2⟩
  rw [decide_eq_true (labelsC_cmp3.self l)] at h1
  exact ⟨h1, h2⟩
end Go.Proofs.YtajaijidecomdaaGreatDoor
namespace Go.Proofs.YtajaijidecomdaaGreatDoor
open Go.RowKit Go.Lib

theorem Tryz.infoByte : (Tryz.prog.info? 5).map (fun i => (i.zero, i.size, i.bytes)) = some (some (.int .u8 0), 1, 1) := by kernel_rfl
def bytesV (l : List UInt8) : List Value := l.map fun b => Value.int .u8 b.toNat
theorem byte_ne {b c : UInt8} (h : b ≠ c) : ((b.toNat : Int) == (c.toNat : Int)) = false := by
  rw [beq_eq_false_iff_ne]
  exact fun e => h (UInt8.toNat_inj.1 (by omega))
theorem strOfNums_bytes (l : List UInt8) : strOfNums (l.map fun b => (b.toNat : Int)) = ⟨l.toArray⟩ := by
  unfold strOfNums
  congr 2
  rw [List.map_map]
  conv => rhs; rw [← List.map_id l]
  apply List.map_congr_left
  intro b _
  simp
/-- Bytes of the call's own as a text. -/
theorem own_text {w : World} {B n : Nat} {v : Value} {l : List UInt8} (h : w.ownsRow B 5 1 v n (bytesV l)) : (convert 176 9 v).run Tryz.prog w = .ok (.string ⟨l.toArray⟩) w := by
  have hlen : l.length = n := by have := h.1; unfold bytesV at this; simpa using this
  rcases h.2 with ⟨rfl, rfl⟩ | ⟨g, cap, cur, rfl, _, _, _, _, _, _⟩
  · obtain rfl := List.length_eq_zero_iff.1 hlen
    exact run_convert_bytes_nil w 176 5 (by kernel_rfl) (by kernel_rfl) 0 0 9 (by kernel_rfl)
  · rw [← strOfNums_bytes]
    refine run_convert_bytes_arg w 176 5 (by kernel_rfl) (by kernel_rfl) g 0 n cap _ (by simpa using hlen) (fun i hi => ?_) 9 (by kernel_rfl)
    have hi' : i < l.length := by omega
    rw [Nat.zero_add]
    refine owns_cell h rfl ?_
    unfold bytesV
    simp [List.getElem?_eq_getElem hi']
theorem bytesV_append (a b : List UInt8) : bytesV (a ++ b) = bytesV a ++ bytesV b := by unfold bytesV; rw [List.map_append]
theorem bytesV_length (a : List UInt8) : (bytesV a).length = a.length := by unfold bytesV; rw [List.length_map]
theorem strCells_bytes (s : ByteArray) : strCells s = bytesV s.data.toList := rfl
theorem wrap_u8 (n : Nat) : IntKind.u8.wrap (n : Int) = ((UInt8.ofNat n).toNat : Int) := by
  unfold IntKind.wrap
  simp [UInt8.toNat_ofNat', IntKind.signed, IntKind.bits]
/-- A fresh row of one's own. -/
theorem owns_fresh {w : World} {B : Nat} (hB : B ≤ w.heap.size) (e : TypeId) (cs : List Value) (hm : cs.length ≤ maxLen) : (w.alloc (.cells cs.toArray e)).ownsRow B e 1 (.slice (some ⟨w.heap.size, 0, none⟩) cs.length cs.length) cs.length cs :=
  ⟨by simp, .inr ⟨w.heap.size, cs.length, cs.toArray, rfl, hB, heap_alloc_new w _, Nat.le_refl _, hm, by simp, by simp⟩⟩
end Go.Proofs.YtajaijidecomdaaGreatDoor
