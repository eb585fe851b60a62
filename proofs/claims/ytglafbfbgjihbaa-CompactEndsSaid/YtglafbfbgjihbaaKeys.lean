/- 'slices.Sorted(maps.Keys(groups))' at the map of groups: a new slice that holds its keys, rising. -/
import Derived.Test.YtglafbfbgjihbaaSteps
import Derived.Test.YtglafbfbgjihbaaShelf
namespace Go.Proofs.Ytglafbfbgjihbaa
open Go.RowKit Go.Maps Go.Sort Go.Shelf

theorem mem_intKeys {H : Type} {P : Program} {k : TypeId} {R : Value → Option (DataW H × List MemPlace)} {w : World} {b n : Nat} {D : DataW H} (hown : w.ownsMap P k R b n D) (hk : P.underlying k = some (.int .i64)) (x : Int) :
    x ∈ intKeys D ↔ has D (.int .i64 x) = true := by
  obtain ⟨es, rfl, hko⟩ := hown.keysOf
  have hk' : ∀ p ∈ es, ∃ x, p.1 = .int .i64 x := fun p hp => by
    obtain ⟨v, hv⟩ := hko p hp
    obtain ⟨y, _, hy, _⟩ := Maps.keyOf_i64 hk hv
    exact ⟨y, hy⟩
  rw [has_eq, List.any_eq_true]
  show x ∈ es.map (fun p => Go.intOf p.1) ↔ _
  rw [List.mem_map]
  constructor
  · rintro ⟨p, hp', rfl⟩
    obtain ⟨a, ha⟩ := hk' p hp'
    exact ⟨p, hp', by rw [ha]; simp [Lit.sameKey, Go.intOf]⟩
  · rintro ⟨p, hp', hs⟩
    obtain ⟨a, ha⟩ := hk' p hp'
    rw [ha] at hs
    exact ⟨p, hp', by rw [ha]; simpa [Lit.sameKey, Go.intOf] using hs⟩
theorem groups_map {H : Type} {w : World} {P : Program} {k : TypeId} {base : Nat} {e : TypeId} {q : IntKind} {b n : Nat} {D : DataW H} (h : w.ownsGroups P k base e q b n D) : w.ownsMap P k (rowElem w base e q) b n D := by
  obtain ⟨es, clock, hb, F, hs, hD, _⟩ := h
  exact ⟨es, clock, hb, F, hs, hD⟩

/-- slices.Sort's two contracts at this dump, at the fence that asks nothing. -/
theorem sorts_ints (m : Nat) : AnyZI.SortsIn Try.prog Try.sortedInt_ren Fence.wide m :=
  ⟨fun blk off cap ss W hH hblk hsz => callsIn_wide.2 (AnyM.slices_Sort_int Try.sortInt blk off cap ss W hH hblk hsz),
   fun p cap W => callsIn_wide.2 (AnyM.slices_Sort_int_none Try.sortInt p cap W)⟩
theorem keys_call (mb : Option Nat) (W : World) : Calls Try.prog 29 #[.map mb] W fun e w' => e = .returned (.func (.func 85) #[] #[.pointer (some ⟨W.heap.size, 0, none⟩)]) ∧ w' = W.alloc (.cells #[.map mb] 85) :=
  (callsIn_wide (n := 5)).1 (AnyZI.keys_in Try.keysInt Fence.wide 5 trivial rfl mb W)
set_option maxHeartbeats 1000000 in
theorem sorted_call {H : Type} (b nn : Nat) (D0 : DataW H) (R : Value → Option (DataW H × List MemPlace)) (w : World) (hown : w.ownsMap Try.prog 3 R b nn D0) (hmax : Maps.size D0 ≤ maxLen) (hbytes : Maps.size D0 * 8 ≤ 140737488355328) :
    Calls Try.prog 28 #[.func (.func 85) #[] #[.pointer (some ⟨w.heap.size, 0, none⟩)]] (w.alloc (.cells #[.map (some b)] 85)) fun e w' => ∃ (v : Value) (ks : List Int), e = .returned v ∧ (∀ x, x ∈ ks ↔ has D0 (.int .i64 x) = true) ∧ ks.Pairwise (· ≤ ·) ∧
      w'.ownsRow (w.heap.size + 1) 3 1 v ks.length (ks.map encZ) ∧ Below (w.heap.size + 1) (w.alloc (.cells #[.map (some b)] 85)) w' := by
  have hbl := hown.lt
  have hseq : SeqGives Fence.wide 2 Try.prog 85 #[.pointer (some ⟨w.heap.size, 0, none⟩)] encZ (fun ss => ss.Perm (intKeys D0)) (Maps.size D0) (w.alloc (.cells #[.map (some b)] 85)) :=
    AnyZI.keys_gives (ρ := Try.keysInt_ren) { Try.keysInt with } Fence.wide _ trivial rfl (by omega) w.heap.size b nn D0 _ (by simp) (by simp) (by
      obtain ⟨es, clock, hb, Ft, hs, hD⟩ := hown
      exact ⟨es, clock, (Below.heap_alloc _ _ b hbl).trans hb, Ft, hs, hD⟩)
  have cS := AnyZI.sorted_in Try.sortedInt Fence.wide 5 trivial trivial trivial trivial rfl (by omega) (sorts_ints _) (enters_of Try.func34 (by kernel_rfl) rfl) 85 #[.pointer (some ⟨w.heap.size, 0, none⟩)] trivial (enters_of Try.func85 (by kernel_rfl) rfl) _ _ hmax hbytes _ hseq
  change CallsIn _ _ Try.prog 28 _ _ _ at cS
  refine (callsIn_wide.1 cS).mono ?_
  rintro e w' ⟨v, ss, rfl, hS, hrow, _, hb⟩
  have hk := Try.underlying3
  refine ⟨v, ss.mergeSort (fun x y => decide (x ≤ y)), rfl, fun x => ?_, ?_, ?_, by simpa using hb⟩
  rotate_left 2
  · have hrow' : w'.ownsRow (w.alloc (.cells #[.map (some b)] 85)).heap.size 3 1 v ss.length ((ss.mergeSort (fun x y => decide (x ≤ y))).map encZ) := hrow
    simpa using hrow'
  · rw [List.mem_mergeSort, hS.mem_iff]
    exact mem_intKeys hown hk x
  · have h := List.pairwise_mergeSort (le := fun x y : Int => decide (x ≤ y)) (fun a b c h1 h2 => by have h1 := of_decide_eq_true h1; have h2 := of_decide_eq_true h2; exact decide_eq_true (Int.le_trans h1 h2)) (fun a b => by rcases Int.le_total a b with h | h <;> simp [h]) ss
    exact h.imp (fun h => by simpa using h)
end Go.Proofs.Ytglafbfbgjihbaa
