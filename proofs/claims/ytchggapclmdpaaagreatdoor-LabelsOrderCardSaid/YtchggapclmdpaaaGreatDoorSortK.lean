/- slices.SortFunc's worlds at a row of the call's own, elements of k cells: what the row holds ahead, what it holds behind. -/
import Derived.Test.YtchggapclmdpaaaGreatDoorRow2
import Derived.Test.YtchggapclmdpaaaGreatDoorRowSort
import Derived.Shelf.SlSortCmp.WholeK
namespace Go.Proofs.YtchggapclmdpaaaGreatDoor
open Go.RowKit Go.Lib Go.Sort

section
variable {α : Type} [Inhabited α] {enc : α → List Value} {k : Nat}
theorem flatK_list (hk : ∀ x, (enc x).length = k) (d : Array α) : (flatK enc k d).toList = d.toList.flatMap enc := by
  apply List.ext_getElem?
  intro t
  have hl := flatMap_length hk d.toList
  by_cases ht : t < d.size * k
  · have k0 : 0 < k := Nat.pos_of_ne_zero fun e => by subst e; simp at ht
    have hq : t / k < d.size := (Nat.div_lt_iff_lt_mul k0).2 ht
    have hm : t % k < k := Nat.mod_lt _ k0
    have h1 := get_flatK enc k d t ht
    have h2 := flatMap_at hk d.toList (t / k) d[t / k]! (by rw [getElem!_pos d _ hq]; simp [hq]) (t % k) ((enc d[t / k]!)[t % k]!) (by rw [getElem!_pos (enc d[t / k]!) (t % k) (by rw [hk]; exact hm)]; exact List.getElem?_eq_getElem _)
    have e : t / k * k + t % k = t := by rw [Nat.mul_comm]; exact Nat.div_add_mod t k
    rw [e] at h2
    rw [h2, ← h1, getElem!_pos _ t (by rw [size_flatK]; exact ht)]
    simp [ht]
  · rw [List.getElem?_eq_none (by rw [Array.length_toList, size_flatK]; omega), List.getElem?_eq_none (by rw [hl, Array.length_toList]; omega)]
variable {w : World} {B n cap g : Nat} {e : TypeId} {l : List α}
theorem holdsK_own (hk : ∀ x, (enc x).length = k) (h : w.ownsRow B e k (.slice (some ⟨g, 0, none⟩) n cap) n (l.flatMap enc)) : HoldsK enc k w g 0 l.toArray := by
  intro j hj
  have hfl : (flatK enc k l.toArray).toList = l.flatMap enc := flatK_list hk _
  have hj' : j < (l.flatMap enc).length := by rw [← hfl, Array.length_toList]; exact hj
  rw [Nat.zero_add]
  refine ⟨?_, h.frozenAt j⟩
  rw [h.cellAt j (by rw [← h.1]; exact hj'), getElem!_pos _ j hj, List.getElem?_eq_getElem hj']
  congr 1
  simp only [id]
  have h1 : (flatK enc k l.toArray).toList[j]'(by rw [Array.length_toList]; exact hj) = (l.flatMap enc)[j] := by simp only [hfl]
  rw [← h1, Array.getElem_toList]
theorem ownsK_sorted (hk : ∀ x, (enc x).length = k) (h : w.ownsRow B e k (.slice (some ⟨g, 0, none⟩) n cap) n (l.flatMap enc)) (m : Nat) (os : Array Obj) (d' : Array α) (hs : d'.size = l.length) (hl : l.length = n) :
    (sortWorldK enc k w g 0 m d' os).ownsRow B e k (.slice (some ⟨g, 0, none⟩) n cap) n (d'.toList.flatMap enc) ∧ w.grownBy (sortWorldK enc k w g 0 m d' os) (some g) := by
  rcases h.2 with ⟨h', _⟩ | ⟨g', cap', cur, h', hb, hg, hnc, hcm, hcs, htake⟩
  · cases h'
  · cases h'
    have hheap : (sortWorldK enc k w g 0 m d' os).heap[g]? = some (.cells (putCells id 0 (flatK enc k d') cur) e (0, 0)) := heap_sortedG (enc := id) (flatK enc k d') hg
    have hdl : (d'.toList.flatMap enc).length = n * k := by rw [flatMap_length hk, Array.length_toList, hs, hl]
    refine ⟨⟨hdl, .inr ⟨g, cap, _, rfl, hb, hheap, hnc, hcm, by simpa [putCells] using hcs, ?_⟩⟩, ?_⟩
    · have h1 := take_putCellsG (enc := id) cur (flatK enc k d') (by rw [size_flatK, hs, hl, hcs]; exact Nat.mul_le_mul_right _ hnc)
      rw [size_flatK, hs, hl, List.map_id, flatK_list hk] at h1
      exact h1
    · exact grownBy_sortedG (enc := id) (flatK enc k d')
end
end Go.Proofs.YtchggapclmdpaaaGreatDoor
