/- A row of the call's own, of one-cell elements of whatever kind, before and behind a sort. slices.SortFunc's worlds at a row of the call's own, elements of k cells: what the row holds ahead, what it holds behind. labels.kept; slices.SortFunc and slices.IsSortedFunc of labels by their names. -/
import Derived.Test.YtajaijidecomdaaGreatDoorStab
import Derived.Sort.Grow
import Derived.Laws.OwnMore
import Derived.Shelf.GgSortFunc.SW
import Derived.Test.YtajaijidecomdaaGreatDoorG05
import Derived.Shelf.SlSortCmp.WholeK
import Derived.Test.YtajaijidecomdaaGreatDoorG09
import Derived.OwnWalk
import Derived.Laws.AppendOwnNone
import Derived.Shelf.SlSortCmp.NoneTotal
namespace Go.Proofs.YtajaijidecomdaaGreatDoor
open Go.Sort Go.RowKit
variable {α : Type} [Inhabited α] {enc : α → Value} {w : World} {g : Nat}
theorem holds_block {cur : Array Value} {e : TypeId} {d : Array α} (hb : w.heap[g]? = some (.cells cur e (0, 0))) (ht : cur.toList.take d.size = d.toList.map enc) : Holds enc w g 0 d := by
  intro j hj
  refine ⟨?_, by simp [World.frozen?, hb]⟩
  have h1 : (cur.toList.take d.size)[j]? = (d.toList.map enc)[j]? := by rw [ht]
  rw [List.getElem?_take_of_lt hj] at h1
  simp only [World.cell?, hb, Nat.zero_add]
  simp only [Option.isSome_none, Bool.false_eq_true, if_false]
  rw [← Array.getElem?_toList, h1]
  simp [hj]
theorem heap_sortedG {n : Nat} {os : Array Obj} {cur : Array Value} {e : TypeId} {fr : Nat × Nat} (d : Array α) (hb : w.heap[g]? = some (.cells cur e fr)) :
    (grow (putRow enc (Sort.ahead w n) g 0 d) os).heap[g]? = some (.cells (putCells enc 0 d cur) e fr) := by
  have hg : g < w.heap.size := (Array.getElem?_eq_some_iff.1 hb).1
  rw [heap_grow_old _ _ (by simpa using hg)]
  simp [putRow, mapBlock, Sort.ahead, Array.getElem?_modify, hb, onCells]
theorem grownBy_sortedG {n : Nat} {os : Array Obj} (d : Array α) : w.grownBy (grow (putRow enc (Sort.ahead w n) g 0 d) os) (some g) := by
  refine ⟨rfl, rfl, rfl, by simp, fun k hk hne => ?_⟩
  rw [heap_grow_old _ _ (by simpa using hk)]
  have : g ≠ k := fun e => hne (by rw [e])
  simp [putRow, mapBlock, Sort.ahead, Array.getElem?_modify, this]
theorem take_putCellsG (cur : Array Value) (d : Array α) (h : d.size ≤ cur.size) : (putCells enc 0 d cur).toList.take d.size = d.toList.map enc := by
  apply List.ext_getElem?
  intro j
  by_cases hj : j < d.size
  · rw [List.getElem?_take_of_lt hj, Array.getElem?_toList]
    simp [putCells, hj, show j < cur.size by omega]
  · rw [List.getElem?_take_eq_none (by omega), List.getElem?_eq_none (by simp; omega)]
theorem ownsRow_sortedG {base cap n k : Nat} {e : TypeId} {os : Array Obj} {cur : Array Value} {d : Array α} (hl : d.size = k) (hbase : base ≤ g) (hb : w.heap[g]? = some (.cells cur e (0, 0))) (h1 : k ≤ cap) (h2 : cap ≤ maxLen) (h3 : cur.size = cap * 1) :
    (grow (putRow enc (Sort.ahead w n) g 0 d) os).ownsRow base e 1 (.slice (some ⟨g, 0, none⟩) k cap) k (d.toList.map enc) :=
  ⟨by simp [hl], .inr ⟨g, cap, _, rfl, hbase, heap_sortedG d hb, h1, h2, by simp [putCells, h3], by rw [Nat.mul_one, ← hl]; exact take_putCellsG cur d (by omega)⟩⟩
end Go.Proofs.YtajaijidecomdaaGreatDoor
namespace Go.Proofs.YtajaijidecomdaaGreatDoor
open Go.RowKit Go.Lib Go.Sort

section
variable {α : Type} [Inhabited α] {enc : α → List Value} {k : Nat}
theorem flatK_list (hk : ∀ x, (enc x).length = k) (d : Array α) : (flatK enc k d).toList = d.toList.flatMap enc := by
  apply List.ext_getElem?
  intro t
  have hl := flatMap_length hk d.toList
  by_cases ht : t < d.size * k
  · have k0 : 0 < k := Nat.pos_of_ne_zero fun e => by subst e; simp at ht
    have hq : t / k < d.size := (Nat.div_lt_iff_lt_mul k0).2 ht
    have hm : t % k < k := Nat.mod_lt _ k0
    have h1 := get_flatK enc k d t ht
    have h2 := flatMap_at hk d.toList (t / k) d[t / k]! (by rw [getElem!_pos d _ hq]; simp [hq]) (t % k) ((enc d[t / k]!)[t % k]!) (by rw [getElem!_pos (enc d[t / k]!) (t % k) (by rw [hk]; exact hm)]; exact List.getElem?_eq_getElem _)
    have e : t / k * k + t % k = t := by rw [Nat.mul_comm]; exact Nat.div_add_mod t k
    rw [e] at h2
    rw [h2, ← h1, getElem!_pos _ t (by rw [size_flatK]; exact ht)]
    simp [ht]
  · rw [List.getElem?_eq_none (by rw [Array.length_toList, size_flatK]; omega), List.getElem?_eq_none (by rw [hl, Array.length_toList]; omega)]
variable {w : World} {B n cap g : Nat} {e : TypeId} {l : List α}
theorem holdsK_own (hk : ∀ x, (enc x).length = k) (h : w.ownsRow B e k (.slice (some ⟨g, 0, none⟩) n cap) n (l.flatMap enc)) : HoldsK enc k w g 0 l.toArray := by
  intro j hj
  have hfl : (flatK enc k l.toArray).toList = l.flatMap enc := flatK_list hk _
  have hj' : j < (l.flatMap enc).length := by rw [← hfl, Array.length_toList]; exact hj
  rw [Nat.zero_add]
  refine ⟨?_, h.frozenAt j⟩
  rw [h.cellAt j (by rw [← h.1]; exact hj'), getElem!_pos _ j hj, List.getElem?_eq_getElem hj']
  congr 1
  simp only [id]
  have h1 : (flatK enc k l.toArray).toList[j]'(by rw [Array.length_toList]; exact hj) = (l.flatMap enc)[j] := by simp only [hfl]
  rw [← h1, Array.getElem_toList]
theorem ownsK_sorted (hk : ∀ x, (enc x).length = k) (h : w.ownsRow B e k (.slice (some ⟨g, 0, none⟩) n cap) n (l.flatMap enc)) (m : Nat) (os : Array Obj) (d' : Array α) (hs : d'.size = l.length) (hl : l.length = n) :
    (sortWorldK enc k w g 0 m d' os).ownsRow B e k (.slice (some ⟨g, 0, none⟩) n cap) n (d'.toList.flatMap enc) ∧ w.grownBy (sortWorldK enc k w g 0 m d' os) (some g) := by
  rcases h.2 with ⟨h', _⟩ | ⟨g', cap', cur, h', hb, hg, hnc, hcm, hcs, htake⟩
  · cases h'
  · cases h'
    have hheap : (sortWorldK enc k w g 0 m d' os).heap[g]? = some (.cells (putCells id 0 (flatK enc k d') cur) e (0, 0)) := heap_sortedG (enc := id) (flatK enc k d') hg
    have hdl : (d'.toList.flatMap enc).length = n * k := by rw [flatMap_length hk, Array.length_toList, hs, hl]
    refine ⟨⟨hdl, .inr ⟨g, cap, _, rfl, hb, hheap, hnc, hcm, by simpa [putCells] using hcs, ?_⟩⟩, ?_⟩
    · have h1 := take_putCellsG (enc := id) cur (flatK enc k d') (by rw [size_flatK, hs, hl, hcs]; exact Nat.mul_le_mul_right _ hnc)
      rw [size_flatK, hs, hl, List.map_id, flatK_list hk] at h1
      exact h1
    · exact grownBy_sortedG (enc := id) (flatK enc k d')
end
end Go.Proofs.YtajaijidecomdaaGreatDoor
namespace Go.Proofs.YtajaijidecomdaaGreatDoor
open Go.RowKit Go.Lib Go.Sort

set_option maxHeartbeats 2000000 in
set_option maxRecDepth 100000 in
theorem kept_any (g : Nat) (lb : Array Value) (eg : ∀ args w, (callFunc g args).run Tryz.prog w = .ok (.enter g args) w) (p : Lb → Bool) (A : Option Addr) (n c : Nat) (l : List Lb) (w : World)
    (hp : ∀ (W : World) (x : Lb), x ∈ l → Below w.heap.size w W → Calls Tryz.prog g (#[.agg #[.string x.nm, .string x.vl]] ++ lb) W fun e w' => e = .returned (.bool (p x)) ∧ Below W.heap.size W w')
    (hL : Lst Lb.cells 2 w w.heap.size A n l) (hbig : n ≤ 1099511627776) :
    Calls Tryz.prog 149 #[.slice A n c, .func (.func g) #[] lb] w fun e w' => ∃ v, e = .returned v ∧ w'.ownsRow w.heap.size 104 2 v (l.filter p).length ((l.filter p).flatMap Lb.cells) ∧ Below w.heap.size w w' := by
  obtain ⟨i0, hi, hz0, hz1, hz2⟩ := info_parts Tryz.infoLabel
  have HI := Lib.hid (show _ ∧ _ ∧ _ ∧ _ from ⟨hi, hz0, hz1, hz2⟩)
  have HL := Lib.hid (show _ ∧ _ from ⟨hL, hp⟩)
  clear hL hp hi hz0 hz1 hz2
  go_enter Tryz.func149, Tryz.ntmps149
  go_wp2
  go_loopw [5, 7, 10] (fun v _ i wr => ∃ k : Nat, k ≤ n ∧ i = .int .i64 k ∧ Hid (wr.ownsRow w.heap.size 104 2 v ((l.take k).filter p).length (((l.take k).filter p).flatMap Lb.cells) ∧ Below w.heap.size w wr)) (fun _ _ i _ => n - (intOf i).toNat)
  case atStart => exact ⟨0, Nat.zero_le _, rfl, Lib.hid ⟨World.ownsRow_nil _ _ _ _, Below.refl _ _⟩⟩
  case round =>
    obtain ⟨k, hk, rfl, HR⟩ := hrel
    by_cases hlt : k < n
    · obtain ⟨b, off, x, rfl, hb, hx, hcl⟩ := HL.out.1.at hlt
      have c0 := (HR.out.2.cell (p := ⟨b, off + k * 2 + 0, none⟩) hb).trans (hcl 0 _ rfl)
      have c1 := (HR.out.2.cell (p := ⟨b, off + k * 2 + 1, none⟩) hb).trans (hcl 1 _ rfl)
      simp only [Nat.add_zero] at c0
      obtain ⟨hkl, e1⟩ := List.getElem?_eq_some_iff.1 hx
      have hst : (l.take (k + 1)).filter p = (l.take k).filter p ++ (if p x then [x] else []) := by
        rw [List.take_succ_eq_append_getElem hkl, List.filter_append, e1]
        congr 1
        simp [List.filter_cons]
      have hlen : ((l.take k).filter p).length ≤ k := by
        have h1 := List.length_filter_le p (l.take k)
        have h2 := List.length_take_le k l
        omega
      have hb0 : Below w.heap.size w (wr.alloc (.cells #[.string x.nm, .string x.vl] 104)) := HR.out.2.alloc HR.out.2.size _
      have hcon := HL.out.2 (wr.alloc (.cells #[.string x.nm, .string x.vl] 104)) x (List.mem_of_getElem? hx) hb0
      have ho0 := HR.out.1.alloc (.cells #[.string x.nm, .string x.vl] 104)
      generalize (l.take k).filter p = fl at hst hlen ho0
      have HC := Lib.hid (show _ ∧ _ ∧ _ from ⟨hcon, hb0, ho0⟩)
      have HS := Lib.hid (show _ ∧ _ from ⟨hst, hlen⟩)
      have hx0 : (wr.alloc (.cells #[.string x.nm, .string x.vl] 104)).cell? ⟨wr.heap.size, 0, none⟩ = some (.string x.nm) := by simp
      have hx1 : (wr.alloc (.cells #[.string x.nm, .string x.vl] 104)).cell? ⟨wr.heap.size, 1, none⟩ = some (.string x.vl) := by simp
      clear hcon hb0 ho0 hst hlen hcl hx HR e1
      cases hpx : p x with
      | false =>
        rw [hpx] at HC HS
        go_wp2_with (go_at_fn g; refine HC.out.1.mono ?_; rintro e w1 ⟨rfl, hb1⟩; have H1 := Lib.hid hb1; clear hb1)
        go_roundw
        case measure => simp [intOf]; omega
        case rel =>
          have hbB := HC.out.2.1.trans (H1.out.mono HC.out.2.1.size)
          refine ⟨k + 1, hlt, by simp, Lib.hid ⟨?_, hbB⟩⟩
          rw [HS.out.1]
          simp only [Bool.false_eq_true, if_false, List.append_nil]
          exact HC.out.2.2.kept (row := none) ⟨H1.out.os, H1.out.tape, H1.out.output, H1.out.size, fun j hj _ => H1.out.block j hj⟩ (by cases u5.ownBlock <;> simp)
      | true =>
        rw [hpx] at HC HS
        have hfll := HS.out.2
        obtain ⟨hi, hz0, hz1, hz2⟩ := HI.out
        go_wp2_with (first
          | (go_at_fn g; refine HC.out.1.mono ?_; rintro e w1 ⟨rfl, hb1⟩; have k0 := (hb1.cell (p := ⟨wr.heap.size, 0, none⟩) (by simp)).trans hx0; have k1 := (hb1.cell (p := ⟨wr.heap.size, 1, none⟩) (by simp)).trans hx1; have hsz1 := hb1.size; have H1 := Lib.hid (show w1.ownsRow w.heap.size 104 2 u5 fl.length (fl.flatMap Lb.cells) ∧ Below w.heap.size w w1 from ⟨HC.out.2.2.kept (row := none) ⟨hb1.os, hb1.tape, hb1.output, hb1.size, fun j hj _ => hb1.block j hj⟩ (by cases u5.ownBlock <;> simp), HC.out.2.1.trans (hb1.mono HC.out.2.1.size)⟩); have hsw := H1.out.2.size; clear hb1)
          | (at_builtin; refine wpList_append_own _ rfl _ _ 88 rfl w.heap.size 104 i0 _ 2 32 Tryz.underlying88 hi hz0 hz1 hz2 rfl (by omega) _ fl.length (fl.flatMap Lb.cells) rfl (H1.out.1.alloc _) ⟨w1.heap.size, 0, none⟩ 1 1 (x.cells) rfl rfl (cells_newL w1 x.cells _) ?c2 (by unfold maxLen; omega) (by omega) (by simp; omega) ?_))
        case c2 => exact fun u hu => by simp only [Lb.cells, List.mem_cons, List.not_mem_nil, or_false] at hu; rcases hu with rfl | rfl <;> rfl
        intro v' w5 hown5 hg5 _
        have hb5 := (H1.out.2.alloc H1.out.2.size (.cells #[.string x.nm, .string x.vl] 104)).grown hg5 (by simp; have := H1.out.2.size; omega) (fun j hj => (H1.out.1.lt j hj).1)
        have H5 := Lib.hid (show _ ∧ _ from ⟨hown5, hb5⟩)
        clear hi hz0 hz1 hz2 hown5 hg5 hb5
        go_wp2
        go_roundw
        case measure => simp [intOf]; omega
        case rel =>
          refine ⟨k + 1, hlt, by simp, Lib.hid ⟨?_, H5.out.2⟩⟩
          rw [HS.out.1]
          simp only [if_true]
          rw [List.flatMap_append, List.length_append]
          simpa using H5.out.1
    · have hkn : k = n := by omega
      have hfl : l.take k = l := by rw [hkn, ← HL.out.1.1]; exact List.take_length
      rw [hfl] at HR
      go_wp2
      go_ret
      exact ⟨_, rfl, HR.out.1, HR.out.2⟩
end Go.Proofs.YtajaijidecomdaaGreatDoor
