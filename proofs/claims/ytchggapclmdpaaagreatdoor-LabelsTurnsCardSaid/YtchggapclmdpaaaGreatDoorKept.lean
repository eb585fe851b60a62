/- labels.kept; slices.SortFunc and slices.IsSortedFunc of labels by their names. -/
import Derived.Test.YtchggapclmdpaaaGreatDoorPred7
import Derived.Test.YtchggapclmdpaaaGreatDoorGc
import Derived.OwnWalk
import Derived.Laws.AppendOwnNone
import Derived.Shelf.SlSortCmp.NoneTotal
namespace Go.Proofs.YtchggapclmdpaaaGreatDoor
open Go.RowKit Go.Lib Go.Sort

set_option maxHeartbeats 2000000 in
set_option maxRecDepth 100000 in
theorem kept_any (g : Nat) (lb : Array Value) (eg : ∀ args w, (callFunc g args).run Tryz.prog w = .ok (.enter g args) w) (p : Lb → Bool) (A : Option Addr) (n c : Nat) (l : List Lb) (w : World)
    (hp : ∀ (W : World) (x : Lb), x ∈ l → Below w.heap.size w W → Calls Tryz.prog g (#[.agg #[.string x.nm, .string x.vl]] ++ lb) W fun e w' => e = .returned (.bool (p x)) ∧ Below W.heap.size W w')
    (hL : Lst Lb.cells 2 w w.heap.size A n l) (hbig : n ≤ 1099511627776) :
    Calls Tryz.prog 58 #[.slice A n c, .func (.func g) #[] lb] w fun e w' => ∃ v, e = .returned v ∧ w'.ownsRow w.heap.size 94 2 v (l.filter p).length ((l.filter p).flatMap Lb.cells) ∧ Below w.heap.size w w' := by
  obtain ⟨i0, hi, hz0, hz1, hz2⟩ := info_parts Tryz.infoLabel
  have HI := Lib.hid (show _ ∧ _ ∧ _ ∧ _ from ⟨hi, hz0, hz1, hz2⟩)
  have HL := Lib.hid (show _ ∧ _ from ⟨hL, hp⟩)
  clear hL hp hi hz0 hz1 hz2
  go_enter Tryz.func58, Tryz.ntmps58
  go_wp2
  go_loopw [5, 7, 10] (fun v _ i wr => ∃ k : Nat, k ≤ n ∧ i = .int .i64 k ∧ Hid (wr.ownsRow w.heap.size 94 2 v ((l.take k).filter p).length (((l.take k).filter p).flatMap Lb.cells) ∧ Below w.heap.size w wr)) (fun _ _ i _ => n - (intOf i).toNat)
  case atStart => exact ⟨0, Nat.zero_le _, rfl, Lib.hid ⟨World.ownsRow_nil _ _ _ _, Below.refl _ _⟩⟩
  case round =>
    obtain ⟨k, hk, rfl, HR⟩ := hrel
    by_cases hlt : k < n
    · obtain ⟨b, off, x, rfl, hb, hx, hcl⟩ := HL.out.1.at hlt
      have c0 := (HR.out.2.cell (p := ⟨b, off + k * 2 + 0, none⟩) hb).trans (hcl 0 _ rfl)
      have c1 := (HR.out.2.cell (p := ⟨b, off + k * 2 + 1, none⟩) hb).trans (hcl 1 _ rfl)
      simp only [Nat.add_zero] at c0
      obtain ⟨hkl, e1⟩ := List.getElem?_eq_some_iff.1 hx
      have hst : (l.take (k + 1)).filter p = (l.take k).filter p ++ (if p x then [x] else []) := by
        rw [List.take_succ_eq_append_getElem hkl, List.filter_append, e1]
        congr 1
        simp [List.filter_cons]
      have hlen : ((l.take k).filter p).length ≤ k := by
        have h1 := List.length_filter_le p (l.take k)
        have h2 := List.length_take_le k l
        omega
      have hb0 : Below w.heap.size w (wr.alloc (.cells #[.string x.nm, .string x.vl] 94)) := HR.out.2.alloc HR.out.2.size _
      have hcon := HL.out.2 (wr.alloc (.cells #[.string x.nm, .string x.vl] 94)) x (List.mem_of_getElem? hx) hb0
      have ho0 := HR.out.1.alloc (.cells #[.string x.nm, .string x.vl] 94)
      generalize (l.take k).filter p = fl at hst hlen ho0
      have HC := Lib.hid (show _ ∧ _ ∧ _ from ⟨hcon, hb0, ho0⟩)
      have HS := Lib.hid (show _ ∧ _ from ⟨hst, hlen⟩)
      have hx0 : (wr.alloc (.cells #[.string x.nm, .string x.vl] 94)).cell? ⟨wr.heap.size, 0, none⟩ = some (.string x.nm) := by simp
      have hx1 : (wr.alloc (.cells #[.string x.nm, .string x.vl] 94)).cell? ⟨wr.heap.size, 1, none⟩ = some (.string x.vl) := by simp
      clear hcon hb0 ho0 hst hlen hcl hx HR e1
      cases hpx : p x with
      | false =>
        rw [hpx] at HC HS
        go_wp2_with (go_at_fn g; refine HC.out.1.mono ?_; rintro e w1 ⟨rfl, hb1⟩; have H1 := Lib.hid hb1; clear hb1)
        go_roundw
        case measure => simp [intOf]; omega
        case rel =>
          have hbB := HC.out.2.1.trans (H1.out.mono HC.out.2.1.size)
          refine ⟨k + 1, hlt, by simp, Lib.hid ⟨?_, hbB⟩⟩
          rw [HS.out.1]
          simp only [Bool.false_eq_true, if_false, List.append_nil]
          exact HC.out.2.2.kept (row := none) ⟨H1.out.os, H1.out.tape, H1.out.output, H1.out.size, fun j hj _ => H1.out.block j hj⟩ (by cases u5.ownBlock <;> simp)
      | true =>
        rw [hpx] at HC HS
        have hfll := HS.out.2
        obtain ⟨hi, hz0, hz1, hz2⟩ := HI.out
        go_wp2_with (first
          | (go_at_fn g; refine HC.out.1.mono ?_; rintro e w1 ⟨rfl, hb1⟩; have k0 := (hb1.cell (p := ⟨wr.heap.size, 0, none⟩) (by simp)).trans hx0; have k1 := (hb1.cell (p := ⟨wr.heap.size, 1, none⟩) (by simp)).trans hx1; have hsz1 := hb1.size; have H1 := Lib.hid (show w1.ownsRow w.heap.size 94 2 u5 fl.length (fl.flatMap Lb.cells) ∧ Below w.heap.size w w1 from ⟨HC.out.2.2.kept (row := none) ⟨hb1.os, hb1.tape, hb1.output, hb1.size, fun j hj _ => hb1.block j hj⟩ (by cases u5.ownBlock <;> simp), HC.out.2.1.trans (hb1.mono HC.out.2.1.size)⟩); have hsw := H1.out.2.size; clear hb1)
          | (at_builtin; refine wpList_append_own _ rfl _ _ 22 rfl w.heap.size 94 i0 _ 2 32 Tryz.underlying22 hi hz0 hz1 hz2 rfl (by omega) _ fl.length (fl.flatMap Lb.cells) rfl (H1.out.1.alloc _) ⟨w1.heap.size, 0, none⟩ 1 1 (x.cells) rfl rfl (cells_newL w1 x.cells _) ?c2 (by unfold maxLen; omega) (by omega) (by simp; omega) ?_))
        case c2 => exact fun u hu => by simp only [Lb.cells, List.mem_cons, List.not_mem_nil, or_false] at hu; rcases hu with rfl | rfl <;> rfl
        intro v' w5 hown5 hg5 _
        have hb5 := (H1.out.2.alloc H1.out.2.size (.cells #[.string x.nm, .string x.vl] 94)).grown hg5 (by simp; have := H1.out.2.size; omega) (fun j hj => (H1.out.1.lt j hj).1)
        have H5 := Lib.hid (show _ ∧ _ from ⟨hown5, hb5⟩)
        clear hi hz0 hz1 hz2 hown5 hg5 hb5
        go_wp2
        go_roundw
        case measure => simp [intOf]; omega
        case rel =>
          refine ⟨k + 1, hlt, by simp, Lib.hid ⟨?_, H5.out.2⟩⟩
          rw [HS.out.1]
          simp only [if_true]
          rw [List.flatMap_append, List.length_append]
          simpa using H5.out.1
    · have hkn : k = n := by omega
      have hfl : l.take k = l := by rw [hkn, ← HL.out.1.1]; exact List.take_length
      rw [hfl] at HR
      go_wp2
      go_ret
      exact ⟨_, rfl, HR.out.1, HR.out.2⟩
end Go.Proofs.YtchggapclmdpaaaGreatDoor
