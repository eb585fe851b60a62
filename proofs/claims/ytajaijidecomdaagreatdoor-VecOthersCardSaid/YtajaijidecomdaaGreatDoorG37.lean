/- The document's less, Key, nameless. vec.group: elements by their keys. -/
import Derived.Test.YtajaijidecomdaaGreatDoorG32
import Derived.Test.YtajaijidecomdaaGreatDoorG34
import Derived.Test.YtajaijidecomdaaGreatDoorNtK
import Derived.Test.YtajaijidecomdaaGreatDoorG36
import Derived.Test.YtajaijidecomdaaGreatDoorG19
namespace Go.Proofs.YtajaijidecomdaaGreatDoor
open Go.RowKit Go.Lib

set_option maxHeartbeats 4000000 in
set_option maxRecDepth 100000 in
theorem refLess_any (x y : Ev) (W : World) (hx : Eat W W.heap.size x) (hy : Eat W W.heap.size y) : Calls Tryz.prog 110 #[.agg #[.slice x.A x.n x.c, .int .u64 x.v.toNat], .agg #[.slice y.A y.n y.c, .int .u64 y.v.toNat]] W fun e w' => e = .returned (.bool (decide (elL x.el y.el < 0))) ∧ Below W.heap.size W w' := by
  have hcmp : ∀ W1, Below W.heap.size W W1 → Calls Tryz.prog 28 #[.slice x.A x.n x.c, .slice y.A y.n y.c] W1 fun e w' => e = .returned (.int .i64 (labelsC x.l y.l)) ∧ Below W1.heap.size W1 w' := fun W1 hb => refCmp_any x.A y.A x.n x.c y.n y.c x.l y.l W1 (hx.on hb).lst (hy.on hb).lst (by have := hx.few; omega) (by have := hy.few; omega)
  have hord := fun W1 => rOrder_any x.v y.v W1
  have he : elL x.el y.el = if labelsC x.l y.l = 0 then FL.orderP x.v.toNat y.v.toNat else labelsC x.l y.l := rfl
  generalize elL x.el y.el = r at he ⊢
  generalize labelsC x.l y.l = q at hcmp he
  generalize FL.orderP x.v.toNat y.v.toNat = o at hord he
  generalize x.v.toNat = xv at hord ⊢
  generalize y.v.toNat = yv at hord ⊢
  have hb2 : Below W.heap.size W ((W.alloc (.cells #[.slice x.A x.n x.c, .int .u64 xv] 90)).alloc (.cells #[.slice y.A y.n y.c, .int .u64 yv] 90)) := ((Below.refl _ _).alloc (Nat.le_refl _) _).alloc (by simp) _
  have hc0 : ((W.alloc (.cells #[.slice x.A x.n x.c, .int .u64 xv] 90)).alloc (.cells #[.slice y.A y.n y.c, .int .u64 yv] 90)).cell? ⟨W.heap.size, 1, none⟩ = some (.int .u64 xv) := by simp
  have hc1 : ((W.alloc (.cells #[.slice x.A x.n x.c, .int .u64 xv] 90)).alloc (.cells #[.slice y.A y.n y.c, .int .u64 yv] 90)).cell? ⟨W.heap.size + 1, 1, none⟩ = some (.int .u64 yv) := by
    simp
  have hz2 : ((W.alloc (.cells #[.slice x.A x.n x.c, .int .u64 xv] 90)).alloc (.cells #[.slice y.A y.n y.c, .int .u64 yv] 90)).heap.size = W.heap.size + 2 := by simp
  generalize hW2 : ((W.alloc (.cells #[.slice x.A x.n x.c, .int .u64 xv] 90)).alloc (.cells #[.slice y.A y.n y.c, .int .u64 yv] 90)) = W2 at hb2 hc0 hc1 hz2
  have HX := Lib.hid (show _ ∧ _ ∧ _ ∧ _ ∧ _ from ⟨hcmp, hord, hb2, (⟨hc0, hc1⟩ : _ ∧ _), hz2⟩)
  have HE := Lib.hid (show _ ∧ _ from ⟨he, hW2⟩)
  clear hcmp hord hb2 hc0 hc1 hz2 he hx hy hW2
  by_cases h1 : q < 0
  · have hq : decide (r < 0) = true := by
      rw [HE.out.1, if_neg (by omega)]; exact decide_eq_true h1
    rw [hq]
    have HQ := Lib.hid hq
    clear hq
    go_enter Tryz.func110, Tryz.ntmps110
    go_wp2_with fail
    rw [HE.out.2]
    refine (HX.out.1 _ HX.out.2.2.1).mono ?_
    rintro e w1 ⟨rfl, hb1⟩
    have H1 := Lib.hid (HX.out.2.2.1.trans (hb1.mono HX.out.2.2.1.size))
    clear hb1
    go_wp2
    go_ret
    exact ⟨rfl, H1.out⟩
  · by_cases h2 : q = 0
    · subst h2
      have hq : decide (r < 0) = decide (o < 0) := by rw [HE.out.1, if_pos rfl]
      rw [hq]
      have HQ := Lib.hid hq
      clear hq h1
      obtain ⟨t, ht⟩ : ∃ t, decide (o < 0) = t := ⟨_, rfl⟩
      rw [ht]
      cases t
      all_goals
        first
          | have k1 : o < 0 := of_decide_eq_true ht
          | have k1 : ¬ o < 0 := of_decide_eq_false ht
        clear ht
        go_enter Tryz.func110, Tryz.ntmps110
        go_wp2_with fail
        rw [HE.out.2]
        refine (HX.out.1 _ HX.out.2.2.1).mono ?_
        rintro e w1 ⟨rfl, hb1⟩
        have hz2 := HX.out.2.2.2.2
        have c0 := (hb1.cell (p := ⟨W.heap.size, 1, none⟩) (by show W.heap.size < W2.heap.size; omega)).trans HX.out.2.2.2.1.1
        have c1 := (hb1.cell (p := ⟨W.heap.size + 1, 1, none⟩) (by show W.heap.size + 1 < W2.heap.size; omega)).trans HX.out.2.2.2.1.2
        have H1 := Lib.hid (HX.out.2.2.1.trans (hb1.mono HX.out.2.2.1.size))
        clear hb1 hz2
        go_wp2_with fail
        refine (HX.out.2.1 _).mono ?_
        rintro e w2 ⟨rfl, hb2⟩
        have H2 := Lib.hid (H1.out.trans (hb2.mono H1.out.size))
        clear hb2
        go_wp2
        go_ret
        exact ⟨by first | rfl | (show Ending.returned (.bool (decide (o < 0))) = _; first | rw [decide_eq_true k1] | rw [decide_eq_false (by omega)]), H2.out⟩
    · have hq : decide (r < 0) = false := by
        rw [HE.out.1, if_neg h2]; exact decide_eq_false h1
      rw [hq]
      have HQ := Lib.hid hq
      have d0 : (q == 0) = false := beq_eq_false_iff_ne.2 h2
      clear hq h2
      go_enter Tryz.func110, Tryz.ntmps110
      go_wp2_with fail
      rw [HE.out.2]
      refine (HX.out.1 _ HX.out.2.2.1).mono ?_
      rintro e w1 ⟨rfl, hb1⟩
      have H1 := Lib.hid (HX.out.2.2.1.trans (hb1.mono HX.out.2.2.1.size))
      clear hb1
      go_wp2
      go_ret
      exact ⟨by show Ending.returned (.bool (decide (q < 0))) = _; rw [decide_eq_false (by omega)], H1.out⟩
set_option maxHeartbeats 4000000 in
set_option maxRecDepth 100000 in
theorem nameless_any (A : Option Addr) (n c : Nat) (l : List Lb) (w : World) (hL : Lst Lb.cells 2 w w.heap.size A n l) (hn : n ≤ 100000) :
    Calls Tryz.prog 58 #[.slice A n c] w (OwnedL (lessL l [nameT]) w) := by
  have hb : Below w.heap.size w (w.alloc (.cells #[.string nameT] 9)) := (Below.refl _ _).alloc (Nat.le_refl _) _
  have hcon := refWithout_any A (some ⟨w.heap.size, 0, none⟩) n c 1 1 l [nameT] (w.alloc (.cells #[.string nameT] 9)) ((hL.below hb).more hb.size) (encTx_name w) hn (by omega)
  have HC := Lib.hid (show _ ∧ _ from ⟨hcon, hb⟩)
  clear hcon hb hL
  go_enter Tryz.func58, Tryz.ntmps58
  go_wp2_with fail
  refine HC.out.1.mono ?_
  rintro e w1 ⟨v, rfl, ho, hb1⟩
  have H1 := Lib.hid (show _ ∧ _ from ⟨owns_base ho HC.out.2.size, HC.out.2.trans (hb1.mono HC.out.2.size)⟩)
  clear ho hb1
  go_wp2
  go_ret
  exact ⟨_, rfl, H1.out.1, H1.out.2⟩
end Go.Proofs.YtajaijidecomdaaGreatDoor
namespace Go.Proofs.YtajaijidecomdaaGreatDoor
open Go.RowKit Go.Lib
open Go.Maps (Keyed)

theorem cells_not_own {w : World} {b B sz n : Nat} {cs : Array Value} {fz : Nat × Nat} {e e' : TypeId} {v : Value} {xs : List Value} (h : w.heap[b]? = some (Obj.cells cs e fz)) (ho : w.ownsRow B e' sz v n xs) (hne : e ≠ e') : some b ≠ v.ownBlock := fun hk => by
  obtain ⟨cs', fz', h1⟩ := owns_typed ho hk.symm
  rw [h] at h1
  injection h1 with h1
  injection h1 with _ h1
  exact hne h1
theorem cells_not_map {w : World} {b q n : Nat} {cs : Array Value} {fz : Nat × Nat} {e k : TypeId} {R : Value → Option (DataW Value × List MemPlace)} {D : DataW Value} (h : w.heap[b]? = some (Obj.cells cs e fz)) (hm : w.ownsMap Tryz.prog k R q n D) : some b ≠ some q := fun hk => by
  injection hk with hk
  obtain ⟨es, clock, h1, _⟩ := hm
  rw [← hk, h] at h1
  injection h1 with h1
  cases h1
theorem Tryz.zeroElems : ∀ W, (zeroValue 33).run Tryz.prog W = .ok (.slice none 0 0) W := fun W => by kernel_rfl
/-- Behind the first k elements. -/
structure GrpSt (w wr : World) (m : Mv) (es : List Ev) (k : Nat) : Prop where
  ex : ∃ D V, Groups (keyT m.on m.ls) wr w.heap.size (w.heap.size + 1) k D V (es.take k)
  box : wr.heap[w.heap.size]? = some (.cells #[.int .u8 m.card, .bool m.on, .slice m.LA m.Ln m.Lc, .slice m.IA m.In m.Ic] 80 (0, 0))
  old : Below w.heap.size w wr
  size : w.heap.size + 2 ≤ wr.heap.size
set_option maxHeartbeats 8000000 in
set_option maxRecDepth 100000 in
theorem group_any (A : Option Addr) (n c : Nat) (es : List Ev) (m : Mv) (w : World) (hE : Els w w.heap.size A n c es) (hM : Mat w w.heap.size m) :
    Calls Tryz.prog 152 #[.slice A n c, valM m] w fun e w' => ∃ D V, e = .returned (.map (some (w.heap.size + 1))) ∧ Groups (keyT m.on m.ls) w' w.heap.size (w.heap.size + 1) n D V es ∧ Below w.heap.size w w' := by
  obtain ⟨i0, hi, hz0, hz1, hz2⟩ := info_parts Tryz.infoElem
  have HI := Lib.hid (show _ ∧ _ ∧ _ ∧ _ from ⟨hi, hz0, hz1, hz2⟩)
  have HE := Lib.hid (show _ ∧ _ from ⟨hE, hM⟩)
  have hn := hE.few
  have hln := hE.lst.1
  clear hi hz0 hz1 hz2 hE hM
  have hmm := @run_makeMap Tryz.prog
  have hst : GrpSt w ((w.alloc (.cells #[.int .u8 m.card, .bool m.on, .slice m.LA m.Ln m.Lc, .slice m.IA m.In m.Ic] 80)).alloc (.map #[] 0)) m es 0 := by
    have hN := World.ownsMap_made (w.alloc (.cells #[.int .u8 m.card, .bool m.on, .slice m.LA m.Ln m.Lc, .slice m.IA m.In m.Ic] 80)) Tryz.prog 9 RV
    simp only [World.size_alloc] at hN
    exact ⟨⟨_, _, Groups.start hN (by omega)⟩, (heap_alloc_old _ _ (by simp)).trans (heap_alloc_new w _), ((Below.refl _ _).alloc (Nat.le_refl _) _).alloc (by simp) _, by simp⟩
  have HST := Lib.hid hst
  clear hst
  rw [show valM m = .agg #[.int .u8 m.card, .bool m.on, .slice m.LA m.Ln m.Lc, .slice m.IA m.In m.Ic] from rfl]
  go_enter Tryz.func152, Tryz.ntmps152
  go_wp2
  clear hmm
  go_loopw [12] (fun iv wr => ∃ k : Nat, k ≤ n ∧ iv = .int .i64 k ∧ Hid (GrpSt w wr m es k)) (fun iv _ => n - (intOf iv).toNat)
  case atStart => exact ⟨0, Nat.zero_le _, rfl, HST⟩
  case round =>
    obtain ⟨k, hk, rfl, HR⟩ := hrel
    have hsz := HR.out.size
    by_cases hlt : k < n
    · obtain ⟨b, off, x, rfl, hb, hx, hcl⟩ := HE.out.1.lst.at hlt
      have c0 := (HR.out.old.cell (p := ⟨b, off + k * 2 + 0, none⟩) hb).trans (hcl 0 _ rfl)
      have c1 := (HR.out.old.cell (p := ⟨b, off + k * 2 + 1, none⟩) hb).trans (hcl 1 _ rfl)
      simp only [Nat.add_zero] at c0
      obtain ⟨hkl, hxe⟩ := List.getElem?_eq_some_iff.1 hx
      have htk : es.take (k + 1) = es.take k ++ [x] := by rw [List.take_succ_eq_append_getElem hkl, hxe]
      have hxE := HE.out.1.each x (List.mem_of_getElem? hx)
      obtain ⟨D, V, hgr⟩ := HR.out.ex
      have hbx : Below wr.heap.size wr (wr.alloc (.cells #[.slice x.A x.n x.c, .int .u64 x.v.toNat] 90)) := (Below.refl _ _).alloc (Nat.le_refl _) _
      have hxb : (wr.alloc (.cells #[.slice x.A x.n x.c, .int .u64 x.v.toNat] 90)).heap[wr.heap.size]? = some (.cells #[.slice x.A x.n x.c, .int .u64 x.v.toNat] 90 (0, 0)) := heap_alloc_new _ _
      have hof := of_key x m _ ((hxE.on HR.out.old).on hbx) ((HE.out.2.on HR.out.old).on hbx)
      obtain ⟨s, hs⟩ : ∃ s, keyT m.on m.ls x.l = s := ⟨_, rfl⟩
      have hko := tkey_of s (by rw [← hs]; exact keyT_size hxE.fine m.on m.ls)
      rw [hs] at hof
      have hmb := (hbx.block _ (by omega)).trans HR.out.box
      obtain ⟨m0, m1, m2, m3⟩ := box_four hmb
      have hgl := grp_len (kf := keyT m.on m.ls) s (es.take k)
      have htl : (es.take k).length ≤ k := List.length_take_le _ _
      have HX := Lib.hid (show _ ∧ _ ∧ _ ∧ _ ∧ _ ∧ _ ∧ _ ∧ _ from ⟨htk, hof, hgr, hbx, hxb, hs, hko, hmb⟩)
      clear hx hcl hxe htk hxE hof hgr hbx hxb hs hko hmb
      obtain ⟨hi, hz0, hz1, hz2⟩ := HI.out
      have hvm : valM m = .agg #[.int .u8 m.card, .bool m.on, .slice m.LA m.Ln m.Lc, .slice m.IA m.In m.Ic] := rfl
      rw [hvm] at HX
      clear hvm
      go_wp2_with fail
      refine HX.out.2.1.mono ?_
      rintro e w2 ⟨rfl, hb2⟩
      have hb12 : Below wr.heap.size wr w2 := HX.out.2.2.2.1.trans (hb2.mono HX.out.2.2.2.1.size)
      have hs2 : wr.heap.size + 1 ≤ w2.heap.size := by have := hb2.size; simp at this; omega
      have hxb2 := (hb2.block wr.heap.size (by simp)).trans HX.out.2.2.2.2.1
      obtain ⟨x0, x1, _, _⟩ := box_two hxb2
      have hmb2 := (hb2.block w.heap.size (by simp; omega)).trans HX.out.2.2.2.2.2.2.2
      have hG2 := HX.out.2.2.1.below hb12
      have H2 := Lib.hid (show _ ∧ _ ∧ _ ∧ _ from ⟨hG2, hxb2, hmb2, HR.out.old.trans (hb12.mono (by omega))⟩)
      clear hb2 hb12 hxb2 hmb2 hG2 m0 m1 m2 m3 c0 c1
      have hlies := HX.out.2.2.2.2.2.1
      go_wp2_with (first
        | (at_lookup; refine wpList_lookup_held _ rfl _ _ 240 rfl 9 33 Tryz.keyedStr Tryz.underlying240 (.slice none 0 0) (Tryz.zeroElems _) (w.heap.size + 1) k D rfl H2.out.1.map _ (tLit s) rfl HX.out.2.2.2.2.2.2.1 (V s) (H2.out.1.at_ s) ?_)
        | (at_builtin; refine wpList_append_full _ rfl _ _ 33 rfl w.heap.size 90 i0 _ 2 32 Tryz.underlying33 hi hz0 hz1 hz2 rfl (by omega) _ (grp (keyT m.on m.ls) s (es.take k)).length ((grp (keyT m.on m.ls) s (es.take k)).flatMap encEv) rfl ((H2.out.1.rows s).alloc _) ⟨w2.heap.size, 0, none⟩ 1 1 (encEv x) rfl rfl (cells_newL w2 (encEv x) _) (by simp [Value.oneCell', encEv]) (by omega) (by unfold maxLen; omega) (by omega) (by simp; omega) ?_)
        | fail)
      intro g cap w3 hown3 hg3 hl3 _
      have hal2 : Below w2.heap.size w2 (w2.alloc (.cells (encEv x).toArray 90)) := (Below.refl _ _).alloc (Nat.le_refl _) _
      have hGa := H2.out.1.below hal2
      have hmb3 := (hg3.block w.heap.size (by simp; omega) (cells_not_own ((hal2.block w.heap.size (by omega)).trans H2.out.2.2.1) (hGa.rows s) (by decide))).trans ((hal2.block w.heap.size (by omega)).trans H2.out.2.2.1)
      have hM3 := hGa.map.kept hg3 (map_off hGa.map (hGa.rows s))
      have hold3 : Below w.heap.size w w3 := (H2.out.2.2.2.trans (hal2.mono (by omega))).grown hg3 (by simp; omega) (fun j hj => (((hGa.rows s).lt j hj).1))
      have hs3 : w2.heap.size + 1 ≤ w3.heap.size := by have := hg3.size; simp at this; omega
      have H3 := Lib.hid (show _ ∧ _ ∧ _ ∧ _ ∧ _ ∧ _ ∧ _ from ⟨hGa, hown3, hg3, (by simpa using hl3 : (V s).ownBlock = some g ∨ g = w2.heap.size + 1), hM3, hmb3, hold3⟩)
      clear hal2 hGa hmb3 hM3 hold3 hown3 hg3 hl3
      go_wp2_with (first
        | (at_mapUpdate; refine wpList_mapUpdate_own _ rfl _ _ _ 240 rfl 9 33 Tryz.keyedStr Tryz.underlying240 RV (w.heap.size + 1) k D rfl H3.out.2.2.2.2.1 (by unfold maxLen; omega) _ _ (tLit s) rfl rfl HX.out.2.2.2.2.2.2.1 (.held (.slice (some ⟨g, 0, none⟩) ((grp (keyT m.on m.ls) s (es.take k)).length + 1) cap)) [] rfl ?_)
        | fail)
      intro w4 hm4 hg4
      have hmb4 := (hg4.block w.heap.size (by omega) (cells_not_map H3.out.2.2.2.2.2.1 H3.out.2.2.2.2.1)).trans H3.out.2.2.2.2.2.1
      have hold4 : Below w.heap.size w w4 := H3.out.2.2.2.2.2.2.grown hg4 (by omega) (fun j hj => by injection hj with hj; omega)
      have hs4 := hg4.size
      have hstep : ∃ D' V', Groups (keyT m.on m.ls) w4 w.heap.size (w.heap.size + 1) (k + 1) D' V' (es.take (k + 1)) := by
        rw [HX.out.1]
        have hs := HX.out.2.2.2.2.2.1
        subst hs
        exact ⟨_, _, H3.out.1.step H3.out.2.1 H3.out.2.2.1 (H3.out.2.2.2.1.imp_right (fun e => by simp [e])) hm4 hg4⟩
      have HN := Lib.hid (show GrpSt w w4 m es (k + 1) from ⟨hstep, hmb4, hold4, by omega⟩)
      clear hm4 hg4 hmb4 hold4 hstep hi hz0 hz1 hz2
      go_wp2
      go_roundw
      case measure => simp [intOf]; omega
      case rel => exact ⟨k + 1, hlt, by simp, HN⟩
    · obtain rfl : k = n := by omega
      obtain ⟨D, V, hgr⟩ := HR.out.ex
      rw [List.take_of_length_le (by omega)] at hgr
      have HG := Lib.hid (show _ ∧ _ from ⟨hgr, HR.out.old⟩)
      clear hgr HR
      go_wp2
      go_ret
      exact ⟨D, V, rfl, HG.out.1, HG.out.2⟩
end Go.Proofs.YtajaijidecomdaaGreatDoor
