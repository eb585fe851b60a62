/- vec.sift's predicate: does an element's key stand in a map of groups? vec.sift. -/
import Derived.Test.YtajaijidecomdaaGreatDoorVGroup
import Derived.Test.YtajaijidecomdaaGreatDoorVDel
import Derived.Deep.RegionHeld3
namespace Go.Proofs.YtajaijidecomdaaGreatDoor
open Go.RowKit Go.Lib
open Go.Maps (Keyed)

theorem look_held {P : Program} {w : World} {k e t : TypeId} {b n : Nat} {D : DataW Value} (hown : w.ownsMap P k RV b n D) (KK : Keyed P k) (ht : P.underlying t = some (.map k e)) {z : Value} (hz : (zeroValue e).run P w = .ok z w) {key : Value} {kl : Lit} (hkey : keyOf P k key = some kl) {v : Value} (hv : D.atKey kl (.held z) = .held v) :
    (Instr.lookup t (.map (some b)) key false).run P w = .ok v w := by
  obtain ⟨u, ps, hrun, hat⟩ := hown.lookup KK ht hz (zd := .held z) (zp := []) rfl hkey
  rw [hv] at hat
  obtain rfl : u = v := by
    unfold RV at hat
    injection hat with hat
    injection hat with hat _
    injection hat
  exact hrun
set_option maxHeartbeats 8000000 in
set_option maxRecDepth 100000 in
theorem sift1_any (x : Ev) (m : Mv) (inn : Bool) (kb mb ib bm n : Nat) (D : DataW Value) (V : ByteArray → Value) (cnt : ByteArray → Nat) (W : World) (hx : Eat W W.heap.size x) (hM : Mat W W.heap.size m)
    (hk : W.cell? ⟨kb, 0, none⟩ = some (.map (some bm))) (hmb : W.heap[mb]? = some (.cells #[.int .u8 m.card, .bool m.on, .slice m.LA m.Ln m.Lc, .slice m.IA m.In m.Ic] 80 (0, 0))) (hib : W.cell? ⟨ib, 0, none⟩ = some (.bool inn))
    (hG : W.ownsMap Tryz.prog 9 RV bm n D) (hat : ∀ s, D.atKey (tLit s) (.held (.slice none 0 0)) = .held (V s)) (hV : ∀ s, ∃ A c, V s = .slice A (cnt s) c) :
    Calls Tryz.prog 154 (#[.agg #[.slice x.A x.n x.c, .int .u64 x.v.toNat]] ++ #[.pointer (some ⟨kb, 0, none⟩), .pointer (some ⟨mb, 0, none⟩), .pointer (some ⟨ib, 0, none⟩)]) W fun e w' => e = .returned (.bool (decide (0 < cnt (keyT m.on m.ls x.l)) != inn)) ∧ Below W.heap.size W w' := by
  have hbx : Below W.heap.size W (W.alloc (.cells #[.slice x.A x.n x.c, .int .u64 x.v.toNat] 90)) := (Below.refl _ _).alloc (Nat.le_refl _) _
  have hbd := hbx.drew
  have hkl : kb < W.heap.size := World.block_lt_of_cell? W _ hk
  have hil : ib < W.heap.size := World.block_lt_of_cell? W _ hib
  have hml : mb < W.heap.size := (Array.getElem?_eq_some_iff.1 hmb).1
  obtain ⟨m0, m1, m2, m3⟩ := box_four hmb
  have hxb : (W.alloc (.cells #[.slice x.A x.n x.c, .int .u64 x.v.toNat] 90)).heap[W.heap.size]? = some (.cells #[.slice x.A x.n x.c, .int .u64 x.v.toNat] 90 (0, 0)) := heap_alloc_new _ _
  obtain ⟨x0, x1, _, _⟩ := box_two hxb
  have K0 : ∀ w', Below (W.heap.size + 1) (W.alloc (.cells #[.slice x.A x.n x.c, .int .u64 x.v.toNat] 90)) w' → w'.cell? ⟨kb, 0, none⟩ = some (.map (some bm)) ∧ w'.cell? ⟨ib, 0, none⟩ = some (.bool inn) ∧ w'.cell? ⟨mb, 0, none⟩ = some (.int .u8 m.card) ∧ w'.cell? ⟨mb, 1, none⟩ = some (.bool m.on) ∧ w'.cell? ⟨mb, 2, none⟩ = some (.slice m.LA m.Ln m.Lc) ∧ w'.cell? ⟨mb, 3, none⟩ = some (.slice m.IA m.In m.Ic) ∧ w'.cell? ⟨W.heap.size, 0, none⟩ = some (.slice x.A x.n x.c) ∧ w'.cell? ⟨W.heap.size, 1, none⟩ = some (.int .u64 x.v.toNat) := fun w' hb =>
    ⟨(hb.cell (p := ⟨kb, 0, none⟩) (by simp; omega)).trans ((hbx.cell hkl).trans hk), (hb.cell (p := ⟨ib, 0, none⟩) (by simp; omega)).trans ((hbx.cell hil).trans hib),
      (hb.cell (p := ⟨mb, 0, none⟩) (by simp; omega)).trans ((hbx.cell hml).trans m0), (hb.cell (p := ⟨mb, 1, none⟩) (by simp; omega)).trans ((hbx.cell hml).trans m1), (hb.cell (p := ⟨mb, 2, none⟩) (by simp; omega)).trans ((hbx.cell hml).trans m2), (hb.cell (p := ⟨mb, 3, none⟩) (by simp; omega)).trans ((hbx.cell hml).trans m3),
      (hb.cell (p := ⟨W.heap.size, 0, none⟩) (by simp)).trans x0, (hb.cell (p := ⟨W.heap.size, 1, none⟩) (by simp)).trans x1⟩
  have hof := fun W' (hb : Below W.heap.size W W') => of_key x m W' (hx.on hb) (hM.on hb)
  obtain ⟨s, hs⟩ : ∃ s, keyT m.on m.ls x.l = s := ⟨_, rfl⟩
  have hko := tkey_of s (by rw [← hs]; exact keyT_size hx.fine m.on m.ls)
  rw [hs] at hof ⊢
  obtain ⟨VA, Vc, hVs⟩ := hV s
  have hats := hat s
  rw [hVs] at hats
  have hn0 : W.heap.size + 1 ≤ (W.alloc (.cells #[.slice x.A x.n x.c, .int .u64 x.v.toNat] 90)).heap.size := by simp
  have hvm : valM m = .agg #[.int .u8 m.card, .bool m.on, .slice m.LA m.Ln m.Lc, .slice m.IA m.In m.Ic] := rfl
  rw [hvm] at hof
  have HC := Lib.hid (show _ ∧ _ ∧ _ ∧ _ ∧ _ ∧ _ ∧ _ from ⟨hof, hbd, hko, hats, hG, K0, hn0⟩)
  have KS := Lib.hid (K0 _ (Below.refl _ _))
  obtain ⟨q, hq⟩ : ∃ q, cnt s = q := ⟨_, rfl⟩
  rw [hq] at HC ⊢
  clear hof hbd hbx hko hats hG K0 hn0 hvm hx hM hk hmb hib hat hV hs hVs hxb m0 m1 m2 m3 x0 x1 hq hkl hil hml
  go_enter Tryz.func154, Tryz.ntmps154
  go_wp2_with fail
  go_region_held3 (fun w' => w'.cell? ⟨kb, 0, none⟩ = some (.map (some bm)) ∧ w'.cell? ⟨ib, 0, none⟩ = some (.bool inn) ∧ w'.cell? ⟨mb, 0, none⟩ = some (.int .u8 m.card) ∧ w'.cell? ⟨mb, 1, none⟩ = some (.bool m.on) ∧ w'.cell? ⟨mb, 2, none⟩ = some (.slice m.LA m.Ln m.Lc) ∧ w'.cell? ⟨mb, 3, none⟩ = some (.slice m.IA m.In m.Ic) ∧ w'.cell? ⟨W.heap.size, 0, none⟩ = some (.slice x.A x.n x.c) ∧ w'.cell? ⟨W.heap.size, 1, none⟩ = some (.int .u64 x.v.toNat)) (first | exact k6 | exact KS.out | go_keep)
    (first
      | (go_at_call 155; refine (HC.out.1 _ HC.out.2.1).mono ?_; rintro e w2 ⟨rfl, hb2⟩; have k6 := HC.out.2.2.2.2.2.1 w2 (((Below.refl _ _).drew).trans (hb2.mono HC.out.2.2.2.2.2.2)); have H2 := Lib.hid (show _ ∧ _ from ⟨ownsMap_below (HC.out.2.2.2.2.1.alloc _) (((Below.refl _ _).drew).trans (hb2.mono (Nat.le_refl _))), HC.out.2.1.trans (hb2.mono HC.out.2.1.size)⟩); have hlk := look_held H2.out.1 Tryz.keyedStr Tryz.underlying240 (Tryz.zeroElems _) HC.out.2.2.1 HC.out.2.2.2.1; clear hb2))
  all_goals
    go_wp2
    go_ret
    exact ⟨by first | rfl | (cases decide (0 < q) <;> cases inn <;> rfl), H2.out.2⟩
end Go.Proofs.YtajaijidecomdaaGreatDoor
namespace Go.Proofs.YtajaijidecomdaaGreatDoor
open Go.RowKit Go.Lib

theorem Tryz.enterSift1 : ∀ args w, (callFunc 154 args).run Tryz.prog w = .ok (.enter 154 args) w := enters_of Tryz.func154 (by kernel_rfl) rfl
/-- Is there an element of a key? -/
def inB (kf : List Lb → ByteArray) (s : ByteArray) (v : List El) : Bool := v.any fun y => decide (kf y.1 = s)
theorem grp_in (kf : List Lb → ByteArray) (s : ByteArray) (es : List Ev) : decide (0 < (grp kf s es).length) = inB kf s (es.map Ev.el) := by
  unfold grp inB
  rw [List.any_map, Bool.eq_iff_iff, decide_eq_true_iff, List.length_pos_iff_exists_mem, List.any_eq_true]
  constructor
  · rintro ⟨y, hy⟩
    exact ⟨y, (List.mem_filter.1 hy).1, (List.mem_filter.1 hy).2⟩
  · rintro ⟨y, h1, h2⟩
    exact ⟨y, List.mem_filter.2 ⟨h1, h2⟩⟩
/-- Those of a whose key is in b, or is not. -/
def keeps (kf : List Lb → ByteArray) (b : List El) (inn : Bool) (x : El) : Bool := inB kf (kf x.1) b == inn
def siftL (kf : List Lb → ByteArray) (a b : List El) (inn : Bool) : List El := a.filter (keeps kf b inn)
/-- What sift leaves: some of a's elements, in a row of the call's own. -/
def SiftPost (kf : List Lb → ByteArray) (es bs : List Ev) (inn : Bool) (w : World) (e : Ending) (w' : World) : Prop :=
  ∃ (v : Value) (os : List Ev), e = .returned v ∧ w'.ownsRow w.heap.size 90 2 v os.length (os.flatMap encEv) ∧ os.map Ev.el = siftL kf (es.map Ev.el) (bs.map Ev.el) inn ∧ (∀ o ∈ os, o ∈ es) ∧ os.length ≤ es.length ∧ Below w.heap.size w w'
set_option maxHeartbeats 8000000 in
set_option maxRecDepth 100000 in
theorem sift_any (A A' : Option Addr) (n c n' c' : Nat) (es bs : List Ev) (m : Mv) (inn : Bool) (w : World) (hE : Els w w.heap.size A n c es) (hB : Els w w.heap.size A' n' c' bs) (hM : Mat w w.heap.size m) :
    Calls Tryz.prog 92 #[.slice A n c, .slice A' n' c', valM m, .bool inn] w (SiftPost (keyT m.on m.ls) es bs inn w) := by
  have hb0 : Below w.heap.size w ((w.alloc (.cells #[.int .u8 m.card, .bool m.on, .slice m.LA m.Ln m.Lc, .slice m.IA m.In m.Ic] 80)).alloc (.cells #[.bool inn] 4)) := ((Below.refl _ _).alloc (Nat.le_refl _) _).alloc (by simp) _
  have hmb : ((w.alloc (.cells #[.int .u8 m.card, .bool m.on, .slice m.LA m.Ln m.Lc, .slice m.IA m.In m.Ic] 80)).alloc (.cells #[.bool inn] 4)).heap[w.heap.size]? = some (.cells #[.int .u8 m.card, .bool m.on, .slice m.LA m.Ln m.Lc, .slice m.IA m.In m.Ic] 80 (0, 0)) := (heap_alloc_old _ _ (by simp)).trans (heap_alloc_new w _)
  have hib : ((w.alloc (.cells #[.int .u8 m.card, .bool m.on, .slice m.LA m.Ln m.Lc, .slice m.IA m.In m.Ic] 80)).alloc (.cells #[.bool inn] 4)).cell? ⟨w.heap.size + 1, 0, none⟩ = some (.bool inn) := by simp
  obtain ⟨m0, m1, m2, m3⟩ := box_four hmb
  have hgrp := group_any A' n' c' bs m _ (hB.on hb0) (hM.on hb0)
  have hn := hE.few
  have HC := Lib.hid (show _ ∧ _ ∧ _ ∧ _ ∧ _ ∧ _ from ⟨hb0, hmb, hib, hgrp, hE, hM⟩)
  clear hb0 hmb hib hgrp hE hB hM
  rw [show valM m = .agg #[.int .u8 m.card, .bool m.on, .slice m.LA m.Ln m.Lc, .slice m.IA m.In m.Ic] from rfl] at *
  go_enter Tryz.func92, Tryz.ntmps92
  go_wp2_with fail
  refine HC.out.2.2.2.1.mono ?_
  rintro e w1 ⟨D, V, rfl, hG, hb1⟩
  have hs1 : w.heap.size + 2 ≤ w1.heap.size := by have := hb1.size; simp at this; omega
  have hold1 : Below w.heap.size w w1 := HC.out.1.trans (hb1.mono HC.out.1.size)
  have hmb1 := (hb1.block w.heap.size (by simp; omega)).trans HC.out.2.1
  have hib1 := (hb1.cell (p := ⟨w.heap.size + 1, 0, none⟩) (by simp)).trans HC.out.2.2.1
  generalize hmp : ((w.alloc (.cells #[.int .u8 m.card, .bool m.on, .slice m.LA m.Ln m.Lc, .slice m.IA m.In m.Ic] 80)).alloc (.cells #[.bool inn] 4)).heap.size + 1 = bm at hG
  have hbk : Below w1.heap.size w1 (w1.alloc (.cells #[.map (some bm)] 240)) := (Below.refl _ _).alloc (Nat.le_refl _) _
  have hkc : (w1.alloc (.cells #[.map (some bm)] 240)).cell? ⟨w1.heap.size, 0, none⟩ = some (.map (some bm)) := by simp
  have hcl := cloneEv A n c es (w1.alloc (.cells #[.map (some bm)] 240)) ((HC.out.2.2.2.2.1.on hold1).on hbk).lst HC.out.2.2.2.2.1.nil (by omega)
  have H1 := Lib.hid (show _ ∧ _ ∧ _ ∧ _ ∧ _ ∧ _ ∧ _ from ⟨hG.below hbk, hold1.trans (hbk.mono (by omega)), (hbk.block w.heap.size (by omega)).trans hmb1, (hbk.cell (p := ⟨w.heap.size + 1, 0, none⟩) (by show w.heap.size + 1 < _; omega)).trans hib1, hkc, hcl, (by simp : w1.heap.size + 1 ≤ (w1.alloc (.cells #[.map (some bm)] 240)).heap.size)⟩)
  clear hG hb1 hold1 hmb1 hib1 hbk hkc hcl
  go_wp2_with fail
  refine H1.out.2.2.2.2.2.1.mono ?_
  rintro e w2 ⟨v2, rfl, ho2, hb2⟩
  obtain ⟨A2, c2, rfl, _, _⟩ := owns_slice ho2
  have hcnt : ∀ s, ∃ A c, V s = .slice A (grp (keyT m.on m.ls) s bs).length c := fun s => by
    obtain ⟨A, c, e, _, _⟩ := owns_slice (H1.out.1.rows s)
    exact ⟨A, c, e⟩
  have hdel := deleteFuncElem 154 #[.pointer (some ⟨w1.heap.size, 0, none⟩), .pointer (some ⟨w.heap.size, 0, none⟩), .pointer (some ⟨w.heap.size + 1, 0, none⟩)] Tryz.enterSift1 (fun x => decide (0 < (grp (keyT m.on m.ls) (keyT m.on m.ls x.l) bs).length) != inn) A2 n c2 es w2 _ ho2 (by omega) (fun W hgr x hx => by
    have hBW := hb2.grown hgr hb2.size (fun j hj => (ho2.lt j hj).1)
    have hx1 := ((HC.out.2.2.2.2.1.each x hx).on H1.out.2.1).on hBW
    have hM1 := (HC.out.2.2.2.2.2.on H1.out.2.1).on hBW
    have hsz := H1.out.2.2.2.2.2.2
    exact sift1_any x m inn w1.heap.size w.heap.size (w.heap.size + 1) bm n' D V (fun s => (grp (keyT m.on m.ls) s bs).length) W hx1 hM1 ((hBW.cell (p := ⟨w1.heap.size, 0, none⟩) (by show w1.heap.size < _; omega)).trans H1.out.2.2.2.2.1) ((hBW.block w.heap.size (by omega)).trans H1.out.2.2.1) ((hBW.cell (p := ⟨w.heap.size + 1, 0, none⟩) (by show w.heap.size + 1 < _; omega)).trans H1.out.2.2.2.1) (ownsMap_below H1.out.1.map hBW) H1.out.1.at_ hcnt)
  have hold2 : Below w.heap.size w w2 := H1.out.2.1.trans (hb2.mono H1.out.2.1.size)
  have H2 := Lib.hid (show _ ∧ _ ∧ _ from ⟨hdel, hold2, ho2⟩)
  have hbase : w.heap.size ≤ w1.heap.size + 1 := by omega
  clear hdel hold2 hb2 ho2 hcnt
  go_wp2_with fail
  refine H2.out.1.mono ?_
  rintro e w3 ⟨rfl, ho3, hg3⟩
  have hold3 : Below w.heap.size w w3 := H2.out.2.1.grown hg3 H2.out.2.1.size (fun j hj => by have := (H2.out.2.2.lt j hj).1; have := H1.out.2.2.2.2.2.2; omega)
  have H3 := Lib.hid (show _ ∧ _ from ⟨owns_base (B' := w.heap.size) ho3 (by have := H1.out.2.2.2.2.2.2; first | omega | exact hbase), hold3⟩)
  clear ho3 hg3 hold3
  go_wp2
  go_ret
  refine ⟨_, _, rfl, H3.out.1, ?_, fun o ho => (List.mem_filter.1 ho).1, List.length_filter_le _ _, H3.out.2⟩
  unfold siftL
  rw [List.filter_map]
  congr 1
  refine List.filter_congr fun x _ => ?_
  show (!(decide (0 < (grp (keyT m.on m.ls) (keyT m.on m.ls x.l) bs).length) != inn)) = keeps (keyT m.on m.ls) (bs.map Ev.el) inn x.el
  rw [grp_in]
  show (!(inB (keyT m.on m.ls) (keyT m.on m.ls x.l) (bs.map Ev.el) != inn)) = (inB (keyT m.on m.ls) (keyT m.on m.ls x.l) (bs.map Ev.el) == inn)
  cases inB (keyT m.on m.ls) (keyT m.on m.ls x.l) (bs.map Ev.el) <;> cases inn <;> rfl
end Go.Proofs.YtajaijidecomdaaGreatDoor
