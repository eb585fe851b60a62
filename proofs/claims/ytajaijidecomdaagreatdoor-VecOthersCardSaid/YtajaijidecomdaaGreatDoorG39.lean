/- vec.sift's predicate: does an element's key stand in a map of groups? vec.sift. slices.Grow and slices.Concat of vectors. The checker's SameElems; one; long. -/
import Derived.Test.YtajaijidecomdaaGreatDoorG37
import Derived.Test.YtajaijidecomdaaGreatDoorVDel
import Derived.Deep.RegionHeld3
import Derived.Lib.AppendZeros
import Derived.Test.YtajaijidecomdaaGreatDoorG07
import Derived.Deep.QuietTactic
import Derived.BigQuiet
namespace Go.Proofs.YtajaijidecomdaaGreatDoor
open Go.RowKit Go.Lib
open Go.Maps (Keyed)

theorem look_held {P : Program} {w : World} {k e t : TypeId} {b n : Nat} {D : DataW Value} (hown : w.ownsMap P k RV b n D) (KK : Keyed P k) (ht : P.underlying t = some (.map k e)) {z : Value} (hz : (zeroValue e).run P w = .ok z w) {key : Value} {kl : Lit} (hkey : keyOf P k key = some kl) {v : Value} (hv : D.atKey kl (.held z) = .held v) :
    (Instr.lookup t (.map (some b)) key false).run P w = .ok v w := by
  obtain ⟨u, ps, hrun, hat⟩ := hown.lookup KK ht hz (zd := .held z) (zp := []) rfl hkey
  rw [hv] at hat
  obtain rfl : u = v := by
    unfold RV at hat
    injection hat with hat
    injection hat with hat _
    injection hat
  exact hrun
set_option maxHeartbeats 8000000 in
set_option maxRecDepth 100000 in
theorem sift1_any (x : Ev) (m : Mv) (inn : Bool) (kb mb ib bm n : Nat) (D : DataW Value) (V : ByteArray → Value) (cnt : ByteArray → Nat) (W : World) (hx : Eat W W.heap.size x) (hM : Mat W W.heap.size m)
    (hk : W.cell? ⟨kb, 0, none⟩ = some (.map (some bm))) (hmb : W.heap[mb]? = some (.cells #[.int .u8 m.card, .bool m.on, .slice m.LA m.Ln m.Lc, .slice m.IA m.In m.Ic] 80 (0, 0))) (hib : W.cell? ⟨ib, 0, none⟩ = some (.bool inn))
    (hG : W.ownsMap Tryz.prog 9 RV bm n D) (hat : ∀ s, D.atKey (tLit s) (.held (.slice none 0 0)) = .held (V s)) (hV : ∀ s, ∃ A c, V s = .slice A (cnt s) c) :
    Calls Tryz.prog 154 (#[.agg #[.slice x.A x.n x.c, .int .u64 x.v.toNat]] ++ #[.pointer (some ⟨kb, 0, none⟩), .pointer (some ⟨mb, 0, none⟩), .pointer (some ⟨ib, 0, none⟩)]) W fun e w' => e = .returned (.bool (decide (0 < cnt (keyT m.on m.ls x.l)) != inn)) ∧ Below W.heap.size W w' := by
  have hbx : Below W.heap.size W (W.alloc (.cells #[.slice x.A x.n x.c, .int .u64 x.v.toNat] 90)) := (Below.refl _ _).alloc (Nat.le_refl _) _
  have hbd := hbx.drew
  have hkl : kb < W.heap.size := World.block_lt_of_cell? W _ hk
  have hil : ib < W.heap.size := World.block_lt_of_cell? W _ hib
  have hml : mb < W.heap.size := (Array.getElem?_eq_some_iff.1 hmb).1
  obtain ⟨m0, m1, m2, m3⟩ := box_four hmb
  have hxb : (W.alloc (.cells #[.slice x.A x.n x.c, .int .u64 x.v.toNat] 90)).heap[W.heap.size]? = some (.cells #[.slice x.A x.n x.c, .int .u64 x.v.toNat] 90 (0, 0)) := heap_alloc_new _ _
  obtain ⟨x0, x1, _, _⟩ := box_two hxb
  have K0 : ∀ w', Below (W.heap.size + 1) (W.alloc (.cells #[.slice x.A x.n x.c, .int .u64 x.v.toNat] 90)) w' → w'.cell? ⟨kb, 0, none⟩ = some (.map (some bm)) ∧ w'.cell? ⟨ib, 0, none⟩ = some (.bool inn) ∧ w'.cell? ⟨mb, 0, none⟩ = some (.int .u8 m.card) ∧ w'.cell? ⟨mb, 1, none⟩ = some (.bool m.on) ∧ w'.cell? ⟨mb, 2, none⟩ = some (.slice m.LA m.Ln m.Lc) ∧ w'.cell? ⟨mb, 3, none⟩ = some (.slice m.IA m.In m.Ic) ∧ w'.cell? ⟨W.heap.size, 0, none⟩ = some (.slice x.A x.n x.c) ∧ w'.cell? ⟨W.heap.size, 1, none⟩ = some (.int .u64 x.v.toNat) := fun w' hb =>
    ⟨(hb.cell (p := ⟨kb, 0, none⟩) (by simp; omega)).trans ((hbx.cell hkl).trans hk), (hb.cell (p := ⟨ib, 0, none⟩) (by simp; omega)).trans ((hbx.cell hil).trans hib),
      (hb.cell (p := ⟨mb, 0, none⟩) (by simp; omega)).trans ((hbx.cell hml).trans m0), (hb.cell (p := ⟨mb, 1, none⟩) (by simp; omega)).trans ((hbx.cell hml).trans m1), (hb.cell (p := ⟨mb, 2, none⟩) (by simp; omega)).trans ((hbx.cell hml).trans m2), (hb.cell (p := ⟨mb, 3, none⟩) (by simp; omega)).trans ((hbx.cell hml).trans m3),
      (hb.cell (p := ⟨W.heap.size, 0, none⟩) (by simp)).trans x0, (hb.cell (p := ⟨W.heap.size, 1, none⟩) (by simp)).trans x1⟩
  have hof := fun W' (hb : Below W.heap.size W W') => of_key x m W' (hx.on hb) (hM.on hb)
  obtain ⟨s, hs⟩ : ∃ s, keyT m.on m.ls x.l = s := ⟨_, rfl⟩
  have hko := tkey_of s (by rw [← hs]; exact keyT_size hx.fine m.on m.ls)
  rw [hs] at hof ⊢
  obtain ⟨VA, Vc, hVs⟩ := hV s
  have hats := hat s
  rw [hVs] at hats
  have hn0 : W.heap.size + 1 ≤ (W.alloc (.cells #[.slice x.A x.n x.c, .int .u64 x.v.toNat] 90)).heap.size := by simp
  have hvm : valM m = .agg #[.int .u8 m.card, .bool m.on, .slice m.LA m.Ln m.Lc, .slice m.IA m.In m.Ic] := rfl
  rw [hvm] at hof
  have HC := Lib.hid (show _ ∧ _ ∧ _ ∧ _ ∧ _ ∧ _ ∧ _ from ⟨hof, hbd, hko, hats, hG, K0, hn0⟩)
  have KS := Lib.hid (K0 _ (Below.refl _ _))
  obtain ⟨q, hq⟩ : ∃ q, cnt s = q := ⟨_, rfl⟩
  rw [hq] at HC ⊢
  clear hof hbd hbx hko hats hG K0 hn0 hvm hx hM hk hmb hib hat hV hs hVs hxb m0 m1 m2 m3 x0 x1 hq hkl hil hml
  go_enter Tryz.func154, Tryz.ntmps154
  go_wp2_with fail
  go_region_held3 (fun w' => w'.cell? ⟨kb, 0, none⟩ = some (.map (some bm)) ∧ w'.cell? ⟨ib, 0, none⟩ = some (.bool inn) ∧ w'.cell? ⟨mb, 0, none⟩ = some (.int .u8 m.card) ∧ w'.cell? ⟨mb, 1, none⟩ = some (.bool m.on) ∧ w'.cell? ⟨mb, 2, none⟩ = some (.slice m.LA m.Ln m.Lc) ∧ w'.cell? ⟨mb, 3, none⟩ = some (.slice m.IA m.In m.Ic) ∧ w'.cell? ⟨W.heap.size, 0, none⟩ = some (.slice x.A x.n x.c) ∧ w'.cell? ⟨W.heap.size, 1, none⟩ = some (.int .u64 x.v.toNat)) (first | exact k6 | exact KS.out | go_keep)
    (first
      | (go_at_call 155; refine (HC.out.1 _ HC.out.2.1).mono ?_; rintro e w2 ⟨rfl, hb2⟩; have k6 := HC.out.2.2.2.2.2.1 w2 (((Below.refl _ _).drew).trans (hb2.mono HC.out.2.2.2.2.2.2)); have H2 := Lib.hid (show _ ∧ _ from ⟨ownsMap_below (HC.out.2.2.2.2.1.alloc _) (((Below.refl _ _).drew).trans (hb2.mono (Nat.le_refl _))), HC.out.2.1.trans (hb2.mono HC.out.2.1.size)⟩); have hlk := look_held H2.out.1 Tryz.keyedStr Tryz.underlying240 (Tryz.zeroElems _) HC.out.2.2.1 HC.out.2.2.2.1; clear hb2))
  all_goals
    go_wp2
    go_ret
    exact ⟨by first | rfl | (cases decide (0 < q) <;> cases inn <;> rfl), H2.out.2⟩
end Go.Proofs.YtajaijidecomdaaGreatDoor
namespace Go.Proofs.YtajaijidecomdaaGreatDoor
open Go.RowKit Go.Lib

theorem Tryz.enterSift1 : ∀ args w, (callFunc 154 args).run Tryz.prog w = .ok (.enter 154 args) w := enters_of Tryz.func154 (by kernel_rfl) rfl
/-- Is there an element of a key? -/
def inB (kf : List Lb → ByteArray) (s : ByteArray) (v : List El) : Bool := v.any fun y => decide (kf y.1 = s)
theorem grp_in (kf : List Lb → ByteArray) (s : ByteArray) (es : List Ev) : decide (0 < (grp kf s es).length) = inB kf s (es.map Ev.el) := by
  unfold grp inB
  rw [List.any_map, Bool.eq_iff_iff, decide_eq_true_iff, List.length_pos_iff_exists_mem, List.any_eq_true]
  constructor
  · rintro ⟨y, hy⟩
    exact ⟨y, (List.mem_filter.1 hy).1, (List.mem_filter.1 hy).2⟩
  · rintro ⟨y, h1, h2⟩
    exact ⟨y, List.mem_filter.2 ⟨h1, h2⟩⟩
/-- Those of a whose key is in b, or is not. -/
def keeps (kf : List Lb → ByteArray) (b : List El) (inn : Bool) (x : El) : Bool := inB kf (kf x.1) b == inn
def siftL (kf : List Lb → ByteArray) (a b : List El) (inn : Bool) : List El := a.filter (keeps kf b inn)
/-- What sift leaves: some of a's elements, in a row of the call's own. -/
def SiftPost (kf : List Lb → ByteArray) (es bs : List Ev) (inn : Bool) (w : World) (e : Ending) (w' : World) : Prop :=
  ∃ (v : Value) (os : List Ev), e = .returned v ∧ w'.ownsRow w.heap.size 90 2 v os.length (os.flatMap encEv) ∧ os.map Ev.el = siftL kf (es.map Ev.el) (bs.map Ev.el) inn ∧ (∀ o ∈ os, o ∈ es) ∧ os.length ≤ es.length ∧ Below w.heap.size w w'
set_option maxHeartbeats 8000000 in
set_option maxRecDepth 100000 in
theorem sift_any (A A' : Option Addr) (n c n' c' : Nat) (es bs : List Ev) (m : Mv) (inn : Bool) (w : World) (hE : Els w w.heap.size A n c es) (hB : Els w w.heap.size A' n' c' bs) (hM : Mat w w.heap.size m) :
    Calls Tryz.prog 92 #[.slice A n c, .slice A' n' c', valM m, .bool inn] w (SiftPost (keyT m.on m.ls) es bs inn w) := by
  have hb0 : Below w.heap.size w ((w.alloc (.cells #[.int .u8 m.card, .bool m.on, .slice m.LA m.Ln m.Lc, .slice m.IA m.In m.Ic] 80)).alloc (.cells #[.bool inn] 4)) := ((Below.refl _ _).alloc (Nat.le_refl _) _).alloc (by simp) _
  have hmb : ((w.alloc (.cells #[.int .u8 m.card, .bool m.on, .slice m.LA m.Ln m.Lc, .slice m.IA m.In m.Ic] 80)).alloc (.cells #[.bool inn] 4)).heap[w.heap.size]? = some (.cells #[.int .u8 m.card, .bool m.on, .slice m.LA m.Ln m.Lc, .slice m.IA m.In m.Ic] 80 (0, 0)) := (heap_alloc_old _ _ (by simp)).trans (heap_alloc_new w _)
  have hib : ((w.alloc (.cells #[.int .u8 m.card, .bool m.on, .slice m.LA m.Ln m.Lc, .slice m.IA m.In m.Ic] 80)).alloc (.cells #[.bool inn] 4)).cell? ⟨w.heap.size + 1, 0, none⟩ = some (.bool inn) := by simp
  obtain ⟨m0, m1, m2, m3⟩ := box_four hmb
  have hgrp := group_any A' n' c' bs m _ (hB.on hb0) (hM.on hb0)
  have hn := hE.few
  have HC := Lib.hid (show _ ∧ _ ∧ _ ∧ _ ∧ _ ∧ _ from ⟨hb0, hmb, hib, hgrp, hE, hM⟩)
  clear hb0 hmb hib hgrp hE hB hM
  rw [show valM m = .agg #[.int .u8 m.card, .bool m.on, .slice m.LA m.Ln m.Lc, .slice m.IA m.In m.Ic] from rfl] at *
  go_enter Tryz.func92, Tryz.ntmps92
  go_wp2_with fail
  refine HC.out.2.2.2.1.mono ?_
  rintro e w1 ⟨D, V, rfl, hG, hb1⟩
  have hs1 : w.heap.size + 2 ≤ w1.heap.size := by have := hb1.size; simp at this; omega
  have hold1 : Below w.heap.size w w1 := HC.out.1.trans (hb1.mono HC.out.1.size)
  have hmb1 := (hb1.block w.heap.size (by simp; omega)).trans HC.out.2.1
  have hib1 := (hb1.cell (p := ⟨w.heap.size + 1, 0, none⟩) (by simp)).trans HC.out.2.2.1
  generalize hmp : ((w.alloc (.cells #[.int .u8 m.card, .bool m.on, .slice m.LA m.Ln m.Lc, .slice m.IA m.In m.Ic] 80)).alloc (.cells #[.bool inn] 4)).heap.size + 1 = bm at hG
  have hbk : Below w1.heap.size w1 (w1.alloc (.cells #[.map (some bm)] 240)) := (Below.refl _ _).alloc (Nat.le_refl _) _
  have hkc : (w1.alloc (.cells #[.map (some bm)] 240)).cell? ⟨w1.heap.size, 0, none⟩ = some (.map (some bm)) := by simp
  have hcl := cloneEv A n c es (w1.alloc (.cells #[.map (some bm)] 240)) ((HC.out.2.2.2.2.1.on hold1).on hbk).lst HC.out.2.2.2.2.1.nil (by omega)
  have H1 := Lib.hid (show _ ∧ _ ∧ _ ∧ _ ∧ _ ∧ _ ∧ _ from ⟨hG.below hbk, hold1.trans (hbk.mono (by omega)), (hbk.block w.heap.size (by omega)).trans hmb1, (hbk.cell (p := ⟨w.heap.size + 1, 0, none⟩) (by show w.heap.size + 1 < _; omega)).trans hib1, hkc, hcl, (by simp : w1.heap.size + 1 ≤ (w1.alloc (.cells #[.map (some bm)] 240)).heap.size)⟩)
  clear hG hb1 hold1 hmb1 hib1 hbk hkc hcl
  go_wp2_with fail
  refine H1.out.2.2.2.2.2.1.mono ?_
  rintro e w2 ⟨v2, rfl, ho2, hb2⟩
  obtain ⟨A2, c2, rfl, _, _⟩ := owns_slice ho2
  have hcnt : ∀ s, ∃ A c, V s = .slice A (grp (keyT m.on m.ls) s bs).length c := fun s => by
    obtain ⟨A, c, e, _, _⟩ := owns_slice (H1.out.1.rows s)
    exact ⟨A, c, e⟩
  have hdel := deleteFuncElem 154 #[.pointer (some ⟨w1.heap.size, 0, none⟩), .pointer (some ⟨w.heap.size, 0, none⟩), .pointer (some ⟨w.heap.size + 1, 0, none⟩)] Tryz.enterSift1 (fun x => decide (0 < (grp (keyT m.on m.ls) (keyT m.on m.ls x.l) bs).length) != inn) A2 n c2 es w2 _ ho2 (by omega) (fun W hgr x hx => by
    have hBW := hb2.grown hgr hb2.size (fun j hj => (ho2.lt j hj).1)
    have hx1 := ((HC.out.2.2.2.2.1.each x hx).on H1.out.2.1).on hBW
    have hM1 := (HC.out.2.2.2.2.2.on H1.out.2.1).on hBW
    have hsz := H1.out.2.2.2.2.2.2
    exact sift1_any x m inn w1.heap.size w.heap.size (w.heap.size + 1) bm n' D V (fun s => (grp (keyT m.on m.ls) s bs).length) W hx1 hM1 ((hBW.cell (p := ⟨w1.heap.size, 0, none⟩) (by show w1.heap.size < _; omega)).trans H1.out.2.2.2.2.1) ((hBW.block w.heap.size (by omega)).trans H1.out.2.2.1) ((hBW.cell (p := ⟨w.heap.size + 1, 0, none⟩) (by show w.heap.size + 1 < _; omega)).trans H1.out.2.2.2.1) (ownsMap_below H1.out.1.map hBW) H1.out.1.at_ hcnt)
  have hold2 : Below w.heap.size w w2 := H1.out.2.1.trans (hb2.mono H1.out.2.1.size)
  have H2 := Lib.hid (show _ ∧ _ ∧ _ from ⟨hdel, hold2, ho2⟩)
  have hbase : w.heap.size ≤ w1.heap.size + 1 := by omega
  clear hdel hold2 hb2 ho2 hcnt
  go_wp2_with fail
  refine H2.out.1.mono ?_
  rintro e w3 ⟨rfl, ho3, hg3⟩
  have hold3 : Below w.heap.size w w3 := H2.out.2.1.grown hg3 H2.out.2.1.size (fun j hj => by have := (H2.out.2.2.lt j hj).1; have := H1.out.2.2.2.2.2.2; omega)
  have H3 := Lib.hid (show _ ∧ _ from ⟨owns_base (B' := w.heap.size) ho3 (by have := H1.out.2.2.2.2.2.2; first | omega | exact hbase), hold3⟩)
  clear ho3 hg3 hold3
  go_wp2
  go_ret
  refine ⟨_, _, rfl, H3.out.1, ?_, fun o ho => (List.mem_filter.1 ho).1, List.length_filter_le _ _, H3.out.2⟩
  unfold siftL
  rw [List.filter_map]
  congr 1
  refine List.filter_congr fun x _ => ?_
  show (!(decide (0 < (grp (keyT m.on m.ls) (keyT m.on m.ls x.l) bs).length) != inn)) = keeps (keyT m.on m.ls) (bs.map Ev.el) inn x.el
  rw [grp_in]
  show (!(inB (keyT m.on m.ls) (keyT m.on m.ls x.l) (bs.map Ev.el) != inn)) = (inB (keyT m.on m.ls) (keyT m.on m.ls x.l) (bs.map Ev.el) == inn)
  cases inB (keyT m.on m.ls) (keyT m.on m.ls x.l) (bs.map Ev.el) <;> cases inn <;> rfl
end Go.Proofs.YtajaijidecomdaaGreatDoor
namespace Go.Proofs.YtajaijidecomdaaGreatDoor
open Go.RowKit Go.Lib

theorem wpList_append_els {wc : World} {B n : Nat} {A' : Option Addr} {n' c' : Nat} {src : List Ev} {xs : List Value} {v : Value} {i0 : TypeInfo} (hM : Lst encEv 2 wc wc.heap.size A' n' src) (hnil : A' = none → n' = 0 ∧ c' = 0)
    (hi : Tryz.prog.info? 90 = some i0) (hz0 : i0.zero = some (.agg #[.slice none 0 0, .int .u64 0])) (hz1 : i0.size = 2) (hz2 : i0.bytes = 32) (ho : wc.ownsRow B 90 2 v n xs) (hB : B ≤ wc.heap.size) (hn : n ≤ 300000) (hn' : n' ≤ 300000)
    {ops : Array Oper} {rest : List Oper} {o : Oper} {ac : Act} {Q : Exit → Act → World → Prop} (s x : Operand) (hgd : o.guard = none) (hop : o.op = .call { callee := .builtin .append, args := #[s, x], argTypes := #[33, 33] }) (hs : ac.eval s = v) (hx : ac.eval x = .slice A' n' c')
    (h : ∀ v4 w4, w4.ownsRow B 90 2 v4 (n + n') (xs ++ src.flatMap encEv) → wc.grownBy w4 v.ownBlock → wpList Tryz.prog ops Q rest (ac.put o.dst v4) w4) : wpList Tryz.prog ops Q (o :: rest) ac wc := by
  have hsl := hM.1
  cases A' with
  | none =>
    obtain ⟨rfl, rfl⟩ := hnil rfl
    obtain rfl : src = [] := List.length_eq_zero_iff.1 hsl
    refine wpList_append_own_none hgd s x 33 hop B 90 i0 2 Tryz.underlying33 hi v n xs hs ho hx ?_
    exact h v wc (by simpa using ho) (grownBy_refl _ _)
  | some ad =>
    have hfl := hM.flat encEv_len
    refine wpList_append_own wc hgd s x 33 hop B 90 i0 _ 2 32 Tryz.underlying33 hi hz0 hz1 hz2 rfl (by omega) v n xs hs ho ad n' c' (src.flatMap encEv) hx (by rw [flatMap_length encEv_len, hsl]) hfl (oneEv _) (by unfold maxLen; omega) (by omega) hB ?_
    intro v4 w4 ho4 hg4 _
    exact h v4 w4 ho4 hg4
set_option maxHeartbeats 4000000 in
set_option maxRecDepth 100000 in
theorem growE_any (n : Nat) (hn : n ≤ 300000) (w : World) : Calls Tryz.prog 156 #[.slice none 0 0, .int .i64 n] w
    fun e w' => ∃ v, e = .returned v ∧ w'.ownsRow w.heap.size 90 2 v 0 [] ∧ Below w.heap.size w w' := by
  obtain ⟨i0, hi, hz0, hz1, hz2⟩ := info_parts Tryz.infoElem
  by_cases h0 : n = 0
  · subst h0
    go_enter Tryz.func156, Tryz.ntmps156
    go_wp2_with fail
    go_ret
    exact ⟨_, rfl, World.ownsRow_nil _ _ _ _, Below.refl _ _⟩
  · have hrun := run_append_nil_zeros (P := Tryz.prog) w 33 3 33 90 i0 _ .i64 .i64 Tryz.underlying33 (by kernel_rfl) hi hz0 n (by omega) (by omega) (by omega) (by rw [hz2]; omega)
    have hge := grownCap_ge w n 0 90
    have hle := grownCap_le_maxLen w n 0 90 (by unfold maxLen; omega)
    obtain ⟨cap, hcap⟩ : ∃ k, grownCap w n 0 90 = k := ⟨_, rfl⟩
    rw [hcap] at hrun hge hle
    obtain ⟨zs, hzs⟩ : ∃ z, (Builtin.zeroCells (Value.agg #[.slice none 0 0, .int .u64 0]).cells n ++ Builtin.zeroCells (Value.agg #[.slice none 0 0, .int .u64 0]).cells (cap - n)) = z := ⟨_, rfl⟩
    have hzl : zs.size = cap * 2 := by
      rw [← hzs]
      simp [size_zeroCells, Value.cells]
      omega
    rw [hzs] at hrun
    have hb : Below w.heap.size w (w.drew.alloc (.cells zs 90)) := (Below.refl _ w).drew.alloc (by simp) _
    have hown : (w.drew.alloc (.cells zs 90)).ownsRow w.heap.size 90 2 (.slice (some ⟨w.heap.size, 0, none⟩) 0 cap) 0 [] := by
      refine ⟨rfl, .inr ⟨w.heap.size, cap, zs, rfl, Nat.le_refl _, ?_, Nat.zero_le _, hle, hzl, by simp⟩⟩
      have := heap_alloc_new w.drew (.cells zs 90)
      simpa using this
    have HO := Lib.hid hown
    have HB := Lib.hid hb
    clear hown hb
    go_enter Tryz.func156, Tryz.ntmps156
    go_wp2_with (at_builtin; refine wpList_append_run _ rfl _ _ 33 3 rfl _ _ rfl rfl _ _ hrun ?_)
    go_ret
    exact ⟨_, rfl, HO.out, HB.out⟩
set_option maxHeartbeats 4000000 in
set_option maxRecDepth 100000 in
theorem concatE_any (A A' : Option Addr) (n c n' c' : Nat) (es bs : List Ev) (b : Nat) (w : World) (hE : Lst encEv 2 w w.heap.size A n es) (hB : Lst encEv 2 w w.heap.size A' n' bs) (hnil : A = none → n = 0 ∧ c = 0) (hnil' : A' = none → n' = 0 ∧ c' = 0) (hn : n ≤ 100000) (hn' : n' ≤ 100000)
    (h0 : w.cell? ⟨b, 0, none⟩ = some (.slice A n c)) (h1 : w.cell? ⟨b, 1, none⟩ = some (.slice A' n' c')) (hbl : b < w.heap.size) :
    Calls Tryz.prog 93 #[.slice (some ⟨b, 0, none⟩) 2 2] w
    fun e w' => ∃ v, e = .returned v ∧ w'.ownsRow w.heap.size 90 2 v (n + n') ((es ++ bs).flatMap encEv) ∧ Below w.heap.size w w' := by
  obtain ⟨i0, hi, hz0, hz1, hz2⟩ := info_parts Tryz.infoElem
  have HG := Lib.hid (growE_any (n + n') (by omega) w)
  have HE := Lib.hid (show _ ∧ _ ∧ _ ∧ _ from ⟨hE, hB, hnil, hnil'⟩)
  have HI := Lib.hid (show _ ∧ _ ∧ _ ∧ _ from ⟨hi, hz0, hz1, hz2⟩)
  clear hE hB hnil hnil' hi hz0 hz1 hz2
  go_enter Tryz.func93, Tryz.ntmps93
  go_wp2_with fail
  refine wp_loop_rounds 3 ?_
  rw [rounds_succ]
  go_wp2_with fail
  rw [rounds_succ]
  go_wp2_with fail
  rw [rounds_succ]
  go_wp2_with fail
  simp only [← Int.natCast_add]
  refine HG.out.mono ?_
  rintro e w1 ⟨v, rfl, ho1, hb1⟩
  have k0 := (hb1.cell (p := ⟨b, 0, none⟩) hbl).trans h0
  have k1 := (hb1.cell (p := ⟨b, 1, none⟩) hbl).trans h1
  have H1 := Lib.hid (show _ ∧ _ from ⟨ho1, hb1⟩)
  clear ho1 hb1
  go_wp2_with fail
  refine wp_loop_rounds 3 ?_
  rw [rounds_succ]
  go_wp2_with (at_builtin; refine wpList_append_els (B := w.heap.size) (A' := A) (n' := n) (c' := c) (src := es) (Lst.more (Lst.below HE.out.1 H1.out.2) H1.out.2.size) HE.out.2.2.1 HI.out.1 HI.out.2.1 HI.out.2.2.1 HI.out.2.2.2 H1.out.1 H1.out.2.size (by omega) (by omega) _ _ rfl rfl rfl rfl ?_)
  intro v2 w2 ho2 hg2
  have hb2 : Below w.heap.size w w2 := H1.out.2.grown hg2 H1.out.2.size (fun k h => (H1.out.1.lt k h).1)
  have k2 := (hb2.cell (p := ⟨b, 1, none⟩) hbl).trans h1
  have l2 := (hb2.cell (p := ⟨b, 0, none⟩) hbl).trans h0
  have H2 := Lib.hid (show _ ∧ _ from ⟨ho2, hb2⟩)
  clear ho2 hb2 hg2
  go_wp2_with fail
  rw [rounds_succ]
  go_wp2_with (at_builtin; refine wpList_append_els (B := w.heap.size) (A' := A') (n' := n') (c' := c') (src := bs) (Lst.more (Lst.below HE.out.2.1 H2.out.2) H2.out.2.size) HE.out.2.2.2 HI.out.1 HI.out.2.1 HI.out.2.2.1 HI.out.2.2.2 H2.out.1 H2.out.2.size (by omega) (by omega) _ _ rfl rfl rfl rfl ?_)
  intro v3 w3 ho3 hg3
  have hb3 : Below w.heap.size w w3 := H2.out.2.grown hg3 H2.out.2.size (fun k h => (H2.out.1.lt k h).1)
  have H3 := Lib.hid (show _ ∧ _ from ⟨ho3, hb3⟩)
  clear ho3 hb3 hg3
  go_wp2_with fail
  rw [rounds_succ]
  go_wp2_with fail
  go_ret
  exact ⟨_, rfl, by rw [List.flatMap_append]; simpa using H3.out.1, H3.out.2⟩
end Go.Proofs.YtajaijidecomdaaGreatDoor
namespace Go.Proofs.YtajaijidecomdaaGreatDoor
open Go.RowKit Go.Lib

theorem el_ext {a b : El} : a = b ↔ a.2 = b.2 ∧ labelsC a.1 b.1 = 0 := by
  rw [labelsC_cmp3.zero]
  exact ⟨fun h => by rw [h]; exact ⟨rfl, rfl⟩, fun h => Prod.ext h.2 h.1⟩
set_option maxHeartbeats 4000000 in
set_option maxRecDepth 100000 in
/-- The same elements: told so. -/
theorem sameElems_true (A A' : Option Addr) (n c c' : Nat) (es fs : List Ev) (w : World) (hA : Els w w.heap.size A n c es) (hB : Els w w.heap.size A' n c' fs) (hs : es.map Ev.el = fs.map Ev.el) :
    Calls Tryz.prog 20 #[.slice A n c, .slice A' n c'] w fun e w' => e = .returned (.bool true) ∧ ∃ q, w' = w.drewN q := by
  have HE := Lib.hid (show _ ∧ _ ∧ _ from ⟨hA, hB, hs⟩)
  have hn := hA.few
  have hla := hA.lst.1
  have hlb := hB.lst.1
  clear hA hB hs
  go_enter Tryz.func20, Tryz.ntmps20
  go_wp2
  go_loopw [5] (fun iv wr => ∃ k q : Nat, k ≤ n ∧ iv = .int .i64 k ∧ wr = w.drewN q) (fun iv _ => n - (intOf iv).toNat)
  case atStart => exact ⟨0, 0, Nat.zero_le _, rfl, rfl⟩
  case round =>
    obtain ⟨k, q, hk, rfl, hwr⟩ := hrel
    have hcl : ∀ p, wr.cell? p = w.cell? p := fun p => by rw [hwr]; rfl
    by_cases hlt : k < n
    · obtain ⟨b, off, x, rfl, hb, hx, hc⟩ := HE.out.1.lst.at hlt
      obtain ⟨b', off', y, rfl, hb', hy, hc'⟩ := HE.out.2.1.lst.at hlt
      have c0 := (hcl _).trans (hc 0 _ rfl)
      have c1 := (hcl _).trans (hc 1 _ rfl)
      have d0 := (hcl _).trans (hc' 0 _ rfl)
      have d1 := (hcl _).trans (hc' 1 _ rfl)
      simp only [Nat.add_zero] at c0 d0
      have hxy : x.el = y.el := by
        have h1 : (es.map Ev.el)[k]? = some x.el := by rw [List.getElem?_map, hx]; rfl
        have h2 : (fs.map Ev.el)[k]? = some y.el := by rw [List.getElem?_map, hy]; rfl
        rw [HE.out.2.2, h2] at h1
        injection h1 with h1
        exact h1.symm
      have hv : y.v = x.v := (congrArg Prod.snd hxy).symm
      have hl : y.l = x.l := (congrArg Prod.fst hxy).symm
      have hxE := HE.out.1.each x (List.mem_of_getElem? hx)
      have hyE := HE.out.2.1.each y (List.mem_of_getElem? hy)
      have hsm : ∀ W, (∃ r, W = wr.drewN r) → Calls Tryz.prog 29 #[.slice x.A x.n x.c, .slice y.A y.n y.c] W fun e w' => e = .returned (.bool true) ∧ ∃ r, w' = W.drewN r := fun W hW => by
        obtain ⟨r, rfl⟩ := hW
        rw [hwr, World.drewN_drewN]
        generalize q + r = q
        have h := sameLabels_any x.A y.A x.n x.c y.n y.c x.l y.l (w.drewN q) ((hxE.lst.below (below_drewN (Below.refl _ w) q)).more (Nat.le_refl _)) ((hyE.lst.below (below_drewN (Below.refl _ w) q)).more (Nat.le_refl _)) (by have := hxE.few; omega) (by have := hyE.few; omega)
        rw [hl, decide_eq_true (labelsC_cmp3.self x.l)] at h
        exact h
      rw [hv] at d1
      have i1 : (0 : Int) ≤ (k : Int) := by omega
      have i2 : (k : Int) < (n : Int) := by omega
      have HS := Lib.hid (show _ ∧ _ from ⟨hsm, hwr⟩)
      clear hc hc' hx hy hxy hv hl hxE hyE hsm hcl hwr
      go_wp2_with (go_quiet (first | (go_at_call 29; refine Calls.quiet_of (HS.out.1 _ ⟨_, rfl⟩)) | fail))
      go_roundw
      case measure => simp [intOf]; omega
      case rel => exact ⟨k + 1, _, hlt, by simp, by rw [HS.out.2, World.drewN_drewN]⟩
    · obtain rfl : k = n := by omega
      have HW := Lib.hid hwr
      clear hcl hwr
      go_wp2
      go_ret
      exact ⟨rfl, q, HW.out⟩
/-- A vector of one element. -/
theorem one_any (nm vl : ByteArray) (hn : nm.size ≤ 100000) (hv : vl.size ≤ 100000) (v : UInt64) (w : World) : Calls Tryz.prog 50 #[.string nm, .string vl, .int .u64 v.toNat] w fun e w' => ∃ A c es, e = .returned (.slice A 1 c) ∧ Els w' w'.heap.size A 1 c es ∧ es.map Ev.el = [([⟨nm, vl⟩], v)] ∧ Below w.heap.size w w' := by
  go_enter Tryz.func50, Tryz.ntmps50
  go_wp2
  go_ret
  refine ⟨some ⟨w.heap.size + 1, 0, none⟩, 1, [⟨some ⟨w.heap.size, 0, none⟩, 1, 1, [⟨nm, vl⟩], v⟩], rfl, ⟨⟨rfl, fun _ => ⟨w.heap.size + 1, 0, rfl, by simp, fun k x hx i u hu => ?_⟩⟩, (by simp), (by omega), fun e he => ?_⟩, rfl, ((Below.refl _ w).alloc (Nat.le_refl _) _).alloc (by simp) _⟩
  · have hk := (List.getElem?_eq_some_iff.1 hx).1
    obtain rfl : k = 0 := by simpa using hk
    have hx' := Option.some.inj hx
    subst hx'
    match i, hu with
    | 0, hu => have hu' := Option.some.inj hu; subst hu'; simp
    | 1, hu => have hu' := Option.some.inj hu; subst hu'; simp
    | i + 2, hu => simp [encEv] at hu
  · rw [List.mem_singleton.1 he]
    refine ⟨⟨rfl, fun _ => ⟨w.heap.size, 0, rfl, by simp; omega, fun k x hx i u hu => ?_⟩⟩, (by simp), (by simp), fun x hx => by rw [List.mem_singleton.1 hx]; exact ⟨hn, hv⟩⟩
    have hk := (List.getElem?_eq_some_iff.1 hx).1
    obtain rfl : k = 0 := by simpa using hk
    have hx' := Option.some.inj hx
    subst hx'
    match i, hu with
    | 0, hu => have hu' := Option.some.inj hu; subst hu'; simp
    | 1, hu => have hu' := Option.some.inj hu; subst hu'; simp
    | i + 2, hu => simp [Lb.cells] at hu
end Go.Proofs.YtajaijidecomdaaGreatDoor
