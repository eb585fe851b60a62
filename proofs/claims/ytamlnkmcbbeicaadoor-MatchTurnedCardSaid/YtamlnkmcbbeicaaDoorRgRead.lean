/- Patterns' reader: read. -/
import Derived.Test.YtamlnkmcbbeicaaDoorRgCatch
namespace Go.Proofs.YtamlnkmcbbeicaaDoor
open Go.RowKit Go.Lib
open RX (PS Tr Pr)

def ReadPost (w : World) (s : ByteArray) (e : Ending) (w' : World) : Prop :=
  match RX.readRx s.data.toList with
  | .ok t g => ∃ v, e = .returned (.tuple #[v, .int .i64 g, .int .u16 0, .int .i64 0]) ∧ TreeV w' (fun b => w.heap.size ≤ b ∧ b < w'.heap.size) t v ∧ g ≤ 500 ∧ Below w.heap.size w w'
  | .bad x a => e = .returned (.tuple #[.nilIface, .int .i64 0, .int .u16 x, .int .i64 a]) ∧ Below w.heap.size w w'
theorem below_drewN0 {B : Nat} {w W : World} (h : Below B w W) (n : Nat) : Below B w (W.drewN n) := ⟨h.os, h.tape, h.output, h.size, h.block⟩
/-- What stands when the pattern is read: the three named results, the reader. -/
structure RdSt (w W : World) (b2 : Nat) (s : ByteArray) (st : PS) (x2 : Value) : Prop where
  h2 : W.heap[b2]? = some (.cells #[x2] 52 (0, 0))
  h4 : W.heap[b2 + 1]? = some (.cells #[.int .u16 0] 26 (0, 0))
  h5 : W.heap[b2 + 1 + 1]? = some (.cells #[.int .i64 0] 3 (0, 0))
  psr : Psr W (b2 + 1 + 1 + 1) s st
  base : w.heap.size ≤ b2
  below : Below w.heap.size w W
theorem RdSt.c2 {w W : World} {b2 : Nat} {s : ByteArray} {st : PS} {x2 : Value} (h : RdSt w W b2 s st x2) : W.cell? ⟨b2, 0, none⟩ = some x2 := by rw [cell_of_row W b2 0 _ _ (0, 0) h.h2]; rfl
theorem RdSt.c4 {w W : World} {b2 : Nat} {s : ByteArray} {st : PS} {x2 : Value} (h : RdSt w W b2 s st x2) : W.cell? ⟨b2 + 1, 0, none⟩ = some (.int .u16 0) := by rw [cell_of_row W (b2 + 1) 0 _ _ (0, 0) h.h4]; rfl
theorem RdSt.c5 {w W : World} {b2 : Nat} {s : ByteArray} {st : PS} {x2 : Value} (h : RdSt w W b2 s st x2) : W.cell? ⟨b2 + 1 + 1, 0, none⟩ = some (.int .i64 0) := by rw [cell_of_row W (b2 + 1 + 1) 0 _ _ (0, 0) h.h5]; rfl
theorem RdSt.f2 {w W : World} {b2 : Nat} {s : ByteArray} {st : PS} {x2 : Value} (h : RdSt w W b2 s st x2) : W.frozen? ⟨b2, 0, none⟩ = false := by unfold World.frozen?; rw [h.h2]; rfl
theorem RdSt.f4 {w W : World} {b2 : Nat} {s : ByteArray} {st : PS} {x2 : Value} (h : RdSt w W b2 s st x2) : W.frozen? ⟨b2 + 1, 0, none⟩ = false := by unfold World.frozen?; rw [h.h4]; rfl
theorem RdSt.f5 {w W : World} {b2 : Nat} {s : ByteArray} {st : PS} {x2 : Value} (h : RdSt w W b2 s st x2) : W.frozen? ⟨b2 + 1 + 1, 0, none⟩ = false := by unfold World.frozen?; rw [h.h5]; rfl
theorem RdSt.call {w W W' : World} {b2 : Nat} {s : ByteArray} {st st' : PS} {x2 : Value} (h : RdSt w W b2 s st x2) (hp : Psr W' (b2 + 1 + 1 + 1) s st') (hg : GrownIn (fun b => b = b2 + 1 + 1 + 1) W W') : RdSt w W' b2 s st' x2 := by
  have hl := h.psr.lt
  exact ⟨(hg.block _ (by omega) (by omega)).trans h.h2, (hg.block _ (by omega) (by omega)).trans h.h4, (hg.block _ (by omega) (by omega)).trans h.h5, hp, h.base, h.below.trans (hg.below (fun k e => by have := h.base; omega) h.below.size)⟩
theorem RdSt.put2 {w W : World} {b2 : Nat} {s : ByteArray} {st : PS} {x2 : Value} (h : RdSt w W b2 s st x2) (v : Value) : RdSt w (W.setCell ⟨b2, 0, none⟩ v) b2 s st v :=
  ⟨heap_setCell_same W b2 0 _ _ _ h.h2, (heap_setCell_other _ _ _ _ (by show b2 + 1 ≠ b2; omega)).trans h.h4, (heap_setCell_other _ _ _ _ (by show b2 + 1 + 1 ≠ b2; omega)).trans h.h5, h.psr.other (by show b2 + 1 + 1 + 1 ≠ b2; omega) _, h.base, h.below.setCell h.base _⟩
theorem RdSt.drewN {w W : World} {b2 : Nat} {s : ByteArray} {st : PS} {x2 : Value} (h : RdSt w W b2 s st x2) (n : Nat) : RdSt w (W.drewN n) b2 s st x2 := ⟨h.h2, h.h4, h.h5, h.psr, h.base, below_drewN0 h.below n⟩
theorem RdSt.after {w W W' : World} {b2 : Nat} {s : ByteArray} {st : PS} {x2 : Value} (h : RdSt w W b2 s st x2) (hb : Below W.heap.size W W') : RdSt w W' b2 s st x2 := by
  have hl := h.psr.lt
  exact ⟨(hb.block _ (by omega)).trans h.h2, (hb.block _ (by omega)).trans h.h4, (hb.block _ (by omega)).trans h.h5, (hb.block _ (by omega)).trans h.psr, h.base, h.below.trans (hb.mono h.below.size)⟩
theorem cut_min (n : Nat) : min 1048576 n = cut n := by unfold cut; split <;> omega
theorem read_bad {s : ByteArray} {t : Tr} {st : PS} (hr : RX.pAll s.data.toList (s.data.toList.length + 1) ⟨0, 0, 0, 0⟩ = .ok t st) (hlen : s.data.toList.length = s.size) (h : ¬ st.at_ < s.size ∧ (100 < st.deeper ∨ 1000 < cut t.size + 1)) : RX.readRx s.data.toList = .bad 81 0 := by
  unfold RX.readRx
  rw [hr]
  simp only
  rw [if_neg (by rw [hlen]; exact h.1), if_pos (by rw [cut_min]; exact h.2)]
theorem read_fine {w W W3 : World} {b2 g n1 : Nat} {s : ByteArray} {t : Tr} {v u2 u4 u5 : Value} (hr : RX.readRx s.data.toList = .ok t g) (ht : TreeV W3 (fun b => W.heap.size ≤ b ∧ b < n1) t v) (hW : w.heap.size ≤ W.heap.size) (hb : b2 + 1 + 1 + 1 < W.heap.size) (hn : n1 ≤ W3.heap.size) (hg : g ≤ 500) (hbase : w.heap.size ≤ b2) (hbel : Below w.heap.size w W3) {q : Nat} :
    ReadPost w s (.returned (.tuple #[v, .int .i64 g, .int .u16 0, .int .i64 0])) ((((W3.setCell ⟨b2, 0, none⟩ u2).setCell ⟨b2 + 1, 0, none⟩ u4).setCell ⟨b2 + 1 + 1, 0, none⟩ u5).drewN q) := by
  have e : ((((W3.setCell ⟨b2, 0, none⟩ u2).setCell ⟨b2 + 1, 0, none⟩ u4).setCell ⟨b2 + 1 + 1, 0, none⟩ u5).drewN q).heap.size = W3.heap.size := by simp
  unfold ReadPost
  rw [hr]
  refine ⟨v, rfl, ?_, hg, below_drewN0 (((hbel.setCell (p := ⟨b2, 0, none⟩) hbase _).setCell (p := ⟨b2 + 1, 0, none⟩) (by show w.heap.size ≤ b2 + 1; omega) _).setCell (p := ⟨b2 + 1 + 1, 0, none⟩) (by show w.heap.size ≤ b2 + 1 + 1; omega) _) q⟩
  refine TreeV.move (w := W3) (T := fun b => W.heap.size ≤ b ∧ b < n1) (fun b h => ⟨by omega, by omega⟩) (fun b h hlt => ?_) t v ht
  show (((W3.setCell ⟨b2, 0, none⟩ u2).setCell ⟨b2 + 1, 0, none⟩ u4).setCell ⟨b2 + 1 + 1, 0, none⟩ u5).heap[b]? = _
  rw [heap_setCell_other _ _ _ _ (by show b ≠ b2 + 1 + 1; omega), heap_setCell_other _ _ _ _ (by show b ≠ b2 + 1; omega), heap_setCell_other _ _ _ _ (by show b ≠ b2; omega)]
theorem read_long {w W : World} {s : ByteArray} (hr : RX.readRx s.data.toList = .bad 81 0) (hb : Below w.heap.size w W) : ReadPost w s (.returned (.tuple #[.nilIface, .int .i64 0, .int .u16 81, .int .i64 0])) W := by
  unfold ReadPost
  rw [hr]
  exact ⟨rfl, hb⟩
set_option maxHeartbeats 4000000 in
set_option maxRecDepth 100000 in
theorem read_any (s : ByteArray) (w : World) (hbig : s.size ≤ 500) : Calls Tryd.prog 22 #[.string s] w (ReadPost w s) := by
  have hmf : ∀ (fn : Fn) (first cap : Array Value) (w : World), (Instr.makeFunc fn first cap).run Tryd.prog w = .ok (.func fn first cap) w := fun _ _ _ _ => rfl
  have hlen : s.data.toList.length = s.size := Array.length_toList
  go_enter_defers Tryd.func22, Tryd.ntmps22
  go_wp2_with fail
  have h0 : RdSt w ((((w.alloc (.cells #[.nilIface] 52)).alloc (.cells #[.int .u16 0] 26)).alloc (.cells #[.int .i64 0] 3)).alloc (.cells #[.string s, .int .i64 0, .int .i64 0, .int .i64 0, .int .i64 0] 81)) w.heap.size s ⟨0, 0, 0, 0⟩ .nilIface := by
    have s1 : (w.alloc (.cells #[.nilIface] 52)).heap.size = w.heap.size + 1 := by simp
    have s2 : ((w.alloc (.cells #[.nilIface] 52)).alloc (.cells #[.int .u16 0] 26)).heap.size = w.heap.size + 1 + 1 := by simp
    have s3 : (((w.alloc (.cells #[.nilIface] 52)).alloc (.cells #[.int .u16 0] 26)).alloc (.cells #[.int .i64 0] 3)).heap.size = w.heap.size + 1 + 1 + 1 := by simp
    refine ⟨?_, ?_, ?_, ?_, Nat.le_refl _, ((((Below.refl _ _).alloc (Nat.le_refl _) _).alloc (by omega) _).alloc (by omega) _).alloc (by omega) _⟩
    · rw [heap_alloc_old _ _ (by omega), heap_alloc_old _ _ (by omega), heap_alloc_old _ _ (by omega), heap_alloc_new]
    · rw [heap_alloc_old _ _ (by omega), heap_alloc_old _ _ (by omega), ← s1, heap_alloc_new]
    · rw [heap_alloc_old _ _ (by omega), ← s2, heap_alloc_new]
    · unfold Psr
      rw [← s3, heap_alloc_new]
      rfl
  generalize ((((w.alloc (.cells #[.nilIface] 52)).alloc (.cells #[.int .u16 0] 26)).alloc (.cells #[.int .i64 0] 3)).alloc (.cells #[.string s, .int .i64 0, .int .i64 0, .int .i64 0, .int .i64 0] 81)) = W at h0 ⊢
  obtain ⟨b2, hb2⟩ : ∃ b2, w.heap.size = b2 := ⟨_, rfl⟩
  rw [hb2] at h0 ⊢
  have H0 := Lib.hid (show _ ∧ _ from ⟨h0, hb2⟩)
  clear h0 hb2
  refine (all_any (b2 + 1 + 1 + 1) s hbig (s.data.toList.length + 1) W ⟨0, 0, 0, 0⟩ H0.out.1.psr ⟨Nat.zero_le _, Nat.le_refl _, Nat.le_refl _, Nat.le_refl _⟩ (by show s.size + 1 ≤ _ + 1 + 0; omega)).mono ?_
  rintro e w1 hpost
  unfold PrPost at hpost
  cases hr : RX.pAll s.data.toList (s.data.toList.length + 1) ⟨0, 0, 0, 0⟩ with
  | bad a =>
    rw [hr] at hpost
    obtain ⟨rfl, hg⟩ := hpost
    have hl := H0.out.1.psr.lt
    have H1 := Lib.hid (show _ ∧ w1.heap[b2]? = some (.cells #[.nilIface] 52 (0, 0)) ∧ w1.heap[b2 + 1]? = some (.cells #[.int .u16 0] 26 (0, 0)) ∧ w1.heap[b2 + 1 + 1]? = some (.cells #[.int .i64 0] 3 (0, 0)) ∧ Below w.heap.size w w1 from
      ⟨hr, (hg.block _ (by omega) (by omega)).trans H0.out.1.h2, (hg.block _ (by omega) (by omega)).trans H0.out.1.h4, (hg.block _ (by omega) (by omega)).trans H0.out.1.h5, H0.out.1.below.trans (hg.below (fun k e => by have := H0.out.1.base; omega) H0.out.1.below.size)⟩)
    clear hr hg hl
    go_wp2_with fail
    refine leaves_cons (f := 36) (args := #[.pointer (some ⟨b2, 0, none⟩), .pointer (some ⟨b2 + 1, 0, none⟩), .pointer (some ⟨b2 + 1 + 1, 0, none⟩)]) (by simp) (by simp [go_sem]) ?_
    refine (catch_panicking b2 (b2 + 1) (b2 + 1 + 1) a _ _ _ _ H1.out.2.1 H1.out.2.2.1 H1.out.2.2.2.1 (by omega) (by omega) (by omega)).mono ?_
    rintro e u' w3 ⟨rfl, rfl, c2, c4, c5, hg3⟩
    have hfin : ReadPost w s (.returned (.tuple #[.nilIface, .int .i64 0, .int .u16 80, .int .i64 a])) w3 := by
      have hrd : RX.readRx s.data.toList = .bad 80 a := by unfold RX.readRx; rw [H1.out.1]
      unfold ReadPost
      rw [hrd]
      exact ⟨rfl, H1.out.2.2.2.2.trans (hg3.below (fun k e => by have := H0.out.1.base; omega) H1.out.2.2.2.2.size)⟩
    simp [Leaves, settle, results, Tryd.results22, go_sem, c2, c4, c5]
    exact hfin
  | ok t st =>
    rw [hr] at hpost
    obtain ⟨v, rfl, hp, ht, hg, hok, hd, hle⟩ := hpost
    obtain ⟨tv, xv, rfl⟩ := ht.iface
    have hcall := H0.out.1.call hp hg
    have hW := H0.out.1.psr.lt
    have hWs := H0.out.1.below.size
    have htw : TreeV (w1.setCell ⟨b2, 0, none⟩ (.iface tv xv)) (fun b => W.heap.size ≤ b ∧ b < w1.heap.size) t (.iface tv xv) := TreeV.move (fun _ h => h) (fun b hb hlt => heap_setCell_other _ _ _ _ (by show b ≠ b2; omega)) t _ ht
    have H1 := Lib.hid (show RdSt w (w1.setCell ⟨b2, 0, none⟩ (.iface tv xv)) b2 s st (.iface tv xv) ∧ _ ∧ _ ∧ _ from ⟨hcall.put2 _, htw, hok, hr⟩)
    have z2 := hcall.c2
    have zf2 := hcall.f2
    have hne2 : b2 ≠ b2 + 1 + 1 + 1 := by omega
    have x0 : w1.cell? ⟨b2 + 1 + 1 + 1, 0, none⟩ = some (.string s) := hcall.psr.c0
    have x1 : w1.cell? ⟨b2 + 1 + 1 + 1, 1, none⟩ = some (.int .i64 (st.at_ : Int)) := hcall.psr.c1
    have x2 : w1.cell? ⟨b2 + 1 + 1 + 1, 2, none⟩ = some (.int .i64 (st.groups : Int)) := hcall.psr.c2
    have x4 : w1.cell? ⟨b2 + 1 + 1 + 1, 4, none⟩ = some (.int .i64 (st.deeper : Int)) := hcall.psr.c4
    have hbase := H1.out.1.base
    clear hr hp ht hg hok hd hle hcall htw
    by_cases hlt : st.at_ < s.size
    · have i1 : (st.at_ : Int) < (s.size : Int) := by omega
      have HL := Lib.hid hlt
      clear hlt
      go_wp2_with (go_quiet (fail))
      refine leaves_cons (f := 36) (args := #[.pointer (some ⟨b2, 0, none⟩), .pointer (some ⟨b2 + 1, 0, none⟩), .pointer (some ⟨b2 + 1 + 1, 0, none⟩)]) (by simp) (by simp [go_sem]) ?_
      refine (catch_panicking b2 (b2 + 1) (b2 + 1 + 1) st.at_ _ _ _ _ (H1.out.1.drewN _).h2 (H1.out.1.drewN _).h4 (H1.out.1.drewN _).h5 (by omega) (by omega) (by omega)).mono ?_
      rintro e u' w3 ⟨rfl, rfl, c2, c4, c5, hg3⟩
      have hfin : ReadPost w s (.returned (.tuple #[.nilIface, .int .i64 0, .int .u16 80, .int .i64 st.at_])) w3 := by
        have hrd : RX.readRx s.data.toList = .bad 80 st.at_ := by unfold RX.readRx; rw [H1.out.2.2.2]; simp only; rw [if_pos (by rw [hlen]; exact HL.out)]
        unfold ReadPost
        rw [hrd]
        exact ⟨rfl, H1.out.1.below.trans ((((GrownIn.refl _ _).drewN _).trans hg3 (fun _ _ h => h)).below (fun k e => by have := H1.out.1.base; omega) H1.out.1.below.size)⟩
      simp [Leaves, settle, results, Tryd.results22, go_sem, c2, c4, c5]
      exact hfin
    · have i1 : ¬ (st.at_ : Int) < (s.size : Int) := by omega
      have y2 := H1.out.1.c2
      have y4 := H1.out.1.c4
      have y5 := H1.out.1.c5
      have g2 := H1.out.1.f2
      have g4 := H1.out.1.f4
      have g5 := H1.out.1.f5
      by_cases hdp : 100 < st.deeper
      · have i2 : (100 : Int) < (st.deeper : Int) := by omega
        have HL0 := Lib.hid (show ¬ st.at_ < s.size ∧ (100 < st.deeper ∨ 1000 < cut t.size + 1) from ⟨hlt, .inl hdp⟩)
        clear hlt hdp
        have HL := Lib.hid (read_bad H1.out.2.2.2 hlen HL0.out)
        go_wp2_with (go_quiet (fail))
        refine leaves_cons (f := 36) (args := #[.pointer (some ⟨b2, 0, none⟩), .pointer (some ⟨b2 + 1, 0, none⟩), .pointer (some ⟨b2 + 1 + 1, 0, none⟩)]) (by simp) (by simp [go_sem]) ?_
        refine (catch_idle _ _ _ _).mono ?_
        rintro e u' w3 ⟨rfl, rfl, rfl⟩
        simp [Leaves, settle, results, Tryd.results22, go_sem, y2, y4, y5]
        exact read_long HL.out ((((H1.out.1.drewN _).below.setCell (p := ⟨b2, 0, none⟩) hbase _).setCell (p := ⟨b2 + 1, 0, none⟩) (by show w.heap.size ≤ b2 + 1; omega) _).setCell (p := ⟨b2 + 1 + 1, 0, none⟩) (by show w.heap.size ≤ b2 + 1 + 1; omega) _)
      · have i2 : ¬ (100 : Int) < (st.deeper : Int) := by omega
        obtain ⟨ty', x', fs, he1, hme, heg, hce⟩ := metS t (.iface tv xv) _ _ H1.out.2.1
        injection he1 with et ex
        subst et
        subst ex
        have q1 := cut_le t.size
        obtain ⟨n1, hn1⟩ : ∃ n1, cut t.size = n1 := ⟨_, rfl⟩
        rw [hn1] at q1
        have k1 : IntKind.i64.wrap ((n1 : Int) + 1) = (n1 : Int) + 1 := IntWalk.i64_in _ (by omega)
        have HC := Lib.hid (show _ ∧ _ from ⟨hce, hn1⟩)
        have HD := Lib.hid (show ¬ st.at_ < s.size ∧ ¬ 100 < st.deeper from ⟨hlt, hdp⟩)
        clear hce hn1 hlt hdp
        go_wp2_with (go_quiet (fail))
        refine (HC.out.1 _ _ (H1.out.2.1.drewN _)).mono ?_
        rintro e w3 ⟨rfl, hb3⟩
        rw [HC.out.2]
        have H3 := Lib.hid ((H1.out.1.drewN _).after hb3)
        have H3t := Lib.hid ((H1.out.2.1.drewN _).below hb3)
        have hsz13 : w1.heap.size ≤ w3.heap.size := by have := hb3.size; simpa using this
        clear y2 y4 y5 g2 g4 g5 hb3 x0 x1 x2 x4 z2 zf2
        have x2 : w3.cell? ⟨b2 + 1 + 1 + 1, 2, none⟩ = some (.int .i64 (st.groups : Int)) := H3.out.psr.c2
        have y2 := H3.out.c2
        have y4 := H3.out.c4
        have y5 := H3.out.c5
        have g2 := H3.out.f2
        have g4 := H3.out.f4
        have g5 := H3.out.f5
        by_cases hbig2 : 1000 < n1 + 1
        · have i3 : (1000 : Int) < (n1 : Int) + 1 := by omega
          have HL := Lib.hid (read_bad H1.out.2.2.2 hlen ⟨HD.out.1, .inr (by rw [HC.out.2]; exact hbig2)⟩)
          clear hbig2
          go_wp2_with fail
          refine leaves_cons (f := 36) (args := #[.pointer (some ⟨b2, 0, none⟩), .pointer (some ⟨b2 + 1, 0, none⟩), .pointer (some ⟨b2 + 1 + 1, 0, none⟩)]) (by simp) (by simp [go_sem]) ?_
          refine (catch_idle _ _ _ _).mono ?_
          rintro e u' w3 ⟨rfl, rfl, rfl⟩
          simp [Leaves, settle, results, Tryd.results22, go_sem, y2, y4, y5]
          exact read_long HL.out (((H3.out.below.setCell (p := ⟨b2, 0, none⟩) hbase _).setCell (p := ⟨b2 + 1, 0, none⟩) (by show w.heap.size ≤ b2 + 1; omega) _).setCell (p := ⟨b2 + 1 + 1, 0, none⟩) (by show w.heap.size ≤ b2 + 1 + 1; omega) _)
        · have i3 : ¬ (1000 : Int) < (n1 : Int) + 1 := by omega
          have HL := Lib.hid (show RX.readRx s.data.toList = .ok t st.groups by
            unfold RX.readRx
            rw [H1.out.2.2.2]
            simp only
            rw [if_neg (by rw [hlen]; exact HD.out.1), if_neg (by rw [cut_min, HC.out.2]; exact fun e => e.elim HD.out.2 hbig2)])
          clear hbig2
          go_wp2_with fail
          go_region
          all_goals
            go_wp2_with fail
            refine leaves_cons (f := 36) (args := #[.pointer (some ⟨b2, 0, none⟩), .pointer (some ⟨b2 + 1, 0, none⟩), .pointer (some ⟨b2 + 1 + 1, 0, none⟩)]) (by simp) (by simp [go_sem]) ?_
            refine (catch_idle _ _ _ _).mono ?_
            rintro e u' w4 ⟨rfl, rfl, rfl⟩
            simp [Leaves, settle, results, Tryd.results22, go_sem, y2, y4, y5]
            exact read_fine HL.out H3t.out hWs hW hsz13 (by have := H1.out.2.2.1.groups; have := H1.out.2.2.1.at_; omega) hbase H3.out.below
end Go.Proofs.YtamlnkmcbbeicaaDoor
