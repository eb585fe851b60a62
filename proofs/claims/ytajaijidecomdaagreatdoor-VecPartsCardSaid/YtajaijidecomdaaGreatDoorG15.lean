/- Laws at one operation, in the form that a region which draws its order asks: a look-up in a map of slices of the call's own, the append to what it gave, the store by the way back. And words for slices that came in. The checker's book: its block, what a call that lays a list behind in it leaves. Lists of texts: what the walks over them ask. Written by mk1.py. slices.Clone at rows of texts. Written off a master by mk2.py. -/
import Derived.Test.YtajaijidecomdaaGreatDoorG01
import Derived.Maps.OwnRows
import Derived.Maps.GroupsBeside
import Derived.Maps.Views
import Derived.Maps.Ext
import Derived.Deep.AppendLies
import Derived.Deep.RegionHeld3
import Derived.Test.YtajaijidecomdaaGreatDoorRowset
import Derived.LoopN
import Derived.OwnWalk
import Derived.Deep.DeepCutAuto
import Derived.Test.YtajaijidecomdaaGreatDoorG05
import Derived.Test.YtajaijidecomdaaGreatDoorVPrn
import Derived.WalkLawsBesides
namespace Go.Proofs.YtajaijidecomdaaGreatDoor
open Go.RowKit Go.Maps Go.WideElems Go.MapKept

theorem step_of_wp {P : Program} {ops : Array Oper} {o : Oper} {a : Act} {w : World} {K : Act → World → Prop} {Q : Exit → Act → World → Prop} {E : Prop} (hgd : o.guard = none) (h : Oper.wp P o a w K Q) :
    if Region.wanted o (yielded ops a.tmps) = true then Oper.wp P o a w K Q else E := by
  have hw : Region.wanted o (yielded ops a.tmps) = true := by simp [Region.wanted, hgd]
  rw [if_pos hw]
  exact h

theorem step_lookup_groups {H : Type} {P : Program} (w : World) {ops : Array Oper} {o : Oper} {a : Act} {K : Act → World → Prop} {Q : Exit → Act → World → Prop} {E : Prop}
    (hg : o.guard = none) (m x : Operand) (t : TypeId) (hop : o.op = Op.lookup t m x false)
    (k E' e : TypeId) (q : IntKind) (KK : Keyed P k) (ht : P.underlying t = some (.map k E')) (hz : (zeroValue E').run P w = .ok (.slice none 0 0) w) (base b n : Nat) (D : DataW H)
    (hm : a.eval m = .map (some b)) (hown : w.ownsGroups P k base e q b n D) (hn : n < maxLen) (key : Value) (kl : Lit) (hx : a.eval x = key) (hkey : keyOf P k key = some kl)
    (hK : ∀ v zs, D.atKey kl .nil = rowDatum q v zs → w.ownsInts base e q v zs → zs.length ≤ n → w.groupBack P t k base e q b n D key kl v → K (a.put o.dst v) w) :
    if Region.wanted o (yielded ops a.tmps) = true then Oper.wp P o a w K Q else E := by
  refine step_of_wp hg ?_
  obtain ⟨v, zs, hrun, hat, hoi, hzl, hback⟩ := hown.at KK ht hz hn hkey
  unfold Oper.wp
  simp [execOp, hop, hm, hx, hrun, Result.andThen]
  exact hK v zs hat hoi hzl hback

theorem nodup_map_inj {α β : Type} (f : α → β) : ∀ (l : List α), (l.map f).Nodup → ∀ x ∈ l, ∀ y ∈ l, f x = f y → x = y
  | [], _, x, hx, _, _, _ => by cases hx
  | a :: l, h, x, hx, y, hy, e => by
    rw [List.map_cons, List.nodup_cons] at h
    rcases List.mem_cons.1 hx with hx | hx <;> rcases List.mem_cons.1 hy with hy | hy
    · rw [hx, hy]
    · rw [hx] at e
      exact absurd (List.mem_map.2 ⟨y, hy, e.symm⟩) h.1
    · rw [hy] at e
      exact absurd (List.mem_map.2 ⟨x, hx, e⟩) h.1
    · exact nodup_map_inj f l h.2 x hx y hy e
/-- 'm[k]' on such a map, in whatever world whose map is as it was. -/
theorem groups_look {H : Type} {P : Program} {w : World} {t k E e : TypeId} {q : IntKind} {base b n : Nat} {D : DataW H} {key : Value} {kl : Lit} (h : w.ownsGroups P k base e q b n D) (K : Keyed P k) (ht : P.underlying t = some (.map k E)) (hz : ∀ W, (zeroValue E).run P W = .ok (.slice none 0 0) W) (hn : n < maxLen) (hkey : keyOf P k key = some kl) :
    ∃ v zs, (∀ W : World, W.heap[b]? = w.heap[b]? → (Instr.lookup t (.map (some b)) key false).run P W = .ok v W) ∧ D.atKey kl .nil = rowDatum q v zs ∧ w.ownsInts base e q v zs ∧ zs.length ≤ n ∧ w.groupBack P t k base e q b n D key kl v := by
  have h0 := h
  obtain ⟨es, clock, hb, F, hs, rfl, hbb, hlen, hap⟩ := h0
  obtain ⟨v, zs, hrun, h1, h2, h3, h4⟩ := h.at K ht (hz w) hn hkey
  refine ⟨v, zs, fun W hW => ?_, h1, h2, h3, h4⟩
  have hbW := hW.trans hb
  rcases Maps.fit_look false K ht (hz w) hb F hkey with ⟨r1, n1, _⟩ | ⟨e0, y, m0, k0, r1, _⟩ <;> rcases Maps.fit_look false K ht (hz W) hbW F hkey with ⟨r2, n2, _⟩ | ⟨e1, y1, m1, k1, r2, _⟩
  · rw [r1] at hrun
    injection hrun with hv _
    rw [r2, ← hv]
  · exact absurd k1 (n1 e1 m1)
  · exact absurd k0 (n2 e0 m0)
  · have ee : e0 = e1 := nodup_map_inj _ _ F.stamped.2.2 e0 m0 e1 m1 (k0.trans k1.symm)
    rw [r1] at hrun
    injection hrun with hv _
    rw [r2, ← hv, ee]

theorem step_mapUpdate_back {H : Type} {P : Program} (w : World) {ops : Array Oper} {o : Oper} {a : Act} {K : Act → World → Prop} {Q : Exit → Act → World → Prop} {E : Prop}
    (hg : o.guard = none) (m x v : Operand) (t : TypeId) (hop : o.op = Op.mapUpdate t m x v)
    {w0 : World} {k : TypeId} {base : Nat} {e : TypeId} {q : IntKind} {b n : Nat} {D : DataW H} {key : Value} {kl : Lit} {u v' : Value} {zs' : List Int}
    (hback : w0.groupBack P t k base e q b n D key kl u) (hm : a.eval m = .map (some b)) (hx : a.eval x = key) (hv : a.eval v = v')
    (hgr : w0.grownBy w u.ownBlock) (hown' : w.ownsInts base e q v' zs') (hl' : zs'.length ≤ n + 1) (hloc : v'.ownBlock = u.ownBlock ∨ ∃ g, v'.ownBlock = some g ∧ w0.heap.size ≤ g)
    (hK : ∀ w2, w2.ownsGroups P k base e q b (n + 1) (D.put kl (rowDatum q v' zs')) → w.grownBy w2 (some b) → K (a.put o.dst undef) w2) :
    if Region.wanted o (yielded ops a.tmps) = true then Oper.wp P o a w K Q else E := by
  refine step_of_wp hg ?_
  obtain ⟨w2, hrun, r1, r2⟩ := hback w v' zs' hgr hown' hl' hloc
  unfold Oper.wp
  simp [execOp, hop, hm, hx, hv, hrun, Result.andThen]
  exact hK w2 r1 r2
end Go.Proofs.YtajaijidecomdaaGreatDoor
namespace Go.Proofs.YtajaijidecomdaaGreatDoor
open Go.RowKit Go.Lib

theorem cells_one (w : World) (v : Value) (t : TypeId) : ∀ j u, [v][j]? = some u → (w.alloc (.cells #[v] t)).cell? ((⟨w.heap.size, 0, none⟩ : Addr).add j) = some u := by
  intro j u h
  rw [show ((⟨w.heap.size, 0, none⟩ : Addr).add j) = ⟨w.heap.size, j, none⟩ by simp only [Addr.add, Nat.zero_add]; cases j <;> rfl, cell_of_row _ _ _ _ _ _ (heap_alloc_new w _)]
  simpa using h
theorem apart_of {v : Value} {r : Option Nat} (h : ∀ b, v.ownBlock = some b → r ≠ some b) : v.ownBlock = none ∨ v.ownBlock ≠ r := by
  cases hv : v.ownBlock with
  | none => exact .inl rfl
  | some b => exact .inr fun e => h b hv e.symm
/-- A list of the row that has an element lies in a block of its own. -/
theorem owns_some {w : World} {B : Nat} {e : TypeId} {sz n : Nat} {A : Option Addr} {c : Nat} {xs : List Value} (h : w.ownsRow B e sz (.slice A n c) n xs) (hn : 0 < n) : ∃ g, A = some ⟨g, 0, none⟩ ∧ g < w.heap.size := by
  obtain ⟨g, cap, hv, _, hlt⟩ := h.form hn
  injection hv with hA _ _
  exact ⟨g, hA, hlt⟩

/-- The book: a block of 32 slices. -/
def Bk (w : World) (bk : Nat) (cs : Array Value) : Prop := w.heap[bk]? = some (.cells cs 76 (0, 0)) ∧ cs.size = 32
theorem Bk.lt {w : World} {bk : Nat} {cs : Array Value} (h : Bk w bk cs) : bk < w.heap.size := (Array.getElem?_eq_some_iff.1 h.1).1
theorem Bk.cell {w : World} {bk : Nat} {cs : Array Value} (h : Bk w bk cs) (i : Nat) : w.cell? ⟨bk, i, none⟩ = cs[i]? := cell_of_row w bk i cs _ (0, 0) h.1
theorem Bk.free {w : World} {bk : Nat} {cs : Array Value} (h : Bk w bk cs) (i : Nat) : w.frozen? ⟨bk, i, none⟩ = false := by simp [World.frozen?, h.1]
theorem Bk.kept {S : Nat → Prop} {w w' : World} {bk : Nat} {cs : Array Value} (h : Bk w bk cs) (g : GrownIn S w w') (hn : ¬ S bk) : Bk w' bk cs := ⟨(g.block bk h.lt hn).trans h.1, h.2⟩
/-- Behind a call that lays a list behind in field i of the book. -/
def PutPost (w : World) (bk B m i : Nat) (eS : TypeId) (cs : Array Value) (v l : Value) (Ls : List Value) (e : Ending) (w' : World) : Prop :=
  e = .returned (.tuple #[]) ∧ ∃ g c, w'.ownsRow B eS 1 (.slice (some ⟨g, 0, none⟩) (m + 1) c) (m + 1) (Ls ++ [l]) ∧ Bk w' bk (cs.setIfInBounds i (.slice (some ⟨g, 0, none⟩) (m + 1) c)) ∧
    GrownIn (fun k => k = bk ∨ v.ownBlock = some k) w w' ∧ (v.ownBlock = some g ∨ w.heap.size ≤ g)
theorem grownIn_set {S : Nat → Prop} {a w : World} (h : GrownIn S a w) {p : Addr} (hp : S p.block) (u : Value) : GrownIn S a (w.setCell p u) :=
  h.trans ⟨rfl, rfl, rfl, by simp [World.setCell], fun k _ hk => Below.heap_setCell _ _ _ _ (fun e => hk (e ▸ hp))⟩ (fun _ _ h => h)
theorem Bk.set {w : World} {bk : Nat} {cs : Array Value} (h : Bk w bk cs) (i : Nat) (v : Value) : Bk (w.setCell ⟨bk, i, none⟩ v) bk (cs.setIfInBounds i v) := ⟨heap_setCell_same w bk i cs _ v h.1, by simpa using h.2⟩
theorem owns_set_other {w : World} {B : Nat} {e : TypeId} {sz n : Nat} {v : Value} {xs : List Value} (h : w.ownsRow B e sz v n xs) {p : Addr} (hp : v.ownBlock ≠ some p.block) (u : Value) : (w.setCell p u).ownsRow B e sz v n xs :=
  (grownIn_set (S := fun k => k = p.block) (GrownIn.refl _ w) rfl u).owns h (fun k hk e => hp (by rw [hk, e]))
end Go.Proofs.YtajaijidecomdaaGreatDoor
namespace Go.Proofs.YtajaijidecomdaaGreatDoor
open Go.RowKit Go.Lib

abbrev encTx (x : ByteArray) : List Value := [.string x]
theorem encTx_len (x : ByteArray) : (encTx x).length = 1 := rfl
theorem Tryz.infoText1 : (Tryz.prog.info? 9).map (fun i => (i.zero, i.size, i.bytes)) = some (some (.string ByteArray.empty), 1, 16) := by kernel_rfl
theorem oneTx (l : List ByteArray) : ∀ u ∈ l.flatMap encTx, u.oneCell' = true := by
  intro u hu
  obtain ⟨m, _, h⟩ := List.mem_flatMap.1 hu
  simp only [encTx, List.mem_cons, List.not_mem_nil, or_false] at h
  subst h
  rfl
theorem below_drewTx {w w' : World} (h : ∃ q, w' = w.drewN q) : Below w.heap.size w w' := by
  obtain ⟨q, rfl⟩ := h
  exact below_drewN (Below.refl _ _) q
set_option maxHeartbeats 2000000 in
theorem sameTx_q (A B : Option Addr) (n ca cb : Nat) (l : List (ByteArray)) (w : World) (ha : Lst encTx 1 w w.heap.size A n l) (hb : Lst encTx 1 w w.heap.size B n l) (hbig : n ≤ 1000000000) :
    Calls Tryz.prog 95 #[.slice A n ca, .slice B n cb] w fun e w' => e = .returned (.bool true) ∧ ∃ q, w' = w.drewN q := by
  have HA := Lib.hid ha
  have HB := Lib.hid hb
  clear ha hb
  go_enter Tryz.func95, Tryz.ntmps95
  go_wp2
  go_loopw [5] (fun i wr => ∃ k q : Nat, k ≤ n ∧ i = .int .i64 k ∧ wr = w.drewN q) (fun i _ => n - (intOf i).toNat)
  case atStart => exact ⟨0, 0, Nat.zero_le _, rfl, rfl⟩
  case round =>
    obtain ⟨k, q, hk, rfl, rfl⟩ := hrel
    by_cases hlt : k < n
    · obtain ⟨b, off, m, rfl, hbb, hm, hc⟩ := HA.out.at hlt
      obtain ⟨b2, off2, m2, rfl, hbb2, hm2, hc2⟩ := HB.out.at hlt
      obtain rfl : m = m2 := by rw [hm] at hm2; exact Option.some.inj hm2
      have c0 := hc 0 _ rfl
      have d0 := hc2 0 _ rfl
      simp only [Nat.add_zero, Nat.mul_one] at c0 d0
      have e0 : (m.toList == m.toList) = true := by simp
      clear hm hm2 hc hc2
      go_wp2_with (go_quiet (fail))
      go_roundw
      case measure => simp [intOf]; omega
      case rel => exact ⟨k + 1, _, hlt, by simp, by first | rfl | exact World.drewN_drewN _ _ _⟩
    · go_wp2
      go_ret
      exact ⟨rfl, q, rfl⟩
theorem sameTx_eq (A B : Option Addr) (n ca cb : Nat) (l : List (ByteArray)) (w : World) (ha : Lst encTx 1 w w.heap.size A n l) (hb : Lst encTx 1 w w.heap.size B n l) (hbig : n ≤ 1000000000) :
    Calls Tryz.prog 95 #[.slice A n ca, .slice B n cb] w fun e w' => e = .returned (.bool true) ∧ Below w.heap.size w w' :=
  (sameTx_q A B n ca cb l w ha hb hbig).mono fun _ _ ⟨h1, h2⟩ => ⟨h1, below_drewTx h2⟩
end Go.Proofs.YtajaijidecomdaaGreatDoor
namespace Go.Proofs.YtajaijidecomdaaGreatDoor
open Go.RowKit Go.Lib

def OwnPostTx (B n : Nat) (l : List ByteArray) (w : World) (e : Ending) (w' : World) : Prop := ∃ v', e = .returned v' ∧ w'.ownsRow B 9 1 v' n (l.flatMap encTx) ∧ Below w.heap.size w w'
set_option maxHeartbeats 2000000 in
set_option maxRecDepth 100000 in
theorem cloneTx (A : Option Addr) (n c : Nat) (l : List ByteArray) (w : World) (hL : Lst encTx 1 w w.heap.size A n l) (hnil : A = none → n = 0 ∧ c = 0) (hn : n ≤ 1099511627776) :
    Calls Tryz.prog 106 #[.slice A n c] w (OwnPostTx w.heap.size n l w) := by
  obtain ⟨i0, hi, hz0, hz1, hz2⟩ := info_parts Tryz.infoText
  cases A with
  | none =>
    obtain ⟨rfl, rfl⟩ := hnil rfl
    have hl0 : l = [] := List.length_eq_zero_iff.1 hL.1
    clear hi hz0 hz1 hz2 hL hnil
    have hq := fun w : World => Lib.run_eql_slice_nil w 78 9 none 0 0 0 0 Tryz.underlying78
    go_enter Tryz.func106, Tryz.ntmps106
    go_wp2
    go_ret
    exact ⟨_, rfl, by rw [hl0]; exact World.ownsRow_nil _ _ _ _, Below.refl _ _⟩
  | some ad =>
    have hcells := fun w1 (hb : Below w.heap.size w w1) => (hL.below hb).flat (fun _ => rfl)
    have HC := Lib.hid hcells
    have HLL := Lib.hid hL.1
    have hq := fun w : World => Lib.run_eql_slice_nil w 78 9 (some ad) n c 0 0 Tryz.underlying78
    clear hcells hL hnil
    go_enter Tryz.func106, Tryz.ntmps106
    go_wp2_with (at_builtin; refine wpList_append_own _ rfl _ _ 78 rfl w.heap.size 9 i0 _ 1 16 Tryz.underlying78 hi hz0 hz1 hz2 rfl (by omega) _ _ _ rfl (World.ownsRow_made w #[] 0 (Nat.le_refl _) (Nat.zero_le _) (by simp)) ad n c (l.flatMap encTx) rfl (by rw [flatMap_length (enc := encTx) (size := 1) (fun _ => rfl), HLL.out]) (HC.out _ ((Below.refl _ w).alloc (Nat.le_refl _) _)) (oneTx _) (by unfold maxLen; omega) (by omega) (by simp) ?_)
    intro v' w1 hown hgrow _
    have HF := Lib.hid (show _ ∧ _ from ⟨hown, ((Below.refl w.heap.size w).alloc (Nat.le_refl _) _).grown hgrow (by simp) (by intro k hk; simp [Value.ownBlock] at hk; omega)⟩)
    clear hi hz0 hz1 hz2 hown hgrow hq
    go_wp2
    go_ret
    exact ⟨v', rfl, by simpa using HF.out.1, HF.out.2⟩
end Go.Proofs.YtajaijidecomdaaGreatDoor
