/- Laws at one operation, in the form that a region which draws its order asks: a look-up in a map of slices of the call's own, the append to what it gave, the store by the way back. And words for slices that came in. The checker's book: its block, what a call that lays a list behind in it leaves. labels.twice: is a name there twice? The map of the names that were seen. -/
import Derived.Test.YtchggapclmdpaaaGreatDoorGa
import Derived.Maps.OwnRows
import Derived.Maps.GroupsBeside
import Derived.Maps.Views
import Derived.Maps.Ext
import Derived.Deep.AppendLies
import Derived.Deep.RegionHeld3
import Derived.LoopN
import Derived.OwnWalk
import Derived.Deep.DeepCutAuto
import Derived.Maps.OwnSet
import Derived.Maps.OwnOps
import Derived.BigQuiet
namespace Go.Proofs.YtchggapclmdpaaaGreatDoor
open Go.RowKit Go.Maps Go.WideElems Go.MapKept

theorem step_of_wp {P : Program} {ops : Array Oper} {o : Oper} {a : Act} {w : World} {K : Act → World → Prop} {Q : Exit → Act → World → Prop} {E : Prop} (hgd : o.guard = none) (h : Oper.wp P o a w K Q) :
    if Region.wanted o (yielded ops a.tmps) = true then Oper.wp P o a w K Q else E := by
  have hw : Region.wanted o (yielded ops a.tmps) = true := by simp [Region.wanted, hgd]
  rw [if_pos hw]
  exact h

theorem step_lookup_groups {H : Type} {P : Program} (w : World) {ops : Array Oper} {o : Oper} {a : Act} {K : Act → World → Prop} {Q : Exit → Act → World → Prop} {E : Prop}
    (hg : o.guard = none) (m x : Operand) (t : TypeId) (hop : o.op = Op.lookup t m x false)
    (k E' e : TypeId) (q : IntKind) (KK : Keyed P k) (ht : P.underlying t = some (.map k E')) (hz : (zeroValue E').run P w = .ok (.slice none 0 0) w) (base b n : Nat) (D : DataW H)
    (hm : a.eval m = .map (some b)) (hown : w.ownsGroups P k base e q b n D) (hn : n < maxLen) (key : Value) (kl : Lit) (hx : a.eval x = key) (hkey : keyOf P k key = some kl)
    (hK : ∀ v zs, D.atKey kl .nil = rowDatum q v zs → w.ownsInts base e q v zs → zs.length ≤ n → w.groupBack P t k base e q b n D key kl v → K (a.put o.dst v) w) :
    if Region.wanted o (yielded ops a.tmps) = true then Oper.wp P o a w K Q else E := by
  refine step_of_wp hg ?_
  obtain ⟨v, zs, hrun, hat, hoi, hzl, hback⟩ := hown.at KK ht hz hn hkey
  unfold Oper.wp
  simp [execOp, hop, hm, hx, hrun, Result.andThen]
  exact hK v zs hat hoi hzl hback

theorem nodup_map_inj {α β : Type} (f : α → β) : ∀ (l : List α), (l.map f).Nodup → ∀ x ∈ l, ∀ y ∈ l, f x = f y → x = y
  | [], _, x, hx, _, _, _ => by cases hx
  | a :: l, h, x, hx, y, hy, e => by
    rw [List.map_cons, List.nodup_cons] at h
    rcases List.mem_cons.1 hx with hx | hx <;> rcases List.mem_cons.1 hy with hy | hy
    · rw [hx, hy]
    · rw [hx] at e
      exact absurd (List.mem_map.2 ⟨y, hy, e.symm⟩) h.1
    · rw [hy] at e
      exact absurd (List.mem_map.2 ⟨x, hx, e⟩) h.1
    · exact nodup_map_inj f l h.2 x hx y hy e
/-- 'm[k]' on such a map, in whatever world whose map is as it was. -/
theorem groups_look {H : Type} {P : Program} {w : World} {t k E e : TypeId} {q : IntKind} {base b n : Nat} {D : DataW H} {key : Value} {kl : Lit} (h : w.ownsGroups P k base e q b n D) (K : Keyed P k) (ht : P.underlying t = some (.map k E)) (hz : ∀ W, (zeroValue E).run P W = .ok (.slice none 0 0) W) (hn : n < maxLen) (hkey : keyOf P k key = some kl) :
    ∃ v zs, (∀ W : World, W.heap[b]? = w.heap[b]? → (Instr.lookup t (.map (some b)) key false).run P W = .ok v W) ∧ D.atKey kl .nil = rowDatum q v zs ∧ w.ownsInts base e q v zs ∧ zs.length ≤ n ∧ w.groupBack P t k base e q b n D key kl v := by
  have h0 := h
  obtain ⟨es, clock, hb, F, hs, rfl, hbb, hlen, hap⟩ := h0
  obtain ⟨v, zs, hrun, h1, h2, h3, h4⟩ := h.at K ht (hz w) hn hkey
  refine ⟨v, zs, fun W hW => ?_, h1, h2, h3, h4⟩
  have hbW := hW.trans hb
  rcases Maps.fit_look false K ht (hz w) hb F hkey with ⟨r1, n1, _⟩ | ⟨e0, y, m0, k0, r1, _⟩ <;> rcases Maps.fit_look false K ht (hz W) hbW F hkey with ⟨r2, n2, _⟩ | ⟨e1, y1, m1, k1, r2, _⟩
  · rw [r1] at hrun
    injection hrun with hv _
    rw [r2, ← hv]
  · exact absurd k1 (n1 e1 m1)
  · exact absurd k0 (n2 e0 m0)
  · have ee : e0 = e1 := nodup_map_inj _ _ F.stamped.2.2 e0 m0 e1 m1 (k0.trans k1.symm)
    rw [r1] at hrun
    injection hrun with hv _
    rw [r2, ← hv, ee]

theorem step_mapUpdate_back {H : Type} {P : Program} (w : World) {ops : Array Oper} {o : Oper} {a : Act} {K : Act → World → Prop} {Q : Exit → Act → World → Prop} {E : Prop}
    (hg : o.guard = none) (m x v : Operand) (t : TypeId) (hop : o.op = Op.mapUpdate t m x v)
    {w0 : World} {k : TypeId} {base : Nat} {e : TypeId} {q : IntKind} {b n : Nat} {D : DataW H} {key : Value} {kl : Lit} {u v' : Value} {zs' : List Int}
    (hback : w0.groupBack P t k base e q b n D key kl u) (hm : a.eval m = .map (some b)) (hx : a.eval x = key) (hv : a.eval v = v')
    (hgr : w0.grownBy w u.ownBlock) (hown' : w.ownsInts base e q v' zs') (hl' : zs'.length ≤ n + 1) (hloc : v'.ownBlock = u.ownBlock ∨ ∃ g, v'.ownBlock = some g ∧ w0.heap.size ≤ g)
    (hK : ∀ w2, w2.ownsGroups P k base e q b (n + 1) (D.put kl (rowDatum q v' zs')) → w.grownBy w2 (some b) → K (a.put o.dst undef) w2) :
    if Region.wanted o (yielded ops a.tmps) = true then Oper.wp P o a w K Q else E := by
  refine step_of_wp hg ?_
  obtain ⟨w2, hrun, r1, r2⟩ := hback w v' zs' hgr hown' hl' hloc
  unfold Oper.wp
  simp [execOp, hop, hm, hx, hv, hrun, Result.andThen]
  exact hK w2 r1 r2
end Go.Proofs.YtchggapclmdpaaaGreatDoor
namespace Go.Proofs.YtchggapclmdpaaaGreatDoor
open Go.RowKit Go.Lib

theorem cells_one (w : World) (v : Value) (t : TypeId) : ∀ j u, [v][j]? = some u → (w.alloc (.cells #[v] t)).cell? ((⟨w.heap.size, 0, none⟩ : Addr).add j) = some u := by
  intro j u h
  rw [show ((⟨w.heap.size, 0, none⟩ : Addr).add j) = ⟨w.heap.size, j, none⟩ by simp only [Addr.add, Nat.zero_add]; cases j <;> rfl, cell_of_row _ _ _ _ _ _ (heap_alloc_new w _)]
  simpa using h
theorem apart_of {v : Value} {r : Option Nat} (h : ∀ b, v.ownBlock = some b → r ≠ some b) : v.ownBlock = none ∨ v.ownBlock ≠ r := by
  cases hv : v.ownBlock with
  | none => exact .inl rfl
  | some b => exact .inr fun e => h b hv e.symm
/-- A list of the row that has an element lies in a block of its own. -/
theorem owns_some {w : World} {B : Nat} {e : TypeId} {sz n : Nat} {A : Option Addr} {c : Nat} {xs : List Value} (h : w.ownsRow B e sz (.slice A n c) n xs) (hn : 0 < n) : ∃ g, A = some ⟨g, 0, none⟩ ∧ g < w.heap.size := by
  obtain ⟨g, cap, hv, _, hlt⟩ := h.form hn
  injection hv with hA _ _
  exact ⟨g, hA, hlt⟩

/-- The book: a block of 32 slices. -/
def Bk (w : World) (bk : Nat) (cs : Array Value) : Prop := w.heap[bk]? = some (.cells cs 73 (0, 0)) ∧ cs.size = 32
theorem Bk.lt {w : World} {bk : Nat} {cs : Array Value} (h : Bk w bk cs) : bk < w.heap.size := (Array.getElem?_eq_some_iff.1 h.1).1
theorem Bk.cell {w : World} {bk : Nat} {cs : Array Value} (h : Bk w bk cs) (i : Nat) : w.cell? ⟨bk, i, none⟩ = cs[i]? := cell_of_row w bk i cs _ (0, 0) h.1
theorem Bk.free {w : World} {bk : Nat} {cs : Array Value} (h : Bk w bk cs) (i : Nat) : w.frozen? ⟨bk, i, none⟩ = false := by simp [World.frozen?, h.1]
theorem Bk.kept {S : Nat → Prop} {w w' : World} {bk : Nat} {cs : Array Value} (h : Bk w bk cs) (g : GrownIn S w w') (hn : ¬ S bk) : Bk w' bk cs := ⟨(g.block bk h.lt hn).trans h.1, h.2⟩
/-- Behind a call that lays a list behind in field i of the book. -/
def PutPost (w : World) (bk B m i : Nat) (eS : TypeId) (cs : Array Value) (v l : Value) (Ls : List Value) (e : Ending) (w' : World) : Prop :=
  e = .returned (.tuple #[]) ∧ ∃ g c, w'.ownsRow B eS 1 (.slice (some ⟨g, 0, none⟩) (m + 1) c) (m + 1) (Ls ++ [l]) ∧ Bk w' bk (cs.setIfInBounds i (.slice (some ⟨g, 0, none⟩) (m + 1) c)) ∧
    GrownIn (fun k => k = bk ∨ v.ownBlock = some k) w w' ∧ (v.ownBlock = some g ∨ w.heap.size ≤ g)
theorem grownIn_set {S : Nat → Prop} {a w : World} (h : GrownIn S a w) {p : Addr} (hp : S p.block) (u : Value) : GrownIn S a (w.setCell p u) :=
  h.trans ⟨rfl, rfl, rfl, by simp [World.setCell], fun k _ hk => Below.heap_setCell _ _ _ _ (fun e => hk (e ▸ hp))⟩ (fun _ _ h => h)
theorem Bk.set {w : World} {bk : Nat} {cs : Array Value} (h : Bk w bk cs) (i : Nat) (v : Value) : Bk (w.setCell ⟨bk, i, none⟩ v) bk (cs.setIfInBounds i v) := ⟨heap_setCell_same w bk i cs _ v h.1, by simpa using h.2⟩
theorem owns_set_other {w : World} {B : Nat} {e : TypeId} {sz n : Nat} {v : Value} {xs : List Value} (h : w.ownsRow B e sz v n xs) {p : Addr} (hp : v.ownBlock ≠ some p.block) (u : Value) : (w.setCell p u).ownsRow B e sz v n xs :=
  (grownIn_set (S := fun k => k = p.block) (GrownIn.refl _ w) rfl u).owns h (fun k hk e => hp (by rw [hk, e]))
end Go.Proofs.YtchggapclmdpaaaGreatDoor
namespace Go.Proofs.YtchggapclmdpaaaGreatDoor
open Go.RowKit Go.Lib Go.Maps Go.WideMaps Go.WideShapes

/-- Is one of the names among those seen, or twice there? -/
def twiceN (seen : List (List UInt8)) : List Lb → Bool
  | [] => false
  | x :: t => if x.nm.data.toList ∈ seen then true else twiceN (x.nm.data.toList :: seen) t
theorem Tryz.keyStr : Keyed Tryz.prog 9 := string_keyed Tryz.underlying9
theorem Tryz.zeroBool (w : World) : (zeroValue 4).run Tryz.prog w = .ok (.bool false) w := by kernel_rfl
theorem plainElem_bool_inv {H : Type} {P : Program} {e : TypeId} (he : P.underlying e = some .bool) {v : Value} {z : DataW H × List MemPlace} (h : plainElem P e v = some z) : ∃ c, v = .bool c ∧ z = (.lit (.bool c), []) := by
  unfold plainElem at h
  rw [he] at h
  cases v <;> simp at h
  exact ⟨_, rfl, h.symm⟩
/-- A look-up in a map of the call's own, of truths. -/
theorem wpList_lookup_own_bool {H : Type} {P : Program} (w : World) {ops : Array Oper} {rest : List Oper} {o : Oper} {a : Act} {Q : Exit → Act → World → Prop}
    (hg : o.guard = none) (m x : Operand) (t : TypeId) (hop : o.op = Op.lookup t m x false)
    (k e : TypeId) (K : Keyed P k) (ht : P.underlying t = some (.map k e)) (he : P.underlying e = some .bool) (hz : (zeroValue e).run P w = .ok (.bool false) w) (b n : Nat) (D : DataW H)
    (hm : a.eval m = .map (some b)) (hown : w.ownsMap P k (plainElem P e) b n D) (key : Value) (kl : Lit) (hx : a.eval x = key) (hkey : keyOf P k key = some kl)
    (hK : ∀ c : Bool, D.atKey kl (.lit (.bool false)) = .lit (.bool c) → wpList P ops Q rest (a.put o.dst (.bool c)) w) :
    wpList P ops Q (o :: rest) a w := by
  refine wpList_plain hg fun K' hK' => ?_
  obtain ⟨v, ps, hrun, hv⟩ := hown.lookup K ht hz (plainElem_bool he false) hkey
  obtain ⟨c, rfl, hc⟩ := plainElem_bool_inv he hv
  simp only [Prod.mk.injEq] at hc
  unfold Oper.wp
  simp [execOp, hop, hm, hx, hrun, Result.andThen]
  exact hK' _ _ (hK c hc.1)
/-- The map holds just those names. -/
def SeenMap (D : DataW Unit) (seen : List (List UInt8)) : Prop := IsMap D ∧ ∀ s : List UInt8, D.atKey (.string s) (.lit (.bool false)) = .lit (.bool (decide (s ∈ seen)))
theorem seenMap_start : SeenMap (.map []) [] := ⟨isMap_empty, fun s => by simp only [List.not_mem_nil, decide_false]; rfl⟩
theorem seenMap_next {D : DataW Unit} {seen : List (List UInt8)} (h : SeenMap D seen) (x : List UInt8) : SeenMap (D.put (.string x) (.lit (.bool true))) (x :: seen) := by
  refine ⟨h.1.put _ _, fun s => ?_⟩
  by_cases hs : s = x
  · subst hs
    rw [atKey_put_same h.1 (by simp [WideAt.IsKeyLit]), decide_eq_true (by simp)]
  · rw [atKey_put_other (fun e => hs (by injection e)), h.2 s]
    simp [hs]
set_option maxHeartbeats 2000000 in
set_option maxRecDepth 100000 in
theorem twice_any (A : Option Addr) (n c : Nat) (l : List Lb) (w : World) (hL : Lst Lb.cells 2 w w.heap.size A n l) (hbig : n ≤ 1099511627776) (hsz : ∀ x ∈ l, x.nm.size ≤ maxLen) :
    Calls Tryz.prog 57 #[.slice A n c] w fun e w' => e = .returned (.bool (twiceN [] l)) ∧ Below w.heap.size w w' := by
  have hmm := @run_makeMap Tryz.prog
  have HL := Lib.hid (show _ ∧ _ from ⟨hL, hsz⟩)
  clear hL hsz
  go_enter Tryz.func57, Tryz.ntmps57
  go_wp2
  go_loopw [5, 9] (fun _ i wr => ∃ (k : Nat) (seen : List (List UInt8)) (D : DataW Unit), k ≤ n ∧ i = .int .i64 k ∧ Hid (wr.ownsMap Tryz.prog 9 (plainElem Tryz.prog 4) w.heap.size k D ∧ SeenMap D seen ∧ twiceN [] l = twiceN seen (l.drop k)) ∧ Below w.heap.size w wr) (fun _ i _ => n - (intOf i).toNat)
  case atStart => exact ⟨0, [], .map [], Nat.zero_le _, rfl, Lib.hid ⟨World.ownsMap_made _ _ _ _, seenMap_start, rfl⟩, (Below.refl _ _).alloc (Nat.le_refl _) _⟩
  case round =>
    obtain ⟨k, seen, D, hk, rfl, HR, hbl⟩ := hrel
    by_cases hlt : k < n
    · obtain ⟨b, off, x, rfl, hb, hx, hcl⟩ := HL.out.1.at hlt
      have hxm : x ∈ l := List.mem_of_getElem? hx
      have c0 := (hbl.cell (p := ⟨b, off + k * 2 + 0, none⟩) hb).trans (hcl 0 _ rfl)
      have c1 := (hbl.cell (p := ⟨b, off + k * 2 + 1, none⟩) hb).trans (hcl 1 _ rfl)
      simp only [Nat.add_zero] at c0
      have hkey : keyOf Tryz.prog 9 (.string x.nm) = some (.string x.nm.data.toList) := keyOf_string_mk Tryz.underlying9 (HL.out.2 x hxm)
      obtain ⟨h1, e1⟩ := List.getElem?_eq_some_iff.1 hx
      have hdr : l.drop k = x :: l.drop (k + 1) := by rw [List.drop_eq_getElem_cons h1, e1]
      have hat := HR.out.2.1.2 x.nm.data.toList
      have hne : w.heap.size ≠ wr.heap.size := by
        have := hbl.size
        obtain ⟨es, clock, hbk, _⟩ := HR.out.1
        have := (Array.getElem?_eq_some_iff.1 hbk).1
        omega
      by_cases hm : x.nm.data.toList ∈ seen
      · have hr : twiceN [] l = true := by rw [HR.out.2.2, hdr, twiceN, if_pos hm]
        rw [decide_eq_true hm] at hat
        have HA := Lib.hid (show _ ∧ _ from ⟨hat, hr⟩)
        have HB := Lib.hid hbl
        clear hcl hx e1 hdr hat hr hbl
        go_wp2_with (first
          | (at_lookup; refine wpList_lookup_own_bool _ rfl _ _ 156 rfl 9 4 Tryz.keyStr Tryz.underlying156 Tryz.underlying4 (Tryz.zeroBool _) w.heap.size k D rfl (HR.out.1.alloc _) _ _ rfl hkey ?_; intro c hc; obtain rfl : c = true := by (rw [HA.out.1] at hc; injection hc with hc; injection hc with hc; exact hc.symm)))
        go_ret
        exact ⟨by rw [HA.out.2]; rfl, HB.out.alloc HB.out.size _⟩
      · have hr : twiceN [] l = twiceN (x.nm.data.toList :: seen) (l.drop (k + 1)) := by rw [HR.out.2.2, hdr, twiceN, if_neg hm]
        rw [decide_eq_false hm] at hat
        have HA := Lib.hid (show _ ∧ _ from ⟨hat, hr⟩)
        have HB := Lib.hid hbl
        clear hcl hx e1 hdr hat hr hbl
        go_wp2_with (first
          | (at_lookup; refine wpList_lookup_own_bool _ rfl _ _ 156 rfl 9 4 Tryz.keyStr Tryz.underlying156 Tryz.underlying4 (Tryz.zeroBool _) w.heap.size k D rfl (HR.out.1.alloc _) _ _ rfl hkey ?_; intro c hc; obtain rfl : c = false := by (rw [HA.out.1] at hc; injection hc with hc; injection hc with hc; exact hc.symm))
          | (at_mapUpdate; refine wpList_mapUpdate_own _ rfl _ _ _ 156 rfl 9 4 Tryz.keyStr Tryz.underlying156 _ w.heap.size k D rfl (HR.out.1.alloc _) (by unfold maxLen; omega) _ _ _ rfl rfl hkey _ [] (plainElem_bool Tryz.underlying4 true) ?_))
        intro w1 hown1 hgrow1
        have hb1 := (HB.out.alloc HB.out.size (.cells #[.string x.nm, .string x.vl] 94)).grown hgrow1 (by simp; have := HB.out.size; omega) (fun j hj => by cases hj; exact Nat.le_refl _)
        have H1 := Lib.hid (show _ ∧ _ from ⟨hown1, hb1⟩)
        clear hown1 hgrow1 hb1
        go_wp2
        go_roundw
        case measure => simp [intOf]; omega
        case rel => exact ⟨k + 1, x.nm.data.toList :: seen, _, hlt, by simp, Lib.hid ⟨H1.out.1, seenMap_next HR.out.2.1 _, HA.out.2⟩, H1.out.2⟩
    · have hr : twiceN [] l = false := by rw [HR.out.2.2, List.drop_eq_nil_of_le (by have := HL.out.1.1; omega)]; rfl
      have HX := Lib.hid hr
      clear hr
      go_wp2
      go_ret
      exact ⟨by rw [HX.out]; rfl, hbl⟩
end Go.Proofs.YtchggapclmdpaaaGreatDoor
