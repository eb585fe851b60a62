/- Laws at one operation, in the form that a region which draws its order asks: a look-up in a map of slices of the call's own, the append to what it gave, the store by the way back. And words for slices that came in. The checker's book: its block, what a call that lays a list behind in it leaves. Plain laws of three-way comparisons: bytes, texts, labels, lists of labels. No program. Slices that read as lists of elements of several cells. -/
import Derived.Test.YtajaijidecomdaaGreatDoorG00
import Derived.Maps.OwnRows
import Derived.Maps.GroupsBeside
import Derived.Maps.Views
import Derived.Maps.Ext
import Derived.Deep.AppendLies
import Derived.Deep.RegionHeld3
import Derived.Test.YtajaijidecomdaaGreatDoorRowset
import Derived.LoopN
import Derived.OwnWalk
import Derived.Deep.DeepCutAuto
import Derived.Lib.Bytealg
import Derived.Laws.OwnMore
namespace Go.Proofs.YtajaijidecomdaaGreatDoor
open Go.RowKit Go.Maps Go.WideElems Go.MapKept

theorem step_of_wp {P : Program} {ops : Array Oper} {o : Oper} {a : Act} {w : World} {K : Act → World → Prop} {Q : Exit → Act → World → Prop} {E : Prop} (hgd : o.guard = none) (h : Oper.wp P o a w K Q) :
    if Region.wanted o (yielded ops a.tmps) = true then Oper.wp P o a w K Q else E := by
  have hw : Region.wanted o (yielded ops a.tmps) = true := by simp [Region.wanted, hgd]
  rw [if_pos hw]
  exact h

theorem step_lookup_groups {H : Type} {P : Program} (w : World) {ops : Array Oper} {o : Oper} {a : Act} {K : Act → World → Prop} {Q : Exit → Act → World → Prop} {E : Prop}
    (hg : o.guard = none) (m x : Operand) (t : TypeId) (hop : o.op = Op.lookup t m x false)
    (k E' e : TypeId) (q : IntKind) (KK : Keyed P k) (ht : P.underlying t = some (.map k E')) (hz : (zeroValue E').run P w = .ok (.slice none 0 0) w) (base b n : Nat) (D : DataW H)
    (hm : a.eval m = .map (some b)) (hown : w.ownsGroups P k base e q b n D) (hn : n < maxLen) (key : Value) (kl : Lit) (hx : a.eval x = key) (hkey : keyOf P k key = some kl)
    (hK : ∀ v zs, D.atKey kl .nil = rowDatum q v zs → w.ownsInts base e q v zs → zs.length ≤ n → w.groupBack P t k base e q b n D key kl v → K (a.put o.dst v) w) :
    if Region.wanted o (yielded ops a.tmps) = true then Oper.wp P o a w K Q else E := by
  refine step_of_wp hg ?_
  obtain ⟨v, zs, hrun, hat, hoi, hzl, hback⟩ := hown.at KK ht hz hn hkey
  unfold Oper.wp
  simp [execOp, hop, hm, hx, hrun, Result.andThen]
  exact hK v zs hat hoi hzl hback

theorem nodup_map_inj {α β : Type} (f : α → β) : ∀ (l : List α), (l.map f).Nodup → ∀ x ∈ l, ∀ y ∈ l, f x = f y → x = y
  | [], _, x, hx, _, _, _ => by cases hx
  | a :: l, h, x, hx, y, hy, e => by
    rw [List.map_cons, List.nodup_cons] at h
    rcases List.mem_cons.1 hx with hx | hx <;> rcases List.mem_cons.1 hy with hy | hy
    · rw [hx, hy]
    · rw [hx] at e
      exact absurd (List.mem_map.2 ⟨y, hy, e.symm⟩) h.1
    · rw [hy] at e
      exact absurd (List.mem_map.2 ⟨x, hx, e⟩) h.1
    · exact nodup_map_inj f l h.2 x hx y hy e
/-- 'm[k]' on such a map, in whatever world whose map is as it was. -/
theorem groups_look {H : Type} {P : Program} {w : World} {t k E e : TypeId} {q : IntKind} {base b n : Nat} {D : DataW H} {key : Value} {kl : Lit} (h : w.ownsGroups P k base e q b n D) (K : Keyed P k) (ht : P.underlying t = some (.map k E)) (hz : ∀ W, (zeroValue E).run P W = .ok (.slice none 0 0) W) (hn : n < maxLen) (hkey : keyOf P k key = some kl) :
    ∃ v zs, (∀ W : World, W.heap[b]? = w.heap[b]? → (Instr.lookup t (.map (some b)) key false).run P W = .ok v W) ∧ D.atKey kl .nil = rowDatum q v zs ∧ w.ownsInts base e q v zs ∧ zs.length ≤ n ∧ w.groupBack P t k base e q b n D key kl v := by
  have h0 := h
  obtain ⟨es, clock, hb, F, hs, rfl, hbb, hlen, hap⟩ := h0
  obtain ⟨v, zs, hrun, h1, h2, h3, h4⟩ := h.at K ht (hz w) hn hkey
  refine ⟨v, zs, fun W hW => ?_, h1, h2, h3, h4⟩
  have hbW := hW.trans hb
  rcases Maps.fit_look false K ht (hz w) hb F hkey with ⟨r1, n1, _⟩ | ⟨e0, y, m0, k0, r1, _⟩ <;> rcases Maps.fit_look false K ht (hz W) hbW F hkey with ⟨r2, n2, _⟩ | ⟨e1, y1, m1, k1, r2, _⟩
  · rw [r1] at hrun
    injection hrun with hv _
    rw [r2, ← hv]
  · exact absurd k1 (n1 e1 m1)
  · exact absurd k0 (n2 e0 m0)
  · have ee : e0 = e1 := nodup_map_inj _ _ F.stamped.2.2 e0 m0 e1 m1 (k0.trans k1.symm)
    rw [r1] at hrun
    injection hrun with hv _
    rw [r2, ← hv, ee]

theorem step_mapUpdate_back {H : Type} {P : Program} (w : World) {ops : Array Oper} {o : Oper} {a : Act} {K : Act → World → Prop} {Q : Exit → Act → World → Prop} {E : Prop}
    (hg : o.guard = none) (m x v : Operand) (t : TypeId) (hop : o.op = Op.mapUpdate t m x v)
    {w0 : World} {k : TypeId} {base : Nat} {e : TypeId} {q : IntKind} {b n : Nat} {D : DataW H} {key : Value} {kl : Lit} {u v' : Value} {zs' : List Int}
    (hback : w0.groupBack P t k base e q b n D key kl u) (hm : a.eval m = .map (some b)) (hx : a.eval x = key) (hv : a.eval v = v')
    (hgr : w0.grownBy w u.ownBlock) (hown' : w.ownsInts base e q v' zs') (hl' : zs'.length ≤ n + 1) (hloc : v'.ownBlock = u.ownBlock ∨ ∃ g, v'.ownBlock = some g ∧ w0.heap.size ≤ g)
    (hK : ∀ w2, w2.ownsGroups P k base e q b (n + 1) (D.put kl (rowDatum q v' zs')) → w.grownBy w2 (some b) → K (a.put o.dst undef) w2) :
    if Region.wanted o (yielded ops a.tmps) = true then Oper.wp P o a w K Q else E := by
  refine step_of_wp hg ?_
  obtain ⟨w2, hrun, r1, r2⟩ := hback w v' zs' hgr hown' hl' hloc
  unfold Oper.wp
  simp [execOp, hop, hm, hx, hv, hrun, Result.andThen]
  exact hK w2 r1 r2
end Go.Proofs.YtajaijidecomdaaGreatDoor
namespace Go.Proofs.YtajaijidecomdaaGreatDoor
open Go.RowKit Go.Lib

theorem cells_one (w : World) (v : Value) (t : TypeId) : ∀ j u, [v][j]? = some u → (w.alloc (.cells #[v] t)).cell? ((⟨w.heap.size, 0, none⟩ : Addr).add j) = some u := by
  intro j u h
  rw [show ((⟨w.heap.size, 0, none⟩ : Addr).add j) = ⟨w.heap.size, j, none⟩ by simp only [Addr.add, Nat.zero_add]; cases j <;> rfl, cell_of_row _ _ _ _ _ _ (heap_alloc_new w _)]
  simpa using h
theorem apart_of {v : Value} {r : Option Nat} (h : ∀ b, v.ownBlock = some b → r ≠ some b) : v.ownBlock = none ∨ v.ownBlock ≠ r := by
  cases hv : v.ownBlock with
  | none => exact .inl rfl
  | some b => exact .inr fun e => h b hv e.symm
/-- A list of the row that has an element lies in a block of its own. -/
theorem owns_some {w : World} {B : Nat} {e : TypeId} {sz n : Nat} {A : Option Addr} {c : Nat} {xs : List Value} (h : w.ownsRow B e sz (.slice A n c) n xs) (hn : 0 < n) : ∃ g, A = some ⟨g, 0, none⟩ ∧ g < w.heap.size := by
  obtain ⟨g, cap, hv, _, hlt⟩ := h.form hn
  injection hv with hA _ _
  exact ⟨g, hA, hlt⟩

/-- The book: a block of 32 slices. -/
def Bk (w : World) (bk : Nat) (cs : Array Value) : Prop := w.heap[bk]? = some (.cells cs 76 (0, 0)) ∧ cs.size = 32
theorem Bk.lt {w : World} {bk : Nat} {cs : Array Value} (h : Bk w bk cs) : bk < w.heap.size := (Array.getElem?_eq_some_iff.1 h.1).1
theorem Bk.cell {w : World} {bk : Nat} {cs : Array Value} (h : Bk w bk cs) (i : Nat) : w.cell? ⟨bk, i, none⟩ = cs[i]? := cell_of_row w bk i cs _ (0, 0) h.1
theorem Bk.free {w : World} {bk : Nat} {cs : Array Value} (h : Bk w bk cs) (i : Nat) : w.frozen? ⟨bk, i, none⟩ = false := by simp [World.frozen?, h.1]
theorem Bk.kept {S : Nat → Prop} {w w' : World} {bk : Nat} {cs : Array Value} (h : Bk w bk cs) (g : GrownIn S w w') (hn : ¬ S bk) : Bk w' bk cs := ⟨(g.block bk h.lt hn).trans h.1, h.2⟩
/-- Behind a call that lays a list behind in field i of the book. -/
def PutPost (w : World) (bk B m i : Nat) (eS : TypeId) (cs : Array Value) (v l : Value) (Ls : List Value) (e : Ending) (w' : World) : Prop :=
  e = .returned (.tuple #[]) ∧ ∃ g c, w'.ownsRow B eS 1 (.slice (some ⟨g, 0, none⟩) (m + 1) c) (m + 1) (Ls ++ [l]) ∧ Bk w' bk (cs.setIfInBounds i (.slice (some ⟨g, 0, none⟩) (m + 1) c)) ∧
    GrownIn (fun k => k = bk ∨ v.ownBlock = some k) w w' ∧ (v.ownBlock = some g ∨ w.heap.size ≤ g)
theorem grownIn_set {S : Nat → Prop} {a w : World} (h : GrownIn S a w) {p : Addr} (hp : S p.block) (u : Value) : GrownIn S a (w.setCell p u) :=
  h.trans ⟨rfl, rfl, rfl, by simp [World.setCell], fun k _ hk => Below.heap_setCell _ _ _ _ (fun e => hk (e ▸ hp))⟩ (fun _ _ h => h)
theorem Bk.set {w : World} {bk : Nat} {cs : Array Value} (h : Bk w bk cs) (i : Nat) (v : Value) : Bk (w.setCell ⟨bk, i, none⟩ v) bk (cs.setIfInBounds i v) := ⟨heap_setCell_same w bk i cs _ v h.1, by simpa using h.2⟩
theorem owns_set_other {w : World} {B : Nat} {e : TypeId} {sz n : Nat} {v : Value} {xs : List Value} (h : w.ownsRow B e sz v n xs) {p : Addr} (hp : v.ownBlock ≠ some p.block) (u : Value) : (w.setCell p u).ownsRow B e sz v n xs :=
  (grownIn_set (S := fun k => k = p.block) (GrownIn.refl _ w) rfl u).owns h (fun k hk e => hp (by rw [hk, e]))
end Go.Proofs.YtajaijidecomdaaGreatDoor
namespace Go.Proofs.YtajaijidecomdaaGreatDoor
open Go

/-- A three-way comparison that puts all into one order. -/
structure Cmp3 {α : Type} (c : α → α → Int) : Prop where
  swap : ∀ x y, c y x = - c x y
  zero : ∀ x y, c x y = 0 ↔ x = y
  trans : ∀ x y z, c x y < 0 → c y z < 0 → c x z < 0
section
variable {α : Type} {c : α → α → Int}
theorem Cmp3.self (h : Cmp3 c) (x : α) : c x x = 0 := (h.zero x x).2 rfl
theorem Cmp3.le_trans (h : Cmp3 c) {x y z : α} (h1 : c x y ≤ 0) (h2 : c y z ≤ 0) : c x z ≤ 0 := by
  by_cases e1 : c x y = 0
  · rw [(h.zero x y).1 e1]; exact h2
  · by_cases e2 : c y z = 0
    · rw [← (h.zero y z).1 e2]; exact h1
    · have := h.trans x y z (by omega) (by omega); omega
/-- Two lists, element by element; a list comes behind its beginnings. -/
def lexC (c : α → α → Int) : List α → List α → Int
  | [], [] => 0
  | [], _ :: _ => -1
  | _ :: _, [] => 1
  | a :: x, b :: y => if c a b = 0 then lexC c x y else c a b
theorem lexC_swap (h : Cmp3 c) : ∀ x y, lexC c y x = - lexC c x y
  | [], [] => rfl
  | [], _ :: _ => rfl
  | _ :: _, [] => rfl
  | a :: x, b :: y => by
    have hs := h.swap a b
    unfold lexC
    by_cases e : c a b = 0
    · rw [if_pos e, if_pos (by omega)]; exact lexC_swap h x y
    · rw [if_neg e, if_neg (by omega)]; exact hs
theorem lexC_zero (h : Cmp3 c) : ∀ x y, lexC c x y = 0 ↔ x = y
  | [], [] => by simp [lexC]
  | [], _ :: _ => by simp [lexC]
  | _ :: _, [] => by simp [lexC]
  | a :: x, b :: y => by
    unfold lexC
    by_cases e : c a b = 0
    · rw [if_pos e, lexC_zero h x y, List.cons.injEq, (h.zero a b).1 e]; simp
    · rw [if_neg e, List.cons.injEq]
      constructor
      · intro h'; exact absurd h' e
      · intro h'; exact absurd ((h.zero a b).2 h'.1) e
theorem lexC_trans (h : Cmp3 c) : ∀ x y z, lexC c x y < 0 → lexC c y z < 0 → lexC c x z < 0
  | [], [], _ => by simp [lexC]
  | [], _ :: _, [] => by simp [lexC]
  | [], _ :: _, _ :: _ => by simp [lexC]
  | _ :: _, [], _ => by simp [lexC]
  | _ :: _, _ :: _, [] => by simp [lexC]
  | a :: x, b :: y, d :: z => by
    have ih := lexC_trans h x y z
    unfold lexC
    intro h1 h2
    by_cases e1 : c a b = 0
    · rw [if_pos e1] at h1
      have hab := (h.zero a b).1 e1
      subst hab
      by_cases e2 : c a d = 0
      · rw [if_pos e2] at h2 ⊢
        exact ih h1 h2
      · rw [if_neg e2] at h2 ⊢
        exact h2
    · rw [if_neg e1] at h1
      by_cases e2 : c b d = 0
      · have hbd := (h.zero b d).1 e2
        subst hbd
        rw [if_neg e1]; exact h1
      · rw [if_neg e2] at h2
        have := h.trans a b d h1 h2
        rw [if_neg (by omega)]; exact this
theorem lexC_cmp3 (h : Cmp3 c) : Cmp3 (lexC c) := ⟨lexC_swap h, lexC_zero h, lexC_trans h⟩
/-- First by one thing, then by another. -/
theorem pair_cmp3 {β γ : Type} {f : α → β} {g : α → γ} {cb : β → β → Int} {cg : γ → γ → Int} (hb : Cmp3 cb) (hg : Cmp3 cg) (inj : ∀ x y, f x = f y → g x = g y → x = y) :
    Cmp3 fun x y : α => if cb (f x) (f y) = 0 then cg (g x) (g y) else cb (f x) (f y) where
  swap x y := by
    have h1 := hb.swap (f x) (f y)
    have h2 := hg.swap (g x) (g y)
    by_cases e : cb (f x) (f y) = 0
    · rw [if_pos e, if_pos (by omega)]; exact h2
    · rw [if_neg e, if_neg (by omega)]; exact h1
  zero x y := by
    by_cases e : cb (f x) (f y) = 0
    · rw [if_pos e, hg.zero]
      exact ⟨fun h => inj x y ((hb.zero _ _).1 e) h, fun h => by rw [h]⟩
    · rw [if_neg e]
      exact ⟨fun h => absurd h e, fun h => absurd ((hb.zero _ _).2 (by rw [h])) e⟩
  trans x y z := by
    intro h1 h2
    by_cases e1 : cb (f x) (f y) = 0
    · rw [if_pos e1] at h1
      rw [(hb.zero _ _).1 e1]
      by_cases e2 : cb (f y) (f z) = 0
      · rw [if_pos e2] at h2 ⊢
        exact hg.trans _ _ _ h1 h2
      · rw [if_neg e2] at h2 ⊢
        exact h2
    · rw [if_neg e1] at h1
      by_cases e2 : cb (f y) (f z) = 0
      · rw [← (hb.zero _ _).1 e2, if_neg e1]; exact h1
      · rw [if_neg e2] at h2
        have := hb.trans _ _ _ h1 h2
        rw [if_neg (by omega)]; exact this
end
/-- Two bytes. -/
def byteC (a b : UInt8) : Int := if a < b then -1 else if b < a then 1 else 0
theorem byteC_cmp3 : Cmp3 byteC where
  swap x y := by
    unfold byteC
    simp only [UInt8.lt_iff_toNat_lt]
    by_cases h1 : x.toNat < y.toNat
    · rw [if_neg (by omega), if_pos h1, if_pos h1]; rfl
    · by_cases h2 : y.toNat < x.toNat
      · rw [if_pos h2, if_neg h1, if_pos h2]
      · rw [if_neg h2, if_neg h1, if_neg h1, if_neg h2]; rfl
  zero x y := by
    unfold byteC
    simp only [UInt8.lt_iff_toNat_lt]
    constructor
    · intro h
      apply UInt8.toNat_inj.1
      by_cases h1 : x.toNat < y.toNat
      · rw [if_pos h1] at h; omega
      · by_cases h2 : y.toNat < x.toNat
        · rw [if_neg h1, if_pos h2] at h; omega
        · omega
    · rintro rfl
      simp
  trans x y z := by
    unfold byteC
    simp only [UInt8.lt_iff_toNat_lt]
    intro h1 h2
    have a1 : x.toNat < y.toNat := by
      by_cases h : x.toNat < y.toNat
      · exact h
      · rw [if_neg h] at h1; split at h1 <;> omega
    have a2 : y.toNat < z.toNat := by
      by_cases h : y.toNat < z.toNat
      · exact h
      · rw [if_neg h] at h2; split at h2 <;> omega
    rw [if_pos (by omega)]; omega
theorem bytesLess_lex : ∀ x y : List UInt8, Op.bytesLess x y = decide (lexC byteC x y < 0)
  | [], [] => by simp [Op.bytesLess, lexC]
  | [], _ :: _ => by simp [Op.bytesLess, lexC]
  | _ :: _, [] => by simp [Op.bytesLess, lexC]
  | a :: x, b :: y => by
    rw [Op.bytesLess, bytesLess_lex x y, lexC]
    unfold byteC
    by_cases h1 : a < b
    · simp [h1]
    · by_cases h2 : b < a
      · have hne : ¬ a = b := by rintro rfl; exact h1 h2
        simp [h1, h2, hne]
      · have e : a = b := by
          apply UInt8.toNat_inj.1
          rw [UInt8.lt_iff_toNat_lt] at h1 h2
          omega
        subst e
        simp [h1]
/-- Two texts, as cmp.Compare has them. -/
def textC (x y : ByteArray) : Int := if Op.bytesLess x.toList y.toList then -1 else if Op.bytesLess y.toList x.toList then 1 else 0
theorem lexC_sign {x y : List UInt8} : lexC byteC x y = -1 ∨ lexC byteC x y = 0 ∨ lexC byteC x y = 1 := by
  induction x generalizing y with
  | nil => cases y <;> simp [lexC]
  | cons a x ih =>
    cases y with
    | nil => simp [lexC]
    | cons b y =>
      unfold lexC
      by_cases e : byteC a b = 0
      · rw [if_pos e]; exact ih
      · rw [if_neg e]
        unfold byteC at e ⊢
        split
        · exact .inl rfl
        · split
          · exact .inr (.inr rfl)
          · exact .inr (.inl rfl)
theorem textC_lex (x y : ByteArray) : textC x y = lexC byteC x.toList y.toList := by
  unfold textC
  rw [bytesLess_lex, bytesLess_lex, lexC_swap byteC_cmp3 x.toList y.toList]
  rcases lexC_sign (x := x.toList) (y := y.toList) with h | h | h <;> rw [h] <;> decide
theorem toList_inj {x y : ByteArray} (h : x.toList = y.toList) : x = y := by
  rw [Go.Lib.toList_data, Go.Lib.toList_data] at h
  exact ByteArray.ext (Array.toList_inj.1 h)
theorem textC_cmp3 : Cmp3 textC where
  swap x y := by rw [textC_lex, textC_lex]; exact lexC_swap byteC_cmp3 _ _
  zero x y := by
    rw [textC_lex, lexC_zero byteC_cmp3]
    exact ⟨toList_inj, fun h => by rw [h]⟩
  trans x y z := by rw [textC_lex, textC_lex, textC_lex]; exact lexC_trans byteC_cmp3 _ _ _
/-- A label. -/
structure Lb where
  nm : ByteArray
  vl : ByteArray
def labelC (a b : Lb) : Int := if textC a.nm b.nm = 0 then textC a.vl b.vl else textC a.nm b.nm
theorem labelC_cmp3 : Cmp3 labelC := pair_cmp3 (f := Lb.nm) (g := Lb.vl) textC_cmp3 textC_cmp3 fun x y h1 h2 => by cases x; cases y; simp_all
def labelsC : List Lb → List Lb → Int := lexC labelC
theorem labelsC_cmp3 : Cmp3 labelsC := lexC_cmp3 labelC_cmp3
end Go.Proofs.YtajaijidecomdaaGreatDoor
namespace Go.Proofs.YtajaijidecomdaaGreatDoor
open Go.RowKit Go.Lib

/-- The slice value '.slice A n c' holds the list l, each element as 'size' cells; it lies below block B. -/
def Lst {α : Type} (enc : α → List Value) (size : Nat) (w : World) (B : Nat) (A : Option Addr) (n : Nat) (l : List α) : Prop :=
  l.length = n ∧ (0 < n → ∃ b off, A = some ⟨b, off, none⟩ ∧ b < B ∧ ∀ k x, l[k]? = some x → ∀ i u, (enc x)[i]? = some u → w.cell? ⟨b, off + k * size + i, none⟩ = some u)
section
variable {α : Type} {enc : α → List Value} {size : Nat} {w w' : World} {B B' : Nat} {A : Option Addr} {n : Nat} {l : List α}
theorem Lst.keep (h : Lst enc size w B A n l) (hk : ∀ p : Addr, p.block < B → w'.cell? p = w.cell? p) : Lst enc size w' B A n l :=
  ⟨h.1, fun hn => by
    obtain ⟨b, off, e, hb, hc⟩ := h.2 hn
    exact ⟨b, off, e, hb, fun k x hx i u hu => (hk _ hb).trans (hc k x hx i u hu)⟩⟩
theorem Lst.more (h : Lst enc size w B A n l) (hB : B ≤ B') : Lst enc size w B' A n l :=
  ⟨h.1, fun hn => by
    obtain ⟨b, off, e, hb, hc⟩ := h.2 hn
    exact ⟨b, off, e, by omega, hc⟩⟩
theorem Lst.below (h : Lst enc size w B A n l) (hb : Below B w w') : Lst enc size w' B A n l := h.keep fun _ hp => hb.cell hp
theorem Lst.at (h : Lst enc size w B A n l) {k : Nat} (hk : k < n) : ∃ b off x, A = some ⟨b, off, none⟩ ∧ b < B ∧ l[k]? = some x ∧ ∀ i u, (enc x)[i]? = some u → w.cell? ⟨b, off + k * size + i, none⟩ = some u := by
  obtain ⟨b, off, e, hb, hc⟩ := h.2 (by omega)
  have hl : k < l.length := by have := h.1; omega
  exact ⟨b, off, l[k], e, hb, List.getElem?_eq_getElem hl, hc k _ (List.getElem?_eq_getElem hl)⟩
end
section
variable {α : Type} {enc : α → List Value} {size : Nat}
theorem flatMap_length (hsz : ∀ x, (enc x).length = size) : ∀ l : List α, (l.flatMap enc).length = l.length * size
  | [] => by simp
  | x :: l => by rw [List.flatMap_cons, List.length_append, hsz, flatMap_length hsz l, List.length_cons, Nat.succ_mul, Nat.add_comm]
theorem flatMap_at (hsz : ∀ x, (enc x).length = size) : ∀ (l : List α) (k : Nat) (x : α), l[k]? = some x → ∀ i u, (enc x)[i]? = some u → (l.flatMap enc)[k * size + i]? = some u
  | [], k, x, h => by simp at h
  | y :: l, 0, x, h => fun i u hu => by
    obtain rfl : y = x := by simpa using h
    have hi := (List.getElem?_eq_some_iff.1 hu).1
    rw [List.flatMap_cons, Nat.zero_mul, Nat.zero_add, List.getElem?_append_left hi, hu]
  | y :: l, k + 1, x, h => fun i u hu => by
    rw [List.flatMap_cons, List.getElem?_append_right (by rw [hsz, Nat.succ_mul]; omega), hsz]
    have e : (k + 1) * size + i - size = k * size + i := by rw [Nat.succ_mul]; omega
    rw [e]
    exact flatMap_at hsz l k x (by simpa using h) i u hu
theorem ownsRow_lst {w : World} {base : Nat} {t : TypeId} {v : Value} {n : Nat} {l : List α} (h : w.ownsRow base t size v n (l.flatMap enc)) (hl : l.length = n) (hsz : ∀ x, (enc x).length = size) :
    ∃ A c, v = .slice A n c ∧ n ≤ maxLen ∧ Lst enc size w w.heap.size A n l := by
  rcases h.2 with ⟨rfl, h0⟩ | ⟨g, cap, cur, rfl, hb, hg, h1, h2, h3, h4⟩
  · subst h0
    exact ⟨none, 0, rfl, Nat.zero_le _, hl, fun h => absurd h (by omega)⟩
  · refine ⟨_, cap, rfl, by omega, hl, fun _ => ⟨g, 0, rfl, (Array.getElem?_eq_some_iff.1 hg).1, fun k x hx i u hu => ?_⟩⟩
    rw [h.cellAt _ (by have := (List.getElem?_eq_some_iff.1 hx).1; have hi := (List.getElem?_eq_some_iff.1 hu).1; rw [hsz] at hi; have : (k + 1) * size ≤ n * size := Nat.mul_le_mul_right _ (by omega); rw [Nat.succ_mul] at this; omega)]
    rw [Nat.zero_add]
    exact flatMap_at hsz l k x hx i u hu
end
abbrev Ints (w : World) (B : Nat) (A : Option Addr) (n : Nat) (l : List Int) : Prop := Lst (fun x => [Value.int .i64 x]) 1 w B A n l
theorem ints_flat (l : List Int) : l.map (Value.int .i64) = l.flatMap (fun x => [Value.int .i64 x]) := by
  induction l with
  | nil => rfl
  | cons a l ih => rw [List.map_cons, List.flatMap_cons, ih]; rfl
theorem ownsRow_ints {w : World} {base : Nat} {t : TypeId} {v : Value} {n : Nat} {l : List Int} (h : w.ownsRow base t 1 v n (l.map (Value.int .i64))) (hl : l.length = n) :
    ∃ A c, v = .slice A n c ∧ n ≤ maxLen ∧ Ints w w.heap.size A n l := ownsRow_lst (by rw [← ints_flat]; exact h) hl fun _ => rfl
section
variable {α : Type} {enc : α → List Value} {size : Nat} {w : World}
theorem lst_block {g : Nat} {cur : Array Value} {e : TypeId} {fz : Nat × Nat} {l : List α} {n : Nat} (hg : w.heap[g]? = some (.cells cur e fz)) (hc : cur.toList = l.flatMap enc) (hn : l.length = n) (hsz : ∀ x, (enc x).length = size) : Lst enc size w w.heap.size (some ⟨g, 0, none⟩) n l :=
  ⟨hn, fun _ => ⟨g, 0, rfl, (Array.getElem?_eq_some_iff.1 hg).1, fun k x hx i u hu => by
    have h := flatMap_at hsz l k x hx i u hu
    rw [← hc, Array.getElem?_toList] at h
    rw [Nat.zero_add, cell_of_row w g _ _ _ _ hg, h]⟩⟩
theorem Lst.take {B : Nat} {A : Option Addr} {n : Nat} {l : List α} (h : Lst enc size w B A n l) {k : Nat} (hk : k ≤ n) : Lst enc size w B A k (l.take k) :=
  ⟨by rw [List.length_take, h.1]; omega, fun h0 => by
    obtain ⟨b, off, e, hb, hc⟩ := h.2 (by omega)
    exact ⟨b, off, e, hb, fun j x hx => hc j x (by
      have hj := (List.getElem?_eq_some_iff.1 hx).1
      rw [List.length_take] at hj
      rw [← hx, List.getElem?_take_of_lt (by omega)])⟩⟩
theorem Lst.nil {B : Nat} : Lst enc size w B none 0 [] := ⟨rfl, fun h => absurd h (by omega)⟩
end
theorem flatMap_get {α : Type} {enc : α → List Value} {size : Nat} (hsz : ∀ x, (enc x).length = size) {l : List α} {j : Nat} {u : Value} (h : (l.flatMap enc)[j]? = some u) :
    ∃ k x, l[k]? = some x ∧ j = k * size + j % size ∧ (enc x)[j % size]? = some u := by
  have hj := (List.getElem?_eq_some_iff.1 h).1
  rw [flatMap_length hsz] at hj
  have h0 : 0 < size := Nat.pos_of_ne_zero fun e => by subst e; simp at hj
  have hk : j / size < l.length := (Nat.div_lt_iff_lt_mul h0).2 hj
  have he : j = j / size * size + j % size := by rw [Nat.mul_comm]; exact (Nat.div_add_mod j size).symm
  have hm : j % size < (enc l[j / size]).length := by rw [hsz]; exact Nat.mod_lt _ h0
  have := flatMap_at hsz l (j / size) l[j / size] (List.getElem?_eq_getElem hk) (j % size) _ (List.getElem?_eq_getElem hm)
  rw [← he, h] at this
  exact ⟨j / size, _, List.getElem?_eq_getElem hk, he, by rw [this]; exact List.getElem?_eq_getElem hm⟩
theorem Lst.flat {α : Type} {enc : α → List Value} {size : Nat} {w : World} {B n : Nat} {ad : Addr} {l : List α} (h : Lst enc size w B (some ad) n l) (hsz : ∀ x, (enc x).length = size) :
    ∀ j u, (l.flatMap enc)[j]? = some u → w.cell? (ad.add j) = some u := by
  intro j u hu
  obtain ⟨k, x, hx, hj, hu'⟩ := flatMap_get hsz hu
  have hk := (List.getElem?_eq_some_iff.1 hx).1
  obtain ⟨b, off, e, hb, hc⟩ := h.2 (by have := h.1; omega)
  cases e
  have := hc k x hx _ u hu'
  rw [show (⟨b, off, none⟩ : Addr).add j = ⟨b, off + k * size + j % size, none⟩ by
    simp only [Addr.add]
    have e : off + j = off + k * size + j % size := by omega
    cases j with
    | zero => simp at e ⊢; omega
    | succ j => rw [if_neg (Nat.succ_ne_zero j), e]]
  exact this
theorem cells_newL (w : World) (cs : List Value) (t : TypeId) : ∀ j u, cs[j]? = some u → (w.alloc (.cells cs.toArray t)).cell? ((⟨w.heap.size, 0, none⟩ : Addr).add j) = some u := by
  intro j u h
  rw [show ((⟨w.heap.size, 0, none⟩ : Addr).add j) = ⟨w.heap.size, j, none⟩ by simp only [Addr.add, Nat.zero_add]; cases j <;> rfl, cell_of_row _ _ _ _ _ _ (heap_alloc_new w _)]
  simpa using h
end Go.Proofs.YtajaijidecomdaaGreatDoor
