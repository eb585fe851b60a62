/- The reader of patterns, as a function; and that a pattern that stands in another one is read the same. No program in sight. Patterns' reader: its cells; bytes looked for in a text; peek, skip, must. -/
import Derived.Test.YtamlnkmcbbeicaaDoorRx2
import Derived.Test.YtamlnkmcbbeicaaDoorG00
import Derived.Lib.Bytealg
import Derived.Lib.IndexAny
import Derived.Deep.RegionHeld3
import Derived.BigQuiet
import Derived.LoopN
namespace Go.Proofs.YtamlnkmcbbeicaaDoor.RX

def only (c : UInt8) : Nat → Bool := fun i => decide (i = c.toNat)
def digL : List UInt8 := [48, 49, 50, 51, 52, 53, 54, 55, 56, 57]
def wordL : List UInt8 := [97, 98, 99, 100, 101, 102, 103, 104, 105, 106, 107, 108, 109, 110, 111, 112, 113, 114, 115, 116, 117, 118, 119, 120, 121, 122, 65, 66, 67, 68, 69, 70, 71, 72, 73, 74, 75, 76, 77, 78, 79, 80, 81, 82, 83, 84, 85, 86, 87, 88, 89, 90, 95] ++ digL
def spaceL : List UInt8 := [32, 9, 10, 12, 13]
def family (l : List UInt8) (no : Bool) : Nat → Bool := fun i => l.contains (UInt8.ofNat i) != no

structure PS where
  at_ : Nat
  groups : Nat
  deep : Nat
  deeper : Nat
inductive Pr (α : Type) where
  | bad (at_ : Nat)
  | ok (a : α) (st : PS)

/-- An item: its set, its byte, where it ends. -/
inductive It where
  | bad (at_ : Nat)
  | ok (p : Nat → Bool) (single : Option UInt8) (at_ : Nat)
def item (s : List UInt8) (k : Nat) : It :=
  match s[k]? with
  | none => .bad k
  | some c => if c ≠ 92 then .ok (only c) (some c) (k + 1) else
    match s[k + 1]? with
    | none => .bad (k + 1)
    | some d =>
      if d = 110 then .ok (only 10) (some 10) (k + 2)
      else if d = 116 then .ok (only 9) (some 9) (k + 2)
      else if d = 114 then .ok (only 13) (some 13) (k + 2)
      else if d = 100 ∨ d = 68 then .ok (family digL (d = 68)) none (k + 2)
      else if d = 119 ∨ d = 87 then .ok (family wordL (d = 87)) none (k + 2)
      else if d = 115 ∨ d = 83 then .ok (family spaceL (d = 83)) none (k + 2)
      else if d.toNat < 33 ∨ 126 < d.toNat ∨ (d ≠ 95 ∧ wordL.contains d = true) then .bad (k + 1)
      else .ok (only d) (some d) (k + 2)
/-- Comes a dash that is not ahead of the class's end? -/
def dash (s : List UInt8) (k : Nat) : Bool := s[k]? == some 45 && (k + 1 == s.length || s[k + 1]? != some 93)
inductive Cl where
  | bad (at_ : Nat)
  | ok (p : Nat → Bool) (at_ : Nat)
def classGo (s : List UInt8) : Nat → Bool → Nat → (Nat → Bool) → Cl
  | 0, _, k, _ => .bad k
  | f + 1, first, k, p =>
    if first = false ∧ s[k]? = some 93 then .ok p (k + 1) else
    if first = false ∧ s[k]? = some 45 ∧ k + 1 = s.length then .bad s.length else
    if s[k]? = none ∨ (first = true ∧ s[k]? = some 93) ∨ (first = false ∧ dash s k = true) then .bad k else
    match item s k with
    | .bad a => .bad a
    | .ok q from_ k1 =>
      match from_ with
      | none => classGo s f false k1 (fun i => p i || q i)
      | some a =>
        if dash s k1 = true then
          (if s[k1 + 1]? = none then .bad (k1 + 1) else
           match item s (k1 + 1) with
           | .bad a => .bad a
           | .ok _ to k2 => match to with
             | none => .bad (k1 + 1)
             | some b => if b.toNat < a.toNat then .bad (k1 + 1) else classGo s f false k2 (fun i => p i || (q i || decide (a.toNat ≤ i ∧ i ≤ b.toNat))))
        else classGo s f false k1 (fun i => p i || q i)
def cls (s : List UInt8) (k : Nat) : Cl :=
  let no := s[k]? == some 94
  match classGo s (s.length + 1) true (if no then k + 1 else k) (fun _ => false) with
  | .bad a => .bad a
  | .ok p e => .ok (fun i => p i != no) e
mutual
/-- Can it match the empty text, as the reader asks? -/
def Tr.empty : Tr → Bool
  | .bytes _ => false
  | .edge _ => true
  | .group _ t => t.empty
  | .row l => allEmpty l
  | .alts l => anyEmpty l
  | .rep _ least _ plus _ => least == 0 && !plus
def allEmpty : List Tr → Bool
  | [] => true
  | t :: l => t.empty && allEmpty l
def anyEmpty : List Tr → Bool
  | [] => false
  | t :: l => t.empty || anyEmpty l
end
/-- Up to so many digits: their number, and where they end. -/
def numGo (s : List UInt8) : Nat → Nat → Nat → Nat × Nat
  | 0, k, n => (n, k)
  | f + 1, k, n => match s[k]? with
    | some c => if 48 ≤ c.toNat ∧ c.toNat ≤ 57 then numGo s f (k + 1) (10 * n + (c.toNat - 48)) else (n, k)
    | none => (n, k)
inductive Nu where
  | bad (at_ : Nat)
  | ok (n at_ : Nat)
def number (s : List UInt8) (k : Nat) : Nu := if (numGo s 4 k 0).2 = k ∨ 1000 < (numGo s 4 k 0).1 then .bad (numGo s 4 k 0).2 else .ok (numGo s 4 k 0).1 (numGo s 4 k 0).2
def PS.to (st : PS) (k : Nat) : PS := ⟨k, st.groups, st.deep, st.deeper⟩
section
variable (A : PS → Pr Tr) (s : List UInt8)
def pClose (r : Pr Tr) (n : Nat) : Pr Tr := match r with
  | .bad a => .bad a
  | .ok t st => if s[st.at_]? = some 41 then .ok (if 0 < n then .group n t else t) ⟨st.at_ + 1, st.groups, st.deep - 1, st.deeper⟩ else .bad st.at_
def pParen (st : PS) : Pr Tr :=
  if s[st.at_]? = some 63 then
    (if s[st.at_ + 1]? = some 58 then pClose s (A ⟨st.at_ + 2, st.groups, st.deep + 1, max st.deeper (st.deep + 1)⟩) 0 else .bad (st.at_ + 1))
  else pClose s (A ⟨st.at_, st.groups + 1, st.deep + 1, max st.deeper (st.deep + 1)⟩) (st.groups + 1)
def pAtom (st : PS) : Pr Tr :=
  match s[st.at_]? with
  | none => .bad st.at_
  | some c =>
    if c = 93 ∨ c = 42 ∨ c = 43 ∨ c = 63 ∨ c = 123 ∨ c = 125 then .bad st.at_
    else if c = 46 then .ok (.bytes fun _ => true) (st.to (st.at_ + 1))
    else if c = 94 then .ok (.edge false) (st.to (st.at_ + 1))
    else if c = 36 then .ok (.edge true) (st.to (st.at_ + 1))
    else if c = 91 then (match cls s (st.at_ + 1) with | .bad a => .bad a | .ok p k => .ok (.bytes p) (st.to k))
    else if c = 40 then pParen A s (st.to (st.at_ + 1))
    else match item s st.at_ with | .bad a => .bad a | .ok p _ k => .ok (.bytes p) (st.to k)
/-- A count's end: perhaps lazy. -/
def pLazy (t : Tr) (least : Nat) (most : Option Nat) (plus : Bool) (st : PS) (k : Nat) : Pr Tr :=
  if s[k]? = some 63 then .ok (.rep t least most plus true) (st.to (k + 1)) else .ok (.rep t least most plus false) (st.to k)
def pBrace (t : Tr) (least : Nat) (most : Option Nat) (st : PS) (k : Nat) : Pr Tr :=
  if s[k]? = some 125 then pLazy s t least most false st (k + 1) else .bad k
def pMost (t : Tr) (least : Nat) (st : PS) (k : Nat) : Pr Tr :=
  match number s k with
  | .bad a => .bad a
  | .ok most k2 => if most < least then .bad k2 else pBrace s t least (some most) st k2
def pCount (t : Tr) (st : PS) : Pr Tr :=
  match number s (st.at_ + 1) with
  | .bad a => .bad a
  | .ok least k => if s[k]? = some 44 then
      (if s[k + 1]? = some 125 then pBrace s t least none st (k + 1) else pMost s t least st (k + 1))
    else pBrace s t least (some least) st k
def pPiece (st : PS) : Pr Tr :=
  match pAtom A s st with
  | .bad a => .bad a
  | .ok t st1 =>
    match s[st1.at_]? with
    | none => .ok t st1
    | some c =>
      if (c = 42 ∨ c = 43 ∨ c = 63 ∨ c = 123) ∧ t.empty = true then .bad st1.at_
      else if c = 42 then pLazy s t 0 none false st1 (st1.at_ + 1)
      else if c = 43 then pLazy s t 0 none true st1 (st1.at_ + 1)
      else if c = 63 then pLazy s t 0 (some 1) false st1 (st1.at_ + 1)
      else if c = 123 then pCount s t st1
      else .ok t st1
def pRow : Nat → PS → List Tr → Pr Tr
  | 0, st, _ => .bad st.at_
  | f + 1, st, acc => match s[st.at_]? with
    | none => .ok (.row acc) st
    | some c => if c = 124 ∨ c = 41 then .ok (.row acc) st else match pPiece A s st with
      | .bad a => .bad a
      | .ok t st' => pRow f st' (acc ++ [t])
def pAlts : Nat → PS → List Tr → Pr Tr
  | 0, st, _ => .bad st.at_
  | f + 1, st, acc => if s[st.at_]? = some 124 then (match pRow A s (s.length + 1) (st.to (st.at_ + 1)) [] with
      | .bad a => .bad a
      | .ok t st' => pAlts f st' (acc ++ [t])) else .ok (.alts acc) st
end
def pAll (s : List UInt8) : Nat → PS → Pr Tr
  | 0, st => .bad st.at_
  | f + 1, st => match pRow (pAll s f) s (s.length + 1) st [] with
    | .bad a => .bad a
    | .ok t st' => pAlts (pAll s f) s (s.length + 1) st' [t]
/-- A pattern's tree and groups; why it is none, and where. -/
inductive Rd where
  | bad (e : Int) (at_ : Nat)
  | ok (t : Tr) (groups : Nat)
def readRx (s : List UInt8) : Rd :=
  match pAll s (s.length + 1) ⟨0, 0, 0, 0⟩ with
  | .bad a => .bad 80 a
  | .ok t st => if st.at_ < s.length then .bad 80 st.at_ else if 100 < st.deeper ∨ 1000 < min 1048576 t.size + 1 then .bad 81 0 else .ok t st.groups
end Go.Proofs.YtamlnkmcbbeicaaDoor.RX
namespace Go.Proofs.YtamlnkmcbbeicaaDoor
open Go.RowKit Go.Lib
open RX (PS Tr Pr)

theorem idx_any (s : ByteArray) (c : UInt8) (w : World) : Calls Tryd.prog 64 #[.string s, .int .u8 c.toNat] w fun e w' => e = .returned (.int .i64 (indexByte s.data.toList c)) ∧ w' = w := by
  have hx : ∀ (u : World), (callFunc 62 #[.string s, .int .u8 c.toNat]).run Tryd.prog u = .ok (.value (.int .i64 (indexByte s.data.toList c))) u := fun u => by
    rw [run_callFunc_extern Tryd.func62 (by kernel_rfl) (by kernel_rfl) (by kernel_rfl) (e := Extern.BytealgIndexByte.indexByte) (by kernel_rfl), Lib.run_indexByteString]
    simp [Result.andThen]
  go_enter Tryd.func64, Tryd.ntmps64
  go_wp2
  go_ret
  exact ⟨rfl, rfl⟩
/-- The reader's cells. -/
def Psr (w : World) (bk : Nat) (s : ByteArray) (st : PS) : Prop := w.heap[bk]? = some (.cells #[.string s, .int .i64 st.at_, .int .i64 st.groups, .int .i64 st.deep, .int .i64 st.deeper] 81 (0, 0))
section
variable {w w' : World} {bk : Nat} {s : ByteArray} {st : PS}
theorem Psr.c0 (h : Psr w bk s st) : w.cell? ⟨bk, 0, none⟩ = some (.string s) := by rw [cell_of_row w bk 0 _ _ (0, 0) h]; rfl
theorem Psr.c1 (h : Psr w bk s st) : w.cell? ⟨bk, 1, none⟩ = some (.int .i64 st.at_) := by rw [cell_of_row w bk 1 _ _ (0, 0) h]; rfl
theorem Psr.c2 (h : Psr w bk s st) : w.cell? ⟨bk, 2, none⟩ = some (.int .i64 st.groups) := by rw [cell_of_row w bk 2 _ _ (0, 0) h]; rfl
theorem Psr.c3 (h : Psr w bk s st) : w.cell? ⟨bk, 3, none⟩ = some (.int .i64 st.deep) := by rw [cell_of_row w bk 3 _ _ (0, 0) h]; rfl
theorem Psr.c4 (h : Psr w bk s st) : w.cell? ⟨bk, 4, none⟩ = some (.int .i64 st.deeper) := by rw [cell_of_row w bk 4 _ _ (0, 0) h]; rfl
theorem Psr.fr (h : Psr w bk s st) (i : Nat) : w.frozen? ⟨bk, i, none⟩ = false := by
  unfold World.frozen?
  rw [show w.heap[bk]? = _ from h]
  rfl
theorem Psr.lt (h : Psr w bk s st) : bk < w.heap.size := (Array.getElem?_eq_some_iff.1 h).1
theorem Psr.set1 (h : Psr w bk s st) (k : Nat) : Psr (w.setCell ⟨bk, 1, none⟩ (.int .i64 k)) bk s { st with at_ := k } := heap_setCell_same w bk 1 _ _ _ h
theorem Psr.set2 (h : Psr w bk s st) (k : Nat) : Psr (w.setCell ⟨bk, 2, none⟩ (.int .i64 k)) bk s { st with groups := k } := heap_setCell_same w bk 2 _ _ _ h
theorem Psr.set3 (h : Psr w bk s st) (k : Nat) : Psr (w.setCell ⟨bk, 3, none⟩ (.int .i64 k)) bk s { st with deep := k } := heap_setCell_same w bk 3 _ _ _ h
theorem Psr.set4 (h : Psr w bk s st) (k : Nat) : Psr (w.setCell ⟨bk, 4, none⟩ (.int .i64 k)) bk s { st with deeper := k } := heap_setCell_same w bk 4 _ _ _ h
theorem Psr.next (h : Psr w bk s st) : Psr (w.setCell ⟨bk, 1, none⟩ (.int .i64 ((st.at_ : Int) + 1))) bk s (st.to (st.at_ + 1)) := by
  have := h.set1 (st.at_ + 1)
  rwa [Int.natCast_add] at this
theorem Psr.drewN (h : Psr w bk s st) (q : Nat) : Psr (w.drewN q) bk s st := h
theorem Psr.grown {S : Nat → Prop} (h : Psr w bk s st) (hg : GrownIn S w w') (hS : ¬ S bk) : Psr w' bk s st := (hg.block bk h.lt hS).trans h
theorem Psr.alloc (h : Psr w bk s st) (o : Obj) : Psr (w.alloc o) bk s st := (heap_alloc_old w o h.lt).trans h
theorem Psr.other (h : Psr w bk s st) {p : Addr} (hp : bk ≠ p.block) (v : Value) : Psr (w.setCell p v) bk s st := (heap_setCell_other w p bk v hp).trans h
end
theorem grownIn_set {S : Nat → Prop} {a w : World} (h : GrownIn S a w) {p : Addr} (hp : S p.block) (u : Value) : GrownIn S a (w.setCell p u) :=
  h.trans (T := S) ⟨rfl, rfl, rfl, by simp, fun k hk hn => heap_setCell_other _ _ _ _ (fun e => hn (by rw [e]; exact hp))⟩ (fun _ _ h => h)
/-- Where it stands, read off. -/
def atOf (w : World) (bk : Nat) : Nat := match w.cell? ⟨bk, 1, none⟩ with
  | some v => (intOf v).toNat
  | none => 0
theorem Psr.at {w : World} {bk : Nat} {s : ByteArray} {st : PS} (h : Psr w bk s st) : atOf w bk = st.at_ := by
  unfold atOf
  rw [h.c1]
  simp [intOf]
/-- A text's byte. -/
theorem byte_at {s : ByteArray} {k : Nat} (h : k < s.size) : s.data.toList[k]? = some (s[k]'h) := by
  rw [List.getElem?_eq_getElem (by rw [Array.length_toList]; exact h)]
  rfl
theorem byte_none {s : ByteArray} {k : Nat} (h : ¬ k < s.size) : s.data.toList[k]? = none := List.getElem?_eq_none (by rw [Array.length_toList]; exact Nat.le_of_not_lt h)
set_option maxHeartbeats 1000000 in
theorem peek_some (bk : Nat) (s : ByteArray) (st : PS) (c : UInt8) (w : World) (hS : Psr w bk s st) (hc : s.data.toList[st.at_]? = some c) :
    Calls Tryd.prog 58 #[.pointer (some ⟨bk, 0, none⟩)] w fun e w' => e = .returned (.tuple #[.int .u8 c.toNat, .bool true]) ∧ ∃ q, w' = w.drewN q := by
  have c0 := hS.c0
  have c1 := hS.c1
  have hlt : st.at_ < s.size := by
    obtain ⟨h, _⟩ := List.getElem?_eq_some_iff.1 hc
    rw [Array.length_toList] at h
    exact h
  have i0 : (0 : Int) ≤ (st.at_ : Int) := by omega
  have i1 : (st.at_ : Int) < (s.size : Int) := by omega
  obtain rfl : s[st.at_]'hlt = c := Option.some.inj ((byte_at hlt).symm.trans hc)
  clear hc hS
  go_enter Tryd.func58, Tryd.ntmps58
  go_wp2_with (go_quiet (fail))
  refine bodyPost_ret (v := .tuple #[_, _]) ?_ rfl ⟨rfl, _, by first | rfl | exact World.drewN_drewN _ _ _⟩
  simp [results, Tryd.results58, go_sem]
set_option maxHeartbeats 1000000 in
theorem peek_none (bk : Nat) (s : ByteArray) (st : PS) (w : World) (hS : Psr w bk s st) (hc : s.data.toList[st.at_]? = none) :
    Calls Tryd.prog 58 #[.pointer (some ⟨bk, 0, none⟩)] w fun e w' => e = .returned (.tuple #[.int .u8 0, .bool false]) ∧ ∃ q, w' = w.drewN q := by
  have c0 := hS.c0
  have c1 := hS.c1
  have i1 : ¬ (st.at_ : Int) < (s.size : Int) := by
    have := List.getElem?_eq_none_iff.1 hc
    rw [Array.length_toList] at this
    have : s.size ≤ st.at_ := this
    omega
  clear hc hS
  go_enter Tryd.func58, Tryd.ntmps58
  go_wp2_with (go_quiet (fail))
  refine bodyPost_ret (v := .tuple #[_, _]) ?_ rfl ⟨rfl, _, by first | rfl | exact World.drewN_drewN _ _ _⟩
  simp [results, Tryd.results58, go_sem]
/-- What skip does. -/
def SkipPost (w : World) (bk : Nat) (s : ByteArray) (st : PS) (c : UInt8) (e : Ending) (w' : World) : Prop :=
  (s.data.toList[st.at_]? = some c ∧ e = .returned (.bool true) ∧ Psr w' bk s (st.to (st.at_ + 1)) ∧ w'.heap.size = w.heap.size ∧ GrownIn (fun b => b = bk) w w') ∨
  (s.data.toList[st.at_]? ≠ some c ∧ e = .returned (.bool false) ∧ ∃ q, w' = w.drewN q)
set_option maxHeartbeats 1000000 in
theorem skip_any (bk : Nat) (s : ByteArray) (st : PS) (c : UInt8) (w : World) (hS : Psr w bk s st) (hbig : st.at_ ≤ 1000000) :
    Calls Tryd.prog 47 #[.pointer (some ⟨bk, 0, none⟩), .int .u8 c.toNat] w (SkipPost w bk s st c) := by
  cases hc : s.data.toList[st.at_]? with
  | none =>
    have HP := Lib.hid (show _ ∧ _ from ⟨peek_none bk s st w hS hc, hc⟩)
    clear hS
    go_enter Tryd.func47, Tryd.ntmps47
    go_wp2_with (go_at_call 58; refine HP.out.1.mono ?_; rintro e w1 ⟨rfl, q, rfl⟩)
    go_ret
    exact .inr ⟨by rw [HP.out.2]; simp, rfl, _, rfl⟩
  | some d =>
    have HP := Lib.hid (show _ ∧ _ ∧ _ from ⟨peek_some bk s st d w hS hc, hc, hS⟩)
    have c1 := hS.c1
    have f1 := hS.fr 1
    have k1 : IntKind.i64.wrap ((st.at_ : Int) + 1) = (st.at_ : Int) + 1 := IntWalk.i64_in _ (by omega)
    clear hS hc
    by_cases h : d = c
    · subst h
      go_enter Tryd.func47, Tryd.ntmps47
      go_wp2_with (go_at_call 58; refine HP.out.1.mono ?_; rintro e w1 ⟨rfl, q, rfl⟩)
      go_ret
      exact .inl ⟨HP.out.2.1, rfl, (HP.out.2.2.drewN q).next, by simp, grownIn_set (S := fun b => b = bk) (p := ⟨bk, 1, none⟩) ((GrownIn.refl _ w).drewN q) rfl _⟩
    · have hb : ((d.toNat : Int) == (c.toNat : Int)) = false := by
        rw [beq_eq_false_iff_ne]
        exact fun e => h (UInt8.toNat_inj.1 (by omega))
      have HN := Lib.hid h
      clear h
      go_enter Tryd.func47, Tryd.ntmps47
      go_wp2_with (go_at_call 58; refine HP.out.1.mono ?_; rintro e w1 ⟨rfl, q, rfl⟩)
      go_ret
      exact .inr ⟨by rw [HP.out.2.1]; exact fun e => HN.out (Option.some.inj e), rfl, _, rfl⟩
/-- The reader gives up. -/
def badV (a : Nat) : Value := .iface 77 (.agg #[.int .i64 a])
def MustPost (w : World) (bk : Nat) (s : ByteArray) (st : PS) (c : UInt8) (e : Ending) (w' : World) : Prop :=
  (s.data.toList[st.at_]? = some c ∧ e = .returned (.tuple #[]) ∧ Psr w' bk s (st.to (st.at_ + 1)) ∧ w'.heap.size = w.heap.size ∧ GrownIn (fun b => b = bk) w w') ∨
  (s.data.toList[st.at_]? ≠ some c ∧ e = .panicked [{ v := badV st.at_, recovered := false }] ∧ ∃ q, w' = w.drewN q)
set_option maxHeartbeats 1000000 in
theorem must_any (bk : Nat) (s : ByteArray) (st : PS) (c : UInt8) (w : World) (hS : Psr w bk s st) (hbig : st.at_ ≤ 1000000) :
    Calls Tryd.prog 68 #[.pointer (some ⟨bk, 0, none⟩), .int .u8 c.toNat] w (MustPost w bk s st c) := by
  have HP := Lib.hid (show _ ∧ _ from ⟨skip_any bk s st c w hS hbig, hS⟩)
  clear hS
  go_enter Tryd.func68, Tryd.ntmps68
  go_wp2_with fail
  refine HP.out.1.mono ?_
  rintro e w1 (⟨h1, rfl, h2, h3, h4⟩ | ⟨h1, rfl, q, rfl⟩)
  · have H := Lib.hid (show _ ∧ _ ∧ _ ∧ _ from ⟨h1, h2, h3, h4⟩)
    clear h1 h2 h3 h4
    go_wp2
    go_end0
    exact .inl ⟨H.out.1, rfl, H.out.2.1, H.out.2.2.1, H.out.2.2.2⟩
  · have c1 := (HP.out.2.drewN q).c1
    have H := Lib.hid h1
    clear h1
    go_wp2
    exact ⟨rfl, .inr ⟨H.out, rfl, _, rfl⟩⟩
end Go.Proofs.YtamlnkmcbbeicaaDoor
