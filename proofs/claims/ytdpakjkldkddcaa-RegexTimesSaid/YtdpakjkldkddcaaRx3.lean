/- The reader of patterns, as a function; and that a pattern that stands in another one is read the same. No program in sight. -/
import Derived.Test.YtdpakjkldkddcaaRx2
namespace Go.Proofs.Ytdpakjkldkddcaa.RX

def only (c : UInt8) : Nat → Bool := fun i => decide (i = c.toNat)
def digL : List UInt8 := [48, 49, 50, 51, 52, 53, 54, 55, 56, 57]
def wordL : List UInt8 := [97, 98, 99, 100, 101, 102, 103, 104, 105, 106, 107, 108, 109, 110, 111, 112, 113, 114, 115, 116, 117, 118, 119, 120, 121, 122, 65, 66, 67, 68, 69, 70, 71, 72, 73, 74, 75, 76, 77, 78, 79, 80, 81, 82, 83, 84, 85, 86, 87, 88, 89, 90, 95] ++ digL
def spaceL : List UInt8 := [32, 9, 10, 12, 13]
def family (l : List UInt8) (no : Bool) : Nat → Bool := fun i => l.contains (UInt8.ofNat i) != no

structure PS where
  at_ : Nat
  groups : Nat
  deep : Nat
  deeper : Nat
inductive Pr (α : Type) where
  | bad (at_ : Nat)
  | ok (a : α) (st : PS)

/-- An item: its set, its byte, where it ends. -/
inductive It where
  | bad (at_ : Nat)
  | ok (p : Nat → Bool) (single : Option UInt8) (at_ : Nat)
def item (s : List UInt8) (k : Nat) : It :=
  match s[k]? with
  | none => .bad k
  | some c => if c ≠ 92 then .ok (only c) (some c) (k + 1) else
    match s[k + 1]? with
    | none => .bad (k + 1)
    | some d =>
      if d = 110 then .ok (only 10) (some 10) (k + 2)
      else if d = 116 then .ok (only 9) (some 9) (k + 2)
      else if d = 114 then .ok (only 13) (some 13) (k + 2)
      else if d = 100 ∨ d = 68 then .ok (family digL (d = 68)) none (k + 2)
      else if d = 119 ∨ d = 87 then .ok (family wordL (d = 87)) none (k + 2)
      else if d = 115 ∨ d = 83 then .ok (family spaceL (d = 83)) none (k + 2)
      else if d.toNat < 33 ∨ 126 < d.toNat ∨ (d ≠ 95 ∧ wordL.contains d = true) then .bad (k + 1)
      else .ok (only d) (some d) (k + 2)
/-- Comes a dash that is not ahead of the class's end? -/
def dash (s : List UInt8) (k : Nat) : Bool := s[k]? == some 45 && (k + 1 == s.length || s[k + 1]? != some 93)
inductive Cl where
  | bad (at_ : Nat)
  | ok (p : Nat → Bool) (at_ : Nat)
def classGo (s : List UInt8) : Nat → Bool → Nat → (Nat → Bool) → Cl
  | 0, _, k, _ => .bad k
  | f + 1, first, k, p =>
    if first = false ∧ s[k]? = some 93 then .ok p (k + 1) else
    if first = false ∧ s[k]? = some 45 ∧ k + 1 = s.length then .bad s.length else
    if s[k]? = none ∨ (first = true ∧ s[k]? = some 93) ∨ (first = false ∧ dash s k = true) then .bad k else
    match item s k with
    | .bad a => .bad a
    | .ok q from_ k1 =>
      match from_ with
      | none => classGo s f false k1 (fun i => p i || q i)
      | some a =>
        if dash s k1 = true then
          (if s[k1 + 1]? = none then .bad (k1 + 1) else
           match item s (k1 + 1) with
           | .bad a => .bad a
           | .ok _ to k2 => match to with
             | none => .bad (k1 + 1)
             | some b => if b.toNat < a.toNat then .bad (k1 + 1) else classGo s f false k2 (fun i => p i || (q i || decide (a.toNat ≤ i ∧ i ≤ b.toNat))))
        else classGo s f false k1 (fun i => p i || q i)
def cls (s : List UInt8) (k : Nat) : Cl :=
  let no := s[k]? == some 94
  match classGo s (s.length + 1) true (if no then k + 1 else k) (fun _ => false) with
  | .bad a => .bad a
  | .ok p e => .ok (fun i => p i != no) e
mutual
/-- Can it match the empty text, as the reader asks? -/
def Tr.empty : Tr → Bool
  | .bytes _ => false
  | .edge _ => true
  | .group _ t => t.empty
  | .row l => allEmpty l
  | .alts l => anyEmpty l
  | .rep _ least _ plus _ => least == 0 && !plus
def allEmpty : List Tr → Bool
  | [] => true
  | t :: l => t.empty && allEmpty l
def anyEmpty : List Tr → Bool
  | [] => false
  | t :: l => t.empty || anyEmpty l
end
/-- Up to so many digits: their number, and where they end. -/
def numGo (s : List UInt8) : Nat → Nat → Nat → Nat × Nat
  | 0, k, n => (n, k)
  | f + 1, k, n => match s[k]? with
    | some c => if 48 ≤ c.toNat ∧ c.toNat ≤ 57 then numGo s f (k + 1) (10 * n + (c.toNat - 48)) else (n, k)
    | none => (n, k)
inductive Nu where
  | bad (at_ : Nat)
  | ok (n at_ : Nat)
def number (s : List UInt8) (k : Nat) : Nu := if (numGo s 4 k 0).2 = k ∨ 1000 < (numGo s 4 k 0).1 then .bad (numGo s 4 k 0).2 else .ok (numGo s 4 k 0).1 (numGo s 4 k 0).2
def PS.to (st : PS) (k : Nat) : PS := ⟨k, st.groups, st.deep, st.deeper⟩
section
variable (A : PS → Pr Tr) (s : List UInt8)
def pClose (r : Pr Tr) (n : Nat) : Pr Tr := match r with
  | .bad a => .bad a
  | .ok t st => if s[st.at_]? = some 41 then .ok (if 0 < n then .group n t else t) ⟨st.at_ + 1, st.groups, st.deep - 1, st.deeper⟩ else .bad st.at_
def pParen (st : PS) : Pr Tr :=
  if s[st.at_]? = some 63 then
    (if s[st.at_ + 1]? = some 58 then pClose s (A ⟨st.at_ + 2, st.groups, st.deep + 1, max st.deeper (st.deep + 1)⟩) 0 else .bad (st.at_ + 1))
  else pClose s (A ⟨st.at_, st.groups + 1, st.deep + 1, max st.deeper (st.deep + 1)⟩) (st.groups + 1)
def pAtom (st : PS) : Pr Tr :=
  match s[st.at_]? with
  | none => .bad st.at_
  | some c =>
    if c = 93 ∨ c = 42 ∨ c = 43 ∨ c = 63 ∨ c = 123 ∨ c = 125 then .bad st.at_
    else if c = 46 then .ok (.bytes fun _ => true) (st.to (st.at_ + 1))
    else if c = 94 then .ok (.edge false) (st.to (st.at_ + 1))
    else if c = 36 then .ok (.edge true) (st.to (st.at_ + 1))
    else if c = 91 then (match cls s (st.at_ + 1) with | .bad a => .bad a | .ok p k => .ok (.bytes p) (st.to k))
    else if c = 40 then pParen A s (st.to (st.at_ + 1))
    else match item s st.at_ with | .bad a => .bad a | .ok p _ k => .ok (.bytes p) (st.to k)
/-- A count's end: perhaps lazy. -/
def pLazy (t : Tr) (least : Nat) (most : Option Nat) (plus : Bool) (st : PS) (k : Nat) : Pr Tr :=
  if s[k]? = some 63 then .ok (.rep t least most plus true) (st.to (k + 1)) else .ok (.rep t least most plus false) (st.to k)
def pBrace (t : Tr) (least : Nat) (most : Option Nat) (st : PS) (k : Nat) : Pr Tr :=
  if s[k]? = some 125 then pLazy s t least most false st (k + 1) else .bad k
def pMost (t : Tr) (least : Nat) (st : PS) (k : Nat) : Pr Tr :=
  match number s k with
  | .bad a => .bad a
  | .ok most k2 => if most < least then .bad k2 else pBrace s t least (some most) st k2
def pCount (t : Tr) (st : PS) : Pr Tr :=
  match number s (st.at_ + 1) with
  | .bad a => .bad a
  | .ok least k => if s[k]? = some 44 then
      (if s[k + 1]? = some 125 then pBrace s t least none st (k + 1) else pMost s t least st (k + 1))
    else pBrace s t least (some least) st k
def pPiece (st : PS) : Pr Tr :=
  match pAtom A s st with
  | .bad a => .bad a
  | .ok t st1 =>
    match s[st1.at_]? with
    | none => .ok t st1
    | some c =>
      if (c = 42 ∨ c = 43 ∨ c = 63 ∨ c = 123) ∧ t.empty = true then .bad st1.at_
      else if c = 42 then pLazy s t 0 none false st1 (st1.at_ + 1)
      else if c = 43 then pLazy s t 0 none true st1 (st1.at_ + 1)
      else if c = 63 then pLazy s t 0 (some 1) false st1 (st1.at_ + 1)
      else if c = 123 then pCount s t st1
      else .ok t st1
def pRow : Nat → PS → List Tr → Pr Tr
  | 0, st, _ => .bad st.at_
  | f + 1, st, acc => match s[st.at_]? with
    | none => .ok (.row acc) st
    | some c => if c = 124 ∨ c = 41 then .ok (.row acc) st else match pPiece A s st with
      | .bad a => .bad a
      | .ok t st' => pRow f st' (acc ++ [t])
def pAlts : Nat → PS → List Tr → Pr Tr
  | 0, st, _ => .bad st.at_
  | f + 1, st, acc => if s[st.at_]? = some 124 then (match pRow A s (s.length + 1) (st.to (st.at_ + 1)) [] with
      | .bad a => .bad a
      | .ok t st' => pAlts f st' (acc ++ [t])) else .ok (.alts acc) st
end
def pAll (s : List UInt8) : Nat → PS → Pr Tr
  | 0, st => .bad st.at_
  | f + 1, st => match pRow (pAll s f) s (s.length + 1) st [] with
    | .bad a => .bad a
    | .ok t st' => pAlts (pAll s f) s (s.length + 1) st' [t]
/-- A pattern's tree and groups; why it is none, and where. -/
inductive Rd where
  | bad (e : Int) (at_ : Nat)
  | ok (t : Tr) (groups : Nat)
def readRx (s : List UInt8) : Rd :=
  match pAll s (s.length + 1) ⟨0, 0, 0, 0⟩ with
  | .bad a => .bad 80 a
  | .ok t st => if st.at_ < s.length then .bad 80 st.at_ else if 100 < st.deeper ∨ 1000 < min 1048576 t.size + 1 then .bad 81 0 else .ok t st.groups
end Go.Proofs.Ytdpakjkldkddcaa.RX
