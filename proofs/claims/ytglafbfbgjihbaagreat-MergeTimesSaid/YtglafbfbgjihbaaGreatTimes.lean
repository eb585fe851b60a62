/- MergeTimes' walk. -/
import Derived.Test.YtglafbfbgjihbaaGreatRefIvs
import Derived.Test.YtglafbfbgjihbaaGreatRefWo
import Derived.Test.YtglafbfbgjihbaaGreatKnown17
import Derived.Test.YtglafbfbgjihbaaGreatWholeSample
import Derived.Test.YtglafbfbgjihbaaGreatWholeInterval
import Derived.Test.YtglafbfbgjihbaaGreatBookSample
import Derived.Test.YtglafbfbgjihbaaGreatBookInterval
import Derived.Test.YtglafbfbgjihbaaGreatOwnBookSI
namespace Go.Proofs.YtglafbfbgjihbaaGreat
open Go.RowKit Go.Lib

def nils : Array Value := (List.replicate 32 (Value.slice none 0 0)).toArray
theorem nils_at {k : Nat} (hk : k < 32) : nils[k]? = some (.slice none 0 0) := by unfold nils; rw [List.getElem?_toArray, List.getElem?_replicate, if_pos hk]
def two (a b : Value) (j : Nat) : Value := if j = 0 then a else b
theorem lists_two {w : World} {B : Nat} {e : TypeId} {sz BL n m : Nat} {a b : Value} {xs ys : List Value} (ha : w.ownsRow B e sz a n xs) (hb : w.ownsRow B e sz b m ys)
    (hne : ∀ g, a.ownBlock = some g → b.ownBlock ≠ some g) (h0 : w.cell? ⟨BL, 0, none⟩ = some a) (h1 : w.cell? ⟨BL, 1, none⟩ = some b) (oa : a.ownBlock ≠ some BL) (ob : b.ownBlock ≠ some BL) :
    Lists w B e sz BL 2 (two a b) (fun j => if j = 0 then n else m) where
  row j hj := by
    rcases (show j = 0 ∨ j = 1 by omega) with rfl | rfl
    · exact h0
    · exact h1
  own j hj := by
    rcases (show j = 0 ∨ j = 1 by omega) with rfl | rfl
    · exact ⟨xs, ha⟩
    · exact ⟨ys, hb⟩
  apart i j hi hj hij g := by
    rcases (show i = 0 ∨ i = 1 by omega) with rfl | rfl <;> rcases (show j = 0 ∨ j = 1 by omega) with rfl | rfl
    · exact absurd rfl hij
    · exact hne g
    · intro h1 h2; exact hne g h2 h1
    · exact absurd rfl hij
  off j hj := by
    rcases (show j = 0 ∨ j = 1 by omega) with rfl | rfl
    · exact oa
    · exact ob
theorem lists_one {w : World} {B : Nat} {e : TypeId} {sz BL n : Nat} {a : Value} {xs : List Value} (ha : w.ownsRow B e sz a n xs) (h0 : w.cell? ⟨BL, 0, none⟩ = some a) (oa : a.ownBlock ≠ some BL) :
    Lists w B e sz BL 1 (fun _ => a) (fun _ => n) where
  row j hj := by obtain rfl : j = 0 := by omega
                 exact h0
  own _ _ := ⟨xs, ha⟩
  apart i j hi hj hij := absurd (show i = j by omega) hij
  off _ _ := oa
/-- The three rows that came out, the box of 'in', what was there before. -/
structure R3 (w wi : World) (y : Int × Int) (a b c : Value) (O W I : List (Int × Int)) : Prop where
  old : Below w.heap.size w wi
  ia : wi.ownsRow (w.heap.size + 1) 25 2 a O.length (O.flatMap encI)
  sb : wi.ownsRow (w.heap.size + 1) 94 2 b W.length (W.flatMap encS)
  sc : wi.ownsRow (w.heap.size + 1) 94 2 c I.length (I.flatMap encS)
  b0 : wi.cell? ⟨w.heap.size, 0, none⟩ = some (.int .i64 y.1)
  b1 : wi.cell? ⟨w.heap.size, 1, none⟩ = some (.int .i64 y.2)
section
variable {w wi wj : World} {y : Int × Int} {a b c : Value} {O W I : List (Int × Int)}
theorem R3.grown (h : R3 w wi y a b c O W I) {S : Nat → Prop} (hg : GrownIn S wi wj) (hS : ∀ k, S k → w.heap.size < k ∧ a.ownBlock ≠ some k ∧ b.ownBlock ≠ some k ∧ c.ownBlock ≠ some k) : R3 w wj y a b c O W I where
  old := h.old.trans (hg.below (fun k hk => Nat.le_of_lt (hS k hk).1) h.old.size)
  ia := hg.owns h.ia (fun k hk hs => (hS k hs).2.1 hk)
  sb := hg.owns h.sb (fun k hk hs => (hS k hs).2.2.1 hk)
  sc := hg.owns h.sc (fun k hk hs => (hS k hs).2.2.2 hk)
  b0 := hg.cell h.b0 (fun hs => by have := (hS _ hs).1; exact absurd this (Nat.lt_irrefl _))
  b1 := hg.cell h.b1 (fun hs => by have := (hS _ hs).1; exact absurd this (Nat.lt_irrefl _))
theorem R3.step (h : R3 w wi y a b c O W I) (hb : Below wi.heap.size wi wj) : R3 w wj y a b c O W I :=
  h.grown (S := fun _ => False) ⟨hb.os, hb.tape, hb.output, hb.size, fun k hk _ => hb.block k hk⟩ (fun _ h => h.elim)
end
theorem sameS_own {a b : Value} {B B' n : Nat} {l : List (Int × Int)} {w : World} (ha : w.ownsRow B 94 2 a n (l.flatMap encS)) (hb : w.ownsRow B' 94 2 b n (l.flatMap encS)) (hn : n ≤ 1000000000) :
    Calls Tryz.prog 20 #[a, b] w fun e w' => e = .returned (.bool true) ∧ Below w.heap.size w w' := by
  have hl := owns_len ha encS_len (by omega)
  obtain ⟨A, c, rfl, _, h1⟩ := ownsRow_lst ha hl encS_len
  obtain ⟨A', c', rfl, _, h2⟩ := ownsRow_lst hb hl encS_len
  exact sameSample_eq A A' n c c' l w h1 h2 hn
theorem sameI_own {a b : Value} {B B' n : Nat} {l : List (Int × Int)} {w : World} (ha : w.ownsRow B 25 2 a n (l.flatMap encI)) (hb : w.ownsRow B' 25 2 b n (l.flatMap encI)) (hn : n ≤ 1000000000) :
    Calls Tryz.prog 18 #[a, b] w fun e w' => e = .returned (.bool true) ∧ Below w.heap.size w w' := by
  have hl := owns_len ha encI_len (by omega)
  obtain ⟨A, c, rfl, _, h1⟩ := ownsRow_lst ha hl encI_len
  obtain ⟨A', c', rfl, _, h2⟩ := ownsRow_lst hb hl encI_len
  exact sameInterval_eq A A' n c c' l w h1 h2 hn
/-- A lent row, as it lies. -/
theorem lent_parts {enc : Int × Int → List Value} {e : TypeId} {w : World} {B g n c : Nat} {l : List (Int × Int)} {mA mB : Int × Int} (hsz : ∀ x, (enc x).length = 2) (h : w.ownsRow B e 2 (.slice (some ⟨g, 0, none⟩) (n + 2) c) (n + 2) ((l ++ [mA, mB]).flatMap enc)) (hl : l.length = n) :
    Lst enc 2 w w.heap.size (some ⟨g, 0, none⟩) (n + 2) (l ++ [mA, mB]) ∧ Lst enc 2 w w.heap.size (some ⟨g, 0, none⟩) n l ∧ n + 2 ≤ c ∧ c ≤ maxLen ∧ ∃ cur, w.heap[g]? = some (.cells cur e (0, 0)) ∧ cur.size = c * 2 := by
  obtain ⟨A', c', e', _, h1⟩ := ownsRow_lst h (by simp [hl]) hsz
  injection e' with e1 _ _
  subst e1
  have h2 := h1.take (k := n) (by omega)
  rw [List.take_append_of_le_length (by omega), List.take_of_length_le (by omega)] at h2
  have hc := owns_cap h
  refine ⟨h1, h2, hc.2, hc.1, ?_⟩
  rcases h.2 with ⟨h', _⟩ | ⟨_, _, cur, h', _, hh, _, _, hs, _⟩
  · cases h'
  · cases h'; exact ⟨cur, hh, hs⟩
theorem bookI_own (bk B m : Nat) (cs : Array Value) (v a : Value) (Ls : List Value) (w : World) (hb : Bk w bk cs) (hv : cs[12]? = some v) (ho : w.ownsRow B 23 1 v m Ls) (hne : v.ownBlock ≠ some bk) (hB : B ≤ w.heap.size) (hm : m ≤ 1000000) {B' n : Nat} {xs : List Value} (ha : w.ownsRow B' 25 2 a n xs) :
    Calls Tryz.prog 16 #[.pointer (some ⟨bk, 0, none⟩), a] w (PutPost w bk B m 12 23 cs v a Ls) := by
  obtain ⟨A, c, rfl, _, _⟩ := owns_slice ha
  exact bookIntervals bk B m cs v A n c Ls w hb hv ho hne hB hm
theorem bookS_own (bk B m : Nat) (cs : Array Value) (v a : Value) (Ls : List Value) (w : World) (hb : Bk w bk cs) (hv : cs[10]? = some v) (ho : w.ownsRow B 22 1 v m Ls) (hne : v.ownBlock ≠ some bk) (hB : B ≤ w.heap.size) (hm : m ≤ 1000000) {B' n : Nat} {xs : List Value} (ha : w.ownsRow B' 94 2 a n xs) :
    Calls Tryz.prog 17 #[.pointer (some ⟨bk, 0, none⟩), a] w (PutPost w bk B m 10 22 cs v a Ls) := by
  obtain ⟨A, c, rfl, _, _⟩ := owns_slice ha
  exact bookSamples bk B m cs v A n c Ls w hb hv ho hne hB hm
/-- What stands when all is asked: the rows, the book, its two lists of lists. -/
structure T3 (w wi : World) (bk : Nat) (cs : Array Value) (y : Int × Int) (a b c la lb : Value) (O W I : List (Int × Int)) : Prop where
  rows : R3 w wi y a b c O W I
  book : Bk wi bk cs
  li : wi.ownsRow (w.heap.size + 1) 23 1 la 1 [a]
  ls : wi.ownsRow (w.heap.size + 1) 22 1 lb 2 [b, c]
theorem T3.step {w wi wj : World} {bk : Nat} {cs : Array Value} {y : Int × Int} {a b c la lb : Value} {O W I : List (Int × Int)} (h : T3 w wi bk cs y a b c la lb O W I) (hb : Below wi.heap.size wi wj) : T3 w wj bk cs y a b c la lb O W I where
  rows := h.rows.step hb
  book := h.book.kept (GrownIn.of_below hb) (by have := h.book.lt; omega)
  li := owns_below h.li hb
  ls := owns_below h.ls hb
set_option maxHeartbeats 4000000 in
set_option maxRecDepth 100000 in
theorem times_any (A A' : Option Addr) (n c n' c' : Nat) (s l : List (Int × Int)) (y : Int × Int) (w : World) (hS : Lst encS 2 w w.heap.size A n s) (hSnil : A = none → n = 0 ∧ c = 0) (hn : n ≤ 3000) (hL : Lst encI 2 w w.heap.size A' n' l) (hnil : A' = none → n' = 0 ∧ c' = 0) (hn' : n' ≤ 300)
    (hw : ∀ x ∈ l, Fits x) :
    Calls Tryz.prog 3 #[.slice A n c, .slice A' n' c', .agg #[.int .i64 y.1, .int .i64 y.2]] w fun e w' => e = .returned (.bool true) ∧ Below w.heap.size w w' := by
  have q1 : ¬ (3000 : Int) < (n : Int) := by omega
  have q2 : ¬ (300 : Int) < (n' : Int) := by omega
  have HS := Lib.hid (show _ ∧ _ from ⟨hS, hSnil⟩)
  have HL := Lib.hid (show _ ∧ _ ∧ _ from ⟨hL, hnil, hw⟩)
  have hOl : (l.foldl refIv []).length ≤ n' := by have := refIvs_length l; have := hL.1; omega
  have hWl : (withoutS s l).length ≤ n := by have := List.length_filter_le (fun x => !covB l x.1) s; have := hS.1; unfold withoutS; omega
  have hIl : (withinS s [y]).length ≤ n := by have := List.length_filter_le (fun x => covB [y] x.1) s; have := hS.1; unfold withinS; omega
  have hsl := hS.1
  have hll := hL.1
  clear hS hSnil hL hnil hw
  go_enter Tryz.func3, Tryz.ntmps3
  go_wp2_with fail
  have hbx : Below w.heap.size w (w.alloc (.cells #[.int .i64 y.1, .int .i64 y.2] 25)) := (Below.refl _ _).alloc (Nat.le_refl _) _
  have hc0 : (w.alloc (.cells #[.int .i64 y.1, .int .i64 y.2] 25)).cell? ⟨w.heap.size, 0, none⟩ = some (.int .i64 y.1) := by simp
  have hc1 : (w.alloc (.cells #[.int .i64 y.1, .int .i64 y.2] 25)).cell? ⟨w.heap.size, 1, none⟩ = some (.int .i64 y.2) := by simp
  have hs0 : (w.alloc (.cells #[.int .i64 y.1, .int .i64 y.2] 25)).heap.size = w.heap.size + 1 := by simp
  generalize w.alloc (.cells #[.int .i64 y.1, .int .i64 y.2] 25) = w0 at hbx hc0 hc1 hs0 ⊢
  have H0 := Lib.hid (show _ ∧ _ ∧ _ from ⟨hbx, hc0, hc1⟩)
  clear hbx hc0 hc1
  refine (lentSample_any A n c s w0 (HS.out.1.kept H0.out.1) HS.out.2 (by omega)).mono ?_
  rintro e w1 ⟨g1, cg1, rfl, hr1, hb1⟩
  have hs1 := hb1.size
  have hg1 := hr1.lt g1 rfl
  have H1 := Lib.hid (show _ ∧ _ from ⟨hr1, hb1⟩)
  clear hr1 hb1
  have hB1 : Below w.heap.size w w1 := H0.out.1.trans (H1.out.2.mono (by omega))
  have HB1 := Lib.hid hB1
  clear hB1
  go_wp2_with fail
  refine (lentInterval_any A' n' c' l w1 (HL.out.1.kept HB1.out) HL.out.2.1 (by omega)).mono ?_
  rintro e w2 ⟨g2, cg2, rfl, hr2, hb2⟩
  have hs2 := hb2.size
  have hg2 := hr2.lt g2 rfl
  have P1 := Lib.hid (lent_parts encS_len (owns_below H1.out.1 hb2) hsl)
  have P2 := Lib.hid (lent_parts encI_len hr2 hll)
  have H2 := Lib.hid (show _ ∧ _ ∧ _ from ⟨owns_below H1.out.1 hb2, hr2, hb2⟩)
  clear hr2 hb2
  go_wp2_with fail
  refine (ivs_row (some ⟨g2, 0, none⟩) n' cg2 l w2 P2.out.2.1 (fun h => by cases h) (by omega) HL.out.2.2).mono ?_
  rintro e w3 ⟨va, rfl, ha, hb3⟩
  have hs3 := hb3.size
  have H3 := Lib.hid (show _ ∧ _ from ⟨ha, hb3⟩)
  clear ha hb3
  go_wp2_with fail
  refine (without_any (some ⟨g1, 0, none⟩) (some ⟨g2, 0, none⟩) n cg1 n' cg2 s l w3 (P1.out.2.1.kept H3.out.2) (fun h => by cases h) (by omega) (P2.out.2.1.kept H3.out.2) (fun h => by cases h) (by omega) hOl HL.out.2.2).mono ?_
  rintro e w4 ⟨vb, rfl, hbr, hb4⟩
  have hs4 := hb4.size
  have hB24 : Below w2.heap.size w2 w4 := H3.out.2.trans (hb4.mono hs3)
  have hbox : ∀ W, Below w2.heap.size w2 W → W.cell? ⟨w.heap.size, 0, none⟩ = some (.int .i64 y.1) ∧ W.cell? ⟨w.heap.size, 1, none⟩ = some (.int .i64 y.2) := fun W hW => by
    have hB02 := H1.out.2.trans (H2.out.2.2.mono hs1)
    exact ⟨(hW.cell (p := ⟨w.heap.size, 0, none⟩) (by show w.heap.size < _; omega)).trans ((hB02.cell (p := ⟨w.heap.size, 0, none⟩) (by show w.heap.size < _; omega)).trans H0.out.2.1),
      (hW.cell (p := ⟨w.heap.size, 1, none⟩) (by show w.heap.size < _; omega)).trans ((hB02.cell (p := ⟨w.heap.size, 1, none⟩) (by show w.heap.size < _; omega)).trans H0.out.2.2)⟩
  have d0 := (hbox w4 hB24).1
  have d1 := (hbox w4 hB24).2
  have HBOX := Lib.hid hbox
  have H4 := Lib.hid (show _ ∧ _ ∧ _ from ⟨hbr, hb4, hB24⟩)
  clear hbr hb4 hB24 hbox
  go_wp2_with fail
  refine (in_any (some ⟨g1, 0, none⟩) n cg1 s y w4 (P1.out.2.1.kept H4.out.2.2) (fun h => by cases h) (by omega)).mono ?_
  rintro e w5 ⟨vc, rfl, hcr, hb5⟩
  have hs5 := hb5.size
  have hB25 : Below w2.heap.size w2 w5 := H4.out.2.2.trans (hb5.mono (by omega))
  obtain ⟨O, hO⟩ : ∃ O, l.foldl refIv [] = O := ⟨_, rfl⟩
  obtain ⟨Wt, hWt⟩ : ∃ Wt, withoutS s l = Wt := ⟨_, rfl⟩
  obtain ⟨I, hI⟩ : ∃ I, withinS s [y] = I := ⟨_, rfl⟩
  rw [hO] at H3 hOl
  rw [hWt] at H4 hWl
  rw [hI] at hcr hIl
  have hR5 : R3 w w5 y va vb vc O Wt I := ⟨HB1.out.trans ((H2.out.2.2.trans (hB25.mono hs2)).mono (by omega)), owns_base (owns_below H3.out.1 (H4.out.2.1.trans (hb5.mono hs4))) (by omega), owns_base (owns_below H4.out.1 hb5) (by omega), owns_base hcr (by omega), (HBOX.out w5 hB25).1, (HBOX.out w5 hB25).2⟩
  have hla : ∀ b, va.ownBlock = some b → w2.heap.size ≤ b ∧ b < w3.heap.size := fun b h => H3.out.1.lt b h
  have hlb : ∀ b, vb.ownBlock = some b → w3.heap.size ≤ b ∧ b < w4.heap.size := fun b h => H4.out.1.lt b h
  have hlc : ∀ b, vc.ownBlock = some b → w4.heap.size ≤ b ∧ b < w5.heap.size := fun b h => hcr.lt b h
  have H5 := Lib.hid (show _ ∧ _ from ⟨hR5, hB25⟩)
  have HLT := Lib.hid (show _ ∧ _ ∧ _ from ⟨hla, hlb, hlc⟩)
  have HEQ := Lib.hid (show _ ∧ _ ∧ _ from ⟨hO, hWt, hI⟩)
  clear hcr hb5 hB25 hR5 hla hlb hlc hO hWt hI d0 d1 H3 H4 HBOX H0
  go_wp2_with fail
  refine (wholeSample_eq g1 cg1 A n c s w5 (P1.out.1.kept H5.out.2) P1.out.2.2.1 (HS.out.1.kept H5.out.1.old) (by omega)).mono ?_
  rintro e w6 ⟨rfl, hb6⟩
  have hs6 := hb6.size
  have H6 := Lib.hid (show _ ∧ _ from ⟨H5.out.1.step hb6, H5.out.2.trans (hb6.mono (by omega))⟩)
  clear hb6
  go_wp2_with fail
  refine (wholeInterval_eq g2 cg2 A' n' c' l w6 (P2.out.1.kept H6.out.2) P2.out.2.2.1 (HL.out.1.kept H6.out.1.old) (by omega)).mono ?_
  rintro e w7 ⟨rfl, hb7⟩
  have hs7 := hb7.size
  have hb27 : Below w2.heap.size w2 w7 := H6.out.2.trans (hb7.mono (by omega))
  have hR7 := H6.out.1.step hb7
  obtain ⟨cur1, hc1, hz1⟩ := P1.out.2.2.2.2
  obtain ⟨cur2, hc2, hz2⟩ := P2.out.2.2.2.2
  have h71 := (hb27.block g1 (by omega)).trans hc1
  have h72 := (hb27.block g2 (by omega)).trans hc2
  have H7 := Lib.hid (show _ ∧ _ ∧ _ ∧ _ ∧ _ ∧ _ from ⟨hR7, hb27, h71, h72, hz1, hz2⟩)
  clear hb7 hb27 hR7 hc1 hc2 hz1 hz2 h71 h72
  go_wp2_with fail
  refine (spoilSample_any g1 n cg1 cur1 w7 H7.out.2.2.1 H7.out.2.2.2.2.1 (by have := P1.out.2.2.1; omega) P1.out.2.2.2.1).mono ?_
  rintro e w8 ⟨rfl, hg8⟩
  have hs8 := hg8.size
  have hR8 : R3 w w8 y va vb vc O Wt I := H7.out.1.grown (GrownIn.of_grownBy hg8) (fun k hk => by
    injection hk with hk
    subst hk
    refine ⟨by omega, fun e => ?_, fun e => ?_, fun e => ?_⟩
    · have := HLT.out.1 _ e; omega
    · have := HLT.out.2.1 _ e; omega
    · have := HLT.out.2.2 _ e; omega)
  have h82 : w8.heap[g2]? = some (.cells cur2 25 (0, 0)) := (hg8.block g2 (by omega) (fun e => by injection e with e; omega)).trans H7.out.2.2.2.1
  have H8 := Lib.hid (show _ ∧ _ ∧ _ from ⟨hR8, h82, H7.out.2.2.2.2.2⟩)
  clear hg8 hR8 h82 H7 H6 H5
  go_wp2_with fail
  refine (spoilInterval_any g2 n' cg2 cur2 w8 H8.out.2.1 H8.out.2.2 (by have := P2.out.2.2.1; omega) P2.out.2.2.2.1).mono ?_
  rintro e w9 ⟨rfl, hg9⟩
  have hs9 := hg9.size
  have hR9 : R3 w w9 y va vb vc O Wt I := H8.out.1.grown (GrownIn.of_grownBy hg9) (fun k hk => by
    injection hk with hk
    subst hk
    refine ⟨by omega, fun e => ?_, fun e => ?_, fun e => ?_⟩
    · have := HLT.out.1 _ e; omega
    · have := HLT.out.2.1 _ e; omega
    · have := HLT.out.2.2 _ e; omega)
  have H9 := Lib.hid hR9
  clear hg9 hR9 H8
  go_wp2_with fail
  have hbk : Bk (w9.alloc (.cells nils 68)) w9.heap.size nils := ⟨heap_alloc_new _ _, rfl⟩
  have hb10 : Below w9.heap.size w9 (w9.alloc (.cells nils 68)) := (Below.refl _ _).alloc (Nat.le_refl _) _
  have hs10 : (w9.alloc (.cells nils 68)).heap.size = w9.heap.size + 1 := by simp
  change Calls _ _ _ (w9.alloc (.cells nils 68)) _
  generalize w9.alloc (.cells nils 68) = w10 at hbk hb10 hs10 ⊢
  obtain ⟨bk, hbkn⟩ : ∃ bk, w9.heap.size = bk := ⟨_, rfl⟩
  rw [hbkn] at hbk ⊢
  have H10 := Lib.hid (show _ ∧ _ from ⟨hbk, H9.out.step hb10⟩)
  clear hbk hb10 H9
  refine (bookI_own bk (w.heap.size + 1) 0 nils (.slice none 0 0) va [] w10 H10.out.1 rfl (World.ownsRow_nil _ _ _ _) (by simp [Value.ownBlock]) (by omega) (by omega) H10.out.2.ia).mono ?_
  rintro e w11 ⟨rfl, g11, c11, ho11, hk11, hgr11, hli11⟩
  have hs11 := hgr11.size
  have hg11 : w10.heap.size ≤ g11 := by
    rcases hli11 with h | h
    · cases h
    · exact h
  have hg11l := (ho11.lt g11 rfl).2
  have hR11 : R3 w w11 y va vb vc O Wt I := H10.out.2.grown hgr11 (fun k hk => by
    have hkk : k = bk := hk.elim id (fun h => by cases h)
    rw [hkk]
    refine ⟨by omega, fun e => ?_, fun e => ?_, fun e => ?_⟩
    · have := HLT.out.1 _ e; omega
    · have := HLT.out.2.1 _ e; omega
    · have := HLT.out.2.2 _ e; omega)
  have H11 := Lib.hid (show _ ∧ _ ∧ _ from ⟨hk11, hR11, ho11⟩)
  clear ho11 hk11 hgr11 hli11 hR11 H10
  go_wp2_with fail
  refine (bookS_own bk (w.heap.size + 1) 0 _ (.slice none 0 0) vb [] w11 H11.out.1 rfl (World.ownsRow_nil _ _ _ _) (by simp [Value.ownBlock]) (by omega) (by omega) H11.out.2.1.sb).mono ?_
  rintro e w12 ⟨rfl, g12, c12, ho12, hk12, hgr12, hli12⟩
  have hs12 := hgr12.size
  have hg12 : w11.heap.size ≤ g12 := by
    rcases hli12 with h | h
    · cases h
    · exact h
  have hg12l := (ho12.lt g12 rfl).2
  have hS12 : ∀ k, (k = bk ∨ (Value.slice none 0 0).ownBlock = some k) → k = bk := fun k hk => hk.elim id (fun h => by cases h)
  have hR12 : R3 w w12 y va vb vc O Wt I := H11.out.2.1.grown hgr12 (fun k hk => by
    rw [hS12 k hk]
    refine ⟨by omega, fun e => ?_, fun e => ?_, fun e => ?_⟩
    · have := HLT.out.1 _ e; omega
    · have := HLT.out.2.1 _ e; omega
    · have := HLT.out.2.2 _ e; omega)
  have hoi12 := hgr12.owns H11.out.2.2 (fun k hk h => by have h1 := hS12 k h; simp [Value.ownBlock] at hk; omega)
  have H12 := Lib.hid (show _ ∧ _ ∧ _ ∧ _ from ⟨hk12, hR12, ho12, hoi12⟩)
  have hne12 : g12 ≠ bk := by omega
  clear ho12 hk12 hgr12 hli12 hR12 hoi12 hS12 H11
  go_wp2_with fail
  refine (bookS_own bk (w.heap.size + 1) 1 _ (.slice (some ⟨g12, 0, none⟩) (0 + 1) c12) vc _ w12 H12.out.1 rfl H12.out.2.2.1 (by simp [Value.ownBlock]; exact hne12) (by omega) (by omega) H12.out.2.1.sc).mono ?_
  rintro e w13 ⟨rfl, g13, c13, ho13, hk13, hgr13, hli13⟩
  have hs13 := hgr13.size
  have hg13 : w11.heap.size ≤ g13 := by
    rcases hli13 with h | h
    · simp [Value.ownBlock] at h; omega
    · omega
  have hg13l := (ho13.lt g13 rfl).2
  have hS13 : ∀ k, (k = bk ∨ (Value.slice (some ⟨g12, 0, none⟩) (0 + 1) c12).ownBlock = some k) → k = bk ∨ k = g12 := fun k hk => hk.imp id (fun h => by simp [Value.ownBlock] at h; omega)
  have hR13 : R3 w w13 y va vb vc O Wt I := H12.out.2.1.grown hgr13 (fun k hk => by
    have hkk := hS13 k hk
    refine ⟨by omega, fun e => ?_, fun e => ?_, fun e => ?_⟩
    · have := HLT.out.1 _ e; omega
    · have := HLT.out.2.1 _ e; omega
    · have := HLT.out.2.2 _ e; omega)
  have hoi13 := hgr13.owns H12.out.2.2.2 (fun k hk h => by have h1 := hS13 k h; simp [Value.ownBlock] at hk; omega)
  have H13 := Lib.hid (show _ ∧ _ ∧ _ ∧ _ from ⟨hk13, hR13, ho13, hoi13⟩)
  clear ho13 hk13 hgr13 hli13 hR13 hoi13 hS13 H12
  have hB13 := Lib.hid H13.out.2.1.old
  -- the document's answers
  go_wp2_with fail
  refine (refIvs_any A' n' c' l w13 (HL.out.1.kept hB13.out) (by omega) HL.out.2.2).mono ?_
  rintro e w14 ⟨vr, rfl, hor, hb14⟩
  rw [HEQ.out.1] at hor
  have hs14 := hb14.size
  have hT14 : T3 w w14 bk _ y va vb vc (.slice (some ⟨g11, 0, none⟩) (0 + 1) c11) (.slice (some ⟨g13, 0, none⟩) (1 + 1) c13) O Wt I := ⟨H13.out.2.1.step hb14, H13.out.1.kept (GrownIn.of_below hb14) (by omega), owns_below H13.out.2.2.2 hb14, owns_below H13.out.2.2.1 hb14⟩
  have H14 := Lib.hid (show _ ∧ _ from ⟨hT14, hor⟩)
  clear hor hb14 hT14 H13
  go_wp2_with fail
  refine (sameI_own H14.out.1.rows.ia H14.out.2 (by omega)).mono ?_
  rintro e w15 ⟨rfl, hb15⟩
  have H15 := Lib.hid (H14.out.1.step hb15)
  clear hb15 H14
  go_wp2_with fail
  refine (refWithout_any A A' n c n' c' s l w15 (HS.out.1.kept H15.out.rows.old) (by omega) (HL.out.1.kept H15.out.rows.old) (by omega)).mono ?_
  rintro e w16 ⟨vr2, rfl, hor, hb16⟩
  rw [HEQ.out.2.1] at hor
  have H16 := Lib.hid (show _ ∧ _ from ⟨H15.out.step hb16, hor⟩)
  clear hor hb16 H15
  go_wp2_with fail
  refine (sameS_own H16.out.1.rows.sb H16.out.2 (by omega)).mono ?_
  rintro e w17 ⟨rfl, hb17⟩
  have H17 := Lib.hid (H16.out.1.step hb17)
  clear hb17 H16
  have d0 := H17.out.rows.b0
  have d1 := H17.out.rows.b1
  go_wp2_with fail
  refine (refWithin_any A n c s y w17 (HS.out.1.kept H17.out.rows.old) (by omega)).mono ?_
  rintro e w18 ⟨vr3, rfl, hor, hb18⟩
  rw [HEQ.out.2.2] at hor
  have H18 := Lib.hid (show _ ∧ _ from ⟨H17.out.step hb18, hor⟩)
  clear hor hb18 H17 d0 d1
  go_wp2_with fail
  refine (sameS_own H18.out.1.rows.sc H18.out.2 (by omega)).mono ?_
  rintro e w19 ⟨rfl, hb19⟩
  have H19 := Lib.hid (H18.out.1.step hb19)
  clear hb19 H18
  go_wp2_with fail
  refine (known17 w19).mono ?_
  rintro e w20 ⟨rfl, hb20⟩
  have H20 := Lib.hid (H19.out.step hb20)
  clear hb20 H19
  go_wp2_with fail
  have hla := HLT.out.1
  have hlb := HLT.out.2.1
  have hlc := HLT.out.2.2
  have hdis : ∀ g, vb.ownBlock = some g → vc.ownBlock ≠ some g := fun g h1 h2 => by have := hlb g h1; have := hlc g h2; omega
  have hLs : Lists w20 (w.heap.size + 1) 94 2 g13 2 (two vb vc) (fun j => if j = 0 then Wt.length else I.length) :=
    lists_two H20.out.rows.sb H20.out.rows.sc hdis (owns_cell H20.out.ls (g := g13) rfl rfl) (owns_cell H20.out.ls (g := g13) rfl rfl) (fun h => by have := hlb _ h; omega) (fun h => by have := hlc _ h; omega)
  have hg13' := (H20.out.ls.lt g13 rfl).2
  have hw20 := H20.out.rows.old.size
  have hbkl := H20.out.book.lt
  have hSin : ∀ k, Among 2 (two vb vc) k → w3.heap.size ≤ k ∧ k < w5.heap.size := by
    rintro k ⟨j, hj, h⟩
    rcases (show j = 0 ∨ j = 1 by omega) with rfl | rfl
    · have := hlb _ h; omega
    · have := hlc _ h; omega
  have hTin : ∀ k, Among 1 (fun _ => va) k → w2.heap.size ≤ k ∧ k < w3.heap.size := by
    rintro k ⟨j, hj, h⟩
    exact hla _ h
  refine (bookOwn_SamplesIntervals bk g13 2 c13 g11 1 c11 (Among 2 (two vb vc)) (Among 1 (fun _ => va)) w20 _ H20.out.book ?_ ?_ ?_ (ownSamples_any (w.heap.size + 1) g13 2 c13 _ _ w20 hLs (by omega) hg13' (by omega) (fun j hj => by split <;> omega)) ?_).mono ?_
  · intro k hk
    by_cases h10 : k = 10
    · subst h10
      simp [nils]
    · by_cases h12 : k = 12
      · subst h12
        simp [nils]
      · rw [if_neg h10, if_neg h12, Array.getElem?_setIfInBounds, if_neg (fun h => h10 h.symm), Array.getElem?_setIfInBounds, if_neg (fun h => h10 h.symm), Array.getElem?_setIfInBounds, if_neg (fun h => h12 h.symm)]
        exact nils_at hk
  · intro h; have := hSin _ h; omega
  · intro h; have := hTin _ h; omega
  · intro wx hgx
    have hva := hgx.owns H20.out.rows.ia (fun k hk hs => by have := hSin k hs; have := hla k hk; omega)
    have hvl := hgx.owns H20.out.li (fun k hk hs => by have := hSin k hs; simp [Value.ownBlock] at hk; omega)
    have hszx := hgx.size
    have hlx := (hvl.lt g11 rfl).2
    exact ownIntervals_any (w.heap.size + 1) g11 1 c11 _ _ wx (lists_one hva (owns_cell hvl (g := g11) rfl rfl) (fun h => by have := hla _ h; omega)) (by omega) hlx (by omega) (fun j hj => by omega)
  · rintro e w21 ⟨rfl, hg21⟩
    have hB21 : Below w.heap.size w w21 := H20.out.rows.old.trans (hg21.below (by
      rintro k (h | h)
      · have := hSin k h; omega
      · have := hTin k h; omega) hw20)
    have HE := Lib.hid hB21
    clear hg21 hB21 hLs hla hlb hlc hdis hSin hTin
    go_wp2
    go_ret
    exact ⟨rfl, HE.out⟩
end Go.Proofs.YtglafbfbgjihbaaGreat
