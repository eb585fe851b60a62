/- LabelsTurns' walk: Get, With, Keep and Without take of any labels what the chapter says; what is handed in stays, what comes out is its owner's. -/
import Derived.Test.YtchggapclmdpaaaGreatDoorTurn9
import Derived.Test.YtchggapclmdpaaaGreatDoorWholeTx
import Derived.Test.YtchggapclmdpaaaGreatDoorKnown7
namespace Go.Proofs.YtchggapclmdpaaaGreatDoor
open Go.RowKit Go.Lib

/-- A lent row of texts, as it lies. -/
theorem lentT_parts {w : World} {B g n c : Nat} {l : List ByteArray} (h : w.ownsRow B 9 1 (.slice (some ⟨g, 0, none⟩) (n + 2) c) (n + 2) ((l ++ [mATx, mBTx]).flatMap encTx)) (hl : l.length = n) :
    Lst encTx 1 w w.heap.size (some ⟨g, 0, none⟩) (n + 2) (l ++ [mATx, mBTx]) ∧ Lst encTx 1 w w.heap.size (some ⟨g, 0, none⟩) n l ∧ n + 2 ≤ c ∧ c ≤ maxLen ∧ ∃ cur, w.heap[g]? = some (.cells cur 9 (0, 0)) ∧ cur.size = c * 1 := by
  obtain ⟨A', c', e', _, h1⟩ := ownsRow_lst h (by simp [hl]) encTx_len
  injection e' with e1 _ _
  subst e1
  have h2 := h1.take (k := n) (by omega)
  rw [List.take_append_of_le_length (by omega), List.take_of_length_le (by omega)] at h2
  have hc := owns_cap h
  refine ⟨h1, h2, hc.2, hc.1, ?_⟩
  rcases h.2 with ⟨h', _⟩ | ⟨_, _, cur, h', _, hh, _, _, hs, _⟩
  · cases h'
  · cases h'; exact ⟨cur, hh, hs⟩
def three (a b c : Value) (j : Nat) : Value := if j = 0 then a else if j = 1 then b else c
theorem lists_three {w : World} {B : Nat} {e : TypeId} {sz BL n m k : Nat} {a b c : Value} {xs ys zs : List Value} (ha : w.ownsRow B e sz a n xs) (hb : w.ownsRow B e sz b m ys) (hc : w.ownsRow B e sz c k zs)
    (hab : ∀ g, a.ownBlock = some g → b.ownBlock ≠ some g) (hac : ∀ g, a.ownBlock = some g → c.ownBlock ≠ some g) (hbc : ∀ g, b.ownBlock = some g → c.ownBlock ≠ some g) (h0 : w.cell? ⟨BL, 0, none⟩ = some a) (h1 : w.cell? ⟨BL, 1, none⟩ = some b) (h2 : w.cell? ⟨BL, 2, none⟩ = some c) (oa : a.ownBlock ≠ some BL) (ob : b.ownBlock ≠ some BL) (oc : c.ownBlock ≠ some BL) :
    Lists w B e sz BL 3 (three a b c) (fun j => if j = 0 then n else if j = 1 then m else k) where
  row j hj := by
    rcases (show j = 0 ∨ j = 1 ∨ j = 2 by omega) with rfl | rfl | rfl
    · exact h0
    · exact h1
    · exact h2
  own j hj := by
    rcases (show j = 0 ∨ j = 1 ∨ j = 2 by omega) with rfl | rfl | rfl
    · exact ⟨xs, ha⟩
    · exact ⟨ys, hb⟩
    · exact ⟨zs, hc⟩
  apart i j hi hj hij g := by
    rcases (show i = 0 ∨ i = 1 ∨ i = 2 by omega) with rfl | rfl | rfl <;> rcases (show j = 0 ∨ j = 1 ∨ j = 2 by omega) with rfl | rfl | rfl
    · exact absurd rfl hij
    · exact hab g
    · exact hac g
    · intro h1 h2; exact hab g h2 h1
    · exact absurd rfl hij
    · exact hbc g
    · intro h1 h2; exact hac g h2 h1
    · intro h1 h2; exact hbc g h2 h1
    · exact absurd rfl hij
  off j hj := by
    rcases (show j = 0 ∨ j = 1 ∨ j = 2 by omega) with rfl | rfl | rfl
    · exact oa
    · exact ob
    · exact oc
/-- The three rows that came out, what was there before. -/
structure R3 (w wi : World) (a b c : Value) (P Q R : List Lb) : Prop where
  old : Below w.heap.size w wi
  sa : wi.ownsRow w.heap.size 94 2 a P.length (P.flatMap Lb.cells)
  sb : wi.ownsRow w.heap.size 94 2 b Q.length (Q.flatMap Lb.cells)
  sc : wi.ownsRow w.heap.size 94 2 c R.length (R.flatMap Lb.cells)
section
variable {w wi wj : World} {a b c : Value} {P Q R : List Lb}
theorem R3.grown (h : R3 w wi a b c P Q R) {S : Nat → Prop} (hg : GrownIn S wi wj) (hS : ∀ k, S k → w.heap.size ≤ k ∧ a.ownBlock ≠ some k ∧ b.ownBlock ≠ some k ∧ c.ownBlock ≠ some k) : R3 w wj a b c P Q R where
  old := h.old.trans (hg.below (fun k hk => (hS k hk).1) h.old.size)
  sa := hg.owns h.sa (fun k hk hs => (hS k hs).2.1 hk)
  sb := hg.owns h.sb (fun k hk hs => (hS k hs).2.2.1 hk)
  sc := hg.owns h.sc (fun k hk hs => (hS k hs).2.2.2 hk)
theorem R3.step (h : R3 w wi a b c P Q R) (hb : Below wi.heap.size wi wj) : R3 w wj a b c P Q R :=
  h.grown (S := fun _ => False) ⟨hb.os, hb.tape, hb.output, hb.size, fun k hk _ => hb.block k hk⟩ (fun _ h => h.elim)
/-- What stands when all is asked: the rows, the book, its list of lists. -/
structure T3 (w wi : World) (bk : Nat) (cs : Array Value) (a b c lv : Value) (P Q R : List Lb) : Prop where
  rows : R3 w wi a b c P Q R
  book : Bk wi bk cs
  list : wi.ownsRow w.heap.size 22 1 lv 3 [a, b, c]
theorem T3.step {bk : Nat} {cs : Array Value} {lv : Value} (h : T3 w wi bk cs a b c lv P Q R) (hb : Below wi.heap.size wi wj) : T3 w wj bk cs a b c lv P Q R where
  rows := h.rows.step hb
  book := h.book.kept (GrownIn.of_below hb) (by have := h.book.lt; omega)
  list := owns_below h.list hb
end
theorem withL_len (l : List Lb) (nm vl : ByteArray) : (withL l nm vl).length ≤ l.length + 1 := by
  have := lessL_len l [nm]
  unfold withL
  split
  · omega
  · rw [intoL_length]; omega
theorem keep_less (l : List Lb) (ns : List ByteArray) : (keepL l ns).length + (lessL l ns).length = l.length := by
  induction l with
  | nil => rfl
  | cons x t ih =>
    unfold keepL lessL at *
    rw [List.filter_cons, List.filter_cons, List.length_cons]
    cases h : inT ns x.nm with
    | true => simp; omega
    | false => simp; omega
set_option maxHeartbeats 8000000 in
set_option maxRecDepth 100000 in
theorem turns_few (A A' : Option Addr) (n c n' c' : Nat) (l : List Lb) (nm vl : ByteArray) (names : List ByteArray) (w : World) (hL : Lst Lb.cells 2 w w.heap.size A n l) (hnil : A = none → n = 0 ∧ c = 0) (hM : Lst encTx 1 w w.heap.size A' n' names) (hnil' : A' = none → n' = 0 ∧ c' = 0)
    (hl : muchB l = false) (hn' : n' ≤ 300) (hnm : nm.size ≤ 20000) (hvl : vl.size ≤ 20000) (hsz : ∀ x ∈ l, x.nm.size ≤ maxLen) (hsz' : ∀ x ∈ names, x.size ≤ maxLen) :
    Calls Tryz.prog 8 #[.slice A n c, .string nm, .string vl, .slice A' n' c'] w fun e w' => e = .returned (.bool true) ∧ Below w.heap.size w w' := by
  have hn : n ≤ 300 := by rw [← hL.1]; exact muchB_len hl
  have hPl := withL_len l nm vl
  have hQR := keep_less l names
  have hll := hL.1
  have q0 : ¬ (300 : Int) < (n' : Int) := by omega
  have q1 : ¬ (20000 : Int) < (nm.size : Int) := by omega
  have q2 : ¬ (20000 : Int) < (vl.size : Int) := by omega
  have hnm' : nm.size ≤ maxLen := by unfold maxLen; omega
  have HL := Lib.hid (show _ ∧ _ ∧ _ from ⟨hL, hnil, hsz⟩)
  have HM := Lib.hid (show _ ∧ _ ∧ _ from ⟨hM, hnil', hsz'⟩)
  have HB := Lib.hid (show _ ∧ _ from ⟨hl, hnm'⟩)
  clear hL hnil hM hl hsz hsz' hnm' hnil'
  go_enter Tryz.func8, Tryz.ntmps8
  go_wp2_with fail
  refine (much_any A n c l w HL.out.1 (by omega)).mono ?_
  rw [HB.out.1]
  rintro e w0 ⟨rfl, q1', hq1⟩
  have B0 : Hid (Below w.heap.size w w0) := Lib.hid (hq1 ▸ below_drewN (Below.refl _ _) q1')
  clear hq1
  go_wp2_with fail
  refine (lentLabel_any A n c l w0 (HL.out.1.on B0.out) HL.out.2.1 (by omega)).mono ?_
  rintro e w1 ⟨g1, cg1, rfl, hr1, hb1⟩
  have hs0 := B0.out.size
  have hs1 := hb1.size
  have hg1 := hr1.lt g1 rfl
  have P1 := Lib.hid (lentL_parts hr1 HL.out.1.1)
  have H1 := Lib.hid (B0.out.trans (hb1.mono hs0))
  clear hr1 hb1
  go_wp2_with fail
  refine (lentTx_any A' n' c' names w1 (HM.out.1.on H1.out) HM.out.2.1 (by omega)).mono ?_
  rintro e w2 ⟨g2, cg2, rfl, hr2, hb2⟩
  have hs2 := hb2.size
  have hg2 := hr2.lt g2 rfl
  have P2 := Lib.hid (lentT_parts hr2 HM.out.1.1)
  have H2 := Lib.hid (show _ ∧ Below w.heap.size w w2 from ⟨hb2, H1.out.trans (hb2.mono H1.out.size)⟩)
  clear hr2 hb2 H1
  obtain ⟨P, hP⟩ : ∃ P, withL l nm vl = P := ⟨_, rfl⟩
  obtain ⟨Q, hQ⟩ : ∃ Q, keepL l names = Q := ⟨_, rfl⟩
  obtain ⟨R, hR⟩ : ∃ R, lessL l names = R := ⟨_, rfl⟩
  obtain ⟨V, hV⟩ : ∃ V, getL l nm = V := ⟨_, rfl⟩
  rw [hP] at hPl
  rw [hQ, hR] at hQR
  have HS := Lib.hid (show _ ∧ _ ∧ _ ∧ _ from ⟨hP, hQ, hR, hV⟩)
  clear hP hQ hR hV
  go_wp2_with fail
  refine (with_any (some ⟨g1, 0, none⟩) n cg1 l nm vl w2 (P1.out.2.1.on H2.out.1) (by omega) HL.out.2.2 HB.out.2).mono ?_
  rintro e w3 ⟨va, rfl, ha, hb3⟩
  rw [HS.out.1] at ha
  have hs3 := hb3.size
  have hla : ∀ b, va.ownBlock = some b → w2.heap.size ≤ b ∧ b < w3.heap.size := fun b h => ha.lt b h
  have H3 := Lib.hid (show _ ∧ Below w1.heap.size w1 w3 ∧ Below w2.heap.size w2 w3 ∧ Below w.heap.size w w3 from ⟨ha, H2.out.1.trans (hb3.mono hs2), hb3, H2.out.2.trans (hb3.mono H2.out.2.size)⟩)
  have HLa := Lib.hid hla
  clear ha hb3 hla H2
  go_wp2_with fail
  refine (keep_any (some ⟨g1, 0, none⟩) (some ⟨g2, 0, none⟩) n cg1 n' cg2 l names w3 (P1.out.2.1.on H3.out.2.1) (P2.out.2.1.on H3.out.2.2.1) (by omega) (by omega) HL.out.2.2 HM.out.2.2).mono ?_
  rintro e w4 ⟨vb, rfl, hbr, hb4⟩
  rw [HS.out.2.1] at hbr
  have hs4 := hb4.size
  obtain ⟨Ab, cb, rfl, _, _⟩ := owns_slice hbr
  have hlb : ∀ b, (Value.slice Ab Q.length cb).ownBlock = some b → w3.heap.size ≤ b ∧ b < w4.heap.size := fun b h => hbr.lt b h
  have H4 := Lib.hid (show _ ∧ _ ∧ Below w1.heap.size w1 w4 ∧ Below w2.heap.size w2 w4 ∧ Below w.heap.size w w4 from ⟨owns_below H3.out.1 hb4, hbr, H3.out.2.1.trans (hb4.mono (by omega)), H3.out.2.2.1.trans (hb4.mono (by omega)), H3.out.2.2.2.trans (hb4.mono H3.out.2.2.2.size)⟩)
  have HLb := Lib.hid hlb
  clear hbr hb4 hlb H3
  go_wp2_with fail
  refine (without_any (some ⟨g1, 0, none⟩) (some ⟨g2, 0, none⟩) n cg1 n' cg2 l names w4 (P1.out.2.1.on H4.out.2.2.1) (P2.out.2.1.on H4.out.2.2.2.1) (by omega) (by omega) HL.out.2.2 HM.out.2.2).mono ?_
  rintro e w5 ⟨vc, rfl, hcr, hb5⟩
  rw [HS.out.2.2.1] at hcr
  have hs5 := hb5.size
  obtain ⟨Ac, cc, rfl, _, _⟩ := owns_slice hcr
  have hlc : ∀ b, (Value.slice Ac R.length cc).ownBlock = some b → w4.heap.size ≤ b ∧ b < w5.heap.size := fun b h => hcr.lt b h
  have hR5 : R3 w w5 va (.slice Ab Q.length cb) (.slice Ac R.length cc) P Q R := ⟨H4.out.2.2.2.2.trans (hb5.mono H4.out.2.2.2.2.size), owns_base (owns_below H4.out.1 hb5) (by omega), owns_base (owns_below H4.out.2.1 hb5) (by omega), owns_base hcr (by omega)⟩
  have H5 := Lib.hid (show _ ∧ Below w1.heap.size w1 w5 ∧ Below w2.heap.size w2 w5 from ⟨hR5, H4.out.2.2.1.trans (hb5.mono (by omega)), H4.out.2.2.2.1.trans (hb5.mono (by omega))⟩)
  have HLc := Lib.hid hlc
  clear hcr hb5 hlc H4 hR5
  go_wp2_with fail
  refine (get_any (some ⟨g1, 0, none⟩) n cg1 l nm w5 (P1.out.2.1.on H5.out.2.1) (by omega)).mono ?_
  rw [HS.out.2.2.2]
  rintro e w6 ⟨rfl, hb6⟩
  have hs6 := hb6.size
  have H6 := Lib.hid (show _ ∧ Below w1.heap.size w1 w6 ∧ Below w2.heap.size w2 w6 from ⟨H5.out.1.step hb6, H5.out.2.1.trans (hb6.mono (by omega)), H5.out.2.2.trans (hb6.mono (by omega))⟩)
  clear hb6 H5
  go_wp2_with fail
  refine (wholeLabel_eq g1 cg1 A n c l w6 (P1.out.1.on H6.out.2.1) P1.out.2.2.1 (HL.out.1.on H6.out.1.old) (by omega)).mono ?_
  rintro e w7 ⟨rfl, hb7⟩
  have hs7 := hb7.size
  have H7 := Lib.hid (show _ ∧ Below w1.heap.size w1 w7 ∧ Below w2.heap.size w2 w7 from ⟨H6.out.1.step hb7, H6.out.2.1.trans (hb7.mono (by omega)), H6.out.2.2.trans (hb7.mono (by omega))⟩)
  clear hb7 H6
  go_wp2_with fail
  refine (wholeTx_eq g2 cg2 A' n' c' names w7 (P2.out.1.on H7.out.2.2) P2.out.2.2.1 (HM.out.1.on H7.out.1.old) (by omega)).mono ?_
  rintro e w8 ⟨rfl, hb8⟩
  have hs8 := hb8.size
  obtain ⟨cur1, hc1, hz1⟩ := P1.out.2.2.2.2
  obtain ⟨cur2, hc2, hz2⟩ := P2.out.2.2.2.2
  have hb18 : Below w1.heap.size w1 w8 := H7.out.2.1.trans (hb8.mono (by omega))
  have hb28 : Below w2.heap.size w2 w8 := H7.out.2.2.trans (hb8.mono (by omega))
  have h81 := (hb18.block g1 (by omega)).trans hc1
  have h82 := (hb28.block g2 (by omega)).trans hc2
  have H8 := Lib.hid (show _ ∧ _ ∧ _ ∧ _ ∧ _ from ⟨H7.out.1.step hb8, h81, hz1, h82, hz2⟩)
  clear hb8 hb18 hb28 hc1 hz1 hc2 hz2 h81 h82 H7
  go_wp2_with fail
  refine (spoilLabel_any g1 n cg1 cur1 w8 H8.out.2.1 H8.out.2.2.1 (by have := P1.out.2.2.1; omega) P1.out.2.2.2.1).mono ?_
  rintro e w9 ⟨rfl, hg9⟩
  have hs9 := hg9.size
  have hR9 : R3 w w9 va (.slice Ab Q.length cb) (.slice Ac R.length cc) P Q R := H8.out.1.grown (GrownIn.of_grownBy hg9) (fun k hk => by
    injection hk with hk
    subst hk
    refine ⟨by omega, fun e => ?_, fun e => ?_, fun e => ?_⟩
    · have := HLa.out _ e; omega
    · have := HLb.out _ e; omega
    · have := HLc.out _ e; omega)
  have h92 := (hg9.block g2 (by omega) (fun e => by injection e with e; omega)).trans H8.out.2.2.2.1
  have H9 := Lib.hid (show _ ∧ _ ∧ _ from ⟨hR9, h92, H8.out.2.2.2.2⟩)
  clear hg9 hR9 h92 H8
  go_wp2_with fail
  refine (spoilTx_any g2 n' cg2 cur2 w9 H9.out.2.1 H9.out.2.2 (by have := P2.out.2.2.1; omega) P2.out.2.2.2.1).mono ?_
  rintro e w10 ⟨rfl, hg10⟩
  have hs10 := hg10.size
  have hR10 : R3 w w10 va (.slice Ab Q.length cb) (.slice Ac R.length cc) P Q R := H9.out.1.grown (GrownIn.of_grownBy hg10) (fun k hk => by
    injection hk with hk
    subst hk
    refine ⟨by omega, fun e => ?_, fun e => ?_, fun e => ?_⟩
    · have := HLa.out _ e; omega
    · have := HLb.out _ e; omega
    · have := HLc.out _ e; omega)
  have H10 := Lib.hid hR10
  clear hg10 hR10 H9
  go_wp2_with fail
  have hbk : Bk (w10.alloc (.cells nils 73)) w10.heap.size nils := ⟨heap_alloc_new _ _, rfl⟩
  have hb11 : Below w10.heap.size w10 (w10.alloc (.cells nils 73)) := (Below.refl _ _).alloc (Nat.le_refl _) _
  have hs11 : (w10.alloc (.cells nils 73)).heap.size = w10.heap.size + 1 := by simp
  change Calls _ _ _ (w10.alloc (.cells nils 73)) _
  generalize w10.alloc (.cells nils 73) = w11 at hbk hb11 hs11 ⊢
  obtain ⟨bk, hbkn⟩ : ∃ bk, w10.heap.size = bk := ⟨_, rfl⟩
  rw [hbkn] at hbk ⊢
  have H11 := Lib.hid (show _ ∧ _ from ⟨hbk, H10.out.step hb11⟩)
  clear hbk hb11 H10
  refine (bookL_own bk w.heap.size 0 nils (.slice none 0 0) va [] w11 H11.out.1 rfl (World.ownsRow_nil _ _ _ _) (by simp [Value.ownBlock]) (by omega) (by omega) H11.out.2.sa).mono ?_
  rintro e w12 ⟨rfl, g12, c12, ho12, hk12, hgr12, hli12⟩
  have hs12 := hgr12.size
  have hg12 : w11.heap.size ≤ g12 := by
    rcases hli12 with h | h
    · cases h
    · exact h
  have hg12l := (ho12.lt g12 rfl).2
  have hS12 : ∀ k, (k = bk ∨ (Value.slice none 0 0).ownBlock = some k) → k = bk := fun k hk => hk.elim id (fun h => by cases h)
  have hR12 : R3 w w12 va (.slice Ab Q.length cb) (.slice Ac R.length cc) P Q R := H11.out.2.grown hgr12 (fun k hk => by
    have hkk := hS12 k hk
    refine ⟨by omega, fun e => ?_, fun e => ?_, fun e => ?_⟩
    · have := HLa.out _ e; omega
    · have := HLb.out _ e; omega
    · have := HLc.out _ e; omega)
  have hne12 : g12 ≠ bk := by omega
  have H12 := Lib.hid (show _ ∧ _ ∧ _ from ⟨hk12, hR12, ho12⟩)
  clear ho12 hk12 hgr12 hli12 hR12 hS12 H11
  go_wp2_with fail
  refine (bookL_own bk w.heap.size 1 _ (.slice (some ⟨g12, 0, none⟩) (0 + 1) c12) (.slice Ab Q.length cb) _ w12 H12.out.1 rfl H12.out.2.2 (by simp [Value.ownBlock]; exact hne12) (by omega) (by omega) H12.out.2.1.sb).mono ?_
  rintro e w13 ⟨rfl, g13, c13, ho13, hk13, hgr13, hli13⟩
  have hs13 := hgr13.size
  have hg13 : w11.heap.size ≤ g13 := by
    rcases hli13 with h | h
    · simp [Value.ownBlock] at h; omega
    · omega
  have hg13l := (ho13.lt g13 rfl).2
  have hS13 : ∀ k, (k = bk ∨ (Value.slice (some ⟨g12, 0, none⟩) (0 + 1) c12).ownBlock = some k) → k = bk ∨ k = g12 := fun k hk => hk.imp id (fun h => by simp [Value.ownBlock] at h; omega)
  have hR13 : R3 w w13 va (.slice Ab Q.length cb) (.slice Ac R.length cc) P Q R := H12.out.2.1.grown hgr13 (fun k hk => by
    have hkk := hS13 k hk
    refine ⟨by omega, fun e => ?_, fun e => ?_, fun e => ?_⟩
    · have := HLa.out _ e; omega
    · have := HLb.out _ e; omega
    · have := HLc.out _ e; omega)
  have hne13 : g13 ≠ bk := by omega
  have H13 := Lib.hid (show _ ∧ _ ∧ _ from ⟨hk13, hR13, ho13⟩)
  clear ho13 hk13 hgr13 hli13 hR13 hS13 H12
  go_wp2_with fail
  refine (bookL_own bk w.heap.size 2 _ (.slice (some ⟨g13, 0, none⟩) (1 + 1) c13) (.slice Ac R.length cc) _ w13 H13.out.1 rfl H13.out.2.2 (by simp [Value.ownBlock]; exact hne13) (by omega) (by omega) H13.out.2.1.sc).mono ?_
  rintro e w14 ⟨rfl, g14, c14, ho14, hk14, hgr14, hli14⟩
  have hs14 := hgr14.size
  have hg14 : w11.heap.size ≤ g14 := by
    rcases hli14 with h | h
    · simp [Value.ownBlock] at h; omega
    · omega
  have hg14l := (ho14.lt g14 rfl).2
  have hS14 : ∀ k, (k = bk ∨ (Value.slice (some ⟨g13, 0, none⟩) (1 + 1) c13).ownBlock = some k) → k = bk ∨ k = g13 := fun k hk => hk.imp id (fun h => by simp [Value.ownBlock] at h; omega)
  have hR14 : R3 w w14 va (.slice Ab Q.length cb) (.slice Ac R.length cc) P Q R := H13.out.2.1.grown hgr14 (fun k hk => by
    have hkk := hS14 k hk
    refine ⟨by omega, fun e => ?_, fun e => ?_, fun e => ?_⟩
    · have := HLa.out _ e; omega
    · have := HLb.out _ e; omega
    · have := HLc.out _ e; omega)
  have hne14 : g14 ≠ bk := by omega
  have hT14 : T3 w w14 bk _ va (.slice Ab Q.length cb) (.slice Ac R.length cc) (.slice (some ⟨g14, 0, none⟩) (2 + 1) c14) P Q R := ⟨hR14, hk14, ho14⟩
  have H14 := Lib.hid hT14
  clear ho14 hk14 hgr14 hli14 hR14 hS14 hT14 H13
  go_wp2_with fail
  refine (refWith_any A n c l nm vl w14 (HL.out.1.on H14.out.rows.old) (by omega)).mono ?_
  rintro e w15 ⟨vr, rfl, hr, hb15⟩
  rw [HS.out.1] at hr
  have H15 := Lib.hid (show _ ∧ _ from ⟨H14.out.step hb15, hr⟩)
  clear hr hb15 H14
  go_wp2_with fail
  refine (sameL_own H15.out.1.rows.sa H15.out.2 (by omega)).mono ?_
  rintro e w16 ⟨rfl, hb16⟩
  have H16 := Lib.hid (H15.out.1.step hb16)
  clear hb16 H15
  go_wp2_with fail
  refine (refKeep_any A A' n c n' c' l names w16 (HL.out.1.on H16.out.rows.old) (HM.out.1.on H16.out.rows.old) (by omega) (by omega)).mono ?_
  rintro e w17 ⟨vr2, rfl, hr, hb17⟩
  rw [HS.out.2.1] at hr
  have H17 := Lib.hid (show _ ∧ _ from ⟨H16.out.step hb17, hr⟩)
  clear hr hb17 H16
  go_wp2_with fail
  refine (sameL_own H17.out.1.rows.sb H17.out.2 (by omega)).mono ?_
  rintro e w18 ⟨rfl, hb18⟩
  have H18 := Lib.hid (H17.out.1.step hb18)
  clear hb18 H17
  go_wp2_with fail
  refine (refWithout_any A A' n c n' c' l names w18 (HL.out.1.on H18.out.rows.old) (HM.out.1.on H18.out.rows.old) (by omega) (by omega)).mono ?_
  rintro e w19 ⟨vr3, rfl, hr, hb19⟩
  rw [HS.out.2.2.1] at hr
  have H19 := Lib.hid (show _ ∧ _ from ⟨H18.out.step hb19, hr⟩)
  clear hr hb19 H18
  go_wp2_with fail
  refine (sameL_own H19.out.1.rows.sc H19.out.2 (by omega)).mono ?_
  rintro e w20 ⟨rfl, hb20⟩
  have H20 := Lib.hid (H19.out.1.step hb20)
  clear hb20 H19
  go_wp2_with fail
  refine (known7 _).mono ?_
  rintro e w21 ⟨rfl, hb21⟩
  have H21 := Lib.hid (H20.out.step hb21)
  clear hb21 H20
  go_wp2_with fail
  refine (refGet_any A n c l nm w21 (HL.out.1.on H21.out.rows.old) (by omega)).mono ?_
  rw [HS.out.2.2.2]
  rintro e w22 ⟨rfl, hb22⟩
  have H22 := Lib.hid (H21.out.step hb22)
  clear hb22 H21
  have hsum : IntKind.i64.wrap ((Q.length : Int) + (R.length : Int)) = (n : Int) := by
    rw [show (Q.length : Int) + (R.length : Int) = (n : Int) by omega]
    exact IntWalk.i64_in _ (by omega)
  go_wp2_with fail
  have hLs : Lists w22 w.heap.size 94 2 g14 3 (three va (.slice Ab Q.length cb) (.slice Ac R.length cc)) (fun j => if j = 0 then P.length else if j = 1 then Q.length else R.length) :=
    lists_three H22.out.rows.sa H22.out.rows.sb H22.out.rows.sc (fun b h1 h2 => by have := HLa.out _ h1; have := HLb.out _ h2; omega) (fun b h1 h2 => by have := HLa.out _ h1; have := HLc.out _ h2; omega) (fun b h1 h2 => by have := HLb.out _ h1; have := HLc.out _ h2; omega)
      (owns_cell H22.out.list (g := g14) rfl rfl) (owns_cell H22.out.list (g := g14) rfl rfl) (owns_cell H22.out.list (g := g14) rfl rfl) (fun h => by have := HLa.out _ h; omega) (fun h => by have := HLb.out _ h; omega) (fun h => by have := HLc.out _ h; omega)
  have hg14' := (H22.out.list.lt g14 rfl).2
  have hw22 := H22.out.rows.old.size
  have hin : ∀ k, Among 3 (three va (.slice Ab Q.length cb) (.slice Ac R.length cc)) k → w2.heap.size ≤ k ∧ k < w5.heap.size := by
    rintro k ⟨j, hj, h⟩
    rcases (show j = 0 ∨ j = 1 ∨ j = 2 by omega) with rfl | rfl | rfl
    · have := HLa.out _ h; omega
    · have := HLb.out _ h; omega
    · have := HLc.out _ h; omega
  refine (bookOwn_Labels bk g14 3 c14 (Among 3 (three va (.slice Ab Q.length cb) (.slice Ac R.length cc))) w22 _ H22.out.book ?_ ?_ (ownLabels_any w.heap.size g14 3 c14 _ _ w22 hLs hw22 hg14' (by omega) (fun j hj => by split; omega; split <;> omega))).mono ?_
  · intro k hk
    by_cases h2 : k = 9
    · subst h2
      simp [nils]
    · rw [if_neg h2, Array.getElem?_setIfInBounds, if_neg (fun h => h2 h.symm), Array.getElem?_setIfInBounds, if_neg (fun h => h2 h.symm), Array.getElem?_setIfInBounds, if_neg (fun h => h2 h.symm)]
      exact nils_at hk
  · intro h
    have := hin _ h; omega
  · rintro e w23 ⟨rfl, hg23⟩
    have hB23 : Below w.heap.size w w23 := H22.out.rows.old.trans (hg23.below (fun k hk => by have := hin _ hk; omega) hw22)
    have HE := Lib.hid hB23
    clear hg23 hB23 hLs hin
    go_wp2
    go_ret
    exact ⟨rfl, HE.out⟩
set_option maxHeartbeats 2000000 in
set_option maxRecDepth 100000 in
theorem turns_any (A A' : Option Addr) (n c n' c' : Nat) (l : List Lb) (nm vl : ByteArray) (names : List ByteArray) (w : World) (hL : Lst Lb.cells 2 w w.heap.size A n l) (hnil : A = none → n = 0 ∧ c = 0) (hM : Lst encTx 1 w w.heap.size A' n' names) (hnil' : A' = none → n' = 0 ∧ c' = 0)
    (hn : n ≤ 9223372036854775807) (hsz : ∀ x ∈ l, x.nm.size ≤ maxLen) (hsz' : ∀ x ∈ names, x.size ≤ maxLen) :
    Calls Tryz.prog 8 #[.slice A n c, .string nm, .string vl, .slice A' n' c'] w fun e w' => e = .returned (.bool true) ∧ Below w.heap.size w w' := by
  by_cases hbad : muchB l = true ∨ 300 < n' ∨ 20000 < nm.size ∨ 20000 < vl.size
  · have hm := much_any A n c l w hL hn
    have HM := Lib.hid hm
    clear hm hL hM hnil hnil' hsz hsz'
    by_cases h1 : muchB l = true
    · rw [h1] at HM
      go_enter Tryz.func8, Tryz.ntmps8
      go_wp2_with (go_at_call 9; refine HM.out.mono ?_; rintro e w1 ⟨rfl, q, rfl⟩)
      go_ret
      exact ⟨rfl, below_drewN (Below.refl _ _) q⟩
    · have h1' : muchB l = false := by simpa using h1
      rw [h1'] at HM hbad
      by_cases h2 : 300 < n'
      · have q0 : (300 : Int) < (n' : Int) := by omega
        clear hbad
        go_enter Tryz.func8, Tryz.ntmps8
        go_wp2_with (go_at_call 9; refine HM.out.mono ?_; rintro e w1 ⟨rfl, q, rfl⟩)
        go_ret
        exact ⟨rfl, below_drewN (Below.refl _ _) q⟩
      · have q0 : ¬ (300 : Int) < (n' : Int) := by omega
        by_cases h3 : 20000 < nm.size
        · have q1 : (20000 : Int) < (nm.size : Int) := by omega
          clear hbad
          go_enter Tryz.func8, Tryz.ntmps8
          go_wp2_with (go_at_call 9; refine HM.out.mono ?_; rintro e w1 ⟨rfl, q, rfl⟩)
          go_ret
          exact ⟨rfl, below_drewN (Below.refl _ _) q⟩
        · have q1 : ¬ (20000 : Int) < (nm.size : Int) := by omega
          have q2 : (20000 : Int) < (vl.size : Int) := by
            rcases hbad with h | h | h | h
            · cases h
            · omega
            · omega
            · omega
          clear hbad
          go_enter Tryz.func8, Tryz.ntmps8
          go_wp2_with (go_at_call 9; refine HM.out.mono ?_; rintro e w1 ⟨rfl, q, rfl⟩)
          go_ret
          exact ⟨rfl, below_drewN (Below.refl _ _) q⟩
  · have h1 : muchB l = false := by
      cases h : muchB l with
      | false => rfl
      | true => exact absurd (.inl h) hbad
    have h2 : ¬ 300 < n' := fun h => hbad (.inr (.inl h))
    have h3 : ¬ 20000 < nm.size := fun h => hbad (.inr (.inr (.inl h)))
    have h4 : ¬ 20000 < vl.size := fun h => hbad (.inr (.inr (.inr h)))
    exact turns_few A A' n c n' c' l nm vl names w hL hnil hM hnil' h1 (by omega) (by omega) (by omega) hsz hsz'
end Go.Proofs.YtchggapclmdpaaaGreatDoor
