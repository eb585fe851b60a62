/- LabelsSets' walk: Check, Set and Cmp say what the chapter says; what is handed in stays, what comes out is its owner's. -/
import Derived.Test.YtchggapclmdpaaaGreatDoorOrder7
import Derived.Test.YtchggapclmdpaaaGreatDoorRefSet
import Derived.Test.YtchggapclmdpaaaGreatDoorRefCheck
import Derived.Test.YtchggapclmdpaaaGreatDoorRefCmp
import Derived.Test.YtchggapclmdpaaaGreatDoorGs
import Derived.Test.YtchggapclmdpaaaGreatDoorOwnBookL
namespace Go.Proofs.YtchggapclmdpaaaGreatDoor
open Go.RowKit Go.Lib

def nils : Array Value := (List.replicate 32 (Value.slice none 0 0)).toArray
theorem nils_at {k : Nat} (hk : k < 32) : nils[k]? = some (.slice none 0 0) := by unfold nils; rw [List.getElem?_toArray, List.getElem?_replicate, if_pos hk]
theorem Lst.on {α : Type} {enc : α → List Value} {size : Nat} {w W : World} {A : Option Addr} {n : Nat} {l : List α} (h : Lst enc size w w.heap.size A n l) (hb : Below w.heap.size w W) : Lst enc size W W.heap.size A n l := (h.below hb).more hb.size
/-- What Set hands back, an error or no. -/
def setR (l : List Lb) : List Lb := if setE l = 0 then setL l else []
def RowOf (R : List Lb) (E : Int) (w : World) (e : Ending) (w' : World) : Prop := ∃ v, e = .returned (.tuple #[v, .int .u16 E]) ∧ w'.ownsRow w.heap.size 94 2 v R.length (R.flatMap Lb.cells) ∧ Below w.heap.size w w'
theorem set_row {l : List Lb} {w : World} {e : Ending} {w' : World} (h : SetPost l w e w') : RowOf (setR l) (setE l) w e w' := by
  obtain ⟨v, rfl, hb, h1, h2⟩ := h
  by_cases h0 : setE l = 0
  · refine ⟨v, rfl, ?_, hb⟩
    unfold setR
    rw [if_pos h0]
    exact h2 h0
  · obtain rfl := h1 h0
    refine ⟨_, rfl, ?_, hb⟩
    unfold setR
    rw [if_neg h0]
    exact World.ownsRow_nil _ _ _ _
theorem setR_length (l : List Lb) : (setR l).length ≤ l.length := by
  unfold setR
  split
  · rw [setL_length]; exact List.length_filter_le _ _
  · simp
theorem sameL_own {a b : Value} {B B' n : Nat} {l : List Lb} {w : World} (ha : w.ownsRow B 94 2 a n (l.flatMap Lb.cells)) (hb : w.ownsRow B' 94 2 b n (l.flatMap Lb.cells)) (hn : n ≤ 1000000) :
    Calls Tryz.prog 15 #[a, b] w fun e w' => e = .returned (.bool true) ∧ Below w.heap.size w w' := by
  have hl := owns_len ha Lb.len (by omega)
  obtain ⟨A, c, rfl, _, h1⟩ := ownsRow_lst ha hl Lb.len
  obtain ⟨A', c', rfl, _, h2⟩ := ownsRow_lst hb hl Lb.len
  exact (sameLabel_q A A' n c c' l w h1 h2 (by omega)).mono fun _ _ ⟨h1, h2⟩ => ⟨h1, below_drewLabel h2⟩
/-- A lent row, as it lies. -/
theorem lentL_parts {w : World} {B g n c : Nat} {l : List Lb} (h : w.ownsRow B 94 2 (.slice (some ⟨g, 0, none⟩) (n + 2) c) (n + 2) ((l ++ [mALabel, mBLabel]).flatMap Lb.cells)) (hl : l.length = n) :
    Lst Lb.cells 2 w w.heap.size (some ⟨g, 0, none⟩) (n + 2) (l ++ [mALabel, mBLabel]) ∧ Lst Lb.cells 2 w w.heap.size (some ⟨g, 0, none⟩) n l ∧ n + 2 ≤ c ∧ c ≤ maxLen ∧ ∃ cur, w.heap[g]? = some (.cells cur 94 (0, 0)) ∧ cur.size = c * 2 := by
  obtain ⟨A', c', e', _, h1⟩ := ownsRow_lst h (by simp [hl]) Lb.len
  injection e' with e1 _ _
  subst e1
  have h2 := h1.take (k := n) (by omega)
  rw [List.take_append_of_le_length (by omega), List.take_of_length_le (by omega)] at h2
  have hc := owns_cap h
  refine ⟨h1, h2, hc.2, hc.1, ?_⟩
  rcases h.2 with ⟨h', _⟩ | ⟨_, _, cur, h', _, hh, _, _, hs, _⟩
  · cases h'
  · cases h'; exact ⟨cur, hh, hs⟩
theorem bookL_own (bk B m : Nat) (cs : Array Value) (v a : Value) (Ls : List Value) (w : World) (hb : Bk w bk cs) (hv : cs[9]? = some v) (ho : w.ownsRow B 22 1 v m Ls) (hne : v.ownBlock ≠ some bk) (hB : B ≤ w.heap.size) (hm : m ≤ 1000000) {B' n : Nat} {xs : List Value} (ha : w.ownsRow B' 94 2 a n xs) :
    Calls Tryz.prog 25 #[.pointer (some ⟨bk, 0, none⟩), a] w (PutPost w bk B m 9 22 cs v a Ls) := by
  obtain ⟨A, c, rfl, _, _⟩ := owns_slice ha
  exact bookLabels bk B m cs v A n c Ls w hb hv ho hne hB hm
def two (a b : Value) (j : Nat) : Value := if j = 0 then a else b
theorem lists_two {w : World} {B : Nat} {e : TypeId} {sz BL n m : Nat} {a b : Value} {xs ys : List Value} (ha : w.ownsRow B e sz a n xs) (hb : w.ownsRow B e sz b m ys)
    (hne : ∀ g, a.ownBlock = some g → b.ownBlock ≠ some g) (h0 : w.cell? ⟨BL, 0, none⟩ = some a) (h1 : w.cell? ⟨BL, 1, none⟩ = some b) (oa : a.ownBlock ≠ some BL) (ob : b.ownBlock ≠ some BL) :
    Lists w B e sz BL 2 (two a b) (fun j => if j = 0 then n else m) where
  row j hj := by
    rcases (show j = 0 ∨ j = 1 by omega) with rfl | rfl
    · exact h0
    · exact h1
  own j hj := by
    rcases (show j = 0 ∨ j = 1 by omega) with rfl | rfl
    · exact ⟨xs, ha⟩
    · exact ⟨ys, hb⟩
  apart i j hi hj hij g := by
    rcases (show i = 0 ∨ i = 1 by omega) with rfl | rfl <;> rcases (show j = 0 ∨ j = 1 by omega) with rfl | rfl
    · exact absurd rfl hij
    · exact hne g
    · intro h1 h2; exact hne g h2 h1
    · exact absurd rfl hij
  off j hj := by
    rcases (show j = 0 ∨ j = 1 by omega) with rfl | rfl
    · exact oa
    · exact ob
/-- The two rows that came out, what was there before. -/
structure R2 (w wi : World) (a b : Value) (R : List Lb) : Prop where
  old : Below w.heap.size w wi
  sa : wi.ownsRow w.heap.size 94 2 a R.length (R.flatMap Lb.cells)
  sb : wi.ownsRow w.heap.size 94 2 b R.length (R.flatMap Lb.cells)
section
variable {w wi wj : World} {a b : Value} {R : List Lb}
theorem R2.grown (h : R2 w wi a b R) {S : Nat → Prop} (hg : GrownIn S wi wj) (hS : ∀ k, S k → w.heap.size ≤ k ∧ a.ownBlock ≠ some k ∧ b.ownBlock ≠ some k) : R2 w wj a b R where
  old := h.old.trans (hg.below (fun k hk => (hS k hk).1) h.old.size)
  sa := hg.owns h.sa (fun k hk hs => (hS k hs).2.1 hk)
  sb := hg.owns h.sb (fun k hk hs => (hS k hs).2.2 hk)
theorem R2.step (h : R2 w wi a b R) (hb : Below wi.heap.size wi wj) : R2 w wj a b R :=
  h.grown (S := fun _ => False) ⟨hb.os, hb.tape, hb.output, hb.size, fun k hk _ => hb.block k hk⟩ (fun _ h => h.elim)
/-- What stands when all is asked: the rows, the book, its list of lists. -/
structure T2 (w wi : World) (bk : Nat) (cs : Array Value) (a b lv : Value) (R : List Lb) : Prop where
  rows : R2 w wi a b R
  book : Bk wi bk cs
  list : wi.ownsRow w.heap.size 22 1 lv 2 [a, b]
theorem T2.step {bk : Nat} {cs : Array Value} {lv : Value} (h : T2 w wi bk cs a b lv R) (hb : Below wi.heap.size wi wj) : T2 w wj bk cs a b lv R where
  rows := h.rows.step hb
  book := h.book.kept (GrownIn.of_below hb) (by have := h.book.lt; omega)
  list := owns_below h.list hb
end
set_option maxHeartbeats 4000000 in
set_option maxRecDepth 100000 in
theorem sets_few (A A' : Option Addr) (n c n' c' : Nat) (l m : List Lb) (w : World) (hL : Lst Lb.cells 2 w w.heap.size A n l) (hnil : A = none → n = 0 ∧ c = 0) (hM : Lst Lb.cells 2 w w.heap.size A' n' m) (hl : muchB l = false) (hm : muchB m = false) :
    Calls Tryz.prog 4 #[.slice A n c, .slice A' n' c'] w fun e w' => e = .returned (.bool true) ∧ Below w.heap.size w w' := by
  have hn : n ≤ 300 := by rw [← hL.1]; exact muchB_len hl
  have hn' : n' ≤ 300 := by rw [← hM.1]; exact muchB_len hm
  have hRl : (setR l).length ≤ 300 := by have := setR_length l; have := hL.1; omega
  have hrg := labelsC_range l m
  have hsw := labelsC_cmp3.swap l m
  have HL := Lib.hid (show _ ∧ _ from ⟨hL, hnil⟩)
  have HM := Lib.hid hM
  have HB := Lib.hid (show _ ∧ _ from ⟨hl, hm⟩)
  clear hL hnil hM hl hm
  go_enter Tryz.func4, Tryz.ntmps4
  go_wp2_with fail
  refine (much_any A n c l w HL.out.1 (by omega)).mono ?_
  rw [HB.out.1]
  rintro e wa ⟨rfl, q1, hq1⟩
  have Ba : Hid (Below w.heap.size w wa) := Lib.hid (hq1 ▸ below_drewN (Below.refl _ _) q1)
  clear hq1
  go_wp2_with fail
  refine (much_any A' n' c' m wa (HM.out.on Ba.out) (by omega)).mono ?_
  rw [HB.out.2]
  rintro e w0 ⟨rfl, q2, hq2⟩
  have B0 : Hid (Below w.heap.size w w0) := Lib.hid (hq2 ▸ below_drewN Ba.out q2)
  clear hq2
  go_wp2_with fail
  refine (lentLabel_any A n c l w0 (HL.out.1.on B0.out) HL.out.2 (by omega)).mono ?_
  rintro e w1 ⟨g1, cg1, rfl, hr1, hb1⟩
  have hs0 := B0.out.size
  have hs1 := hb1.size
  have hg1 := hr1.lt g1 rfl
  have P1 := Lib.hid (lentL_parts hr1 HL.out.1.1)
  have H1 := Lib.hid (B0.out.trans (hb1.mono hs0))
  clear hr1 hb1
  go_wp2_with fail
  refine (set_any (some ⟨g1, 0, none⟩) n cg1 l w1 P1.out.2.1 (by omega)).mono ?_
  intro e w2 hp
  obtain ⟨va, rfl, ha, hb2⟩ := set_row hp
  have hs2 := hb2.size
  have H2 := Lib.hid (show _ ∧ _ from ⟨ha, hb2⟩)
  clear hp ha hb2
  go_wp2_with fail
  refine (set_any (some ⟨g1, 0, none⟩) n cg1 l w2 (P1.out.2.1.on H2.out.2) (by omega)).mono ?_
  intro e w3 hp
  obtain ⟨vb, rfl, hbr, hb3⟩ := set_row hp
  have hs3 := hb3.size
  have hla : ∀ b, va.ownBlock = some b → w1.heap.size ≤ b ∧ b < w2.heap.size := fun b h => H2.out.1.lt b h
  have hlb : ∀ b, vb.ownBlock = some b → w2.heap.size ≤ b ∧ b < w3.heap.size := fun b h => hbr.lt b h
  have hb13 : Below w1.heap.size w1 w3 := H2.out.2.trans (hb3.mono hs2)
  have hR3 : R2 w w3 va vb (setR l) := ⟨H1.out.trans (hb13.mono H1.out.size), owns_base (owns_below H2.out.1 hb3) (by omega), owns_base hbr (by omega)⟩
  obtain ⟨R, hR⟩ : ∃ R, setR l = R := ⟨_, rfl⟩
  obtain ⟨E, hE⟩ : ∃ E, setE l = E := ⟨_, rfl⟩
  rw [hR] at hR3 hRl
  rw [hE]
  have H3 := Lib.hid (show _ ∧ _ from ⟨hR3, hb13⟩)
  have HLT := Lib.hid (show _ ∧ _ from ⟨hla, hlb⟩)
  have HEQ := Lib.hid (show _ ∧ _ from ⟨hR, hE⟩)
  clear hp hbr hb3 hla hlb hb13 hR3 hR hE H2
  go_wp2_with fail
  refine (check_any (some ⟨g1, 0, none⟩) n cg1 l w3 (P1.out.2.1.on H3.out.2) (by omega)).mono ?_
  rintro e w4 ⟨rfl, hb4⟩
  have hs4 := hb4.size
  obtain ⟨CE, hCE⟩ : ∃ CE, checkE l = CE := ⟨_, rfl⟩
  rw [hCE]
  have HCE := Lib.hid hCE
  have H4 := Lib.hid (show _ ∧ _ from ⟨H3.out.1.step hb4, H3.out.2.trans (hb4.mono (by omega))⟩)
  clear hCE hb4 H3
  go_wp2_with fail
  refine (labelsCmp_any (some ⟨g1, 0, none⟩) A' n cg1 n' c' l m w4 (P1.out.2.1.on H4.out.2) (HM.out.on H4.out.1.old) (by omega) (by omega)).mono ?_
  rintro e w5 ⟨rfl, hb5⟩
  have hs5 := hb5.size
  obtain ⟨K, hK⟩ : ∃ K, labelsC l m = K := ⟨_, rfl⟩
  rw [hK] at hrg hsw ⊢
  have HK := Lib.hid (show _ ∧ _ from ⟨hK, hsw⟩)
  have H5 := Lib.hid (show _ ∧ _ from ⟨H4.out.1.step hb5, H4.out.2.trans (hb5.mono (by omega))⟩)
  clear hK hsw hb5 H4
  go_wp2_with fail
  refine (wholeLabel_eq g1 cg1 A n c l w5 (P1.out.1.on H5.out.2) P1.out.2.2.1 (HL.out.1.on H5.out.1.old) (by omega)).mono ?_
  rintro e w6 ⟨rfl, hb6⟩
  have hs6 := hb6.size
  obtain ⟨cur1, hc1, hz1⟩ := P1.out.2.2.2.2
  have hb16 : Below w1.heap.size w1 w6 := H5.out.2.trans (hb6.mono (by omega))
  have h61 := (hb16.block g1 (by omega)).trans hc1
  have H6 := Lib.hid (show _ ∧ _ ∧ _ ∧ _ from ⟨H5.out.1.step hb6, hb16, h61, hz1⟩)
  clear hb6 hb16 hc1 hz1 h61 H5
  go_wp2_with fail
  refine (spoilLabel_any g1 n cg1 cur1 w6 H6.out.2.2.1 H6.out.2.2.2 (by have := P1.out.2.2.1; omega) P1.out.2.2.2.1).mono ?_
  rintro e w7 ⟨rfl, hg7⟩
  have hs7 := hg7.size
  have hR7 : R2 w w7 va vb R := H6.out.1.grown (GrownIn.of_grownBy hg7) (fun k hk => by
    injection hk with hk
    subst hk
    refine ⟨by omega, fun e => ?_, fun e => ?_⟩
    · have := HLT.out.1 _ e; omega
    · have := HLT.out.2 _ e; omega)
  have H7 := Lib.hid hR7
  clear hg7 hR7 H6
  go_wp2_with fail
  refine (refSet_any A n c l w7 (HL.out.1.on H7.out.old) (by omega)).mono ?_
  intro e w8 hp
  obtain ⟨vr, rfl, hor, hb8⟩ := set_row hp
  rw [HEQ.out.1] at hor
  rw [HEQ.out.2]
  have hs8 := hb8.size
  have H8 := Lib.hid (show _ ∧ _ from ⟨H7.out.step hb8, hor⟩)
  clear hp hor hb8 H7
  go_wp2_with fail
  have hbk : Bk (w8.alloc (.cells nils 73)) w8.heap.size nils := ⟨heap_alloc_new _ _, rfl⟩
  have hb9 : Below w8.heap.size w8 (w8.alloc (.cells nils 73)) := (Below.refl _ _).alloc (Nat.le_refl _) _
  have hs9 : (w8.alloc (.cells nils 73)).heap.size = w8.heap.size + 1 := by simp
  change Calls _ _ _ (w8.alloc (.cells nils 73)) _
  generalize w8.alloc (.cells nils 73) = w9 at hbk hb9 hs9 ⊢
  obtain ⟨bk, hbkn⟩ : ∃ bk, w8.heap.size = bk := ⟨_, rfl⟩
  rw [hbkn] at hbk ⊢
  have H9 := Lib.hid (show _ ∧ _ ∧ _ from ⟨hbk, H8.out.1.step hb9, owns_below H8.out.2 hb9⟩)
  have hlr : ∀ b, vr.ownBlock = some b → w7.heap.size ≤ b ∧ b < w8.heap.size := fun b h => H8.out.2.lt b h
  have HLR := Lib.hid hlr
  clear hbk hb9 H8 hlr
  refine (bookL_own bk w.heap.size 0 nils (.slice none 0 0) va [] w9 H9.out.1 rfl (World.ownsRow_nil _ _ _ _) (by simp [Value.ownBlock]) (by omega) (by omega) H9.out.2.1.sa).mono ?_
  rintro e w10 ⟨rfl, g10, c10, ho10, hk10, hgr10, hli10⟩
  have hs10 := hgr10.size
  have hg10 : w9.heap.size ≤ g10 := by
    rcases hli10 with h | h
    · cases h
    · exact h
  have hg10l := (ho10.lt g10 rfl).2
  have hS10 : ∀ k, (k = bk ∨ (Value.slice none 0 0).ownBlock = some k) → k = bk := fun k hk => hk.elim id (fun h => by cases h)
  have hR10 : R2 w w10 va vb R := H9.out.2.1.grown hgr10 (fun k hk => by
    rw [hS10 k hk]
    refine ⟨by omega, fun e => ?_, fun e => ?_⟩
    · have := HLT.out.1 _ e; omega
    · have := HLT.out.2 _ e; omega)
  have hr10 := hgr10.owns H9.out.2.2 (fun k hk h => by have h1 := hS10 k h; have := HLR.out _ hk; omega)
  have hne10 : g10 ≠ bk := by omega
  have H10 := Lib.hid (show _ ∧ _ ∧ _ ∧ _ from ⟨hk10, hR10, ho10, hr10⟩)
  clear ho10 hk10 hgr10 hli10 hR10 hr10 hS10 H9
  go_wp2_with fail
  refine (bookL_own bk w.heap.size 1 _ (.slice (some ⟨g10, 0, none⟩) (0 + 1) c10) vb _ w10 H10.out.1 rfl H10.out.2.2.1 (by simp [Value.ownBlock]; exact hne10) (by omega) (by omega) H10.out.2.1.sb).mono ?_
  rintro e w11 ⟨rfl, g11, c11, ho11, hk11, hgr11, hli11⟩
  have hs11 := hgr11.size
  have hg11 : w9.heap.size ≤ g11 := by
    rcases hli11 with h | h
    · simp [Value.ownBlock] at h; omega
    · omega
  have hg11l := (ho11.lt g11 rfl).2
  have hS11 : ∀ k, (k = bk ∨ (Value.slice (some ⟨g10, 0, none⟩) (0 + 1) c10).ownBlock = some k) → k = bk ∨ k = g10 := fun k hk => hk.imp id (fun h => by simp [Value.ownBlock] at h; omega)
  have hR11 : R2 w w11 va vb R := H10.out.2.1.grown hgr11 (fun k hk => by
    have hkk := hS11 k hk
    refine ⟨by omega, fun e => ?_, fun e => ?_⟩
    · have := HLT.out.1 _ e; omega
    · have := HLT.out.2 _ e; omega)
  have hr11 := hgr11.owns H10.out.2.2.2 (fun k hk h => by have h1 := hS11 k h; have := HLR.out _ hk; omega)
  have hT11 : T2 w w11 bk _ va vb (.slice (some ⟨g11, 0, none⟩) (1 + 1) c11) R := ⟨hR11, hk11, ho11⟩
  have H11 := Lib.hid (show _ ∧ _ from ⟨hT11, hr11⟩)
  clear ho11 hk11 hgr11 hli11 hR11 hr11 hS11 hT11 H10
  go_wp2_with fail
  refine (sameL_own H11.out.1.rows.sa H11.out.2 (by omega)).mono ?_
  rintro e w12 ⟨rfl, hb12⟩
  have H12 := Lib.hid (show _ ∧ _ from ⟨H11.out.1.step hb12, owns_below H11.out.2 hb12⟩)
  clear hb12 H11
  go_wp2_with fail
  refine (sameL_own H12.out.1.rows.sb H12.out.2 (by omega)).mono ?_
  rintro e w13 ⟨rfl, hb13⟩
  have H13 := Lib.hid (H12.out.1.step hb13)
  clear hb13 H12
  go_wp2_with fail
  refine (known7 _).mono ?_
  rintro e w14 ⟨rfl, hb14⟩
  have H14 := Lib.hid (H13.out.step hb14)
  clear hb14 H13
  go_wp2_with fail
  refine (refCheck_any A n c l w14 (HL.out.1.on H14.out.rows.old) (by omega)).mono ?_
  rw [HCE.out]
  rintro e w15 ⟨rfl, hb15⟩
  have H15 := Lib.hid (H14.out.step hb15)
  clear hb15 H14
  go_wp2_with fail
  refine (refCmp_any A A' n c n' c' l m w15 (HL.out.1.on H15.out.rows.old) (HM.out.on H15.out.rows.old) (by omega) (by omega)).mono ?_
  rw [HK.out.1]
  rintro e w16 ⟨rfl, hb16⟩
  have H16 := Lib.hid (H15.out.step hb16)
  clear hb16 H15
  go_wp2_with fail
  refine (labelsCmp_any A' A n' c' n c m l w16 (HM.out.on H16.out.rows.old) (HL.out.1.on H16.out.rows.old) (by omega) (by omega)).mono ?_
  rw [HK.out.2]
  rintro e w17 ⟨rfl, hb17⟩
  have H17 := Lib.hid (H16.out.step hb17)
  have hw : IntKind.i64.wrap (-K) = -K := IntWalk.i64_in _ (by omega)
  clear hb17 H16
  go_wp2_with fail
  have hLs : Lists w17 w.heap.size 94 2 g11 2 (two va vb) (fun j => if j = 0 then R.length else R.length) :=
    lists_two H17.out.rows.sa H17.out.rows.sb (fun b h1 h2 => by have := HLT.out.1 _ h1; have := HLT.out.2 _ h2; omega) (owns_cell H17.out.list (g := g11) rfl rfl) (owns_cell H17.out.list (g := g11) rfl rfl) (fun h => by have := HLT.out.1 _ h; omega) (fun h => by have := HLT.out.2 _ h; omega)
  have hg11' := (H17.out.list.lt g11 rfl).2
  have hw17 := H17.out.rows.old.size
  refine (bookOwn_Labels bk g11 2 c11 (Among 2 (two va vb)) w17 _ H17.out.book ?_ ?_ (ownLabels_any w.heap.size g11 2 c11 _ _ w17 hLs hw17 hg11' (by omega) (fun j hj => by split <;> omega))).mono ?_
  · intro k hk
    by_cases h2 : k = 9
    · subst h2
      simp [nils]
    · rw [if_neg h2, Array.getElem?_setIfInBounds, if_neg (fun h => h2 h.symm), Array.getElem?_setIfInBounds, if_neg (fun h => h2 h.symm)]
      exact nils_at hk
  · rintro ⟨j, hj, h⟩
    rcases (show j = 0 ∨ j = 1 by omega) with rfl | rfl
    · have := HLT.out.1 _ h; omega
    · have := HLT.out.2 _ h; omega
  · rintro e w18 ⟨rfl, hg18⟩
    have hB18 : Below w.heap.size w w18 := H17.out.rows.old.trans (hg18.below (by
      rintro k ⟨j, hj, h⟩
      rcases (show j = 0 ∨ j = 1 by omega) with rfl | rfl
      · have := HLT.out.1 _ h; omega
      · have := HLT.out.2 _ h; omega) hw17)
    have HE := Lib.hid hB18
    clear hg18 hB18 hLs
    go_wp2
    go_ret
    exact ⟨rfl, HE.out⟩
set_option maxHeartbeats 2000000 in
set_option maxRecDepth 100000 in
theorem sets_any (A A' : Option Addr) (n c n' c' : Nat) (l m : List Lb) (w : World) (hL : Lst Lb.cells 2 w w.heap.size A n l) (hnil : A = none → n = 0 ∧ c = 0) (hM : Lst Lb.cells 2 w w.heap.size A' n' m) (hn : n ≤ 9223372036854775807) (hn' : n' ≤ 9223372036854775807) :
    Calls Tryz.prog 4 #[.slice A n c, .slice A' n' c'] w fun e w' => e = .returned (.bool true) ∧ Below w.heap.size w w' := by
  cases hl : muchB l with
  | true =>
    have hm := much_any A n c l w hL hn
    rw [hl] at hm
    have HM := Lib.hid hm
    clear hm hL hM hnil hl
    go_enter Tryz.func4, Tryz.ntmps4
    go_wp2_with (go_at_call 9; refine HM.out.mono ?_; rintro e w1 ⟨rfl, q, rfl⟩)
    go_ret
    exact ⟨rfl, below_drewN (Below.refl _ _) q⟩
  | false =>
    cases hm : muchB m with
    | true =>
      have h1 := much_any A n c l w hL hn
      rw [hl] at h1
      have h2 := fun w1 (hb : Below w.heap.size w w1) => much_any A' n' c' m w1 (hM.on hb) hn'
      rw [hm] at h2
      have HM := Lib.hid (show _ ∧ _ from ⟨h1, h2⟩)
      clear h1 h2 hL hM hnil hl hm
      go_enter Tryz.func4, Tryz.ntmps4
      go_wp2_with (first
        | (go_at_call 9; refine (HM.out.2 _ B1.out).mono ?_; rintro e w2 ⟨rfl, q, hq⟩; have B2 : Hid (Below w.heap.size w w2) := Lib.hid (hq ▸ below_drewN B1.out q); clear hq)
        | (go_at_call 9; refine HM.out.1.mono ?_; rintro e w1 ⟨rfl, q, hq⟩; have B1 : Hid (Below w.heap.size w w1) := Lib.hid (hq ▸ below_drewN (Below.refl _ _) q); clear hq))
      go_ret
      exact ⟨rfl, B2.out⟩
    | false => exact sets_few A A' n c n' c' l m w hL hnil hM hl hm
end Go.Proofs.YtchggapclmdpaaaGreatDoor
