/- Book.Labels: a list is laid behind in the book. Written off a master by mk2.py. Book.Elems: elements are laid behind in the book, and their labels. The own* functions of the checker's book at an empty list: each returns true and touches nothing. Written by a program of mine (own_nil.py). -/
import Derived.Test.YtajaijidecomdaaGreatDoorOwnLabel
import Derived.Test.YtajaijidecomdaaGreatDoorG15
import Derived.Test.YtajaijidecomdaaGreatDoorChecked
import Derived.WalkKit
import Derived.Deep.DeepCutAuto
import Derived.LoopN
import Derived.OwnWalk
import Derived.Below
namespace Go.Proofs.YtajaijidecomdaaGreatDoor
open Go.RowKit Go.Lib

set_option maxHeartbeats 4000000 in
set_option maxRecDepth 100000 in
theorem bookLabels (bk B m : Nat) (cs : Array Value) (v : Value) (A : Option Addr) (n c : Nat) (Ls : List Value) (w : World) (hb : Bk w bk cs) (hv : cs[9]? = some v) (ho : w.ownsRow B 88 1 v m Ls) (hne : v.ownBlock ≠ some bk) (hB : B ≤ w.heap.size) (hm : m ≤ 1000000) :
    Calls Tryz.prog 32 #[.pointer (some ⟨bk, 0, none⟩), .slice A n c] w (PutPost w bk B m 9 88 cs v (.slice A n c) Ls) := by
  obtain ⟨i1, hi, hz0, hz1, hz2⟩ := info_parts Tryz.infoLabels
  have HJ := Lib.hid (show _ ∧ _ ∧ _ ∧ _ from ⟨hi, hz0, hz1, hz2⟩)
  have c2 := (hb.cell 9).trans hv
  have f2 := hb.free 9
  have HB := Lib.hid (show _ ∧ _ from ⟨hb, ho⟩)
  have HNE := Lib.hid hne
  clear hi hz0 hz1 hz2 hb hv ho hne
  go_enter Tryz.func32, Tryz.ntmps32
  obtain ⟨hi, hz0, hz1, hz2⟩ := HJ.out
  go_wp2_with (at_builtin; refine wpList_append_full _ rfl _ _ 52 rfl B 88 i1 _ 1 24 Tryz.underlying52 hi hz0 hz1 hz2 rfl (by omega) _ m Ls rfl (HB.out.2.alloc _) ⟨w.heap.size, 0, none⟩ 1 1 [.slice A n c] rfl rfl (cells_one w _ _) (by simp [Value.oneCell']) (by omega) (by unfold maxLen; omega) (by omega) (by simp; omega) ?_)
  intro g cap w5 hown5 hg5 hl5 ho5
  have hb1 : Bk (w.alloc (.cells #[.slice A n c] 88)) bk cs := HB.out.1.kept (GrownIn.alloc (GrownIn.refl (fun _ => False) w) _) (fun h => h)
  have hb5 := hb1.kept (GrownIn.of_grownBy hg5) HNE.out
  have hgr : GrownIn (fun k => k = bk ∨ v.ownBlock = some k) w w5 := ((GrownIn.refl _ w).alloc _).trans (GrownIn.of_grownBy hg5) (fun k _ h => .inr h)
  have hgb : g ≠ bk := by
    rcases hl5 with h | h
    · intro e; exact HNE.out (by rw [h, e])
    · have := HB.out.1.lt; intro e; omega
  have hbs := hb5.set 9 (.slice (some ⟨g, 0, none⟩) (m + 1) cap)
  have hos := owns_set_other hown5 (p := ⟨bk, 9, none⟩) (by simp [Value.ownBlock]; exact hgb) (.slice (some ⟨g, 0, none⟩) (m + 1) cap)
  have hgs := grownIn_set hgr (p := ⟨bk, 9, none⟩) (.inl rfl) (.slice (some ⟨g, 0, none⟩) (m + 1) cap)
  have hlies : v.ownBlock = some g ∨ w.heap.size ≤ g := hl5.imp_right fun h => by omega
  have HF := Lib.hid (show _ ∧ _ ∧ _ ∧ _ from ⟨hos, hbs, hgs, hlies⟩)
  have c5 : w5.cell? ⟨bk, 9, none⟩ = some v := (hb5.cell 9).trans ((hb1.cell 9).symm.trans (by rw [World.cell?_alloc_lt _ _ _ HB.out.1.lt]; exact c2))
  have f5 := hb5.free 9
  clear c2 f2 hi hz0 hz1 hz2 hown5 hg5 hl5 ho5 hb1 hb5 hgr hgb hbs hos hgs hlies
  go_wp2
  go_end0
  exact ⟨rfl, g, cap, HF.out.1, HF.out.2.1, HF.out.2.2.1, HF.out.2.2.2⟩
end Go.Proofs.YtajaijidecomdaaGreatDoor
namespace Go.Proofs.YtajaijidecomdaaGreatDoor
open Go.RowKit Go.Lib

theorem set_same {cs : Array Value} {i : Nat} {v : Value} (h : cs[i]? = some v) : cs.setIfInBounds i v = cs := by
  apply Array.ext_getElem?
  intro k
  rw [Array.getElem?_setIfInBounds]
  by_cases hk : i = k
  · subst hk
    obtain ⟨h1, h2⟩ := Array.getElem?_eq_some_iff.1 h
    rw [if_pos rfl, if_pos h1, h]
  · rw [if_neg hk]
/-- Behind the first k elements: their labels lie in the book. -/
structure BkE (w wr : World) (bk B : Nat) (cs : Array Value) (t21 v9 : Value) (m21 m9 : Nat) (Ls21 Ls9 : List Value) (os : List Ev) (k : Nat) (v : Value) : Prop where
  book : Bk wr bk (cs.setIfInBounds 9 v)
  own9 : wr.ownsRow B 88 1 v (m9 + k) (Ls9 ++ (os.take k).map valE)
  own21 : wr.ownsRow B 33 1 t21 m21 Ls21
  grown : GrownIn (fun b => b = bk ∨ v9.ownBlock = some b) w wr
  lies : ∀ b, v.ownBlock = some b → v9.ownBlock = some b ∨ w.heap.size ≤ b
set_option maxHeartbeats 4000000 in
set_option maxRecDepth 100000 in
/-- What Book.Elems leaves. -/
def PutEPost (w : World) (bk B m21 m9 : Nat) (cs : Array Value) (v21 v9 a : Value) (Ls21 Ls9 : List Value) (os : List Ev) (e : Ending) (w' : World) : Prop :=
  e = .returned (.tuple #[]) ∧ ∃ g21 c21 v9', w'.ownsRow B 33 1 (.slice (some ⟨g21, 0, none⟩) (m21 + 1) c21) (m21 + 1) (Ls21 ++ [a]) ∧ w'.ownsRow B 88 1 v9' (m9 + os.length) (Ls9 ++ os.map valE) ∧
    Bk w' bk ((cs.setIfInBounds 21 (.slice (some ⟨g21, 0, none⟩) (m21 + 1) c21)).setIfInBounds 9 v9') ∧ GrownIn (fun b => b = bk ∨ v21.ownBlock = some b ∨ v9.ownBlock = some b) w w' ∧
    (v21.ownBlock = some g21 ∨ w.heap.size ≤ g21) ∧ (∀ b, v9'.ownBlock = some b → v9.ownBlock = some b ∨ w.heap.size ≤ b)
set_option maxHeartbeats 4000000 in
set_option maxRecDepth 100000 in
theorem bookElems (bk B Bo m21 m9 : Nat) (cs : Array Value) (v21 v9 : Value) (A : Option Addr) (n c : Nat) (Ls21 Ls9 : List Value) (os : List Ev) (w : World) (hb : Bk w bk cs) (h21 : cs[21]? = some v21) (h9 : cs[9]? = some v9)
    (ho21 : w.ownsRow B 33 1 v21 m21 Ls21) (ho9 : w.ownsRow B 88 1 v9 m9 Ls9) (hne21 : v21.ownBlock ≠ some bk) (hne9 : v9.ownBlock ≠ some bk) (hB : B ≤ w.heap.size) (hm21 : m21 ≤ 1000) (hm9 : m9 ≤ 100000)
    (hos : w.ownsRow Bo 90 2 (.slice A n c) n (os.flatMap encEv)) (hn : n ≤ 1000) (hAb : (Value.slice A n c).ownBlock ≠ some bk) :
    Calls Tryz.prog 19 #[.pointer (some ⟨bk, 0, none⟩), .slice A n c] w (PutEPost w bk B m21 m9 cs v21 v9 (.slice A n c) Ls21 Ls9 os) := by
  obtain ⟨i1, hi, hz0, hz1, hz2⟩ := info_parts Tryz.infoElems
  have HJ := Lib.hid (show _ ∧ _ ∧ _ ∧ _ from ⟨hi, hz0, hz1, hz2⟩)
  have c2 := (hb.cell 21).trans h21
  have f2 := hb.free 21
  have hll := owns_len hos encEv_len (by omega)
  have HB := Lib.hid (show _ ∧ _ ∧ _ ∧ _ ∧ _ ∧ _ from ⟨hb, ho21, ho9, h9, hos, hll⟩)
  have HNE := Lib.hid (show _ ∧ _ ∧ _ from ⟨hne21, hne9, hAb⟩)
  clear hi hz0 hz1 hz2 hb h21 h9 ho21 ho9 hne21 hne9 hos hll hAb
  go_enter Tryz.func19, Tryz.ntmps19
  obtain ⟨hi, hz0, hz1, hz2⟩ := HJ.out
  go_wp2_with (at_builtin; refine wpList_append_full _ rfl _ _ 64 rfl B 33 i1 _ 1 24 Tryz.underlying64 hi hz0 hz1 hz2 rfl (by omega) _ m21 Ls21 rfl (HB.out.2.1.alloc _) ⟨w.heap.size, 0, none⟩ 1 1 [.slice A n c] rfl rfl (cells_one w _ _) (by simp [Value.oneCell']) (by omega) (by unfold maxLen; omega) (by omega) (by simp; omega) ?_)
  intro g cap w5 hown5 hg5 hl5 ho5
  have hb1 : Bk (w.alloc (.cells #[.slice A n c] 33)) bk cs := HB.out.1.kept (GrownIn.alloc (GrownIn.refl (fun _ => False) w) _) (fun h => h)
  have hba : Below w.heap.size w (w.alloc (.cells #[.slice A n c] 33)) := (Below.refl _ _).alloc (Nat.le_refl _) _
  have hb5 := hb1.kept (GrownIn.of_grownBy hg5) HNE.out.1
  have hgb : g ≠ bk := by
    rcases hl5 with h | h
    · intro e; exact HNE.out.1 (by rw [h, e])
    · have := HB.out.1.lt; intro e; omega
  have hbs := hb5.set 21 (.slice (some ⟨g, 0, none⟩) (m21 + 1) cap)
  have hos := owns_set_other hown5 (p := ⟨bk, 21, none⟩) (by simp [Value.ownBlock]; exact hgb) (.slice (some ⟨g, 0, none⟩) (m21 + 1) cap)
  have h95 : w5.ownsRow B 88 1 v9 m9 Ls9 := (owns_below HB.out.2.2.1 hba).kept hg5 (by
    cases hv : v9.ownBlock with
    | none => exact .inl rfl
    | some b => exact .inr fun e => owns_other (owns_below HB.out.2.2.1 hba) (owns_below HB.out.2.1 hba) (by decide) hv e.symm)
  have h9s := owns_set_other h95 (p := ⟨bk, 21, none⟩) HNE.out.2.1 (.slice (some ⟨g, 0, none⟩) (m21 + 1) cap)
  have hA5 : w5.ownsRow Bo 90 2 (.slice A n c) n (os.flatMap encEv) := (owns_below HB.out.2.2.2.2.1 hba).kept hg5 (by
    cases hv : (Value.slice A n c).ownBlock with
    | none => exact .inl rfl
    | some b => exact .inr fun e => owns_other (owns_below HB.out.2.2.2.2.1 hba) (owns_below HB.out.2.1 hba) (by decide) hv e.symm)
  have hAs := owns_set_other hA5 (p := ⟨bk, 21, none⟩) HNE.out.2.2 (.slice (some ⟨g, 0, none⟩) (m21 + 1) cap)
  have hgr : GrownIn (fun k => k = bk ∨ v21.ownBlock = some k ∨ v9.ownBlock = some k) w w5 := ((GrownIn.refl _ w).alloc _).trans (GrownIn.of_grownBy hg5) (fun k _ h => .inr (.inl h))
  have hgs := grownIn_set hgr (p := ⟨bk, 21, none⟩) (.inl rfl) (.slice (some ⟨g, 0, none⟩) (m21 + 1) cap)
  have hlies : v21.ownBlock = some g ∨ w.heap.size ≤ g := hl5.imp_right fun h => by omega
  have c5 : w5.cell? ⟨bk, 21, none⟩ = some v21 := (hb5.cell 21).trans ((hb1.cell 21).symm.trans (by rw [World.cell?_alloc_lt _ _ _ HB.out.1.lt]; exact c2))
  have f5 := hb5.free 21
  have h9c : (cs.setIfInBounds 21 (.slice (some ⟨g, 0, none⟩) (m21 + 1) cap))[9]? = some v9 := by rw [Array.getElem?_setIfInBounds, if_neg (by decide)]; exact HB.out.2.2.2.1
  have hw6 : w.heap.size ≤ (w5.setCell ⟨bk, 21, none⟩ (.slice (some ⟨g, 0, none⟩) (m21 + 1) cap)).heap.size := by have := hgs.size; exact this
  have HF := Lib.hid (show _ ∧ _ ∧ _ ∧ _ ∧ _ ∧ _ ∧ _ ∧ _ from ⟨hos, hbs, hgs, hlies, h9s, hAs, h9c, hw6⟩)
  have hll := HB.out.2.2.2.2.2
  clear c2 f2 hi hz0 hz1 hz2 hown5 hg5 hl5 ho5 hb1 hb5 hgr hgb hbs hos hgs hlies h95 h9s hA5 hAs h9c hw6 hba
  go_wp2
  have H6 := HF.out
  obtain ⟨w6, hw6⟩ : ∃ w6, w5.setCell ⟨bk, 21, none⟩ (.slice (some ⟨g, 0, none⟩) (m21 + 1) cap) = w6 := ⟨_, rfl⟩
  rw [hw6] at H6 ⊢
  have HW := Lib.hid H6
  clear H6 hw6 c5 f5
  go_loopw [4] (fun i wr => ∃ (k : Nat) (v : Value), k ≤ n ∧ i = .int .i64 k ∧ Hid (BkE w6 wr bk B (cs.setIfInBounds 21 (.slice (some ⟨g, 0, none⟩) (m21 + 1) cap)) (.slice (some ⟨g, 0, none⟩) (m21 + 1) cap) v9 (m21 + 1) m9 (Ls21 ++ [.slice A n c]) Ls9 os k v)) (fun i _ => n - (intOf i).toNat)
  case atStart => exact ⟨0, v9, Nat.zero_le _, rfl, Lib.hid ⟨by rw [set_same HW.out.2.2.2.2.2.2.1]; exact HW.out.2.1, by simpa using HW.out.2.2.2.2.1, HW.out.1, GrownIn.refl _ _, fun b hb => .inl hb⟩⟩
  case round =>
    obtain ⟨k, v, hk, rfl, HT⟩ := hrel
    have hsz := HT.out.grown.size
    have hwz := HW.out.2.2.2.2.2.2.2
    by_cases hlt : k < n
    · obtain ⟨z, hz⟩ : ∃ z, os[k]? = some z := ⟨_, List.getElem?_eq_getElem (by omega)⟩
      have hne9 : v.ownBlock ≠ some bk := fun e => by
        rcases HT.out.lies bk e with h | h
        · exact HNE.out.2.1 h
        · have := HW.out.2.1.lt; omega
      obtain ⟨gA, rfl, hgA⟩ := owns_some' HW.out.2.2.2.2.2.1 (by omega)
      have hAr := HT.out.grown.owns HW.out.2.2.2.2.2.1 (fun b hb hs => by
        rcases hs with rfl | hs
        · exact HNE.out.2.2 hb
        · exact owns_other HW.out.2.2.2.2.2.1 HW.out.2.2.2.2.1 (by decide) hb hs)
      have c0 := owns_at hAr encEv_len hz (j := 0) (u := .slice z.A z.n z.c) rfl
      simp only [Nat.add_zero] at c0
      have h9v : ((cs.setIfInBounds 21 (.slice (some ⟨g, 0, none⟩) (m21 + 1) cap)).setIfInBounds 9 v)[9]? = some v := by
        have hs := HT.out.book.2
        simp only [Array.size_setIfInBounds] at hs
        rw [Array.getElem?_setIfInBounds, if_pos rfl, if_pos (by rw [Array.size_setIfInBounds]; omega)]
      have hcall := bookLabels bk B (m9 + k) _ v z.A z.n z.c (Ls9 ++ (os.take k).map valE) wr HT.out.book h9v HT.out.own9 hne9 (by omega) (by omega)
      have hnext : ∀ e w', PutPost wr bk B (m9 + k) 9 88 ((cs.setIfInBounds 21 (.slice (some ⟨g, 0, none⟩) (m21 + 1) cap)).setIfInBounds 9 v) v (.slice z.A z.n z.c) (Ls9 ++ (os.take k).map valE) e w' → e = .returned (.tuple #[]) ∧ ∃ v', BkE w6 w' bk B (cs.setIfInBounds 21 (.slice (some ⟨g, 0, none⟩) (m21 + 1) cap)) (.slice (some ⟨g, 0, none⟩) (m21 + 1) cap) v9 (m21 + 1) m9 (Ls21 ++ [.slice (some ⟨gA, 0, none⟩) n c]) Ls9 os (k + 1) v' := by
        rintro e w' ⟨he, g', c', ho', hb', hg', hl'⟩
        refine ⟨he, .slice (some ⟨g', 0, none⟩) (m9 + k + 1) c', ?_, ?_, ?_, ?_, ?_⟩
        · have : ((cs.setIfInBounds 21 (.slice (some ⟨g, 0, none⟩) (m21 + 1) cap)).setIfInBounds 9 v).setIfInBounds 9 (.slice (some ⟨g', 0, none⟩) (m9 + k + 1) c') = (cs.setIfInBounds 21 (.slice (some ⟨g, 0, none⟩) (m21 + 1) cap)).setIfInBounds 9 (.slice (some ⟨g', 0, none⟩) (m9 + k + 1) c') := by
            apply Array.ext_getElem?
            intro j
            simp only [Array.getElem?_setIfInBounds, Array.size_setIfInBounds]
            by_cases h : 9 = j
            · simp [h]
            · simp [h]
          rw [this] at hb'
          exact hb'
        · obtain ⟨q1, q2⟩ := List.getElem?_eq_some_iff.1 hz
          rw [List.take_succ_eq_append_getElem q1, q2, List.map_append, ← List.append_assoc]
          exact ho'
        · exact hg'.owns HT.out.own21 (fun b hb hs => by
            rcases hs with rfl | hs
            · have h1 := HW.out.2.2.2.1
              have h2 := HW.out.1.lt
              have hgb : g = b := by simpa [Value.ownBlock] using hb
              subst hgb
              rcases h1 with h1 | h1
              · exact HNE.out.1 h1
              · have := HB.out.1.lt; omega
            · exact owns_other HT.out.own21 HT.out.own9 (by decide) hb hs)
        · refine HT.out.grown.trans hg' (fun b hb hs => ?_)
          rcases hs with rfl | hs
          · exact .inl rfl
          · rcases HT.out.lies b hs with h | h
            · exact .inr h
            · omega
        · intro b hb
          have hgb : g' = b := by simpa [Value.ownBlock] using hb
          subst hgb
          rcases hl' with h | h
          · exact HT.out.lies _ h
          · exact .inr (by omega)
      have HC := Lib.hid (show _ ∧ _ from ⟨hcall, hnext⟩)
      clear hz hAr h9v hcall hnext hne9
      go_wp2_with (go_at_call 32; refine HC.out.1.mono ?_; intro e w7 hp7; obtain ⟨rfl, v7, h7⟩ := HC.out.2 e w7 hp7; have H7 := Lib.hid h7; clear hp7 h7)
      go_roundw
      case measure => simp [intOf]; omega
      case rel => exact ⟨k + 1, v7, hlt, by simp, H7⟩
    · obtain rfl : n = k := by omega
      have hT := HT.out
      have h9f := hT.own9
      rw [List.take_of_length_le (by omega)] at h9f
      have H9 := Lib.hid h9f
      clear h9f hT
      go_wp2
      go_end0
      refine ⟨rfl, g, cap, v, HT.out.own21, by rw [hll]; exact H9.out, HT.out.book, ?_, HW.out.2.2.2.1, fun b hb => ?_⟩
      · refine HW.out.2.2.1.trans HT.out.grown (fun b _ hs => ?_)
        rcases hs with h | h
        · exact .inl h
        · exact .inr (.inr h)
      · rcases HT.out.lies b hb with h | h
        · exact .inl h
        · exact .inr (by omega)
end Go.Proofs.YtajaijidecomdaaGreatDoor
namespace Go.Proofs.YtajaijidecomdaaGreatDoor
open Go.RowKit
set_option maxRecDepth 100000 in
theorem ownBytes_nil (w : World) : Calls Tryz.prog 60 #[.slice none 0 0] w fun e w' => e = .returned (.bool true) ∧ w' = w := by
  go_enter Tryz.func60, Tryz.ntmps60
  go_wp2
  refine wp_loop_rounds 1 ?_
  rw [rounds_succ]
  go_wp2
  refine wp_loop_rounds 1 ?_
  rw [rounds_succ]
  go_wp2
  refine wp_loop_rounds 1 ?_
  rw [rounds_succ]
  go_wp2
  go_ret
  exact ⟨rfl, rfl⟩
set_option maxRecDepth 100000 in
theorem ownTexts_nil (w : World) : Calls Tryz.prog 61 #[.slice none 0 0] w fun e w' => e = .returned (.bool true) ∧ w' = w := by
  go_enter Tryz.func61, Tryz.ntmps61
  go_wp2
  refine wp_loop_rounds 1 ?_
  rw [rounds_succ]
  go_wp2
  refine wp_loop_rounds 1 ?_
  rw [rounds_succ]
  go_wp2
  refine wp_loop_rounds 1 ?_
  rw [rounds_succ]
  go_wp2
  go_ret
  exact ⟨rfl, rfl⟩
set_option maxRecDepth 100000 in
theorem ownInts_nil (w : World) : Calls Tryz.prog 62 #[.slice none 0 0] w fun e w' => e = .returned (.bool true) ∧ w' = w := by
  go_enter Tryz.func62, Tryz.ntmps62
  go_wp2
  refine wp_loop_rounds 1 ?_
  rw [rounds_succ]
  go_wp2
  refine wp_loop_rounds 1 ?_
  rw [rounds_succ]
  go_wp2
  refine wp_loop_rounds 1 ?_
  rw [rounds_succ]
  go_wp2
  go_ret
  exact ⟨rfl, rfl⟩
set_option maxRecDepth 100000 in
theorem ownLongs_nil (w : World) : Calls Tryz.prog 63 #[.slice none 0 0] w fun e w' => e = .returned (.bool true) ∧ w' = w := by
  go_enter Tryz.func63, Tryz.ntmps63
  go_wp2
  refine wp_loop_rounds 1 ?_
  rw [rounds_succ]
  go_wp2
  refine wp_loop_rounds 1 ?_
  rw [rounds_succ]
  go_wp2
  refine wp_loop_rounds 1 ?_
  rw [rounds_succ]
  go_wp2
  go_ret
  exact ⟨rfl, rfl⟩
set_option maxRecDepth 100000 in
theorem ownNumbers_nil (w : World) : Calls Tryz.prog 64 #[.slice none 0 0] w fun e w' => e = .returned (.bool true) ∧ w' = w := by
  go_enter Tryz.func64, Tryz.ntmps64
  go_wp2
  refine wp_loop_rounds 1 ?_
  rw [rounds_succ]
  go_wp2
  refine wp_loop_rounds 1 ?_
  rw [rounds_succ]
  go_wp2
  refine wp_loop_rounds 1 ?_
  rw [rounds_succ]
  go_wp2
  go_ret
  exact ⟨rfl, rfl⟩
set_option maxRecDepth 100000 in
theorem ownNums_nil (w : World) : Calls Tryz.prog 65 #[.slice none 0 0] w fun e w' => e = .returned (.bool true) ∧ w' = w := by
  go_enter Tryz.func65, Tryz.ntmps65
  go_wp2
  refine wp_loop_rounds 1 ?_
  rw [rounds_succ]
  go_wp2
  refine wp_loop_rounds 1 ?_
  rw [rounds_succ]
  go_wp2
  refine wp_loop_rounds 1 ?_
  rw [rounds_succ]
  go_wp2
  go_ret
  exact ⟨rfl, rfl⟩
set_option maxRecDepth 100000 in
theorem ownWords_nil (w : World) : Calls Tryz.prog 66 #[.slice none 0 0] w fun e w' => e = .returned (.bool true) ∧ w' = w := by
  go_enter Tryz.func66, Tryz.ntmps66
  go_wp2
  refine wp_loop_rounds 1 ?_
  rw [rounds_succ]
  go_wp2
  refine wp_loop_rounds 1 ?_
  rw [rounds_succ]
  go_wp2
  refine wp_loop_rounds 1 ?_
  rw [rounds_succ]
  go_wp2
  go_ret
  exact ⟨rfl, rfl⟩
set_option maxRecDepth 100000 in
theorem ownTypes_nil (w : World) : Calls Tryz.prog 67 #[.slice none 0 0] w fun e w' => e = .returned (.bool true) ∧ w' = w := by
  go_enter Tryz.func67, Tryz.ntmps67
  go_wp2
  refine wp_loop_rounds 1 ?_
  rw [rounds_succ]
  go_wp2
  refine wp_loop_rounds 1 ?_
  rw [rounds_succ]
  go_wp2
  refine wp_loop_rounds 1 ?_
  rw [rounds_succ]
  go_wp2
  go_ret
  exact ⟨rfl, rfl⟩
set_option maxRecDepth 100000 in
theorem ownErrs_nil (w : World) : Calls Tryz.prog 68 #[.slice none 0 0] w fun e w' => e = .returned (.bool true) ∧ w' = w := by
  go_enter Tryz.func68, Tryz.ntmps68
  go_wp2
  refine wp_loop_rounds 1 ?_
  rw [rounds_succ]
  go_wp2
  refine wp_loop_rounds 1 ?_
  rw [rounds_succ]
  go_wp2
  refine wp_loop_rounds 1 ?_
  rw [rounds_succ]
  go_wp2
  go_ret
  exact ⟨rfl, rfl⟩
set_option maxRecDepth 100000 in
theorem ownLabels_nil (w : World) : Calls Tryz.prog 69 #[.slice none 0 0] w fun e w' => e = .returned (.bool true) ∧ w' = w := by
  go_enter Tryz.func69, Tryz.ntmps69
  go_wp2
  refine wp_loop_rounds 1 ?_
  rw [rounds_succ]
  go_wp2
  refine wp_loop_rounds 1 ?_
  rw [rounds_succ]
  go_wp2
  refine wp_loop_rounds 1 ?_
  rw [rounds_succ]
  go_wp2
  go_ret
  exact ⟨rfl, rfl⟩
set_option maxRecDepth 100000 in
theorem ownSamples_nil (w : World) : Calls Tryz.prog 70 #[.slice none 0 0] w fun e w' => e = .returned (.bool true) ∧ w' = w := by
  go_enter Tryz.func70, Tryz.ntmps70
  go_wp2
  refine wp_loop_rounds 1 ?_
  rw [rounds_succ]
  go_wp2
  refine wp_loop_rounds 1 ?_
  rw [rounds_succ]
  go_wp2
  refine wp_loop_rounds 1 ?_
  rw [rounds_succ]
  go_wp2
  go_ret
  exact ⟨rfl, rfl⟩
set_option maxRecDepth 100000 in
theorem ownMatchers_nil (w : World) : Calls Tryz.prog 71 #[.slice none 0 0] w fun e w' => e = .returned (.bool true) ∧ w' = w := by
  go_enter Tryz.func71, Tryz.ntmps71
  go_wp2
  refine wp_loop_rounds 1 ?_
  rw [rounds_succ]
  go_wp2
  refine wp_loop_rounds 1 ?_
  rw [rounds_succ]
  go_wp2
  refine wp_loop_rounds 1 ?_
  rw [rounds_succ]
  go_wp2
  go_ret
  exact ⟨rfl, rfl⟩
set_option maxRecDepth 100000 in
theorem ownIntervals_nil (w : World) : Calls Tryz.prog 72 #[.slice none 0 0] w fun e w' => e = .returned (.bool true) ∧ w' = w := by
  go_enter Tryz.func72, Tryz.ntmps72
  go_wp2
  refine wp_loop_rounds 1 ?_
  rw [rounds_succ]
  go_wp2
  refine wp_loop_rounds 1 ?_
  rw [rounds_succ]
  go_wp2
  refine wp_loop_rounds 1 ?_
  rw [rounds_succ]
  go_wp2
  go_ret
  exact ⟨rfl, rfl⟩
set_option maxRecDepth 100000 in
theorem ownPlaces_nil (w : World) : Calls Tryz.prog 73 #[.slice none 0 0] w fun e w' => e = .returned (.bool true) ∧ w' = w := by
  go_enter Tryz.func73, Tryz.ntmps73
  go_wp2
  refine wp_loop_rounds 1 ?_
  rw [rounds_succ]
  go_wp2
  refine wp_loop_rounds 1 ?_
  rw [rounds_succ]
  go_wp2
  refine wp_loop_rounds 1 ?_
  rw [rounds_succ]
  go_wp2
  go_ret
  exact ⟨rfl, rfl⟩
set_option maxRecDepth 100000 in
theorem ownMetas_nil (w : World) : Calls Tryz.prog 74 #[.slice none 0 0] w fun e w' => e = .returned (.bool true) ∧ w' = w := by
  go_enter Tryz.func74, Tryz.ntmps74
  go_wp2
  refine wp_loop_rounds 1 ?_
  rw [rounds_succ]
  go_wp2
  refine wp_loop_rounds 1 ?_
  rw [rounds_succ]
  go_wp2
  refine wp_loop_rounds 1 ?_
  rw [rounds_succ]
  go_wp2
  go_ret
  exact ⟨rfl, rfl⟩
set_option maxRecDepth 100000 in
theorem ownFiles_nil (w : World) : Calls Tryz.prog 75 #[.slice none 0 0] w fun e w' => e = .returned (.bool true) ∧ w' = w := by
  go_enter Tryz.func75, Tryz.ntmps75
  go_wp2
  refine wp_loop_rounds 1 ?_
  rw [rounds_succ]
  go_wp2
  refine wp_loop_rounds 1 ?_
  rw [rounds_succ]
  go_wp2
  refine wp_loop_rounds 1 ?_
  rw [rounds_succ]
  go_wp2
  go_ret
  exact ⟨rfl, rfl⟩
set_option maxRecDepth 100000 in
theorem ownTokens_nil (w : World) : Calls Tryz.prog 76 #[.slice none 0 0] w fun e w' => e = .returned (.bool true) ∧ w' = w := by
  go_enter Tryz.func76, Tryz.ntmps76
  go_wp2
  refine wp_loop_rounds 1 ?_
  rw [rounds_succ]
  go_wp2
  refine wp_loop_rounds 1 ?_
  rw [rounds_succ]
  go_wp2
  refine wp_loop_rounds 1 ?_
  rw [rounds_succ]
  go_wp2
  go_ret
  exact ⟨rfl, rfl⟩
set_option maxRecDepth 100000 in
theorem ownSets_nil (w : World) : Calls Tryz.prog 77 #[.slice none 0 0] w fun e w' => e = .returned (.bool true) ∧ w' = w := by
  go_enter Tryz.func77, Tryz.ntmps77
  go_wp2
  refine wp_loop_rounds 1 ?_
  rw [rounds_succ]
  go_wp2
  refine wp_loop_rounds 1 ?_
  rw [rounds_succ]
  go_wp2
  refine wp_loop_rounds 1 ?_
  rw [rounds_succ]
  go_wp2
  go_ret
  exact ⟨rfl, rfl⟩
set_option maxRecDepth 100000 in
theorem ownRows_nil (w : World) : Calls Tryz.prog 78 #[.slice none 0 0] w fun e w' => e = .returned (.bool true) ∧ w' = w := by
  go_enter Tryz.func78, Tryz.ntmps78
  go_wp2
  refine wp_loop_rounds 1 ?_
  rw [rounds_succ]
  go_wp2
  refine wp_loop_rounds 1 ?_
  rw [rounds_succ]
  go_wp2
  refine wp_loop_rounds 1 ?_
  rw [rounds_succ]
  go_wp2
  go_ret
  exact ⟨rfl, rfl⟩
set_option maxRecDepth 100000 in
theorem ownLists_nil (w : World) : Calls Tryz.prog 79 #[.slice none 0 0] w fun e w' => e = .returned (.bool true) ∧ w' = w := by
  go_enter Tryz.func79, Tryz.ntmps79
  go_wp2
  refine wp_loop_rounds 1 ?_
  rw [rounds_succ]
  go_wp2
  refine wp_loop_rounds 1 ?_
  rw [rounds_succ]
  go_wp2
  refine wp_loop_rounds 1 ?_
  rw [rounds_succ]
  go_wp2
  go_ret
  exact ⟨rfl, rfl⟩
set_option maxRecDepth 100000 in
theorem ownIntLists_nil (w : World) : Calls Tryz.prog 80 #[.slice none 0 0] w fun e w' => e = .returned (.bool true) ∧ w' = w := by
  go_enter Tryz.func80, Tryz.ntmps80
  go_wp2
  refine wp_loop_rounds 1 ?_
  rw [rounds_succ]
  go_wp2
  refine wp_loop_rounds 1 ?_
  rw [rounds_succ]
  go_wp2
  refine wp_loop_rounds 1 ?_
  rw [rounds_succ]
  go_wp2
  go_ret
  exact ⟨rfl, rfl⟩
set_option maxRecDepth 100000 in
theorem ownElems_nil (w : World) : Calls Tryz.prog 81 #[.slice none 0 0] w fun e w' => e = .returned (.bool true) ∧ w' = w := by
  go_enter Tryz.func81, Tryz.ntmps81
  go_wp2
  refine wp_loop_rounds 1 ?_
  rw [rounds_succ]
  go_wp2
  refine wp_loop_rounds 1 ?_
  rw [rounds_succ]
  go_wp2
  refine wp_loop_rounds 1 ?_
  rw [rounds_succ]
  go_wp2
  go_ret
  exact ⟨rfl, rfl⟩
set_option maxRecDepth 100000 in
theorem ownSeries_nil (w : World) : Calls Tryz.prog 82 #[.slice none 0 0] w fun e w' => e = .returned (.bool true) ∧ w' = w := by
  go_enter Tryz.func82, Tryz.ntmps82
  go_wp2
  refine wp_loop_rounds 1 ?_
  rw [rounds_succ]
  go_wp2
  refine wp_loop_rounds 1 ?_
  rw [rounds_succ]
  go_wp2
  refine wp_loop_rounds 1 ?_
  rw [rounds_succ]
  go_wp2
  go_ret
  exact ⟨rfl, rfl⟩
set_option maxRecDepth 100000 in
theorem ownPuts_nil (w : World) : Calls Tryz.prog 83 #[.slice none 0 0] w fun e w' => e = .returned (.bool true) ∧ w' = w := by
  go_enter Tryz.func83, Tryz.ntmps83
  go_wp2
  refine wp_loop_rounds 1 ?_
  rw [rounds_succ]
  go_wp2
  refine wp_loop_rounds 1 ?_
  rw [rounds_succ]
  go_wp2
  refine wp_loop_rounds 1 ?_
  rw [rounds_succ]
  go_wp2
  go_ret
  exact ⟨rfl, rfl⟩
set_option maxRecDepth 100000 in
theorem ownLasts_nil (w : World) : Calls Tryz.prog 84 #[.slice none 0 0] w fun e w' => e = .returned (.bool true) ∧ w' = w := by
  go_enter Tryz.func84, Tryz.ntmps84
  go_wp2
  refine wp_loop_rounds 1 ?_
  rw [rounds_succ]
  go_wp2
  refine wp_loop_rounds 1 ?_
  rw [rounds_succ]
  go_wp2
  refine wp_loop_rounds 1 ?_
  rw [rounds_succ]
  go_wp2
  go_ret
  exact ⟨rfl, rfl⟩
set_option maxRecDepth 100000 in
theorem ownTombs_nil (w : World) : Calls Tryz.prog 85 #[.slice none 0 0] w fun e w' => e = .returned (.bool true) ∧ w' = w := by
  go_enter Tryz.func85, Tryz.ntmps85
  go_wp2
  refine wp_loop_rounds 1 ?_
  rw [rounds_succ]
  go_wp2
  refine wp_loop_rounds 1 ?_
  rw [rounds_succ]
  go_wp2
  refine wp_loop_rounds 1 ?_
  rw [rounds_succ]
  go_wp2
  go_ret
  exact ⟨rfl, rfl⟩
set_option maxRecDepth 100000 in
theorem ownChunks_nil (w : World) : Calls Tryz.prog 86 #[.slice none 0 0] w fun e w' => e = .returned (.bool true) ∧ w' = w := by
  go_enter Tryz.func86, Tryz.ntmps86
  go_wp2
  refine wp_loop_rounds 1 ?_
  rw [rounds_succ]
  go_wp2
  refine wp_loop_rounds 1 ?_
  rw [rounds_succ]
  go_wp2
  refine wp_loop_rounds 1 ?_
  rw [rounds_succ]
  go_wp2
  go_ret
  exact ⟨rfl, rfl⟩
set_option maxRecDepth 100000 in
theorem ownEntries_nil (w : World) : Calls Tryz.prog 87 #[.slice none 0 0] w fun e w' => e = .returned (.bool true) ∧ w' = w := by
  go_enter Tryz.func87, Tryz.ntmps87
  go_wp2
  refine wp_loop_rounds 1 ?_
  rw [rounds_succ]
  go_wp2
  refine wp_loop_rounds 1 ?_
  rw [rounds_succ]
  go_wp2
  refine wp_loop_rounds 1 ?_
  rw [rounds_succ]
  go_wp2
  go_ret
  exact ⟨rfl, rfl⟩
set_option maxRecDepth 100000 in
theorem ownMutations_nil (w : World) : Calls Tryz.prog 88 #[.slice none 0 0] w fun e w' => e = .returned (.bool true) ∧ w' = w := by
  go_enter Tryz.func88, Tryz.ntmps88
  go_wp2
  refine wp_loop_rounds 1 ?_
  rw [rounds_succ]
  go_wp2
  refine wp_loop_rounds 1 ?_
  rw [rounds_succ]
  go_wp2
  refine wp_loop_rounds 1 ?_
  rw [rounds_succ]
  go_wp2
  go_ret
  exact ⟨rfl, rfl⟩
theorem Tryz.infoBools : (Tryz.prog.info? 228).map (fun i => (i.zero, i.size, i.bytes)) = some (some (.slice none 0 0), 1, 24) := by kernel_rfl
set_option maxRecDepth 100000 in
theorem ownBools_nil (w : World) : Calls Tryz.prog 89 #[.slice none 0 0] w fun e w' => e = .returned (.bool true) ∧ Below w.heap.size w w' := by
  obtain ⟨i0, hi, hz0, hz1, hz2⟩ := info_parts Tryz.infoBools
  go_enter Tryz.func89, Tryz.ntmps89
  go_wp2_with (refine wpList_make_own _ rfl _ _ 72 rfl w.heap.size 228 i0 _ 1 Tryz.underlying72 hi hz0 hz1 .i64 .i64 0 0 rfl rfl rfl (by simp) (by simp) (Nat.le_refl _) ?_)
  intro w1 _ hg
  have hb : Below w.heap.size w w1 := ⟨hg.os, hg.tape, hg.output, hg.size, fun k hk => hg.block k hk (by simp)⟩
  clear hg
  go_wp2
  refine wp_loop_rounds 1 ?_
  rw [rounds_succ]
  go_wp2
  go_ret
  exact ⟨rfl, hb⟩
set_option maxRecDepth 100000 in
theorem ownNodes_nil (w : World) : Calls Tryz.prog 90 #[.slice none 0 0] w fun e w' => e = .returned (.bool true) ∧ w' = w := by
  go_enter Tryz.func90, Tryz.ntmps90
  go_wp2
  refine wp_loop_rounds 1 ?_
  rw [rounds_succ]
  go_wp2
  refine wp_loop_rounds 1 ?_
  rw [rounds_succ]
  go_wp2
  refine wp_loop_rounds 1 ?_
  rw [rounds_succ]
  go_wp2
  go_ret
  exact ⟨rfl, rfl⟩
set_option maxRecDepth 100000 in
theorem ownJsons_nil (w : World) : Calls Tryz.prog 91 #[.slice none 0 0] w fun e w' => e = .returned (.bool true) ∧ w' = w := by
  go_enter Tryz.func91, Tryz.ntmps91
  go_wp2
  refine wp_loop_rounds 1 ?_
  rw [rounds_succ]
  go_wp2
  refine wp_loop_rounds 1 ?_
  rw [rounds_succ]
  go_wp2
  refine wp_loop_rounds 1 ?_
  rw [rounds_succ]
  go_wp2
  go_ret
  exact ⟨rfl, rfl⟩
end Go.Proofs.YtajaijidecomdaaGreatDoor
