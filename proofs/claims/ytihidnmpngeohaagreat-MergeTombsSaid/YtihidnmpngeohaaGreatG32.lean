/- Book.Labels: a list is laid behind in the book. Written off a master by mk2.py. Book.Tombs: tombs are laid behind in the book, and their labels. -/
import Derived.Test.YtihidnmpngeohaaGreatOwnLabel
import Derived.Test.YtihidnmpngeohaaGreatOwnTomb
namespace Go.Proofs.YtihidnmpngeohaaGreat
open Go.RowKit Go.Lib

set_option maxHeartbeats 4000000 in
set_option maxRecDepth 100000 in
theorem bookLabels (bk B m : Nat) (cs : Array Value) (v : Value) (A : Option Addr) (n c : Nat) (Ls : List Value) (w : World) (hb : Bk w bk cs) (hv : cs[9]? = some v) (ho : w.ownsRow B 23 1 v m Ls) (hne : v.ownBlock ≠ some bk) (hB : B ≤ w.heap.size) (hm : m ≤ 1000000) :
    Calls Tryz.prog 38 #[.pointer (some ⟨bk, 0, none⟩), .slice A n c] w (PutPost w bk B m 9 23 cs v (.slice A n c) Ls) := by
  obtain ⟨i1, hi, hz0, hz1, hz2⟩ := info_parts Tryz.infoLabels
  have HJ := Lib.hid (show _ ∧ _ ∧ _ ∧ _ from ⟨hi, hz0, hz1, hz2⟩)
  have c2 := (hb.cell 9).trans hv
  have f2 := hb.free 9
  have HB := Lib.hid (show _ ∧ _ from ⟨hb, ho⟩)
  have HNE := Lib.hid hne
  clear hi hz0 hz1 hz2 hb hv ho hne
  go_enter Tryz.func38, Tryz.ntmps38
  obtain ⟨hi, hz0, hz1, hz2⟩ := HJ.out
  go_wp2_with (at_builtin; refine wpList_append_full _ rfl _ _ 43 rfl B 23 i1 _ 1 24 Tryz.underlying43 hi hz0 hz1 hz2 rfl (by omega) _ m Ls rfl (HB.out.2.alloc _) ⟨w.heap.size, 0, none⟩ 1 1 [.slice A n c] rfl rfl (cells_one w _ _) (by simp [Value.oneCell']) (by omega) (by unfold maxLen; omega) (by omega) (by simp; omega) ?_)
  intro g cap w5 hown5 hg5 hl5 ho5
  have hb1 : Bk (w.alloc (.cells #[.slice A n c] 23)) bk cs := HB.out.1.kept (GrownIn.alloc (GrownIn.refl (fun _ => False) w) _) (fun h => h)
  have hb5 := hb1.kept (GrownIn.of_grownBy hg5) HNE.out
  have hgr : GrownIn (fun k => k = bk ∨ v.ownBlock = some k) w w5 := ((GrownIn.refl _ w).alloc _).trans (GrownIn.of_grownBy hg5) (fun k _ h => .inr h)
  have hgb : g ≠ bk := by
    rcases hl5 with h | h
    · intro e; exact HNE.out (by rw [h, e])
    · have := HB.out.1.lt; intro e; omega
  have hbs := hb5.set 9 (.slice (some ⟨g, 0, none⟩) (m + 1) cap)
  have hos := owns_set_other hown5 (p := ⟨bk, 9, none⟩) (by simp [Value.ownBlock]; exact hgb) (.slice (some ⟨g, 0, none⟩) (m + 1) cap)
  have hgs := grownIn_set hgr (p := ⟨bk, 9, none⟩) (.inl rfl) (.slice (some ⟨g, 0, none⟩) (m + 1) cap)
  have hlies : v.ownBlock = some g ∨ w.heap.size ≤ g := hl5.imp_right fun h => by omega
  have HF := Lib.hid (show _ ∧ _ ∧ _ ∧ _ from ⟨hos, hbs, hgs, hlies⟩)
  have c5 : w5.cell? ⟨bk, 9, none⟩ = some v := (hb5.cell 9).trans ((hb1.cell 9).symm.trans (by rw [World.cell?_alloc_lt _ _ _ HB.out.1.lt]; exact c2))
  have f5 := hb5.free 9
  clear c2 f2 hi hz0 hz1 hz2 hown5 hg5 hl5 ho5 hb1 hb5 hgr hgb hbs hos hgs hlies
  go_wp2
  go_end0
  exact ⟨rfl, g, cap, HF.out.1, HF.out.2.1, HF.out.2.2.1, HF.out.2.2.2⟩
end Go.Proofs.YtihidnmpngeohaaGreat
namespace Go.Proofs.YtihidnmpngeohaaGreat
open Go.RowKit Go.Lib

def valT (z : Tv) : Value := .slice z.A z.n z.c
theorem set_same {cs : Array Value} {i : Nat} {v : Value} (h : cs[i]? = some v) : cs.setIfInBounds i v = cs := by
  apply Array.ext_getElem?
  intro k
  rw [Array.getElem?_setIfInBounds]
  by_cases hk : i = k
  · subst hk
    obtain ⟨h1, h2⟩ := Array.getElem?_eq_some_iff.1 h
    rw [if_pos rfl, if_pos h1, h]
  · rw [if_neg hk]
/-- Behind the first k tombs: their labels lie in the book. -/
structure BkT (w wr : World) (bk B : Nat) (cs : Array Value) (t25 v9 : Value) (m25 m9 : Nat) (Ls25 Ls9 : List Value) (os : List Tv) (k : Nat) (v : Value) : Prop where
  book : Bk wr bk (cs.setIfInBounds 9 v)
  own9 : wr.ownsRow B 23 1 v (m9 + k) (Ls9 ++ (os.take k).map valT)
  own25 : wr.ownsRow B 22 1 t25 m25 Ls25
  grown : GrownIn (fun b => b = bk ∨ v9.ownBlock = some b) w wr
  lies : ∀ b, v.ownBlock = some b → v9.ownBlock = some b ∨ w.heap.size ≤ b
set_option maxHeartbeats 4000000 in
set_option maxRecDepth 100000 in
/-- What Book.Tombs leaves. -/
def PutTPost (w : World) (bk B m25 m9 : Nat) (cs : Array Value) (v25 v9 a : Value) (Ls25 Ls9 : List Value) (os : List Tv) (e : Ending) (w' : World) : Prop :=
  e = .returned (.tuple #[]) ∧ ∃ g25 c25 v9', w'.ownsRow B 22 1 (.slice (some ⟨g25, 0, none⟩) (m25 + 1) c25) (m25 + 1) (Ls25 ++ [a]) ∧ w'.ownsRow B 23 1 v9' (m9 + os.length) (Ls9 ++ os.map valT) ∧
    Bk w' bk ((cs.setIfInBounds 25 (.slice (some ⟨g25, 0, none⟩) (m25 + 1) c25)).setIfInBounds 9 v9') ∧ GrownIn (fun b => b = bk ∨ v25.ownBlock = some b ∨ v9.ownBlock = some b) w w' ∧
    (v25.ownBlock = some g25 ∨ w.heap.size ≤ g25) ∧ (∀ b, v9'.ownBlock = some b → v9.ownBlock = some b ∨ w.heap.size ≤ b)
set_option maxHeartbeats 4000000 in
set_option maxRecDepth 100000 in
theorem bookTombs (bk B Bo m25 m9 : Nat) (cs : Array Value) (v25 v9 : Value) (A : Option Addr) (n c : Nat) (Ls25 Ls9 : List Value) (os : List Tv) (w : World) (hb : Bk w bk cs) (h25 : cs[25]? = some v25) (h9 : cs[9]? = some v9)
    (ho25 : w.ownsRow B 22 1 v25 m25 Ls25) (ho9 : w.ownsRow B 23 1 v9 m9 Ls9) (hne25 : v25.ownBlock ≠ some bk) (hne9 : v9.ownBlock ≠ some bk) (hB : B ≤ w.heap.size) (hm25 : m25 ≤ 1000) (hm9 : m9 ≤ 1000)
    (hos : w.ownsRow Bo 27 3 (.slice A n c) n (os.flatMap encTb)) (hn : n ≤ 1000) (hAb : (Value.slice A n c).ownBlock ≠ some bk) :
    Calls Tryz.prog 10 #[.pointer (some ⟨bk, 0, none⟩), .slice A n c] w (PutTPost w bk B m25 m9 cs v25 v9 (.slice A n c) Ls25 Ls9 os) := by
  obtain ⟨i1, hi, hz0, hz1, hz2⟩ := info_parts Tryz.infoTombs
  have HJ := Lib.hid (show _ ∧ _ ∧ _ ∧ _ from ⟨hi, hz0, hz1, hz2⟩)
  have c2 := (hb.cell 25).trans h25
  have f2 := hb.free 25
  have hll := owns_len hos encTb_len (by omega)
  have HB := Lib.hid (show _ ∧ _ ∧ _ ∧ _ ∧ _ ∧ _ from ⟨hb, ho25, ho9, h9, hos, hll⟩)
  have HNE := Lib.hid (show _ ∧ _ ∧ _ from ⟨hne25, hne9, hAb⟩)
  clear hi hz0 hz1 hz2 hb h25 h9 ho25 ho9 hne25 hne9 hos hll hAb
  go_enter Tryz.func10, Tryz.ntmps10
  obtain ⟨hi, hz0, hz1, hz2⟩ := HJ.out
  go_wp2_with (at_builtin; refine wpList_append_full _ rfl _ _ 59 rfl B 22 i1 _ 1 24 Tryz.underlying59 hi hz0 hz1 hz2 rfl (by omega) _ m25 Ls25 rfl (HB.out.2.1.alloc _) ⟨w.heap.size, 0, none⟩ 1 1 [.slice A n c] rfl rfl (cells_one w _ _) (by simp [Value.oneCell']) (by omega) (by unfold maxLen; omega) (by omega) (by simp; omega) ?_)
  intro g cap w5 hown5 hg5 hl5 ho5
  have hb1 : Bk (w.alloc (.cells #[.slice A n c] 22)) bk cs := HB.out.1.kept (GrownIn.alloc (GrownIn.refl (fun _ => False) w) _) (fun h => h)
  have hba : Below w.heap.size w (w.alloc (.cells #[.slice A n c] 22)) := (Below.refl _ _).alloc (Nat.le_refl _) _
  have hb5 := hb1.kept (GrownIn.of_grownBy hg5) HNE.out.1
  have hgb : g ≠ bk := by
    rcases hl5 with h | h
    · intro e; exact HNE.out.1 (by rw [h, e])
    · have := HB.out.1.lt; intro e; omega
  have hbs := hb5.set 25 (.slice (some ⟨g, 0, none⟩) (m25 + 1) cap)
  have hos := owns_set_other hown5 (p := ⟨bk, 25, none⟩) (by simp [Value.ownBlock]; exact hgb) (.slice (some ⟨g, 0, none⟩) (m25 + 1) cap)
  have h95 : w5.ownsRow B 23 1 v9 m9 Ls9 := (owns_below HB.out.2.2.1 hba).kept hg5 (by
    cases hv : v9.ownBlock with
    | none => exact .inl rfl
    | some b => exact .inr fun e => owns_other (owns_below HB.out.2.2.1 hba) (owns_below HB.out.2.1 hba) (by decide) hv e.symm)
  have h9s := owns_set_other h95 (p := ⟨bk, 25, none⟩) HNE.out.2.1 (.slice (some ⟨g, 0, none⟩) (m25 + 1) cap)
  have hA5 : w5.ownsRow Bo 27 3 (.slice A n c) n (os.flatMap encTb) := (owns_below HB.out.2.2.2.2.1 hba).kept hg5 (by
    cases hv : (Value.slice A n c).ownBlock with
    | none => exact .inl rfl
    | some b => exact .inr fun e => owns_other (owns_below HB.out.2.2.2.2.1 hba) (owns_below HB.out.2.1 hba) (by decide) hv e.symm)
  have hAs := owns_set_other hA5 (p := ⟨bk, 25, none⟩) HNE.out.2.2 (.slice (some ⟨g, 0, none⟩) (m25 + 1) cap)
  have hgr : GrownIn (fun k => k = bk ∨ v25.ownBlock = some k ∨ v9.ownBlock = some k) w w5 := ((GrownIn.refl _ w).alloc _).trans (GrownIn.of_grownBy hg5) (fun k _ h => .inr (.inl h))
  have hgs := grownIn_set hgr (p := ⟨bk, 25, none⟩) (.inl rfl) (.slice (some ⟨g, 0, none⟩) (m25 + 1) cap)
  have hlies : v25.ownBlock = some g ∨ w.heap.size ≤ g := hl5.imp_right fun h => by omega
  have c5 : w5.cell? ⟨bk, 25, none⟩ = some v25 := (hb5.cell 25).trans ((hb1.cell 25).symm.trans (by rw [World.cell?_alloc_lt _ _ _ HB.out.1.lt]; exact c2))
  have f5 := hb5.free 25
  have h9c : (cs.setIfInBounds 25 (.slice (some ⟨g, 0, none⟩) (m25 + 1) cap))[9]? = some v9 := by rw [Array.getElem?_setIfInBounds, if_neg (by decide)]; exact HB.out.2.2.2.1
  have hw6 : w.heap.size ≤ (w5.setCell ⟨bk, 25, none⟩ (.slice (some ⟨g, 0, none⟩) (m25 + 1) cap)).heap.size := by have := hgs.size; exact this
  have HF := Lib.hid (show _ ∧ _ ∧ _ ∧ _ ∧ _ ∧ _ ∧ _ ∧ _ from ⟨hos, hbs, hgs, hlies, h9s, hAs, h9c, hw6⟩)
  have hll := HB.out.2.2.2.2.2
  clear c2 f2 hi hz0 hz1 hz2 hown5 hg5 hl5 ho5 hb1 hb5 hgr hgb hbs hos hgs hlies h95 h9s hA5 hAs h9c hw6 hba
  go_wp2
  have H6 := HF.out
  obtain ⟨w6, hw6⟩ : ∃ w6, w5.setCell ⟨bk, 25, none⟩ (.slice (some ⟨g, 0, none⟩) (m25 + 1) cap) = w6 := ⟨_, rfl⟩
  rw [hw6] at H6 ⊢
  have HW := Lib.hid H6
  clear H6 hw6 c5 f5
  go_loopw [4] (fun i wr => ∃ (k : Nat) (v : Value), k ≤ n ∧ i = .int .i64 k ∧ Hid (BkT w6 wr bk B (cs.setIfInBounds 25 (.slice (some ⟨g, 0, none⟩) (m25 + 1) cap)) (.slice (some ⟨g, 0, none⟩) (m25 + 1) cap) v9 (m25 + 1) m9 (Ls25 ++ [.slice A n c]) Ls9 os k v)) (fun i _ => n - (intOf i).toNat)
  case atStart => exact ⟨0, v9, Nat.zero_le _, rfl, Lib.hid ⟨by rw [set_same HW.out.2.2.2.2.2.2.1]; exact HW.out.2.1, by simpa using HW.out.2.2.2.2.1, HW.out.1, GrownIn.refl _ _, fun b hb => .inl hb⟩⟩
  case round =>
    obtain ⟨k, v, hk, rfl, HT⟩ := hrel
    have hsz := HT.out.grown.size
    have hwz := HW.out.2.2.2.2.2.2.2
    by_cases hlt : k < n
    · obtain ⟨z, hz⟩ : ∃ z, os[k]? = some z := ⟨_, List.getElem?_eq_getElem (by omega)⟩
      have hne9 : v.ownBlock ≠ some bk := fun e => by
        rcases HT.out.lies bk e with h | h
        · exact HNE.out.2.1 h
        · have := HW.out.2.1.lt; omega
      obtain ⟨gA, rfl, hgA⟩ := owns_some' HW.out.2.2.2.2.2.1 (by omega)
      have hAr := HT.out.grown.owns HW.out.2.2.2.2.2.1 (fun b hb hs => by
        rcases hs with rfl | hs
        · exact HNE.out.2.2 hb
        · exact owns_other HW.out.2.2.2.2.2.1 HW.out.2.2.2.2.1 (by decide) hb hs)
      have c0 := owns_at hAr encTb_len hz (j := 0) (u := .slice z.A z.n z.c) rfl
      simp only [Nat.add_zero] at c0
      have h9v : ((cs.setIfInBounds 25 (.slice (some ⟨g, 0, none⟩) (m25 + 1) cap)).setIfInBounds 9 v)[9]? = some v := by
        have hs := HT.out.book.2
        simp only [Array.size_setIfInBounds] at hs
        rw [Array.getElem?_setIfInBounds, if_pos rfl, if_pos (by rw [Array.size_setIfInBounds]; omega)]
      have hcall := bookLabels bk B (m9 + k) _ v z.A z.n z.c (Ls9 ++ (os.take k).map valT) wr HT.out.book h9v HT.out.own9 hne9 (by omega) (by omega)
      have hnext : ∀ e w', PutPost wr bk B (m9 + k) 9 23 ((cs.setIfInBounds 25 (.slice (some ⟨g, 0, none⟩) (m25 + 1) cap)).setIfInBounds 9 v) v (.slice z.A z.n z.c) (Ls9 ++ (os.take k).map valT) e w' → e = .returned (.tuple #[]) ∧ ∃ v', BkT w6 w' bk B (cs.setIfInBounds 25 (.slice (some ⟨g, 0, none⟩) (m25 + 1) cap)) (.slice (some ⟨g, 0, none⟩) (m25 + 1) cap) v9 (m25 + 1) m9 (Ls25 ++ [.slice (some ⟨gA, 0, none⟩) n c]) Ls9 os (k + 1) v' := by
        rintro e w' ⟨he, g', c', ho', hb', hg', hl'⟩
        refine ⟨he, .slice (some ⟨g', 0, none⟩) (m9 + k + 1) c', ?_, ?_, ?_, ?_, ?_⟩
        · have : ((cs.setIfInBounds 25 (.slice (some ⟨g, 0, none⟩) (m25 + 1) cap)).setIfInBounds 9 v).setIfInBounds 9 (.slice (some ⟨g', 0, none⟩) (m9 + k + 1) c') = (cs.setIfInBounds 25 (.slice (some ⟨g, 0, none⟩) (m25 + 1) cap)).setIfInBounds 9 (.slice (some ⟨g', 0, none⟩) (m9 + k + 1) c') := by
            apply Array.ext_getElem?
            intro j
            simp only [Array.getElem?_setIfInBounds, Array.size_setIfInBounds]
            by_cases h : 9 = j
            · simp [h]
            · simp [h]
          rw [this] at hb'
          exact hb'
        · obtain ⟨q1, q2⟩ := List.getElem?_eq_some_iff.1 hz
          rw [List.take_succ_eq_append_getElem q1, q2, List.map_append, ← List.append_assoc]
          exact ho'
        · exact hg'.owns HT.out.own25 (fun b hb hs => by
            rcases hs with rfl | hs
            · have h1 := HW.out.2.2.2.1
              have h2 := HW.out.1.lt
              have hgb : g = b := by simpa [Value.ownBlock] using hb
              subst hgb
              rcases h1 with h1 | h1
              · exact HNE.out.1 h1
              · have := HB.out.1.lt; omega
            · exact owns_other HT.out.own25 HT.out.own9 (by decide) hb hs)
        · refine HT.out.grown.trans hg' (fun b hb hs => ?_)
          rcases hs with rfl | hs
          · exact .inl rfl
          · rcases HT.out.lies b hs with h | h
            · exact .inr h
            · omega
        · intro b hb
          have hgb : g' = b := by simpa [Value.ownBlock] using hb
          subst hgb
          rcases hl' with h | h
          · exact HT.out.lies _ h
          · exact .inr (by omega)
      have HC := Lib.hid (show _ ∧ _ from ⟨hcall, hnext⟩)
      clear hz hAr h9v hcall hnext hne9
      go_wp2_with (go_at_call 38; refine HC.out.1.mono ?_; intro e w7 hp7; obtain ⟨rfl, v7, h7⟩ := HC.out.2 e w7 hp7; have H7 := Lib.hid h7; clear hp7 h7)
      go_roundw
      case measure => simp [intOf]; omega
      case rel => exact ⟨k + 1, v7, hlt, by simp, H7⟩
    · obtain rfl : n = k := by omega
      have hT := HT.out
      have h9f := hT.own9
      rw [List.take_of_length_le (by omega)] at h9f
      have H9 := Lib.hid h9f
      clear h9f hT
      go_wp2
      go_end0
      refine ⟨rfl, g, cap, v, HT.out.own25, by rw [hll]; exact H9.out, HT.out.book, ?_, HW.out.2.2.2.1, fun b hb => ?_⟩
      · refine HW.out.2.2.1.trans HT.out.grown (fun b _ hs => ?_)
        rcases hs with h | h
        · exact .inl h
        · exact .inr (.inr h)
      · rcases HT.out.lies b hb with h | h
        · exact .inl h
        · exact .inr (by omega)
end Go.Proofs.YtihidnmpngeohaaGreat
