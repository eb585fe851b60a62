/- Book.Series: series are laid behind in the book, and their labels and samples. Marks of series: each is a slice of one label of its own; what is known of them while ownSeries goes on. -/
import Derived.Test.YtihidnmpngeohaaGreatG20
import Derived.Test.YtihidnmpngeohaaGreatG33
import Derived.Test.YtihidnmpngeohaaGreatG34
import Derived.Test.YtihidnmpngeohaaGreatOwnLabel
namespace Go.Proofs.YtihidnmpngeohaaGreat
open Go.RowKit Go.Lib

theorem Tryz.infoSeriess : (Tryz.prog.info? 70).map (fun i => (i.zero, i.size, i.bytes)) = some (some (.slice none 0 0), 1, 24) := by kernel_rfl
/-- The book's cells: those of cs, but for the three fields. -/
def BkCells (cs cs' : Array Value) (v22 v9 v10 : Value) : Prop := ∀ k, k < 32 → cs'[k]? = if k = 22 then some v22 else if k = 9 then some v9 else if k = 10 then some v10 else cs[k]?
theorem BkCells.set9 {cs cs' : Array Value} {v22 v9 v10 u : Value} (h : BkCells cs cs' v22 v9 v10) : BkCells cs (cs'.setIfInBounds 9 u) v22 u v10 := fun k hk => by
  have h9 := h 9 (by omega)
  simp only [show ¬ (9 : Nat) = 22 by omega, if_false, if_true] at h9
  have hs := (Array.getElem?_eq_some_iff.1 h9).1
  rw [Array.getElem?_setIfInBounds]
  by_cases e : 9 = k
  · subst e
    simp [hs]
  · rw [if_neg e, h k hk, if_neg (show ¬ k = 9 by omega)]
    simp [show ¬ k = 9 by omega]
theorem BkCells.set10 {cs cs' : Array Value} {v22 v9 v10 u : Value} (h : BkCells cs cs' v22 v9 v10) : BkCells cs (cs'.setIfInBounds 10 u) v22 v9 u := fun k hk => by
  have h9 := h 10 (by omega)
  simp only [show ¬ (10 : Nat) = 22 by omega, show ¬ (10 : Nat) = 9 by omega, if_false, if_true] at h9
  have hs := (Array.getElem?_eq_some_iff.1 h9).1
  rw [Array.getElem?_setIfInBounds]
  by_cases e : 10 = k
  · subst e
    simp [hs]
  · rw [if_neg e, h k hk]
    simp [show ¬ k = 10 by omega]
/-- Behind the first k series: their labels and samples lie in the book. -/
structure BkS (w wr : World) (bk B : Nat) (cs : Array Value) (t22 v9 v10 : Value) (m22 m9 m10 : Nat) (Ls22 Ls9 Ls10 : List Value) (os : List Sv) (k : Nat) (u9 u10 : Value) (cs' : Array Value) : Prop where
  book : Bk wr bk cs'
  cells : BkCells cs cs' t22 u9 u10
  own9 : wr.ownsRow B 23 1 u9 (m9 + k) (Ls9 ++ (os.take k).map valL)
  own10 : wr.ownsRow B 90 1 u10 (m10 + k) (Ls10 ++ (os.take k).map valD)
  own22 : wr.ownsRow B 70 1 t22 m22 Ls22
  grown : GrownIn (fun b => b = bk ∨ v9.ownBlock = some b ∨ v10.ownBlock = some b) w wr
  lies9 : ∀ b, u9.ownBlock = some b → v9.ownBlock = some b ∨ w.heap.size ≤ b
  lies10 : ∀ b, u10.ownBlock = some b → v10.ownBlock = some b ∨ w.heap.size ≤ b
theorem owns_not_bk {w : World} {bk B sz n : Nat} {cs : Array Value} {e : TypeId} {v : Value} {xs : List Value} (hb : Bk w bk cs) (ho : w.ownsRow B e sz v n xs) (hne : e ≠ 67) : v.ownBlock ≠ some bk := fun hk => by
  obtain ⟨cs', fz, h1⟩ := owns_typed ho hk
  have h2 := hb.1
  rw [h1] at h2
  injection h2 with h2
  injection h2 with _ h2
  exact hne h2
theorem BkS.next9 {w wr w' : World} {bk B m22 m9 m10 k g c : Nat} {cs cs' : Array Value} {t22 v9 v10 u9 u10 : Value} {Ls22 Ls9 Ls10 : List Value} {os : List Sv} {z : Sv} (h : BkS w wr bk B cs t22 v9 v10 m22 m9 m10 Ls22 Ls9 Ls10 os k u9 u10 cs') (hz : os[k]? = some z)
    (ho : w'.ownsRow B 23 1 (.slice (some ⟨g, 0, none⟩) (m9 + k + 1) c) (m9 + k + 1) (Ls9 ++ (os.take k).map valL ++ [valL z])) (hb : Bk w' bk (cs'.setIfInBounds 9 (.slice (some ⟨g, 0, none⟩) (m9 + k + 1) c))) (hg : GrownIn (fun k => k = bk ∨ u9.ownBlock = some k) wr w') (hl : u9.ownBlock = some g ∨ wr.heap.size ≤ g) :
    Bk w' bk (cs'.setIfInBounds 9 (.slice (some ⟨g, 0, none⟩) (m9 + k + 1) c)) ∧ BkCells cs (cs'.setIfInBounds 9 (.slice (some ⟨g, 0, none⟩) (m9 + k + 1) c)) t22 (.slice (some ⟨g, 0, none⟩) (m9 + k + 1) c) u10 ∧
    w'.ownsRow B 23 1 (.slice (some ⟨g, 0, none⟩) (m9 + (k + 1)) c) (m9 + (k + 1)) (Ls9 ++ (os.take (k + 1)).map valL) ∧ w'.ownsRow B 90 1 u10 (m10 + k) (Ls10 ++ (os.take k).map valD) ∧ w'.ownsRow B 70 1 t22 m22 Ls22 ∧
    GrownIn (fun b => b = bk ∨ v9.ownBlock = some b ∨ v10.ownBlock = some b) w w' ∧ (∀ b, (Value.slice (some ⟨g, 0, none⟩) (m9 + (k + 1)) c).ownBlock = some b → v9.ownBlock = some b ∨ w.heap.size ≤ b) ∧ wr.heap.size ≤ w'.heap.size := by
  have hsz := h.grown.size
  refine ⟨hb, h.cells.set9, ?_, ?_, ?_, ?_, ?_, hg.size⟩
  · obtain ⟨q1, q2⟩ := List.getElem?_eq_some_iff.1 hz
    rw [List.take_succ_eq_append_getElem q1, q2, List.map_append, ← List.append_assoc]
    exact ho
  · exact hg.owns h.own10 (fun b hb' hs => by
      rcases hs with rfl | hs
      · exact owns_not_bk h.book h.own10 (by decide) hb'
      · exact owns_other h.own10 h.own9 (by decide) hb' hs)
  · exact hg.owns h.own22 (fun b hb' hs => by
      rcases hs with rfl | hs
      · exact owns_not_bk h.book h.own22 (by decide) hb'
      · exact owns_other h.own22 h.own9 (by decide) hb' hs)
  · refine h.grown.trans hg (fun b hb' hs => ?_)
    rcases hs with rfl | hs
    · exact .inl rfl
    · rcases h.lies9 b hs with h' | h'
      · exact .inr (.inl h')
      · omega
  · intro b hb'
    have hgb : g = b := by simpa [Value.ownBlock] using hb'
    subst hgb
    rcases hl with h' | h'
    · exact h.lies9 _ h'
    · exact .inr (by omega)
theorem BkS.next10 {w w7 w8 : World} {bk B m22 m9 m10 k g c : Nat} {cs cs7 : Array Value} {t22 v9 v10 u9 u10 : Value} {Ls22 Ls9 Ls10 : List Value} {os : List Sv} {z : Sv} (hz : os[k]? = some z) (hb7 : Bk w7 bk cs7) (q2 : BkCells cs cs7 t22 u9 u10)
    (q3 : w7.ownsRow B 23 1 u9 (m9 + (k + 1)) (Ls9 ++ (os.take (k + 1)).map valL)) (q4 : w7.ownsRow B 90 1 u10 (m10 + k) (Ls10 ++ (os.take k).map valD)) (q5 : w7.ownsRow B 70 1 t22 m22 Ls22)
    (q6 : GrownIn (fun b => b = bk ∨ v9.ownBlock = some b ∨ v10.ownBlock = some b) w w7) (q7 : ∀ b, u9.ownBlock = some b → v9.ownBlock = some b ∨ w.heap.size ≤ b) (l10 : ∀ b, u10.ownBlock = some b → v10.ownBlock = some b ∨ w.heap.size ≤ b)
    (ho : w8.ownsRow B 90 1 (.slice (some ⟨g, 0, none⟩) (m10 + k + 1) c) (m10 + k + 1) (Ls10 ++ (os.take k).map valD ++ [valD z])) (hb : Bk w8 bk (cs7.setIfInBounds 10 (.slice (some ⟨g, 0, none⟩) (m10 + k + 1) c))) (hg : GrownIn (fun k => k = bk ∨ u10.ownBlock = some k) w7 w8) (hl : u10.ownBlock = some g ∨ w7.heap.size ≤ g) :
    BkS w w8 bk B cs t22 v9 v10 m22 m9 m10 Ls22 Ls9 Ls10 os (k + 1) u9 (.slice (some ⟨g, 0, none⟩) (m10 + k + 1) c) (cs7.setIfInBounds 10 (.slice (some ⟨g, 0, none⟩) (m10 + k + 1) c)) := by
  have hsz := q6.size
  have keep : ∀ {e : TypeId} {B' sz m : Nat} {v : Value} {xs : List Value}, w7.ownsRow B' e sz v m xs → e ≠ 90 → e ≠ 67 → w8.ownsRow B' e sz v m xs := fun ho hne hne' => hg.owns ho (fun b hb' hs => by
      rcases hs with rfl | hs
      · exact owns_not_bk hb7 ho hne' hb'
      · exact owns_other ho q4 hne hb' hs)
  refine ⟨hb, q2.set10, keep q3 (by decide) (by decide), ?_, keep q5 (by decide) (by decide), ?_, q7, ?_⟩
  · obtain ⟨e1, e2⟩ := List.getElem?_eq_some_iff.1 hz
    rw [List.take_succ_eq_append_getElem e1, e2, List.map_append, ← List.append_assoc]
    exact ho
  · refine q6.trans hg (fun b hb' hs => ?_)
    rcases hs with rfl | hs
    · exact .inl rfl
    · rcases l10 b hs with h' | h'
      · exact .inr (.inr h')
      · omega
  · intro b hb'
    have hgb : g = b := by simpa [Value.ownBlock] using hb'
    subst hgb
    rcases hl with h' | h'
    · exact l10 _ h'
    · exact .inr (by omega)
/-- What Book.Series leaves. -/
def PutSPost (w : World) (bk B m22 m9 m10 : Nat) (cs : Array Value) (v22 v9 v10 a : Value) (Ls22 Ls9 Ls10 : List Value) (os : List Sv) (e : Ending) (w' : World) : Prop :=
  e = .returned (.tuple #[]) ∧ ∃ g22 c22 u9 u10 cs', w'.ownsRow B 70 1 (.slice (some ⟨g22, 0, none⟩) (m22 + 1) c22) (m22 + 1) (Ls22 ++ [a]) ∧ w'.ownsRow B 23 1 u9 (m9 + os.length) (Ls9 ++ os.map valL) ∧ w'.ownsRow B 90 1 u10 (m10 + os.length) (Ls10 ++ os.map valD) ∧
    Bk w' bk cs' ∧ BkCells cs cs' (.slice (some ⟨g22, 0, none⟩) (m22 + 1) c22) u9 u10 ∧ GrownIn (fun b => b = bk ∨ v22.ownBlock = some b ∨ v9.ownBlock = some b ∨ v10.ownBlock = some b) w w'
set_option maxHeartbeats 4000000 in
set_option maxRecDepth 100000 in
theorem bookSeries (bk B Bo m22 m9 m10 : Nat) (cs : Array Value) (v22 v9 v10 : Value) (A : Option Addr) (n c : Nat) (Ls22 Ls9 Ls10 : List Value) (os : List Sv) (w : World) (hb : Bk w bk cs) (h22 : cs[22]? = some v22) (h9 : cs[9]? = some v9) (h10 : cs[10]? = some v10)
    (ho22 : w.ownsRow B 70 1 v22 m22 Ls22) (ho9 : w.ownsRow B 23 1 v9 m9 Ls9) (ho10 : w.ownsRow B 90 1 v10 m10 Ls10) (hB : B ≤ w.heap.size) (hm22 : m22 ≤ 1000) (hm9 : m9 ≤ 1000) (hm10 : m10 ≤ 1000)
    (hos : w.ownsRow Bo 132 2 (.slice A n c) n (os.flatMap encSv)) (hn : n ≤ 4000) :
    Calls Tryz.prog 20 #[.pointer (some ⟨bk, 0, none⟩), .slice A n c] w (PutSPost w bk B m22 m9 m10 cs v22 v9 v10 (.slice A n c) Ls22 Ls9 Ls10 os) := by
  obtain ⟨i1, hi, hz0, hz1, hz2⟩ := info_parts Tryz.infoSeriess
  have HJ := Lib.hid (show _ ∧ _ ∧ _ ∧ _ from ⟨hi, hz0, hz1, hz2⟩)
  have c2 := (hb.cell 22).trans h22
  have f2 := hb.free 22
  have hll := owns_len hos encSv_len (by omega)
  have hne22 := owns_not_bk hb ho22 (by decide)
  have hne9 := owns_not_bk hb ho9 (by decide)
  have hne10 := owns_not_bk hb ho10 (by decide)
  have hAb := owns_not_bk hb hos (by decide)
  have HB := Lib.hid (show _ ∧ _ ∧ _ ∧ _ ∧ _ ∧ _ from ⟨hb, ho22, (⟨ho9, ho10⟩ : _ ∧ _), (⟨h9, h10⟩ : _ ∧ _), hos, hll⟩)
  have HNE := Lib.hid (show _ ∧ _ ∧ _ ∧ _ from ⟨hne22, hne9, hne10, hAb⟩)
  clear hi hz0 hz1 hz2 hb h22 h9 h10 ho22 ho9 ho10 hne22 hne9 hne10 hos hll hAb
  go_enter Tryz.func20, Tryz.ntmps20
  obtain ⟨hi, hz0, hz1, hz2⟩ := HJ.out
  go_wp2_with (at_builtin; refine wpList_append_full _ rfl _ _ 56 rfl B 70 i1 _ 1 24 Tryz.underlying56 hi hz0 hz1 hz2 rfl (by omega) _ m22 Ls22 rfl (HB.out.2.1.alloc _) ⟨w.heap.size, 0, none⟩ 1 1 [.slice A n c] rfl rfl (cells_one w _ _) (by simp [Value.oneCell']) (by omega) (by unfold maxLen; omega) (by omega) (by simp; omega) ?_)
  intro g cap w5 hown5 hg5 hl5 ho5
  have hba : Below w.heap.size w (w.alloc (.cells #[.slice A n c] 70)) := (Below.refl _ _).alloc (Nat.le_refl _) _
  have hb1 : Bk (w.alloc (.cells #[.slice A n c] 70)) bk cs := HB.out.1.kept (GrownIn.alloc (GrownIn.refl (fun _ => False) w) _) (fun h => h)
  have hb5 := hb1.kept (GrownIn.of_grownBy hg5) HNE.out.1
  have hgb : g ≠ bk := by
    rcases hl5 with h | h
    · intro e; exact HNE.out.1 (by rw [h, e])
    · have := HB.out.1.lt; intro e; omega
  have hbs := hb5.set 22 (.slice (some ⟨g, 0, none⟩) (m22 + 1) cap)
  have hos := owns_set_other hown5 (p := ⟨bk, 22, none⟩) (by simp [Value.ownBlock]; exact hgb) (.slice (some ⟨g, 0, none⟩) (m22 + 1) cap)
  have hwa22 := owns_below HB.out.2.1 hba
  have keep : ∀ {e : TypeId} {B' sz m : Nat} {v : Value} {xs : List Value}, w.ownsRow B' e sz v m xs → e ≠ 70 → v.ownBlock ≠ some bk → (w5.setCell ⟨bk, 22, none⟩ (.slice (some ⟨g, 0, none⟩) (m22 + 1) cap)).ownsRow B' e sz v m xs := fun ho hne hk =>
    owns_set_other ((owns_below ho hba).kept hg5 (owns_apart (owns_below ho hba) hwa22 hne)) (p := ⟨bk, 22, none⟩) hk _
  have h9s := keep HB.out.2.2.1.1 (by decide) HNE.out.2.1
  have h10s := keep HB.out.2.2.1.2 (by decide) HNE.out.2.2.1
  have hAs := keep HB.out.2.2.2.2.1 (by decide) HNE.out.2.2.2
  have hgr : GrownIn (fun k => k = bk ∨ v22.ownBlock = some k ∨ v9.ownBlock = some k ∨ v10.ownBlock = some k) w w5 := ((GrownIn.refl _ w).alloc _).trans (GrownIn.of_grownBy hg5) (fun k _ h => .inr (.inl h))
  have hgs := grownIn_set hgr (p := ⟨bk, 22, none⟩) (.inl rfl) (.slice (some ⟨g, 0, none⟩) (m22 + 1) cap)
  have c5 : w5.cell? ⟨bk, 22, none⟩ = some v22 := (hb5.cell 22).trans ((hb1.cell 22).symm.trans (by rw [World.cell?_alloc_lt _ _ _ HB.out.1.lt]; exact c2))
  have f5 := hb5.free 22
  have hcs : BkCells cs (cs.setIfInBounds 22 (.slice (some ⟨g, 0, none⟩) (m22 + 1) cap)) (.slice (some ⟨g, 0, none⟩) (m22 + 1) cap) v9 v10 := fun k hk => by
    have hsz := HB.out.1.2
    rw [Array.getElem?_setIfInBounds]
    by_cases e : 22 = k
    · subst e; simp [hsz]
    · rw [if_neg e, if_neg (show ¬ k = 22 by omega)]
      by_cases e9 : k = 9
      · subst e9; rw [if_pos rfl]; exact HB.out.2.2.2.1.1
      · rw [if_neg e9]
        by_cases e10 : k = 10
        · subst e10; rw [if_pos rfl]; exact HB.out.2.2.2.1.2
        · rw [if_neg e10]
  have hw6 : w.heap.size ≤ (w5.setCell ⟨bk, 22, none⟩ (.slice (some ⟨g, 0, none⟩) (m22 + 1) cap)).heap.size := by have := hgs.size; exact this
  have HF := Lib.hid (show _ ∧ _ ∧ _ ∧ _ ∧ _ ∧ _ ∧ _ ∧ _ from ⟨hos, hbs, hgs, h9s, h10s, hAs, hcs, hw6⟩)
  have hll := HB.out.2.2.2.2.2
  clear c2 f2 hi hz0 hz1 hz2 hown5 hg5 hl5 ho5 hb1 hb5 hgr hgb hbs hos hgs h9s h10s hAs hcs hw6 hba hwa22 keep
  go_wp2
  have H6 := HF.out
  obtain ⟨w6, hw6⟩ : ∃ w6, w5.setCell ⟨bk, 22, none⟩ (.slice (some ⟨g, 0, none⟩) (m22 + 1) cap) = w6 := ⟨_, rfl⟩
  rw [hw6] at H6 ⊢
  have HW := Lib.hid H6
  clear H6 hw6 c5 f5
  go_loopw [4] (fun i wr => ∃ (k : Nat) (u9 u10 : Value) (cs' : Array Value), k ≤ n ∧ i = .int .i64 k ∧ Hid (BkS w6 wr bk B cs (.slice (some ⟨g, 0, none⟩) (m22 + 1) cap) v9 v10 (m22 + 1) m9 m10 (Ls22 ++ [.slice A n c]) Ls9 Ls10 os k u9 u10 cs')) (fun i _ => n - (intOf i).toNat)
  case atStart => exact ⟨0, v9, v10, _, Nat.zero_le _, rfl, Lib.hid ⟨HW.out.2.1, HW.out.2.2.2.2.2.2.1, by simpa using HW.out.2.2.2.1, by simpa using HW.out.2.2.2.2.1, HW.out.1, GrownIn.refl _ _, fun b hb => .inl hb, fun b hb => .inl hb⟩⟩
  case round =>
    obtain ⟨k, u9, u10, cs', hk, rfl, HT⟩ := hrel
    have hsz := HT.out.grown.size
    have hwz := HW.out.2.2.2.2.2.2.2
    by_cases hlt : k < n
    · obtain ⟨z, hz⟩ : ∃ z, os[k]? = some z := ⟨_, List.getElem?_eq_getElem (by omega)⟩
      obtain ⟨gA, rfl, hgA⟩ := owns_some' HW.out.2.2.2.2.2.1 (by omega)
      have hAr := HT.out.grown.owns HW.out.2.2.2.2.2.1 (fun b hb hs => by
        rcases hs with rfl | hs | hs
        · exact HNE.out.2.2.2 hb
        · exact owns_other HW.out.2.2.2.2.2.1 HW.out.2.2.2.1 (by decide) hb hs
        · exact owns_other HW.out.2.2.2.2.2.1 HW.out.2.2.2.2.1 (by decide) hb hs)
      have c0 := owns_at hAr encSv_len hz (j := 0) (u := .slice z.A z.n z.c) rfl
      have c1 := owns_at hAr encSv_len hz (j := 1) (u := .slice z.D z.m z.d) rfl
      simp only [Nat.add_zero] at c0
      have h9v := HT.out.cells 9 (by omega)
      have h10v := HT.out.cells 10 (by omega)
      simp only [show ¬ (9 : Nat) = 22 by omega, show ¬ (10 : Nat) = 22 by omega, show ¬ (10 : Nat) = 9 by omega, if_false, if_true] at h9v h10v
      have hcall := bookLabels bk B (m9 + k) _ u9 z.A z.n z.c (Ls9 ++ (os.take k).map valL) wr HT.out.book h9v HT.out.own9 (owns_not_bk HT.out.book HT.out.own9 (by decide)) (by omega) (by omega)
      have hc1 : ∀ w7, GrownIn (fun k => k = bk ∨ u9.ownBlock = some k) wr w7 → w7.cell? ⟨gA, k * 2 + 1, none⟩ = some (.slice z.D z.m z.d) := fun w7 h7 => h7.cell c1 (fun hs => by
        rcases hs with rfl | hs
        · exact HNE.out.2.2.2 rfl
        · exact owns_other hAr HT.out.own9 (by decide) rfl hs)
      have hnext : ∀ e w7, PutPost wr bk B (m9 + k) 9 23 cs' u9 (valL z) (Ls9 ++ (os.take k).map valL) e w7 → e = .returned (.tuple #[]) ∧ w7.cell? ⟨gA, k * 2 + 1, none⟩ = some (.slice z.D z.m z.d) ∧
          Calls Tryz.prog 84 #[.pointer (some ⟨bk, 0, none⟩), .slice z.D z.m z.d] w7 fun e w8 => e = .returned (.tuple #[]) ∧ ∃ u9' u10' cs8, BkS w6 w8 bk B cs (.slice (some ⟨g, 0, none⟩) (m22 + 1) cap) v9 v10 (m22 + 1) m9 m10 (Ls22 ++ [.slice (some ⟨gA, 0, none⟩) n c]) Ls9 Ls10 os (k + 1) u9' u10' cs8 := by
        rintro e w7 ⟨he, g7, c7, ho7, hb7, hg7, hl7⟩
        obtain ⟨_, q2, q3, q4, q5, q6, q7, q8⟩ := HT.out.next9 hz ho7 hb7 hg7 hl7
        have h10v' := q2 10 (by omega)
        simp only [show ¬ (10 : Nat) = 22 by omega, show ¬ (10 : Nat) = 9 by omega, if_false, if_true] at h10v'
        refine ⟨he, hc1 w7 hg7, (bookSamples bk B (m10 + k) _ u10 z.D z.m z.d (Ls10 ++ (os.take k).map valD) w7 hb7 h10v' q4 (owns_not_bk hb7 q4 (by decide)) (by omega) (by omega)).mono ?_⟩
        rintro e w8 ⟨he8, g8, c8, ho8, hb8, hg8, hl8⟩
        exact ⟨he8, _, _, _, BkS.next10 hz hb7 q2 q3 q4 q5 q6 q7 HT.out.lies10 ho8 hb8 hg8 hl8⟩
      have HC := Lib.hid (show _ ∧ _ from ⟨hcall, hnext⟩)
      clear hz hAr h9v h10v hcall hc1 hnext c1
      go_wp2_with (first | (go_at_call 38; refine HC.out.1.mono ?_; intro e w7 hp7; obtain ⟨rfl, k7, h7⟩ := HC.out.2 e w7 hp7; have H7 := Lib.hid h7; clear hp7 h7) | (go_at_call 84; refine H7.out.mono ?_; rintro e w8 ⟨rfl, x9, x10, cs8, h8⟩; have H8 := Lib.hid h8; clear h8))
      go_roundw
      case measure => simp [intOf]; omega
      case rel => exact ⟨k + 1, x9, x10, cs8, hlt, by simp, H8⟩
    · obtain rfl : n = k := by omega
      have h9f := HT.out.own9
      have h10f := HT.out.own10
      rw [List.take_of_length_le (by omega)] at h9f h10f
      have H9 := Lib.hid (show _ ∧ _ from ⟨h9f, h10f⟩)
      clear h9f h10f
      go_wp2
      go_end0
      refine ⟨rfl, g, cap, u9, u10, cs', HT.out.own22, by rw [hll]; exact H9.out.1, by rw [hll]; exact H9.out.2, HT.out.book, HT.out.cells, ?_⟩
      refine HW.out.2.2.1.trans HT.out.grown (fun b _ hs => ?_)
      rcases hs with h | h
      · exact .inl h
      · exact .inr (.inr h)
end Go.Proofs.YtihidnmpngeohaaGreat
namespace Go.Proofs.YtihidnmpngeohaaGreat
open Go.RowKit Go.Lib

/-- Place (i, q) bears a mark: its one label lies in block b. -/
def SLab (w : World) (f : Int → Nat → List Value) (i : Int) (q : Nat) : Prop := ∃ b c, f i q = [.slice (some ⟨b, 0, none⟩) 1 c, .slice none 0 0] ∧ w.heap[b]? = some (Obj.cells #[.string (markB i q), .string ByteArray.empty] 29 (0, 0))
def fNone : Int → Nat → List Value := fun _ _ => [.slice none 0 0, .slice none 0 0]
def fSet (f : Int → Nat → List Value) (i : Int) (q : Nat) (x : List Value) : Int → Nat → List Value := fun i' q' => if i' = i ∧ q' = q then x else f i' q'
theorem fSet_same (f : Int → Nat → List Value) (i : Int) (q : Nat) (x : List Value) : fSet f i q x i q = x := if_pos ⟨rfl, rfl⟩
theorem fSet_other {f : Int → Nat → List Value} {i i' : Int} {q q' : Nat} {x : List Value} (h : ¬ (i' = i ∧ q' = q)) : fSet f i q x i' q' = f i' q' := if_neg h
/-- What is known of the marks of S. -/
structure SF (w : World) (f : Int → Nat → List Value) (S : Int → Nat → Prop) : Prop where
  len : ∀ i q, (f i q).length = 2
  at_ : ∀ i q, S i q → SLab w f i q
theorem SF.start (w : World) : SF w fNone (fun _ _ => False) := ⟨fun _ _ => rfl, fun _ _ h => h.elim⟩
theorem SF.keep {w w' : World} {f : Int → Nat → List Value} {S : Int → Nat → Prop} (h : SF w f S) (hk : ∀ (b : Nat) (cs : Array Value), w.heap[b]? = some (Obj.cells cs 29 (0, 0)) → w'.heap[b]? = w.heap[b]?) : SF w' f S :=
  ⟨h.len, fun i q hs => by
    obtain ⟨b, c, h1, h2⟩ := h.at_ i q hs
    exact ⟨b, c, h1, (hk b _ h2).trans h2⟩⟩
theorem SF.below {w w' : World} {f : Int → Nat → List Value} {S : Int → Nat → Prop} (h : SF w f S) (hb : Below w.heap.size w w') : SF w' f S :=
  h.keep fun b cs hc => hb.block b (Array.getElem?_eq_some_iff.1 hc).1
theorem SF.grown {w w' : World} {f : Int → Nat → List Value} {S : Int → Nat → Prop} (h : SF w f S) {B sz n : Nat} {e : TypeId} {v : Value} {xs : List Value} (ho : w.ownsRow B e sz v n xs) (hne : e ≠ 29) (hg : w.grownBy w' v.ownBlock) : SF w' f S :=
  h.keep fun b cs hc => hg.block b (Array.getElem?_eq_some_iff.1 hc).1 (fun e' => by
    obtain ⟨cs', fz, h1⟩ := owns_typed ho e'.symm
    rw [hc] at h1
    injection h1 with h1
    injection h1 with _ h1
    exact hne h1.symm)
theorem SF.less {w : World} {f : Int → Nat → List Value} {S T : Int → Nat → Prop} (h : SF w f S) (hs : ∀ i q, T i q → S i q) : SF w f T := ⟨h.len, fun i q ht => h.at_ i q (hs i q ht)⟩
theorem SF.set {w' : World} {f : Int → Nat → List Value} {S : Int → Nat → Prop} (h : SF w' f S) (i : Int) (q : Nat) (b c : Nat) (hb : w'.heap[b]? = some (Obj.cells #[.string (markB i q), .string ByteArray.empty] 29 (0, 0))) :
    SF w' (fSet f i q [.slice (some ⟨b, 0, none⟩) 1 c, .slice none 0 0]) (fun i' q' => S i' q' ∨ (i' = i ∧ q' = q)) := by
  refine ⟨fun i' q' => ?_, fun i' q' hs => ?_⟩
  · unfold fSet
    split
    · rfl
    · exact h.len i' q'
  · by_cases he : i' = i ∧ q' = q
    · obtain ⟨rfl, rfl⟩ := he
      exact ⟨b, c, fSet_same _ _ _ _, hb⟩
    · rcases hs with hs | hs
      · obtain ⟨b', c', h1, h2⟩ := h.at_ i' q' hs
        exact ⟨b', c', by rw [fSet_other he]; exact h1, h2⟩
      · exact absurd hs he
section
variable {f f' : Int → Nat → List Value} {w0 w w2 wo wz : World} {B sz BL m : Nat} {e eS : TypeId} {V : Nat → Value} {N : Nat → Nat}
theorem marks_congr {i : Int} {n : Nat} (h : ∀ q, q < n → f i q = f' i q) : marks f i n = marks f' i n := by
  induction n with
  | zero => rfl
  | succ n ih => rw [marks_succ, marks_succ, ih (fun q hq => h q (by omega)), h n (by omega)]
theorem Marked.congr {k : Nat} (h : Marked f w0 w B e sz BL m V N k) (hf : ∀ j : Nat, j < k → ∀ q, q < N j → f j q = f' j q) : Marked f' w0 w B e sz BL m V N k :=
  ⟨h.lists, h.kept, fun j hj hm => by rw [← marks_congr (hf j hj)]; exact h.done j hj hm⟩
theorem Marking.congr {v : Value} {n q : Nat} {i : Int} (h : Marking f wo w B e sz v n i q) (hf : ∀ p, p < q → f i p = f' i p) : Marking f' wo w B e sz v n i q := by
  obtain ⟨h1, xs, h2, h3⟩ := h
  exact ⟨h1, xs, h2, by rw [← marks_congr hf]; exact h3⟩
theorem Longer.congr {p q : Nat} {lv : Value} {Ls : List Value} (h : Longer f p w0 w2 w B e sz BL m V N eS q lv Ls) (hf : ∀ j : Nat, j < m → ∀ t, t < N j → f j t = f' j t) (hf2 : ∀ j : Nat, j < q → ∀ t, t < p → f (-1 - (j : Int)) t = f' (-1 - (j : Int)) t) (hqm : q ≤ m) : Longer f' p w0 w2 w B e sz BL m V N eS q lv Ls :=
  ⟨h.len, h.own, fun j x hx => by
    have hj := (List.getElem?_eq_some_iff.1 hx).1
    rw [h.len] at hj
    rw [← marks_congr (hf j (by omega)), ← marks_congr (hf2 j hj)]
    exact h.each j x hx, h.apart, h.alone, h.new, fun j hj hm => by rw [← marks_congr (hf j hm)]; exact h.rest j hj hm, fun j hj g hg t u hu => h.cells j hj g hg t u (by rw [marks_congr (hf j hj)]; exact hu), h.row, h.kept, h.size⟩
theorem Growing.congr {v x : Value} {n p : Nat} {i : Int} (h : Growing f wo w B e sz v n i p x) (hf : ∀ t, t < n → f i t = f' i t) (hf2 : ∀ t, t < p → f (-1 - i) t = f' (-1 - i) t) : Growing f' wo w B e sz v n i p x :=
  ⟨by rw [← marks_congr hf, ← marks_congr hf2]; exact h.own, h.lies, h.kept, fun g hg t u hu => h.cells g hg t u (by rw [marks_congr hf]; exact hu)⟩
end
end Go.Proofs.YtihidnmpngeohaaGreat
