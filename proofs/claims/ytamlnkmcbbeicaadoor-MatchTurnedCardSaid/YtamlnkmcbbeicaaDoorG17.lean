/- Patterns' reader: a row of pieces. Patterns' reader: row. -/
import Derived.Test.YtamlnkmcbbeicaaDoorRgPie
import Derived.Deep.AppendLies
import Derived.RegionDies
namespace Go.Proofs.YtamlnkmcbbeicaaDoor
open Go.RowKit Go.Lib
open RX (PS Tr Pr)

theorem Tryd.infoTree : (Tryd.prog.info? 52).map (fun i => (i.zero, i.size, i.bytes)) = some (some .nilIface, 1, 16) := by kernel_rfl
theorem TreesV.wide {w : World} {T T' : Nat → Prop} {t : List Tr} {v : List Value} (h : TreesV w T t v) (hT : ∀ b, T b → T' b) : TreesV w T' t v := TreesV.move (w := w) (w' := w) hT (fun _ _ _ => rfl) t v h
/-- A list of trees under way: where the reader stands, the variable that holds the list. -/
structure RowSt (w W : World) (bk : Nat) (s : ByteArray) (st : PS) (ty : TypeId) (br : Nat) (ts : List Tr) (a : Value) (vs : List Value) : Prop where
  psr : Psr W bk s st
  box : W.heap[br]? = some (.cells #[a] ty (0, 0))
  row : W.ownsRow w.heap.size 52 1 a vs.length vs
  ne : a.ownBlock ≠ some br
  trees : TreesV W (fun b => w.heap.size ≤ b ∧ b ≠ br ∧ a.ownBlock ≠ some b ∧ b < W.heap.size) ts vs
  brlo : w.heap.size ≤ br
  bl : bk < w.heap.size
  grown : GrownIn (fun b => b = bk) w W
section
variable {w W W' Wa W6 : World} {bk br : Nat} {s : ByteArray} {st st' : PS} {ty : TypeId} {ts : List Tr} {a a' : Value} {vs : List Value}
theorem RowSt.c0 (h : RowSt w W bk s st ty br ts a vs) : W.cell? ⟨br, 0, none⟩ = some a := by rw [cell_of_row W br 0 _ _ (0, 0) h.box]; rfl
theorem RowSt.fr (h : RowSt w W bk s st ty br ts a vs) : W.frozen? ⟨br, 0, none⟩ = false := by
  unfold World.frozen?
  rw [h.box]
  rfl
theorem RowSt.lt (h : RowSt w W bk s st ty br ts a vs) : br < W.heap.size := (Array.getElem?_eq_some_iff.1 h.box).1
/-- The reader went on; new memory. -/
theorem RowSt.call (h : RowSt w W bk s st ty br ts a vs) (hp : Psr W' bk s st') (hg : GrownIn (fun b => b = bk) W W') : RowSt w W' bk s st' ty br ts a vs :=
  ⟨hp, (hg.block br h.lt (by have := h.brlo; have := h.bl; omega)).trans h.box, hg.owns h.row (fun b hb e => by have := (h.row.lt b hb).1; have := h.bl; omega), h.ne,
    TreesV.move (fun b hb => ⟨hb.1, hb.2.1, hb.2.2.1, by have := hg.size; omega⟩) (fun b hb hlt => hg.block b hlt (by have := h.bl; omega)) ts vs h.trees, h.brlo, h.bl, h.grown.trans hg (fun _ _ e => e)⟩
theorem RowSt.drewN (h : RowSt w W bk s st ty br ts a vs) (n : Nat) : RowSt w (W.drewN n) bk s st ty br ts a vs := h.call (h.psr.drewN n) ((GrownIn.refl _ _).drewN n)
/-- One more. -/
theorem RowSt.snoc (h : RowSt w W bk s st ty br ts a vs) {t : Tr} {v : Value} (ht : TreeV W' (fun b => W.heap.size ≤ b ∧ b < W'.heap.size) t v) (hp : Psr W' bk s st') (hg : GrownIn (fun b => b = bk) W W') (ha : Below W'.heap.size W' Wa) {g c : Nat}
    (hr : W6.ownsRow w.heap.size 52 1 (.slice (some ⟨g, 0, none⟩) (vs.length + 1) c) (vs.length + 1) (vs ++ [v])) (hgr : Wa.grownBy W6 a.ownBlock) (hgg : a.ownBlock = some g ∨ g = Wa.heap.size) :
    RowSt w (W6.setCell ⟨br, 0, none⟩ (.slice (some ⟨g, 0, none⟩) (vs.length + 1) c)) bk s st' ty br (ts ++ [t]) (.slice (some ⟨g, 0, none⟩) (vs.length + 1) c) (vs ++ [v]) := by
  have hS := GrownIn.of_grownBy hgr
  have s1 := hg.size
  have s2 := ha.size
  have s3 := hS.size
  have hlt := h.lt
  have hbl := h.bl
  have hbr := h.brlo
  have hgs := h.grown.size
  have hab : ∀ b, a.ownBlock = some b → w.heap.size ≤ b ∧ b < W.heap.size := fun b hb => h.row.lt b hb
  have hne2 : g ≠ br := by
    rcases hgg with e | e
    · intro e2; exact h.ne (by rw [e, e2])
    · omega
  have keep : ∀ b, b < W'.heap.size → a.ownBlock ≠ some b → b ≠ br → (W6.setCell ⟨br, 0, none⟩ (.slice (some ⟨g, 0, none⟩) (vs.length + 1) c)).heap[b]? = W'.heap[b]? := fun b hb h1 h2 =>
    (heap_setCell_other _ _ _ _ h2).trans ((hS.block b (by omega) (fun e => h1 e)).trans (ha.block b hb))
  have hw7 : (W6.setCell ⟨br, 0, none⟩ (.slice (some ⟨g, 0, none⟩) (vs.length + 1) c)).heap.size = W6.heap.size := by simp
  have hbox6 : W6.heap[br]? = some (.cells #[a] ty (0, 0)) :=
    (hS.block br (by omega) (fun e => h.ne e)).trans ((ha.block br (by omega)).trans ((hg.block br hlt (by omega)).trans h.box))
  have hown : (Value.slice (some ⟨g, 0, none⟩) (vs.length + 1) c).ownBlock = some g := rfl
  refine ⟨?_, ?_, ?_, ?_, ?_, hbr, hbl, ?_⟩
  · exact (keep bk (by omega) (fun e => by have := hab _ e; omega) (by omega)).trans hp
  · exact heap_setCell_same W6 br 0 _ _ _ hbox6
  · rw [List.length_append, List.length_singleton]
    exact owns_move hr (fun b hb _ => heap_setCell_other _ _ _ _ (by rw [hown] at hb; injection hb with hb; show b ≠ br; omega))
  · rw [hown]; exact fun e => hne2 (Option.some.inj e)
  · refine TreesV.snoc (TreesV.move (fun b hb => ⟨hb.1, hb.2.1, ?_, by omega⟩) (fun b hb hlt2 => (keep b (by omega) hb.2.2.1 hb.2.1).trans (hg.block b hlt2 (by omega))) ts vs h.trees) (TreeV.move (fun b hb => ⟨by omega, by omega, ?_, by omega⟩) (fun b hb hlt2 => keep b hlt2 (fun e => by have := hab _ e; omega) (by omega)) t v ht)
    · rw [hown]
      intro e
      have e2 : g = b := Option.some.inj e
      rcases hgg with e1 | e1
      · exact hb.2.2.1 (by rw [e1, e2])
      · omega
    · rw [hown]
      intro e
      have e2 : g = b := Option.some.inj e
      rcases hgg with e1 | e1
      · have := hab _ e1; omega
      · omega
  · refine (h.grown.trans hg (fun _ _ e => e)).trans (T := fun b => b = br ∨ a.ownBlock = some b ∨ W'.heap.size ≤ b) ⟨?_, ?_, ?_, ?_, ?_⟩ (fun k hk e => ?_)
    · exact (hS.os.trans ha.os)
    · exact (hS.tape.trans ha.tape)
    · exact (hS.output.trans ha.output)
    · omega
    · intro k hk hn
      exact keep k hk (fun e => hn (.inr (.inl e))) (fun e => hn (.inl e))
    · rcases e with e | e | e
      · omega
      · have := hab _ e; omega
      · omega
theorem RowSt.tree (h : RowSt w W bk s st ty br ts a vs) (hn : vs.length ≤ 1000) : TreeV W (fun b => w.heap.size ≤ b ∧ b < W.heap.size) (.row ts) (.iface 92 (.agg #[a])) := by
  rw [TreeV]
  exact ⟨a, vs, rfl, owns_base h.row (Nat.zero_le _), fun b hb => h.row.lt b hb, hn, h.trees.wide fun b hb => ⟨hb.1, hb.2.2.2⟩⟩
end
end Go.Proofs.YtamlnkmcbbeicaaDoor
namespace Go.Proofs.YtamlnkmcbbeicaaDoor
open Go.RowKit Go.Lib
open RX (PS Tr Pr)

theorem RowSt.after {w w5 wa w6 : World} {bk br : Nat} {s : ByteArray} {st : PS} {ty : TypeId} {ts : List Tr} {a : Value} {vs : List Value} (h : RowSt w w5 bk s st ty br ts a vs) (ha : Below w5.heap.size w5 wa) (hg : wa.grownBy w6 a.ownBlock) : w6.cell? ⟨br, 0, none⟩ = some a ∧ w6.frozen? ⟨br, 0, none⟩ = false := by
  have hb : w6.heap[br]? = some (.cells #[a] ty (0, 0)) := ((GrownIn.of_grownBy hg).block br (by have := h.lt; have := ha.size; omega) (fun e => h.ne e)).trans ((ha.block br h.lt).trans h.box)
  refine ⟨by rw [cell_of_row w6 br 0 _ _ (0, 0) hb]; rfl, ?_⟩
  unfold World.frozen?
  rw [hb]
  rfl
theorem row_stop {A : PS → Pr Tr} {S : List UInt8} {F : Nat} {st : PS} {ts : List Tr} (h : S[st.at_]? = none ∨ S[st.at_]? = some 124 ∨ S[st.at_]? = some 41) : RX.pRow A S (F + 1) st ts = .ok (.row ts) st := by
  rw [RX.pRow]
  rcases h with h | h | h
  · rw [h]
  · rw [h]; rfl
  · rw [h]; rfl
theorem row_next {A : PS → Pr Tr} {S : List UInt8} {F : Nat} {st : PS} {ts : List Tr} {c : UInt8} (h : S[st.at_]? = some c) (h1 : c ≠ 124) (h2 : c ≠ 41) : RX.pRow A S (F + 1) st ts = (match RX.pPiece A S st with | .bad a => .bad a | .ok t st' => RX.pRow A S F st' (ts ++ [t])) := by
  rw [RX.pRow, h]
  simp only
  rw [if_neg (fun e => e.elim h1 h2)]
  cases RX.pPiece A S st <;> rfl
set_option maxHeartbeats 8000000 in
set_option maxRecDepth 100000 in
theorem row_any (bk : Nat) (s : ByteArray) (f : Nat) (hA : AllDoes bk s f) (hbig : s.size ≤ 500) (st : PS) (w : World) (hS : Psr w bk s st) (hok : PsOk s st) (hf : s.size + 1 ≤ f + st.at_ + 1) :
    Calls Tryd.prog 46 #[.pointer (some ⟨bk, 0, none⟩)] w (PrPost w bk s st 0 (RX.pRow (RX.pAll s.data.toList f) s.data.toList (s.data.toList.length + 1) st [])) := by
  have hlen : s.data.toList.length = s.size := Array.length_toList
  obtain ⟨i0, hi0, hz00, hz01, hz02⟩ := info_parts Tryd.infoTree
  have HI := Lib.hid (show _ ∧ _ ∧ _ ∧ _ from ⟨hi0, hz00, hz01, hz02⟩)
  have h0 : RowSt w (w.alloc (.cells #[.slice none 0 0] 92)) bk s st 92 w.heap.size [] (.slice none 0 0) [] :=
    ⟨hS.alloc _, heap_alloc_new _ _, World.ownsRow_nil _ _ _ _, (by intro e; cases e), (by rw [TreesV]), Nat.le_refl _, hS.lt, (GrownIn.refl _ w).alloc _⟩
  have HA := Lib.hid (show _ ∧ _ ∧ _ from ⟨hA, hf, h0⟩)
  have HO := Lib.hid hok
  clear hS hok hA hf h0 hi0 hz00 hz01 hz02
  go_enter Tryd.func46, Tryd.ntmps46
  go_wp2_with fail
  go_loopw [] (fun wr => ∃ (st' : PS) (ts : List Tr) (a : Value) (vs : List Value) (F : Nat), Hid (RowSt w wr bk s st' 92 w.heap.size ts a vs ∧ PsOk s st' ∧ st'.deep = st.deep ∧ st.at_ ≤ st'.at_ ∧ RX.pRow (RX.pAll s.data.toList f) s.data.toList F st' ts = RX.pRow (RX.pAll s.data.toList f) s.data.toList (s.data.toList.length + 1) st [] ∧ s.size + 1 ≤ F + st'.at_ ∧ vs.length ≤ st'.at_)) (fun wr => s.size - atOf wr bk)
  case atStart => exact ⟨st, [], _, [], s.data.toList.length + 1, Lib.hid ⟨HA.out.2.2, HO.out, rfl, Nat.le_refl _, rfl, by omega, Nat.zero_le _⟩⟩
  case round =>
    obtain ⟨st', ts, a, vs, F, HR⟩ := hrel
    have hat := HR.out.2.1.at_
    obtain ⟨G, rfl⟩ : ∃ G, F = G + 1 := ⟨F - 1, by have := HR.out.2.2.2.2.2.1; omega⟩
    have z0 := HR.out.1.c0
    cases hc : s.data.toList[st'.at_]? with
    | none =>
      have HE := Lib.hid (show RX.pRow (RX.pAll s.data.toList f) s.data.toList (s.data.toList.length + 1) st [] = .ok (.row ts) st' from HR.out.2.2.2.2.1.symm.trans (row_stop (.inl hc)))
      go_wp2_with fail
      refine (peek_none bk s st' _ HR.out.1.psr hc).mono ?_
      rintro e w3 ⟨rfl, q3, rfl⟩
      clear hc
      go_wp2_with fail
      go_ret
      rw [HE.out]
      exact ⟨_, rfl, HR.out.1.psr.drewN _, (HR.out.1.drewN q3).tree (by have := HR.out.2.2.2.2.2.2; omega), (HR.out.1.drewN q3).grown, HR.out.2.1, HR.out.2.2.1, HR.out.2.2.2.1⟩
    | some c =>
      by_cases h124 : c = 124
      · subst h124
        have HE := Lib.hid (show RX.pRow (RX.pAll s.data.toList f) s.data.toList (s.data.toList.length + 1) st [] = .ok (.row ts) st' from HR.out.2.2.2.2.1.symm.trans (row_stop (.inr (.inl hc))))
        go_wp2_with fail
        refine (peek_some bk s st' 124 _ HR.out.1.psr hc).mono ?_
        rintro e w3 ⟨rfl, q3, rfl⟩
        clear hc
        go_wp2_with fail
        go_ret
        rw [HE.out]
        exact ⟨_, rfl, HR.out.1.psr.drewN _, (HR.out.1.drewN q3).tree (by have := HR.out.2.2.2.2.2.2; omega), (HR.out.1.drewN q3).grown, HR.out.2.1, HR.out.2.2.1, HR.out.2.2.2.1⟩
      · have b124 : ((c.toNat : Int) == 124) = false := byteI h124
        by_cases h41 : c = 41
        · subst h41
          have HE := Lib.hid (show RX.pRow (RX.pAll s.data.toList f) s.data.toList (s.data.toList.length + 1) st [] = .ok (.row ts) st' from HR.out.2.2.2.2.1.symm.trans (row_stop (.inr (.inr hc))))
          go_wp2_with fail
          refine (peek_some bk s st' 41 _ HR.out.1.psr hc).mono ?_
          rintro e w3 ⟨rfl, q3, rfl⟩
          clear hc
          go_wp2_with fail
          go_ret
          rw [HE.out]
          exact ⟨_, rfl, HR.out.1.psr.drewN _, (HR.out.1.drewN q3).tree (by have := HR.out.2.2.2.2.2.2; omega), (HR.out.1.drewN q3).grown, HR.out.2.1, HR.out.2.2.1, HR.out.2.2.2.1⟩
        · have b41 : ((c.toNat : Int) == 41) = false := byteI h41
          have hnx := row_next (A := RX.pAll s.data.toList f) (F := G) (ts := ts) hc h124 h41
          rw [HR.out.2.2.2.2.1] at hnx
          have hpc := fun (W : World) (h : Psr W bk s st') => piece_any bk s f HA.out.1 hbig st' W h HR.out.2.1 (by have := HA.out.2.1; have := HR.out.2.2.2.1; omega) c hc
          go_wp2_with fail
          refine (peek_some bk s st' c _ HR.out.1.psr hc).mono ?_
          rintro e w3 ⟨rfl, q3, rfl⟩
          have HP := Lib.hid (show _ ∧ _ from ⟨hpc, hnx⟩)
          clear hc h124 h41 hpc hnx z0
          go_wp2_with fail
          have z0 := HR.out.1.c0
          cases hpp : RX.pPiece (RX.pAll s.data.toList f) s.data.toList st' with
          | bad x =>
            have HX := Lib.hid hpp
            clear hpp
            go_region_dies
            all_goals
              refine (HP.out.1 _ (HR.out.1.psr.drewN _)).mono ?_
              rintro e w5 hpost
              rw [HX.out] at hpost
              obtain ⟨rfl, hg5⟩ := hpost
              go_simp
              exact ⟨rfl, pr_bad (by rw [HP.out.2, HX.out]) (HR.out.1.grown.trans (((GrownIn.refl (fun b => b = bk) wr).drewN _).trans hg5 (fun _ _ e => e)) (fun _ _ e => e))⟩
          | ok t st2 =>
            have HX := Lib.hid hpp
            obtain ⟨hi, hz0, hz1, hz2⟩ := HI.out
            have hvl : vs.length ≤ 500 := by have := HR.out.2.2.2.2.2.2; omega
            clear hpp
            go_region_law
              (first
                | (go_simp; go_at_call 59; refine (HP.out.1 _ (HR.out.1.psr.drewN _)).mono ?_; rintro e w5 hpost; rw [HX.out] at hpost; obtain ⟨v, rfl, hp5, ht5, hg5, hok5, hd5, hle5⟩ := hpost; obtain ⟨tv, xv, rfl⟩ := ht5.iface; have hrs := HR.out.1.call hp5 (((GrownIn.refl (fun b => b = bk) wr).drewN _).trans hg5 (fun _ _ e => e)); have z5 := hrs.c0; have z5a := seenB (show Below w5.heap.size w5 (w5.alloc (.cells #[.iface tv xv] 52)) from (Below.refl _ _).alloc (Nat.le_refl _) _) z5; have hs5 : w.heap.size ≤ w5.heap.size := hrs.grown.size; have H5 := Lib.hid (show _ ∧ _ ∧ _ ∧ _ ∧ _ ∧ _ ∧ _ from ⟨hp5, ht5, ((GrownIn.refl (fun b => b = bk) wr).drewN _).trans hg5 (fun _ _ e => e), hok5, hd5, hle5, hrs⟩); clear hp5 ht5 hg5 hok5 hd5 hle5 hrs)
                | (refine step_append_lies _ (by rfl) _ _ _ (by rfl) w.heap.size 52 i0 _ 1 16 Tryd.underlying90 hi hz0 hz1 hz2 rfl (by omega) _ vs.length vs (by rfl) (by exact owns_below H5.out.2.2.2.2.2.2.row ((Below.refl _ _).alloc (Nat.le_refl _) _)) ⟨w5.heap.size, 0, none⟩ 1 1 [.iface tv xv] (by rfl) (by rfl) (by exact cells_newL w5 [.iface tv xv] _) (by simp [Value.oneCell']) (by omega) (by unfold maxLen; omega) (by omega) (by simp; omega) (w5.heap.size + 1) (by simp) ?_; intro g6 c6' w6 hown6 hg6 hl6 hlt6; have hba : Below w5.heap.size w5 (w5.alloc (.cells #[.iface tv xv] 52)) := (Below.refl _ _).alloc (Nat.le_refl _) _; obtain ⟨z6, f6⟩ := H5.out.2.2.2.2.2.2.after hba (show World.grownBy (w5.alloc (.cells #[.iface tv xv] 52)) w6 a.ownBlock from hg6))
                | fail)
            all_goals
              have hq : RowSt w (w6.setCell ⟨w.heap.size, 0, none⟩ (.slice (some ⟨g6, 0, none⟩) (vs.length + 1) c6')) bk s st2 92 w.heap.size (ts ++ [t]) (.slice (some ⟨g6, 0, none⟩) (vs.length + 1) c6') (vs ++ [.iface tv xv]) :=
                HR.out.1.snoc H5.out.2.1 H5.out.1 H5.out.2.2.1 hba hown6 hg6 (by rcases hl6 with e | e; exact .inl e; exact .inr (by rw [e]; simp))
              have hlaw : RX.pRow (RX.pAll s.data.toList f) s.data.toList G st2 (ts ++ [t]) = RX.pRow (RX.pAll s.data.toList f) s.data.toList (s.data.toList.length + 1) st [] := by
                rw [HP.out.2, HX.out]
              have hmeas : atOf (w6.setCell ⟨w.heap.size, 0, none⟩ (.slice (some ⟨g6, 0, none⟩) (vs.length + 1) c6')) bk = st2.at_ := hq.psr.at
              have hmeas0 : atOf wr bk = st'.at_ := HR.out.1.psr.at
              have h2 := H5.out.2.2.2.2.2.1
              have h3 := H5.out.2.2.2.1.at_
              have HQ := Lib.hid (show _ ∧ _ from ⟨hq, hlaw⟩)
              clear hq hlaw
              go_wp2_with fail
              go_roundw
              case measure => rw [hmeas, hmeas0]; omega
              case rel => exact ⟨st2, ts ++ [t], _, vs ++ [.iface tv xv], G, Lib.hid ⟨HQ.out.1, H5.out.2.2.2.1, H5.out.2.2.2.2.1.trans HR.out.2.2.1, by have := HR.out.2.2.2.1; omega, HQ.out.2, by have := HR.out.2.2.2.2.2.1; omega, by rw [List.length_append, List.length_singleton]; have := HR.out.2.2.2.2.2.2; omega⟩⟩
end Go.Proofs.YtamlnkmcbbeicaaDoor
