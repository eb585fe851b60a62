/- Patterns' reader: all (branches of rows). -/
import Derived.Test.YtamlnkmcbbeicaaDoorG17
namespace Go.Proofs.YtamlnkmcbbeicaaDoor
open Go.RowKit Go.Lib
open RX (PS Tr Pr)

/-- A list of trees under way in a slot. -/
structure AllSt (w W : World) (bk : Nat) (s : ByteArray) (st : PS) (ts : List Tr) (a : Value) (vs : List Value) : Prop where
  psr : Psr W bk s st
  row : W.ownsRow w.heap.size 52 1 a vs.length vs
  trees : TreesV W (fun b => w.heap.size ≤ b ∧ a.ownBlock ≠ some b ∧ b < W.heap.size) ts vs
  bl : bk < w.heap.size
  grown : GrownIn (fun b => b = bk) w W
section
variable {w W W' Wa W6 : World} {bk : Nat} {s : ByteArray} {st st' : PS} {ts : List Tr} {a a' : Value} {vs : List Value}
theorem AllSt.call (h : AllSt w W bk s st ts a vs) (hp : Psr W' bk s st') (hg : GrownIn (fun b => b = bk) W W') : AllSt w W' bk s st' ts a vs :=
  ⟨hp, hg.owns h.row (fun b hb e => by have := (h.row.lt b hb).1; have := h.bl; omega),
    TreesV.move (fun b hb => ⟨hb.1, hb.2.1, by have := hg.size; omega⟩) (fun b hb hlt => hg.block b hlt (by have := h.bl; omega)) ts vs h.trees, h.bl, h.grown.trans hg (fun _ _ e => e)⟩
theorem AllSt.drewN (h : AllSt w W bk s st ts a vs) (n : Nat) : AllSt w (W.drewN n) bk s st ts a vs := h.call (h.psr.drewN n) ((GrownIn.refl _ _).drewN n)
/-- One more. -/
theorem AllSt.snoc (h : AllSt w W bk s st ts a vs) {t : Tr} {v : Value} (ht : TreeV W' (fun b => W.heap.size ≤ b ∧ b < W'.heap.size) t v) (hp : Psr W' bk s st') (hg : GrownIn (fun b => b = bk) W W') (ha : Below W'.heap.size W' Wa) {g c : Nat}
    (hr : W6.ownsRow w.heap.size 52 1 (.slice (some ⟨g, 0, none⟩) (vs.length + 1) c) (vs.length + 1) (vs ++ [v])) (hgr : Wa.grownBy W6 a.ownBlock) (hgg : a.ownBlock = some g ∨ g = Wa.heap.size) :
    AllSt w W6 bk s st' (ts ++ [t]) (.slice (some ⟨g, 0, none⟩) (vs.length + 1) c) (vs ++ [v]) := by
  have hS := GrownIn.of_grownBy hgr
  have s1 := hg.size
  have s2 := ha.size
  have s3 := hS.size
  have hbl := h.bl
  have hgs := h.grown.size
  have hab : ∀ b, a.ownBlock = some b → w.heap.size ≤ b ∧ b < W.heap.size := fun b hb => h.row.lt b hb
  have keep : ∀ b, b < W'.heap.size → a.ownBlock ≠ some b → W6.heap[b]? = W'.heap[b]? := fun b hb h1 =>
    (hS.block b (by omega) (fun e => h1 e)).trans (ha.block b hb)
  have hown : (Value.slice (some ⟨g, 0, none⟩) (vs.length + 1) c).ownBlock = some g := rfl
  refine ⟨?_, ?_, ?_, hbl, ?_⟩
  · exact (keep bk (by have := hp.lt; omega) (fun e => by have := hab _ e; omega)).trans hp
  · rw [List.length_append, List.length_singleton]
    exact hr
  · refine TreesV.snoc (TreesV.move (fun b hb => ⟨hb.1, ?_, by omega⟩) (fun b hb hlt2 => (keep b (by omega) hb.2.1).trans (hg.block b hlt2 (by omega))) ts vs h.trees) (TreeV.move (fun b hb => ⟨by omega, ?_, by omega⟩) (fun b hb hlt2 => keep b hlt2 (fun e => by have := hab _ e; omega)) t v ht)
    · rw [hown]
      intro e
      have e2 : g = b := Option.some.inj e
      rcases hgg with e1 | e1
      · exact hb.2.1 (by rw [e1, e2])
      · omega
    · rw [hown]
      intro e
      have e2 : g = b := Option.some.inj e
      rcases hgg with e1 | e1
      · have := hab _ e1; omega
      · omega
  · refine (h.grown.trans hg (fun _ _ e => e)).trans (T := fun b => a.ownBlock = some b ∨ W'.heap.size ≤ b) ⟨?_, ?_, ?_, ?_, ?_⟩ (fun k hk e => ?_)
    · exact (hS.os.trans ha.os)
    · exact (hS.tape.trans ha.tape)
    · exact (hS.output.trans ha.output)
    · omega
    · intro k hk hn
      exact keep k hk (fun e => hn (.inl e))
    · rcases e with e | e
      · have := hab _ e; omega
      · omega
theorem AllSt.brs (h : AllSt w W bk s st ts a vs) (hn : 1 ≤ vs.length ∧ vs.length ≤ 1000) : TreeV W (fun b => w.heap.size ≤ b ∧ b < W.heap.size) (.alts ts) (.iface 93 (.agg #[a])) := by
  rw [TreeV]
  exact ⟨a, vs, rfl, owns_base h.row (Nat.zero_le _), fun b hb => h.row.lt b hb, hn, h.trees.wide fun b hb => ⟨hb.1, hb.2.2⟩⟩
/-- The first. -/
theorem AllSt.one {t : Tr} {v : Value} (ht : TreeV W' (fun b => w.heap.size ≤ b ∧ b < W'.heap.size) t v) (hp : Psr W' bk s st') (hg : GrownIn (fun b => b = bk) w W') (hbl : bk < w.heap.size) : AllSt w (W'.alloc (.cells #[v] 52)) bk s st' [t] (.slice (some ⟨W'.heap.size, 0, none⟩) 1 1) [v] := by
  have hb : Below W'.heap.size W' (W'.alloc (.cells #[v] 52)) := (Below.refl _ _).alloc (Nat.le_refl _) _
  refine ⟨hp.alloc _, ⟨by simp, .inr ⟨W'.heap.size, 1, #[v], rfl, hg.size, heap_alloc_new _ _, Nat.le_refl _, by unfold maxLen; omega, by simp, by simp⟩⟩, ?_, hbl, hg.alloc _⟩
  rw [TreesV]
  refine ⟨v, [], rfl, TreeV.move (fun b h => ⟨h.1, ?_, by have := hb.size; simp; omega⟩) (fun b h hlt => hb.block b hlt) t v ht, by rw [TreesV]⟩
  intro e
  have e2 : W'.heap.size = b := Option.some.inj e
  omega
end
theorem alts_stop {A : PS → Pr Tr} {S : List UInt8} {F : Nat} {st : PS} {ts : List Tr} (h : S[st.at_]? ≠ some 124) : RX.pAlts A S (F + 1) st ts = .ok (.alts ts) st := by
  rw [RX.pAlts, if_neg h]
theorem alts_next {A : PS → Pr Tr} {S : List UInt8} {F : Nat} {st : PS} {ts : List Tr} (h : S[st.at_]? = some 124) : RX.pAlts A S (F + 1) st ts = (match RX.pRow A S (S.length + 1) (st.to (st.at_ + 1)) [] with | .bad a => .bad a | .ok t st' => RX.pAlts A S F st' (ts ++ [t])) := by
  rw [RX.pAlts, if_pos h]
  cases RX.pRow A S (S.length + 1) (st.to (st.at_ + 1)) [] <;> rfl
set_option maxHeartbeats 8000000 in
set_option maxRecDepth 100000 in
theorem all_step (bk : Nat) (s : ByteArray) (f : Nat) (hA : AllDoes bk s f) (hbig : s.size ≤ 500) (st : PS) (w : World) (hS : Psr w bk s st) (hok : PsOk s st) (hf : s.size + 1 ≤ f + 1 + st.at_) :
    Calls Tryd.prog 37 #[.pointer (some ⟨bk, 0, none⟩)] w (PrPost w bk s st 0 (RX.pAll s.data.toList (f + 1) st)) := by
  have hlen : s.data.toList.length = s.size := Array.length_toList
  obtain ⟨i0, hi0, hz00, hz01, hz02⟩ := info_parts Tryd.infoTree
  have HI := Lib.hid (show _ ∧ _ ∧ _ ∧ _ from ⟨hi0, hz00, hz01, hz02⟩)
  have hrow := fun (W : World) (st' : PS) (h : Psr W bk s st') (ho : PsOk s st') (hle : st.at_ ≤ st'.at_) => row_any bk s f hA hbig st' W h ho (by omega)
  have HW := Lib.hid hrow
  have HS := Lib.hid (show _ ∧ _ from ⟨hS, hok⟩)
  have hbl := hS.lt
  clear hA hS hok hi0 hz00 hz01 hz02 hrow
  go_enter Tryd.func37, Tryd.ntmps37
  go_wp2_with fail
  refine (HW.out w st HS.out.1 HS.out.2 (Nat.le_refl _)).mono ?_
  rintro e w1 hpost
  unfold PrPost at hpost
  cases hr : RX.pRow (RX.pAll s.data.toList f) s.data.toList (s.data.toList.length + 1) st [] with
  | bad x =>
    rw [hr] at hpost
    obtain ⟨rfl, hg⟩ := hpost
    have HE := Lib.hid (show _ ∧ _ from ⟨hr, hg⟩)
    clear hr hg
    go_wp2_with fail
    exact ⟨rfl, pr_bad (by rw [RX.pAll, HE.out.1]) HE.out.2⟩
  | ok t st1 =>
    rw [hr] at hpost
    obtain ⟨v, rfl, hp, ht, hg, hok1, hd, hle⟩ := hpost
    obtain ⟨tv, xv, rfl⟩ := ht.iface
    have H1 := Lib.hid (show AllSt w (w1.alloc (.cells #[.iface tv xv] 52)) bk s st1 [t] (.slice (some ⟨w1.heap.size, 0, none⟩) 1 1) [.iface tv xv] ∧ _ ∧ _ ∧ _ from ⟨AllSt.one ht hp hg hbl, hok1, hd, hle⟩)
    have HE := Lib.hid (show RX.pAll s.data.toList (f + 1) st = RX.pAlts (RX.pAll s.data.toList f) s.data.toList (s.data.toList.length + 1) st1 [t] by rw [RX.pAll, hr])
    clear hr hp ht hg hok1 hd hle
    go_wp2_with fail
    go_loopw [3] (fun av wr => ∃ (st' : PS) (ts : List Tr) (vs : List Value) (F : Nat), Hid (AllSt w wr bk s st' ts av vs ∧ PsOk s st' ∧ st'.deep = st.deep ∧ st.at_ ≤ st'.at_ ∧ RX.pAll s.data.toList (f + 1) st = RX.pAlts (RX.pAll s.data.toList f) s.data.toList F st' ts ∧ s.size + 1 ≤ F + st'.at_ ∧ (1 ≤ vs.length ∧ vs.length ≤ st'.at_ + 1))) (fun _ wr => s.size - atOf wr bk)
    case atStart => exact ⟨st1, [t], [.iface tv xv], s.data.toList.length + 1, Lib.hid ⟨H1.out.1, H1.out.2.1, H1.out.2.2.1, H1.out.2.2.2, HE.out, by omega, by simp⟩⟩
    case round =>
      obtain ⟨st', ts, vs, F, HR⟩ := hrel
      have hat := HR.out.2.1.at_
      obtain ⟨G, rfl⟩ : ∃ G, F = G + 1 := ⟨F - 1, by have := HR.out.2.2.2.2.2.1; omega⟩
      obtain ⟨A, cp, rfl, _, _⟩ := owns_slice HR.out.1.row
      have hvl : 1 ≤ vs.length ∧ vs.length ≤ 501 := by have := HR.out.2.2.2.2.2.2; omega
      by_cases hc : s.data.toList[st'.at_]? = some 124
      · have hlt1 : st'.at_ + 1 ≤ s.size := by
          have := (List.getElem?_eq_some_iff.1 hc).1
          omega
        have hnx := HR.out.2.2.2.2.1.trans (alts_next (A := RX.pAll s.data.toList f) (F := G) (ts := ts) hc)
        have HC := Lib.hid hc
        go_wp2_with fail
        refine (skip_yes bk s st' 124 _ HR.out.1.psr (by omega) hc).mono ?_
        rintro e w3 ⟨rfl, hp3, hg3⟩
        have H3 := Lib.hid (show AllSt w w3 bk s (st'.to (st'.at_ + 1)) ts (.slice A vs.length cp) vs ∧ _ from ⟨HR.out.1.call hp3 hg3, hnx⟩)
        clear hp3 hg3 hc hnx
        go_wp2_with fail
        refine (HW.out w3 (st'.to (st'.at_ + 1)) H3.out.1.psr (HR.out.2.1.next hlt1 (Nat.le_succ _)) (by have := HR.out.2.2.2.1; show st.at_ ≤ st'.at_ + 1; omega)).mono ?_
        rintro e w5 hpost
        unfold PrPost at hpost
        cases hr : RX.pRow (RX.pAll s.data.toList f) s.data.toList (s.data.toList.length + 1) (st'.to (st'.at_ + 1)) [] with
        | bad x =>
          rw [hr] at hpost
          obtain ⟨rfl, hg⟩ := hpost
          have HX := Lib.hid (show _ ∧ _ from ⟨hr, hg⟩)
          clear hr hg
          go_wp2_with fail
          exact ⟨rfl, pr_bad (by rw [H3.out.2, HX.out.1]) (H3.out.1.grown.trans HX.out.2 (fun _ _ e => e))⟩
        | ok t2 st2 =>
          rw [hr] at hpost
          obtain ⟨v2, rfl, hp5, ht5, hg5, hok5, hd5, hle5⟩ := hpost
          obtain ⟨ty2, xv2, rfl⟩ := ht5.iface
          have H5 := Lib.hid (show _ ∧ _ ∧ _ ∧ _ ∧ _ ∧ _ ∧ _ from ⟨hp5, ht5, hg5, hok5, hd5, hle5, hr⟩)
          have hs5 : w.heap.size ≤ w5.heap.size := (H3.out.1.grown.trans hg5 (fun _ _ e => e)).size
          have hO5 := Lib.hid (owns_below (H3.out.1.call hp5 hg5).row ((Below.refl _ w5).alloc (Nat.le_refl _) (.cells #[.iface ty2 xv2] 52)))
          obtain ⟨hi, hz0, hz1, hz2⟩ := HI.out
          clear hp5 ht5 hg5 hok5 hd5 hle5 hr
          go_wp2_with (at_builtin; refine wpList_append_lies _ rfl _ _ 90 rfl w.heap.size 52 i0 _ 1 16 Tryd.underlying90 hi hz0 hz1 hz2 rfl (by omega) _ vs.length vs rfl hO5.out ⟨w5.heap.size, 0, none⟩ 1 1 [.iface ty2 xv2] rfl rfl (cells_newL w5 [.iface ty2 xv2] _) (by simp [Value.oneCell']) (by omega) (by unfold maxLen; omega) (by omega) (by simp; omega) (w5.heap.size + 1) (by simp) ?_)
          intro g6 c6 w6 hown6 hg6 hgg6 _
          have hba : Below w5.heap.size w5 (w5.alloc (.cells #[.iface ty2 xv2] 52)) := (Below.refl _ _).alloc (Nat.le_refl _) _
          have hq : AllSt w w6 bk s st2 (ts ++ [t2]) (.slice (some ⟨g6, 0, none⟩) (vs.length + 1) c6) (vs ++ [.iface ty2 xv2]) :=
            H3.out.1.snoc H5.out.2.1 H5.out.1 H5.out.2.2.1 hba hown6 hg6 (by rcases hgg6 with e | e; exact .inl e; exact .inr (by rw [e]; simp))
          have hmeas : atOf w6 bk = st2.at_ := hq.psr.at
          have hmeas0 : atOf wr bk = st'.at_ := HR.out.1.psr.at
          have h2 : st'.at_ + 1 ≤ st2.at_ := H5.out.2.2.2.2.2.1
          have h3 := H5.out.2.2.2.1.at_
          have hlaw : RX.pAll s.data.toList (f + 1) st = RX.pAlts (RX.pAll s.data.toList f) s.data.toList G st2 (ts ++ [t2]) := by
            rw [H3.out.2, H5.out.2.2.2.2.2.2]
          have HQ := Lib.hid (show _ ∧ _ from ⟨hq, hlaw⟩)
          clear hq hlaw hown6 hg6 hgg6 hba
          go_wp2
          go_roundw
          case measure => rw [hmeas, hmeas0]; omega
          case rel => exact ⟨st2, ts ++ [t2], vs ++ [.iface ty2 xv2], G, Lib.hid ⟨HQ.out.1, H5.out.2.2.2.1, H5.out.2.2.2.2.1.trans HR.out.2.2.1, by have := HR.out.2.2.2.1; omega, HQ.out.2, by have := HR.out.2.2.2.2.2.1; omega, by rw [List.length_append, List.length_singleton]; have := HR.out.2.2.2.2.2.2; omega⟩⟩
      · have hnx := HR.out.2.2.2.2.1.trans (alts_stop (A := RX.pAll s.data.toList f) (F := G) (ts := ts) hc)
        go_wp2_with fail
        refine (skip_not bk s st' 124 _ HR.out.1.psr (by omega) hc).mono ?_
        rintro e w3 ⟨rfl, q3, rfl⟩
        have H3 := Lib.hid hnx
        clear hc hnx
        go_wp2_with fail
        go_ret
        rw [H3.out]
        exact ⟨_, rfl, HR.out.1.psr.drewN _, (HR.out.1.drewN q3).brs ⟨hvl.1, by omega⟩, (HR.out.1.drewN q3).grown, HR.out.2.1, HR.out.2.2.1, HR.out.2.2.2.1⟩
theorem all_any (bk : Nat) (s : ByteArray) (hbig : s.size ≤ 500) : ∀ f, AllDoes bk s f
  | 0 => fun W st _ hok hf => by have := hok.at_; omega
  | f + 1 => fun W st hS hok hf => all_step bk s f (all_any bk s hbig f) hbig st W hS hok hf
end Go.Proofs.YtamlnkmcbbeicaaDoor
