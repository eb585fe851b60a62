/- Patterns' machine: either lays branches one behind the other and mends their jumps. -/
import Derived.Test.YtamlnkmcbbeicaaDoorG29
import Derived.BigRegion
namespace Go.Proofs.YtamlnkmcbbeicaaDoor
open Go.RowKit Go.Lib
open RX (PS Tr Pr Stp)

theorem alts_size (us : List Tr) (tl : Tr) : (Tr.alts (us ++ [tl])).size = RX.sizes us + tl.size + 2 * us.length := by
  rw [RX.Tr.size, sizes_snoc, List.length_append, List.length_singleton]; omega
theorem offA_mono {l : List Tr} {b i : Nat} : offA (l.take i) b ≤ offA l b := by
  conv => rhs; rw [← List.take_append_drop i l]
  unfold offA
  rw [sizes_append, List.length_append]; omega
/-- What a store into a step's place asks. -/
theorem Rgx.cellAt {B rp many g n c : Nat} {W : World} {l1 l2 : List Stp} {x : Stp} (h : Rgx B W rp (.slice (some ⟨g, 0, none⟩) n c) (l1 ++ x :: l2) many) {j : Nat} (hj : j < 260) :
    (∃ v, W.cell? ⟨g, l1.length * 260 + j, none⟩ = some v) ∧ W.frozen? ⟨g, l1.length * 260 + j, none⟩ = false := by
  obtain ⟨h1, h2⟩ := h.there j hj
  exact ⟨Option.isSome_iff_exists.1 h1, h2⟩
theorem step_two {a b : Nat} (x : Stp) (h : x = Stp.plain 5) : ({ ({ x with first := a } : Stp) with other := b } : Stp) = Stp.fork a b false ∧ ({ ({ x with other := b } : Stp) with first := a } : Stp) = Stp.fork a b false := by
  subst h; exact ⟨rfl, rfl⟩
theorem mendA_zero (fin : Nat) (L T : List Stp) (r : List Tr) : mendA fin L [] r T = L ++ preA 0 r L.length ++ T := by simp [mendA, preA, offA, RX.sizes]
theorem mendA_last (fin : Nat) (L T : List Stp) (l : List Tr) : mendA fin L l [] T = L ++ preA fin l L.length ++ T := by simp [mendA, preA]
theorem mendA_length (fin : Nat) (L T : List Stp) (l r : List Tr) : (mendA fin L l r T).length = offA (l ++ r) L.length + T.length := by
  have h1 := preA_length fin l L.length
  have h2 := preA_length 0 r (offA l L.length)
  have h3 : offA r (offA l L.length) = offA (l ++ r) L.length := by unfold offA; rw [sizes_append, List.length_append]; omega
  unfold mendA
  rw [List.length_append, List.length_append, List.length_append]
  omega
set_option maxHeartbeats 16000000 in
set_option maxRecDepth 100000 in
theorem either_any (us : List Tr) (tl : Tr) (hls : ∀ (i : Nat) t, us[i]? = some t → LayOk t) (hlast : LayOk tl) (B rp many : Nat) (a : Value) (l : List Stp) (av : Value) (vs : List Value) (w : World) (h : Rgx B w rp a l many)
    (ho : w.ownsRow 0 52 1 av vs.length vs) (hob : ∀ b, av.ownBlock = some b → b < B) (hvn : vs.length ≤ 1000) (hts : TreesV w (fun b => b < B) (us ++ [tl]) vs) (hn : l.length + (Tr.alts (us ++ [tl])).size ≤ 100000) :
    Calls Tryd.prog 38 #[.pointer (some ⟨rp, 0, none⟩), av] w (LayP B rp many a w (l ++ (Tr.alts (us ++ [tl])).lay l.length)) := by
  obtain ⟨A, c, rfl, _, _⟩ := owns_slice ho
  obtain ⟨i0, hi0, hz0, hz1, hz2⟩ := info_parts Tryd.infoIntM
  have hll : us.length + 1 = vs.length := by rw [← hts.length]; simp
  rw [alts_size] at hn
  have hla : (Tr.alts (us ++ [tl])).lay l.length = RX.layAlts (us ++ [tl]) l.length (l.length + (RX.sizes us + tl.size + 2 * us.length)) := by
    rw [RX.Tr.lay, ← alts_size, RX.Tr.size]
  rw [hla, alts_snoc]
  clear hla
  obtain ⟨g, hg, _⟩ := owns_some' ho (by omega)
  subst hg
  obtain ⟨n, hvl⟩ : ∃ n, vs.length = n := ⟨_, rfl⟩
  obtain ⟨k, hul⟩ : ∃ k, us.length = k := ⟨_, rfl⟩
  obtain ⟨q, hq⟩ : ∃ q, l.length = q := ⟨_, rfl⟩
  rw [hvl] at ho hvn hll ⊢
  rw [hul] at hll hn ⊢
  rw [hq] at hn ⊢
  have k1 : IntKind.i64.wrap ((n : Int) - 1) = (k : Int) := by rw [IntWalk.i64_in _ (by omega)]; omega
  have HH := Lib.hid (show _ ∧ _ ∧ _ ∧ _ ∧ _ from ⟨h, hn, hts, ho, hob⟩)
  have HN := Lib.hid (show _ ∧ _ ∧ _ ∧ _ ∧ _ from ⟨hvl, hul, hq, hll, hvn⟩)
  have HI := Lib.hid (show _ ∧ _ ∧ _ ∧ _ from ⟨hi0, hz0, hz1, hz2⟩)
  have hnk : k < n := by omega
  have hn1 : n ≤ 1000 := hvn
  clear h hn hts ho hob hi0 hz0 hz1 hz2 hvl hul hq hll hvn
  go_enter Tryd.func38, Tryd.ntmps38
  go_wp2_with fail
  go_loopw [4, 12] (fun jv iv wr => ∃ (i : Nat) (ai : Value), i ≤ k ∧ iv = .int .i64 i ∧ Hid (Rgx B wr rp ai (l ++ preA 0 (us.take i) q) many ∧ Mch rp a w ai wr ∧ Sd rp ai wr w.heap.size jv i (posA (us.take i) q))) (fun _ iv _ => k + 1 - (intOf iv).toNat)
  case atStart =>
    refine ⟨0, a, Nat.zero_le _, rfl, Lib.hid ⟨?_, Mch.refl _ _ _, ?_⟩⟩
    · rw [List.take_zero, preA, List.append_nil]
      exact HH.out.1
    · exact Sd.nil _ _ _ _
  case round =>
    obtain ⟨i, ai, hi, rfl, HR⟩ := hrel
    have w2 : IntKind.i64.wrap ((i : Int) + 1) = (i : Int) + 1 := IntWalk.i64_in _ (by omega)
    have i1 : (i : Int) < (n : Int) := by omega
    have i0' : (0 : Int) ≤ (i : Int) := by omega
    have hbw := HR.out.2.1.below HH.out.1
    have hvi : i < vs.length := by have := HN.out.1; omega
    have hv : vs[i]? = some (vs[i]'hvi) := List.getElem?_eq_getElem _
    obtain ⟨v, hve⟩ : ∃ v, vs[i]'hvi = v := ⟨_, rfl⟩
    rw [hve] at hv
    have c0 : wr.cell? ⟨g, i, none⟩ = some v := (hbw.cell (HH.out.2.2.2.2 g rfl)).trans (owns_cell HH.out.2.2.2.1 rfl hv)
    have HV := Lib.hid hv
    have HB := Lib.hid hbw
    clear hve hv hvi hbw
    by_cases hlt : i < k
    · have i2 : ¬ (i : Int) = (k : Int) := by omega
      have hiu : i < us.length := by have := HN.out.2.1; omega
      have hu : us[i]? = some (us[i]'hiu) := List.getElem?_eq_getElem _
      obtain ⟨t, hte⟩ : ∃ t, us[i]'hiu = t := ⟨_, rfl⟩
      have htk : us.take (i + 1) = us.take i ++ [t] := by rw [List.take_succ_eq_append_getElem hiu, hte]
      rw [hte] at hu
      have htv : TreeV wr (fun b => b < B) t v := HH.out.1.tree (HH.out.2.2.1.at (by rw [List.getElem?_append_left hiu]; exact hu) HV.out) HB.out
      obtain ⟨ty, x, rfl⟩ := htv.face
      have hlen : (l ++ preA 0 (us.take i) q).length = offA (us.take i) q := by rw [List.length_append, HN.out.2.2.1, preA_length]
      have hoff : offA (us.take i) q + t.size + 2 ≤ 100000 := by
        have h1 := offA_mono (l := us) (b := q) (i := i + 1)
        rw [htk, offA_snoc] at h1
        have := HH.out.2.1
        unfold offA at h1 ⊢
        have := HN.out.2.1
        omega
      obtain ⟨p, hp⟩ : ∃ p, offA (us.take i) q = p := ⟨_, rfl⟩
      rw [hp] at hlen hoff
      have HT := Lib.hid (show _ ∧ _ ∧ _ ∧ _ ∧ _ from ⟨hls i t hu, htv, htk, hp, hlen⟩)
      have hu7 := HR.out.2.2.own
      obtain ⟨Af, cf, rfl, _, _⟩ := owns_slice hu7
      clear hu7 hte hu hiu htv htk hp hlen
      go_wp2_with (first
        | (refine wpList_build_step rfl _ rfl [(0, .int .i64 5)] rfl (built_plain 5) ?_)
        | fail)
      refine (add_any B rp many ai _ (Stp.plain 5) _ HR.out.1 (by rw [HT.out.2.2.2.2]; omega)).mono ?_
      rintro e w3 ⟨rfl, a3, h3, hm3⟩
      rw [HT.out.2.2.2.2]
      have H3 := Lib.hid (show _ ∧ _ ∧ _ from ⟨h3, HR.out.2.1.trans hm3, HR.out.2.2.step hm3⟩)
      clear h3 hm3 c0
      go_wp2_with fail
      refine (HT.out.1 B rp many a3 _ (.iface ty x) _ H3.out.1 (TreeV.move (fun _ h => h) (fun b hb _ => (H3.out.2.1.below HH.out.1).block b hb) t _ (TreeV.move (fun _ h => h) (fun b hb _ => ((HR.out.2.1.below HH.out.1).block b hb).symm) t _ HT.out.2.1)) (by rw [List.length_append, HT.out.2.2.2.2, List.length_singleton]; omega)).mono ?_
      rintro e w4 ⟨rfl, a4, h4, hm4⟩
      rw [List.length_append, HT.out.2.2.2.2, List.length_singleton] at h4
      have H4 := Lib.hid (show _ ∧ _ ∧ _ from ⟨h4, H3.out.2.1.trans hm4, H3.out.2.2.step hm4⟩)
      clear h4 hm4
      go_wp2_with (first
        | (refine wpList_build_step rfl _ rfl [(0, .int .i64 4)] rfl (built_plain 4) ?_)
        | fail)
      refine (add_any B rp many a4 _ (Stp.plain 4) _ H4.out.1 (by rw [List.length_append, List.length_append, HT.out.2.2.2.2, List.length_singleton, t.lay_length]; omega)).mono ?_
      rintro e w5 ⟨rfl, a5, h5, hm5⟩
      have hlen5 : (l ++ preA 0 (us.take i) q ++ [Stp.plain 5] ++ t.lay (p + 1)).length = p + 1 + t.size := by rw [List.length_append, List.length_append, HT.out.2.2.2.2, List.length_singleton, t.lay_length]
      rw [hlen5]
      have H5 := Lib.hid (show _ ∧ _ ∧ _ ∧ _ from ⟨h5, H4.out.2.1.trans hm5, H4.out.2.2.step hm5, hlen5⟩)
      have hsz5 : w.heap.size ≤ w5.heap.size := H5.out.2.1.grown.size
      clear h5 hm5 hlen5
      obtain ⟨hi0, hz0, hz1, hz2⟩ := HI.out
      go_wp2_with (first
        | (at_builtin; refine wpList_append_full _ rfl _ _ 98 rfl w.heap.size 3 i0 _ 1 8 Tryd.underlying98 hi0 hz0 hz1 hz2 rfl (by omega) (.slice Af i cf) i (posA (us.take i) q) rfl (H5.out.2.2.1.own.alloc _) ⟨w5.heap.size, 0, none⟩ 1 1 [.int .i64 ((p + 1 + t.size : Nat) : Int)] rfl rfl (cells_newL w5 [.int .i64 ((p + 1 + t.size : Nat) : Int)] _) (by simp [Value.oneCell']) (by omega) (by unfold maxLen; omega) (by omega) (by simp; omega) ?_; intro g6 c6 w6 hown6 hg6 hl6 _; have hba : Below w5.heap.size w5 (w5.alloc (.cells #[.int .i64 ((p + 1 + t.size : Nat) : Int)] 3)) := (Below.refl _ _).alloc (Nat.le_refl _) _; have R6 := (H5.out.2.2.1.below hba).keep (H5.out.1.below hba) hg6; have M6 := (H5.out.2.1.post hba).keep hg6 (fun k hk => (H5.out.2.2.1.own.lt k hk).1); have S6 := H5.out.2.2.1.snoc H5.out.1 hba hl6 hown6; have H6 := Lib.hid (show _ ∧ _ ∧ _ from ⟨R6, M6, S6⟩); clear hown6 hg6 hl6 hba R6 M6 S6)
        | fail)
      have R6' : Rgx B w6 rp a5 ((l ++ preA 0 (us.take i) q) ++ Stp.plain 5 :: (t.lay (p + 1) ++ [Stp.jump 0])) many := by
        have := H6.out.1
        rw [List.append_assoc, List.append_assoc] at this
        exact this
      have hln6 : ((l ++ preA 0 (us.take i) q) ++ Stp.plain 5 :: (t.lay (p + 1) ++ [Stp.jump 0])).length = p + t.size + 2 := by
        rw [List.length_append, HT.out.2.2.2.2, List.length_cons, List.length_append, t.lay_length, List.length_singleton]; omega
      obtain ⟨g2, c2, rfl, _, _⟩ := R6'.form
      rw [hln6] at R6' H6
      obtain ⟨n6, hn6⟩ : ∃ n6, p + t.size + 2 = n6 := ⟨_, rfl⟩
      rw [hn6] at R6' H6 hoff
      have x0 := R6'.c0
      obtain ⟨⟨v1, x1⟩, y1⟩ := R6'.cellAt (j := 257) (by omega)
      obtain ⟨⟨v2, x2⟩, y2⟩ := R6'.cellAt (j := 258) (by omega)
      rw [HT.out.2.2.2.2] at x1 y1 x2 y2
      have hne : g2 ≠ rp := R6'.own.2.2.2
      have p0 : (0 : Int) ≤ (p : Int) := by omega
      have p1 : (p : Int) < (n6 : Int) := by omega
      have k5 : IntKind.i64.wrap ((p : Int) + 1) = (p : Int) + 1 := IntWalk.i64_in _ (by omega)
      have H7 := Lib.hid (show _ ∧ _ ∧ _ from ⟨R6', hn6, hln6⟩)
      clear R6' hn6 hln6
      go_region
      clear x0 x1 y1 x2 y2
      obtain ⟨R8, M8⟩ := H7.out.1.step_first (p + 1)
      obtain ⟨R9, M9⟩ := R8.step_other n6
      rw [HT.out.2.2.2.2] at R8 M8 R9 M9
      rw [show (((p + 1 : Nat) : Int)) = (p : Int) + 1 by omega] at R8 M8 R9 M9
      have S9 := ((H6.out.2.2.step M8).step M9).below ((Below.refl _ _).drew)
      have M9' := ((H6.out.2.1.trans M8).trans M9).post ((Below.refl _ _).drew)
      have R9' := R9.below ((Below.refl _ _).drew)
      rw [(step_two (Stp.plain 5) rfl).1] at R9'
      have H9 := Lib.hid (show _ ∧ _ ∧ _ from ⟨R9', M9', S9⟩)
      clear R8 M8 R9 M9 S9 M9' R9'
      go_wp2_with fail
      go_roundw
      case measure => simp [intOf]; omega
      case rel =>
        refine ⟨i + 1, _, hlt, by simp, Lib.hid ⟨?_, H9.out.2.1, ?_⟩⟩
        · rw [HT.out.2.2.1, preA_snoc, HT.out.2.2.2.1, H7.out.2.1]
          have := H9.out.1
          rw [List.append_assoc] at this
          exact this
        · rw [HT.out.2.2.1, posA_snoc, HT.out.2.2.2.1]
          exact H9.out.2.2
    · obtain rfl : i = k := by omega
      have htk : us.take i = us := List.take_of_length_le (by have := HN.out.2.1; omega)
      rw [htk] at HR
      have htv : TreeV wr (fun b => b < B) tl v := HH.out.1.tree (HH.out.2.2.1.at (by rw [← HN.out.2.1, List.getElem?_append_right (Nat.le_refl _), Nat.sub_self]; rfl) HV.out) HB.out
      obtain ⟨ty, x, rfl⟩ := htv.face
      have hlen : (l ++ preA 0 us q).length = offA us q := by rw [List.length_append, HN.out.2.2.1, preA_length]
      have hoff : offA us q + tl.size ≤ 100000 := by
        have := HH.out.2.1
        unfold offA
        have := HN.out.2.1
        omega
      have hfin : q + (RX.sizes us + tl.size + 2 * i) = offA us q + tl.size := by unfold offA; have := HN.out.2.1; omega
      obtain ⟨p, hp⟩ : ∃ p, offA us q = p := ⟨_, rfl⟩
      rw [hp] at hlen hoff hfin
      have hu7 := HR.out.2.2.own
      obtain ⟨Af, cf, rfl, _, _⟩ := owns_slice hu7
      have HT := Lib.hid (show _ ∧ _ ∧ _ from ⟨htv, hp, hlen⟩)
      have HF := Lib.hid hfin
      clear hu7 htv hp hlen htk hfin
      go_wp2_with fail
      refine (hlast B rp many ai _ (.iface ty x) _ HR.out.1 HT.out.1 (by rw [HT.out.2.2]; exact hoff)).mono ?_
      rintro e w4 ⟨rfl, a4, h4, hm4⟩
      rw [HT.out.2.2] at h4
      obtain ⟨n6, hn6⟩ : ∃ n6, p + tl.size = n6 := ⟨_, rfl⟩
      rw [hn6] at hoff
      have H4 := Lib.hid (show _ ∧ _ ∧ _ ∧ _ from ⟨h4, HR.out.2.1.trans hm4, HR.out.2.2.step hm4, hn6⟩)
      clear h4 hm4 hn6 c0
      go_wp2_with fail
      go_loopw [61] (fun jv wr => ∃ (j : Nat) (aj : Value), j ≤ i ∧ jv = .int .i64 j ∧ Hid (Rgx B wr rp aj (mendA n6 l (us.take j) (us.drop j) (tl.lay p)) many ∧ Mch rp a w aj wr ∧ Sd rp aj wr w.heap.size (.slice Af i cf) i (posA us q))) (fun jv _ => i - (intOf jv).toNat)
      case atStart =>
        refine ⟨0, a4, Nat.zero_le _, rfl, Lib.hid ⟨?_, H4.out.2.1, H4.out.2.2.1⟩⟩
        rw [List.take_zero, List.drop_zero, mendA_zero, HN.out.2.2.1]
        exact H4.out.1
      case round =>
        obtain ⟨j, aj, hj, rfl, HJ⟩ := hrel
        have w3 : IntKind.i64.wrap ((j : Int) + 1) = (j : Int) + 1 := IntWalk.i64_in _ (by omega)
        by_cases hji : j < i
        · have j0 : (0 : Int) ≤ (j : Int) := by omega
          have j1 : (j : Int) < (i : Int) := by omega
          have hju : j < us.length := by have := HN.out.2.1; omega
          obtain ⟨t, hte⟩ : ∃ t, us[j]'hju = t := ⟨_, rfl⟩
          have htk : us.take (j + 1) = us.take j ++ [t] := by rw [List.take_succ_eq_append_getElem hju, hte]
          have hdr : us.drop j = t :: us.drop (j + 1) := by rw [List.drop_eq_getElem_cons hju, hte]
          have hus : us.take j ++ t :: us.drop (j + 1) = us := by rw [← hdr, List.take_append_drop]
          obtain ⟨gf, hgf, _⟩ := owns_some' HJ.out.2.2.own (by omega)
          subst hgf
          have hpa : (posA us q)[j]? = some (.int .i64 ((offA (us.take j) q + 1 + t.size : Nat) : Int)) := by
            have := posA_at (us.take j) (us.drop (j + 1)) t q
            rw [hus, List.length_take, Nat.min_eq_left (by omega)] at this
            exact this
          have hcp := owns_cell HJ.out.2.2.own rfl hpa
          obtain ⟨l1, l2, hm1, hm2, hm3⟩ := mendA_first (fin := n6) (L := l) (T := tl.lay p) (l := us.take j) (r := us.drop (j + 1)) (t := t)
          have hml : (mendA n6 l (us.take j) (us.drop j) (tl.lay p)).length = n6 := by
            rw [mendA_length, List.take_append_drop, tl.lay_length, HN.out.2.2.1, HT.out.2.1, H4.out.2.2.2]
          have R6 := HJ.out.1
          rw [hdr, hm1] at hml R6
          rw [HN.out.2.2.1] at hm2
          obtain ⟨P, hP⟩ : ∃ P, offA (us.take j) q + 1 + t.size = P := ⟨_, rfl⟩
          rw [hP] at hm2 hcp
          obtain ⟨g2, c2, rfl, _, _⟩ := R6.form
          rw [hml] at R6 HJ
          have x0 := R6.c0
          have hPn : P < n6 := by rw [← hml, List.length_append, List.length_cons]; omega
          obtain ⟨⟨v1, x1⟩, y1⟩ := R6.cellAt (j := 257) (by omega)
          rw [hm2] at x1 y1
          have hne : g2 ≠ rp := R6.own.2.2.2
          have p0 : (0 : Int) ≤ (P : Int) := by omega
          have p1 : (P : Int) < (n6 : Int) := by omega
          have H7 := Lib.hid (show _ ∧ _ ∧ _ ∧ _ from ⟨R6, hm2, hm3, htk⟩)
          clear R6 hm1 hm2 hm3 hml hpa hdr hus htk hP hte hju hPn
          go_wp2_with fail
          go_region
          clear x0 x1 y1 hcp
          obtain ⟨R8, M8⟩ := H7.out.1.step_first n6
          rw [H7.out.2.1] at R8 M8
          have S9 := (HJ.out.2.2.step M8).below ((Below.refl _ _).drew)
          have M9' := (HJ.out.2.1.trans M8).post ((Below.refl _ _).drew)
          have R9' := R8.below ((Below.refl _ _).drew)
          rw [jump_first, ← H7.out.2.2.1, ← H7.out.2.2.2] at R9'
          have H9 := Lib.hid (show _ ∧ _ ∧ _ from ⟨R9', M9', S9⟩)
          clear R8 M8 S9 M9' R9'
          go_wp2_with fail
          go_roundw
          case measure => simp [intOf]; omega
          case rel => exact ⟨j + 1, _, hji, by simp, Lib.hid H9.out⟩
        · obtain rfl : j = i := by omega
          have j1 : ¬ ((j : Nat) : Int) < (j : Int) := by omega
          have R6 := HJ.out.1
          have htk : us.take j = us := List.take_of_length_le (by have := HN.out.2.1; omega)
          have hdr : us.drop j = [] := List.drop_of_length_le (by have := HN.out.2.1; omega)
          rw [htk, hdr, mendA_last, HN.out.2.2.1, List.append_assoc] at R6
          have R9 := Lib.hid R6
          clear R6 htk hdr hji hj
          go_wp2_with fail
          refine bodyPost_end (v := .tuple #[]) (by simp [results, Tryd.results38, go_sem]) rfl ⟨rfl, aj, ?_, HJ.out.2.1⟩
          rw [HF.out, H4.out.2.2.2, HT.out.2.1]
          exact R9.out
end Go.Proofs.YtamlnkmcbbeicaaDoor
