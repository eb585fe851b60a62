/- Patterns' reader: a class. -/
import Derived.Test.YtamlnkmcbbeicaaDoorRgCls0
namespace Go.Proofs.YtamlnkmcbbeicaaDoor
open Go.RowKit Go.Lib
open RX (PS Tr Pr)

/-- One byte more of what is merged. -/
theorem merge_step {w W : World} {bk b0 b7 : Nat} {s : ByteArray} {st : PS} {p q : Nat → Bool} {i : Nat} {v : Bool} (h : It2 w W bk s st b0 (fun j => if j = i then v else (if j < i then (p j || q j) else p j)) b7 q) (hv : v = (p i || q i)) : It2 w W bk s st b0 (fun j => if j < i + 1 then (p j || q j) else p j) b7 q :=
  ⟨h.it.congr fun j hj => by
    by_cases e : j = i
    · rw [if_pos e, if_pos (by omega), e]; exact hv
    · rw [if_neg e]
      by_cases e2 : j < i
      · rw [if_pos e2, if_pos (by omega)]
      · rw [if_neg e2, if_neg (by omega)], h.set7, h.ne⟩
theorem set_index (p : Nat → Bool) {i : Nat} (hi : i < 256) (w : World) : (Instr.index 61 (.agg (setV p)) (.int .i64 i)).run Tryd.prog w = .ok (.bool (p i)) w := by
  have h1 := setV_get p hi
  have h2 : (i : Int) < 256 := by omega
  simp [Instr.index, go_sem, h1, h2, setV_size]
  intro h
  omega
set_option maxHeartbeats 8000000 in
set_option maxRecDepth 100000 in
theorem class_any (bk : Nat) (s : ByteArray) (st : PS) (w : World) (hS : Psr w bk s st) (hk : st.at_ ≤ s.size) (hbig : s.size ≤ 1000) :
    Calls Tryd.prog 71 #[.pointer (some ⟨bk, 0, none⟩)] w (ClassPost w bk s st) := by
  have hlen : s.data.toList.length = s.size := Array.length_toList
  have HS := Lib.hid hS
  clear hS
  go_enter Tryd.func71, Tryd.ntmps71
  go_wp2_with (refine wpList_alloc_set rfl rfl ?_; intro w1 hb1 hs1 hg1; have H1 := Lib.hid (it_start HS.out hb1 hg1); clear hb1 hs1 hg1)
  refine (skip_bool bk s st 94 w1 H1.out.psr (by omega)).mono ?_
  rintro e w2 ⟨rfl, h2, h3⟩
  have hk0 : (if (s.data.toList[st.at_]? == some 94) = true then st.at_ + 1 else st.at_) ≤ s.size := by
    by_cases h : (s.data.toList[st.at_]? == some 94) = true
    · rw [if_pos h]
      have h1 : s.data.toList[st.at_]? = some 94 := by simpa using h
      have := (List.getElem?_eq_some_iff.1 h1).1
      omega
    · rw [if_neg h]; exact hk
  have H2 := H1.out.call h2 h3
  obtain ⟨no, hno⟩ : ∃ no, (s.data.toList[st.at_]? == some 94) = no := ⟨_, rfl⟩
  rw [hno] at H2 hk0 ⊢
  obtain ⟨k0, hk0e⟩ : ∃ k0, (if no = true then st.at_ + 1 else st.at_) = k0 := ⟨_, rfl⟩
  rw [hk0e] at H2 hk0
  have HN := Lib.hid (show _ ∧ _ from ⟨hno, hk0e⟩)
  have H20 := Lib.hid (show ItSt w w2 bk s (st.to k0) w.heap.size (fun _ => false) ∧ k0 ≤ s.size from ⟨H2, hk0⟩)
  clear hno hk0e H2 h2 h3 hk0 H1
  go_wp2_with fail
  go_loopw [4] (fun fv wr => ∃ (first : Bool) (k : Nat) (p : Nat → Bool) (f : Nat), fv = .bool first ∧ Hid (ItSt w wr bk s (st.to k) w.heap.size p ∧ RX.classGo s.data.toList f first k p = RX.classGo s.data.toList (s.data.toList.length + 1) true k0 (fun _ => false) ∧ s.size + 1 ≤ f + k ∧ k ≤ s.size)) (fun _ wr => s.size - atOf wr bk)
  case atStart => exact ⟨true, k0, _, s.data.toList.length + 1, rfl, Lib.hid ⟨H20.out.1, rfl, by omega, H20.out.2⟩⟩
  case round =>
    obtain ⟨first, k, p, f, rfl, HR⟩ := hrel
    obtain ⟨g, rfl⟩ : ∃ g, f = g + 1 := ⟨f - 1, by have := HR.out; omega⟩
    have hks := HR.out.2.2.2
    cases first with
    | true =>
      cases hc : s.data.toList[k]? with
      | none =>
        have hp := peek_none bk s (st.to k) wr HR.out.1.psr hc
        have HE := Lib.hid (show _ ∧ _ from ⟨hp, hc⟩)
        clear hp hc
        have c1 : wr.cell? ⟨bk, 1, none⟩ = some (.int .i64 k) := HR.out.1.psr.c1
        go_wp2_with (first | (go_at_call 58; refine HE.out.1.mono ?_; rintro e w3 ⟨rfl, q, rfl⟩) | (go_quiet (fail)))
        exact ⟨rfl, class_bad (by rw [HN.out.1, HN.out.2, ← HR.out.2.1, cg_none HE.out.2]) (HR.out.1.grown.drewN _)⟩
      | some c =>
        have hp := peek_some bk s (st.to k) c wr HR.out.1.psr hc
        by_cases h93 : c = 93
        · subst h93
          have HE := Lib.hid (show _ ∧ _ from ⟨hp, hc⟩)
          clear hp hc
          have c1 : wr.cell? ⟨bk, 1, none⟩ = some (.int .i64 k) := HR.out.1.psr.c1
          go_wp2_with (first | (go_at_call 58; refine HE.out.1.mono ?_; rintro e w3 ⟨rfl, q, rfl⟩) | (go_quiet (fail)))
          exact ⟨rfl, class_bad (by rw [HN.out.1, HN.out.2, ← HR.out.2.1, cg_first HE.out.2]) (HR.out.1.grown.drewN _)⟩
        · have b93 : ((c.toNat : Int) == 93) = false := byteI h93
          have HC := Lib.hid (show _ ∧ RX.classGo s.data.toList (g + 1) true k p = clsItem s.data.toList g k p from ⟨hc, cg_item hc h93 (by simp) (by simp)⟩)
          have HE := Lib.hid hp
          clear hp hc h93
          go_wp2_with (first | (go_at_call 58; refine HE.out.mono ?_; rintro e w3 ⟨rfl, q3, rfl⟩; have HI0 := Lib.hid (HR.out.1.drewN q3)) | (go_quiet (fail)))
          refine (item_any bk s (st.to k) _ (HR.out.1.drewN _).psr (by omega) _ HC.out.1).mono ?_
          rintro e wi hpost
          unfold ItemPost at hpost
          have hci := HC.out.2
          unfold clsItem at hci
          simp only [show (st.to k).at_ = k from rfl] at hpost
          cases hitem : RX.item s.data.toList k with
          | bad a =>
            rw [hitem] at hpost hci
            obtain ⟨rfl, hg⟩ := hpost
            have HE := Lib.hid (show _ ∧ _ from ⟨hci, hg⟩)
            clear hci hg hitem
            go_wp2_with fail
            exact ⟨rfl, class_bad (by rw [HN.out.1, HN.out.2, ← HR.out.2.1, HE.out.1]) ((HR.out.1.drewN _).grown.trans HE.out.2 (fun _ _ e => e))⟩
          | ok q from_ k1 =>
            rw [hitem] at hpost hci
            simp only at hci hpost
            cases from_ with
            | none =>
              rw [show sngV none = -1 from rfl] at hpost
              obtain ⟨rfl, hpsr, hk1, hkk, hg⟩ := hpost
              have HI := Lib.hid (show ItSt w wi bk s (st.to k1) w.heap.size p from (HR.out.1.drewN _).call hpsr hg)
              have HK := Lib.hid (show _ ∧ k1 ≤ s.size ∧ k < k1 from ⟨hci, hk1, hkk⟩)
              clear hpsr hg hci hitem

              go_wp2_with (first
                | (refine wpList_alloc_set rfl rfl ?_; intro w7 hb7 hs7 hg7; have H7 := Lib.hid (HI.out.two hb7 hg7); have hb0 := H7.out.set7; clear hb7 hs7 hg7)
                | (refine wpList_store_set rfl _ _ rfl rfl rfl H7.out.set7 ?_; intro w8 hb8 hs8 hg8; have H8 := Lib.hid (H7.out.store hb8 hg8); clear hb8 hs8 hg8)
                | (refine wpList_load_set rfl _ rfl rfl H8.out.set7 ?_)
                | (go_quiet (fail)))
              have HM := Lib.hid (show It2 w _ bk s (st.to k1) w.heap.size p wi.heap.size (q) ∧ RX.classGo s.data.toList g false k1 (fun i => p i || (q) i) = RX.classGo s.data.toList (s.data.toList.length + 1) true k0 (fun _ => false) ∧ k1 ≤ s.size ∧ k < k1 from ⟨H8.out, HK.out.1.symm.trans HR.out.2.1, HK.out.2.1, HK.out.2.2⟩)

              go_loopw [138] (fun iv wy => ∃ i : Nat, i ≤ 256 ∧ iv = .int .i64 i ∧ Hid (It2 w wy bk s (st.to k1) w.heap.size (fun j => if j < i then (p j || (q) j) else p j) wi.heap.size (q))) (fun iv _ => 256 - (intOf iv).toNat)
              case atStart => exact ⟨0, by omega, rfl, Lib.hid ⟨(HM.out.1.it.congr (fun i _ => by simp)), HM.out.1.set7, HM.out.1.ne⟩⟩
              case round =>
                obtain ⟨i, hi, rfl, HY⟩ := hrel
                by_cases hlt : i < 256
                · have i1 : (i : Int) < 256 := by omega
                  have i0 : (0 : Int) ≤ (i : Int) := by omega
                  have w2 : IntKind.i64.wrap ((i : Int) + 1) = (i : Int) + 1 := IntWalk.i64_in _ (by omega)
                  have q1 := fun W => set_index (q) hlt W
                  have c0 := HY.out.it.set.cell hlt
                  have f0 := HY.out.it.set.fr i
                  rw [if_neg (Nat.lt_irrefl i)] at c0
                  obtain ⟨pv, hpv⟩ : ∃ pv, p i = pv := ⟨_, rfl⟩
                  obtain ⟨qv, hqv⟩ : ∃ qv, (q) i = qv := ⟨_, rfl⟩
                  rw [hpv] at c0
                  rw [hqv] at q1
                  have HV := Lib.hid (show p i = pv ∧ (q) i = qv from ⟨hpv, hqv⟩)
                  clear hpv hqv
                  cases pv with
                  | true =>
                    go_wp2_with fail
                    go_roundw
                    case measure => simp [intOf]; omega
                    case rel => exact ⟨i + 1, hlt, by simp, Lib.hid (merge_step (HY.out.put0 hlt true) (by rw [HV.out.1]; rfl))⟩
                  | false =>
                    go_wp2_with fail
                    go_roundw
                    case measure => simp [intOf]; omega
                    case rel => exact ⟨i + 1, hlt, by simp, Lib.hid (merge_step (HY.out.put0 hlt qv) (by rw [HV.out.1, HV.out.2]; rfl))⟩
                · obtain rfl : i = 256 := by omega
                  have i1 : ¬ ((256 : Nat) : Int) < 256 := by omega
                  have HX := Lib.hid (HY.out.it.congr (q := fun j => p j || (q) j) (fun j hj => by simp [hj]))
                  go_wp2_with fail
                  go_roundw
                  case measure =>
                    rw [HX.out.psr.at, HR.out.1.psr.at]
                    have h1 := HM.out.2.2.1
                    have h2 := HM.out.2.2.2
                    show s.size - k1 < s.size - k
                    omega
                  case rel => exact ⟨false, k1, _, g, rfl, Lib.hid ⟨HX.out, HM.out.2.1, by have := HM.out.2.2.2; have := HR.out.2.2.1; omega, HM.out.2.2.1⟩⟩

            | some a =>
              simp only at hci
              rw [show sngV (some a) = (a.toNat : Int) from rfl] at hpost
              obtain ⟨rfl, hpsr, hk1, hkk, hg⟩ := hpost
              have HI := Lib.hid (show ItSt w wi bk s (st.to k1) w.heap.size p from (HR.out.1.drewN _).call hpsr hg)
              have HK := Lib.hid (show _ ∧ k1 ≤ s.size ∧ k < k1 from ⟨hci, hk1, hkk⟩)
              clear hpsr hg hci hitem

              have ia : (0 : Int) ≤ (a.toNat : Int) := by omega
              have hdash := fun W (h : Psr W bk s (st.to k1)) => dash_any bk s (st.to k1) W h (by have := HK.out; show k1 ≤ s.size; omega) hbig
              simp only [show (st.to k1).at_ = k1 from rfl] at hdash
              have hci2 := HK.out.1
              cases hd : RX.dash s.data.toList k1 with
              | false =>
                rw [hd] at hdash hci2
                rw [if_neg (by simp)] at hci2
                have HD := Lib.hid (show _ ∧ _ from ⟨hdash, hci2⟩)
                clear hdash hci2 hd
                go_wp2_with (first
                  | (refine wpList_alloc_set rfl rfl ?_; intro w7 hb7 hs7 hg7; have H7 := Lib.hid (HI.out.two hb7 hg7); have hb0 := H7.out.set7; clear hb7 hs7 hg7)
                  | (refine wpList_store_set rfl _ _ rfl rfl rfl H7.out.set7 ?_; intro w8 hb8 hs8 hg8; have H8 := Lib.hid (H7.out.store hb8 hg8); clear hb8 hs8 hg8)
                  | (go_at_call 74; refine (HD.out.1 _ H8.out.it.psr).mono ?_; rintro e w9 ⟨rfl, q9, rfl⟩)
                  | (refine wpList_load_set rfl _ rfl rfl (H8.out.drewN q9).set7 ?_)
                  | (go_quiet (fail)))
                have HM := Lib.hid (show It2 w _ bk s (st.to k1) w.heap.size p wi.heap.size (q) ∧ RX.classGo s.data.toList g false k1 (fun i => p i || (q) i) = RX.classGo s.data.toList (s.data.toList.length + 1) true k0 (fun _ => false) ∧ k1 ≤ s.size ∧ k < k1 from ⟨H8.out.drewN q9, HD.out.2.symm.trans HR.out.2.1, HK.out.2.1, HK.out.2.2⟩)

                go_loopw [138] (fun iv wy => ∃ i : Nat, i ≤ 256 ∧ iv = .int .i64 i ∧ Hid (It2 w wy bk s (st.to k1) w.heap.size (fun j => if j < i then (p j || (q) j) else p j) wi.heap.size (q))) (fun iv _ => 256 - (intOf iv).toNat)
                case atStart => exact ⟨0, by omega, rfl, Lib.hid ⟨(HM.out.1.it.congr (fun i _ => by simp)), HM.out.1.set7, HM.out.1.ne⟩⟩
                case round =>
                  obtain ⟨i, hi, rfl, HY⟩ := hrel
                  by_cases hlt : i < 256
                  · have i1 : (i : Int) < 256 := by omega
                    have i0 : (0 : Int) ≤ (i : Int) := by omega
                    have w2 : IntKind.i64.wrap ((i : Int) + 1) = (i : Int) + 1 := IntWalk.i64_in _ (by omega)
                    have q1 := fun W => set_index (q) hlt W
                    have c0 := HY.out.it.set.cell hlt
                    have f0 := HY.out.it.set.fr i
                    rw [if_neg (Nat.lt_irrefl i)] at c0
                    obtain ⟨pv, hpv⟩ : ∃ pv, p i = pv := ⟨_, rfl⟩
                    obtain ⟨qv, hqv⟩ : ∃ qv, (q) i = qv := ⟨_, rfl⟩
                    rw [hpv] at c0
                    rw [hqv] at q1
                    have HV := Lib.hid (show p i = pv ∧ (q) i = qv from ⟨hpv, hqv⟩)
                    clear hpv hqv
                    cases pv with
                    | true =>
                      go_wp2_with fail
                      go_roundw
                      case measure => simp [intOf]; omega
                      case rel => exact ⟨i + 1, hlt, by simp, Lib.hid (merge_step (HY.out.put0 hlt true) (by rw [HV.out.1]; rfl))⟩
                    | false =>
                      go_wp2_with fail
                      go_roundw
                      case measure => simp [intOf]; omega
                      case rel => exact ⟨i + 1, hlt, by simp, Lib.hid (merge_step (HY.out.put0 hlt qv) (by rw [HV.out.1, HV.out.2]; rfl))⟩
                  · obtain rfl : i = 256 := by omega
                    have i1 : ¬ ((256 : Nat) : Int) < 256 := by omega
                    have HX := Lib.hid (HY.out.it.congr (q := fun j => p j || (q) j) (fun j hj => by simp [hj]))
                    go_wp2_with fail
                    go_roundw
                    case measure =>
                      rw [HX.out.psr.at, HR.out.1.psr.at]
                      have h1 := HM.out.2.2.1
                      have h2 := HM.out.2.2.2
                      show s.size - k1 < s.size - k
                      omega
                    case rel => exact ⟨false, k1, _, g, rfl, Lib.hid ⟨HX.out, HM.out.2.1, by have := HM.out.2.2.2; have := HR.out.2.2.1; omega, HM.out.2.2.1⟩⟩

              | true =>
                rw [hd] at hdash hci2
                rw [if_pos rfl] at hci2
                have hlt1 : k1 < s.size := by
                  have h0 : s.data.toList[k1]? ≠ none := by
                    intro e
                    unfold RX.dash at hd
                    rw [e] at hd
                    cases hd
                  have h1 : k1 < s.data.toList.length := by
                    rcases Nat.lt_or_ge k1 s.data.toList.length with h | h
                    · exact h
                    · exact absurd (List.getElem?_eq_none h) h0
                  omega
                have w5 : IntKind.i64.wrap ((k1 : Int) + 1) = (k1 : Int) + 1 := IntWalk.i64_in _ (by omega)
                have HD := Lib.hid (show _ ∧ _ from ⟨hdash, hci2⟩)
                clear hdash hci2 hd
                go_wp2_with (first
                  | (refine wpList_alloc_set rfl rfl ?_; intro w7 hb7 hs7 hg7; have H7 := Lib.hid (HI.out.two hb7 hg7); have hb0 := H7.out.set7; clear hb7 hs7 hg7)
                  | (refine wpList_store_set rfl _ _ rfl rfl rfl H7.out.set7 ?_; intro w8 hb8 hs8 hg8; have H8 := Lib.hid (H7.out.store hb8 hg8); clear hb8 hs8 hg8)
                  | (go_at_call 74; refine (HD.out.1 _ H8.out.it.psr).mono ?_; rintro e w9 ⟨rfl, q9, rfl⟩; have H9 := Lib.hid (H8.out.drewN q9); have d1 : World.cell? _ _ = some (.int .i64 (k1 : Int)) := H9.out.it.psr.c1; have g1 := H9.out.it.psr.fr 1)
                  | (go_quiet (fail)))
                have H10 := Lib.hid H9.out.next
                cases hc2 : s.data.toList[k1 + 1]? with
                | none =>
                  refine (peek_none bk s (st.to (k1 + 1)) _ H10.out.it.psr hc2).mono ?_
                  rintro e w10 ⟨rfl, q10, rfl⟩
                  have H11 := Lib.hid (H10.out.drewN q10)
                  have hbad := HD.out.2
                  rw [if_pos hc2] at hbad
                  have HE := Lib.hid hbad
                  have d2 : World.cell? _ _ = some (.int .i64 ((k1 : Int) + 1)) := H11.out.it.psr.c1
                  clear hc2 hbad d1 g1
                  go_wp2_with fail
                  exact ⟨rfl, class_bad (by rw [HN.out.1, HN.out.2, ← HR.out.2.1, HE.out]) H11.out.it.grown⟩
                | some c2 =>
                  refine (peek_some bk s (st.to (k1 + 1)) c2 _ H10.out.it.psr hc2).mono ?_
                  rintro e w10 ⟨rfl, q10, rfl⟩
                  have H11 := Lib.hid (H10.out.drewN q10)
                  have hci3 := HD.out.2
                  rw [if_neg (by rw [hc2]; simp)] at hci3
                  have HC2 := Lib.hid (show _ ∧ _ from ⟨hc2, hci3⟩)
                  have d2 : World.cell? _ _ = some (.int .i64 ((k1 : Int) + 1)) := H11.out.it.psr.c1
                  clear hc2 hci3 d1 g1
                  go_wp2_with fail
                  refine (item_any bk s (st.to (k1 + 1)) _ H11.out.it.psr (by omega) _ HC2.out.1).mono ?_
                  rintro e wj hpost
                  unfold ItemPost at hpost
                  simp only [show (st.to (k1 + 1)).at_ = k1 + 1 from rfl] at hpost
                  have hci4 := HC2.out.2
                  clear d2
                  cases hitem : RX.item s.data.toList (k1 + 1) with
                  | bad a2 =>
                    rw [hitem] at hpost hci4
                    obtain ⟨rfl, hg⟩ := hpost
                    have HE := Lib.hid (show _ ∧ _ from ⟨hci4, hg⟩)
                    clear hci4 hg hitem
                    go_wp2_with fail
                    exact ⟨rfl, class_bad (by rw [HN.out.1, HN.out.2, ← HR.out.2.1, HE.out.1]) (H11.out.it.grown.trans HE.out.2 (fun _ _ e => e))⟩
                  | ok q2 to k2 =>
                    rw [hitem] at hpost hci4
                    simp only at hci4 hpost
                    obtain ⟨z, hz⟩ : ∃ z, sngV to = z := ⟨_, rfl⟩
                    rw [hz] at hpost
                    obtain ⟨rfl, hpsr, hk2, hkk2, hg⟩ := hpost
                    have HJ := Lib.hid (show It2 w wj bk s (st.to k2) w.heap.size p wi.heap.size q from H11.out.call hpsr hg)
                    have HK2 := Lib.hid (show _ ∧ k2 ≤ s.size ∧ k1 + 1 < k2 ∧ _ from ⟨hci4, hk2, hkk2, hz⟩)
                    clear hpsr hg hci4 hitem hz
                    have hbad : z < (a.toNat : Int) → RX.classGo s.data.toList (g + 1) true k p = .bad (k1 + 1) := fun hlt => by
                      rw [HK2.out.1]
                      have e := HK2.out.2.2.2
                      cases to with
                      | none => rfl
                      | some b =>
                        have e2 : (b.toNat : Int) = z := e
                        simp only
                        rw [if_pos (by omega)]
                    have HE := Lib.hid hbad
                    clear hbad
                    by_cases hza : z < (a.toNat : Int)
                    · have HZ := Lib.hid hza
                      go_wp2_with (first
                        | (refine wpList_alloc_set rfl rfl ?_; intro w13 hb13 hs13 hg13; have H13 := Lib.hid (show _ ∧ _ from ⟨HJ.out.fresh hg13, hb13⟩); clear hb13 hs13 hg13)
                        | (refine wpList_store_set rfl _ _ rfl rfl rfl H13.out.2 ?_; intro w14 hb14 hs14 hg14; have H14 := Lib.hid (H13.out.1.other HJ.out.set7.lt hg14); clear hb14 hs14 hg14)
                        | (go_quiet (fail)))
                      exact ⟨rfl, class_bad (by rw [HN.out.1, HN.out.2, ← HR.out.2.1, HE.out HZ.out]) H14.out.it.grown⟩
                    · obtain ⟨b, rfl, hab⟩ : ∃ b : UInt8, z = (b.toNat : Int) ∧ to = some b := by
                        have e := HK2.out.2.2.2
                        cases to with
                        | none =>
                          have e2 : (-1 : Int) = z := e
                          omega
                        | some b => exact ⟨b, e.symm, rfl⟩
                      subst hab
                      have hle : a.toNat ≤ b.toNat := by omega
                      have hb256 : b.toNat < 256 := UInt8.toNat_lt b
                      have hlaw : RX.classGo s.data.toList (g + 1) true k p = RX.classGo s.data.toList g false k2 (fun i => p i || (q i || decide (a.toNat ≤ i ∧ i ≤ b.toNat))) := by
                        rw [HK2.out.1]
                        simp only
                        rw [if_neg (by omega)]
                      have HL := Lib.hid hlaw
                      clear hlaw
                      go_wp2_with (first
                        | (refine wpList_alloc_set rfl rfl ?_; intro w13 hb13 hs13 hg13; have H13 := Lib.hid (show _ ∧ _ from ⟨HJ.out.fresh hg13, hb13⟩); clear hb13 hs13 hg13)
                        | (refine wpList_store_set rfl _ _ rfl rfl rfl H13.out.2 ?_; intro w14 hb14 hs14 hg14; have H14 := Lib.hid (H13.out.1.other HJ.out.set7.lt hg14); clear hb14 hs14 hg14)
                        | (go_quiet (fail)))
                      go_loopw [14] (fun iv wx => ∃ i : Nat, a.toNat ≤ i ∧ i ≤ b.toNat + 1 ∧ iv = .int .i64 i ∧ Hid (It2 w wx bk s (st.to k2) w.heap.size p wi.heap.size (fun j => q j || decide (a.toNat ≤ j ∧ j < i)))) (fun iv _ => 256 - (intOf iv).toNat)
                      case atStart => exact ⟨a.toNat, Nat.le_refl _, by omega, rfl, Lib.hid (H14.out.congr7 (fun i _ => by
                        have : decide (a.toNat ≤ i ∧ i < a.toNat) = false := decide_eq_false (by omega)
                        rw [this, Bool.or_false]))⟩
                      case round =>
                        obtain ⟨i, hai, hib, rfl, HX⟩ := hrel
                        have i0 : (0 : Int) ≤ (i : Int) := by omega
                        have w2 : IntKind.i64.wrap ((i : Int) + 1) = (i : Int) + 1 := IntWalk.i64_in _ (by omega)
                        by_cases hlt : i ≤ b.toNat
                        · have i1 : (i : Int) ≤ (b.toNat : Int) := by omega
                          have i2 : (i : Int) < 256 := by omega
                          have c0 := HX.out.set7.cell (i := i) (by omega)
                          have f0 := HX.out.set7.fr i
                          have e0 : decide (a.toNat ≤ i ∧ i < i) = false := decide_eq_false (by omega)
                          rw [e0, Bool.or_false] at c0
                          clear e0
                          go_wp2_with fail
                          go_roundw
                          case measure => simp [intOf]; omega
                          case rel =>
                            refine ⟨i + 1, by omega, by omega, by simp, Lib.hid ((HX.out.put7 (i := i) (by omega) true).congr7 fun j hj => ?_)⟩
                            by_cases e : j = i
                            · rw [if_pos e, decide_eq_true (by omega), Bool.or_true]
                            · rw [if_neg e]
                              congr 1
                              exact decide_eq_decide.2 (by omega)
                        · have i1 : ¬ (i : Int) ≤ (b.toNat : Int) := by omega
                          have hib2 : i = b.toNat + 1 := by omega
                          obtain ⟨qf, hqf⟩ : ∃ qf : Nat → Bool, qf = fun j => q j || decide (a.toNat ≤ j ∧ j ≤ b.toNat) := ⟨_, rfl⟩
                          have hx2 := HX.out.congr7 (r := qf) (fun j _ => by
                            rw [hqf]
                            simp only
                            congr 1
                            exact decide_eq_decide.2 (by omega))
                          have hl2 : RX.classGo s.data.toList g false k2 (fun i => p i || qf i) = RX.classGo s.data.toList (s.data.toList.length + 1) true k0 (fun _ => false) := by rw [hqf]; exact HL.out.symm.trans HR.out.2.1
                          have HQ := Lib.hid (show _ ∧ _ from ⟨hx2, hl2⟩)
                          clear hx2 hl2 hqf hib2
                          go_wp2_with (first
                            | (refine wpList_load_set rfl _ rfl rfl HQ.out.1.set7 ?_)
                            | (go_quiet (fail)))
                          have HM := Lib.hid (show It2 w _ bk s (st.to k2) w.heap.size p wi.heap.size (qf) ∧ RX.classGo s.data.toList g false k2 (fun i => p i || (qf) i) = RX.classGo s.data.toList (s.data.toList.length + 1) true k0 (fun _ => false) ∧ k2 ≤ s.size ∧ k < k2 from ⟨HQ.out.1, HQ.out.2, HK2.out.2.1, by have := HK2.out.2.2.1; have := HK.out.2.2; omega⟩)

                          go_loopw [138] (fun iv wy => ∃ i : Nat, i ≤ 256 ∧ iv = .int .i64 i ∧ Hid (It2 w wy bk s (st.to k2) w.heap.size (fun j => if j < i then (p j || (qf) j) else p j) wi.heap.size (qf))) (fun iv _ => 256 - (intOf iv).toNat)
                          case atStart => exact ⟨0, by omega, rfl, Lib.hid ⟨(HM.out.1.it.congr (fun i _ => by simp)), HM.out.1.set7, HM.out.1.ne⟩⟩
                          case round =>
                            obtain ⟨i, hi, rfl, HY⟩ := hrel
                            by_cases hlt : i < 256
                            · have i1 : (i : Int) < 256 := by omega
                              have i0 : (0 : Int) ≤ (i : Int) := by omega
                              have w2 : IntKind.i64.wrap ((i : Int) + 1) = (i : Int) + 1 := IntWalk.i64_in _ (by omega)
                              have q1 := fun W => set_index (qf) hlt W
                              have c0 := HY.out.it.set.cell hlt
                              have f0 := HY.out.it.set.fr i
                              rw [if_neg (Nat.lt_irrefl i)] at c0
                              obtain ⟨pv, hpv⟩ : ∃ pv, p i = pv := ⟨_, rfl⟩
                              obtain ⟨qv, hqv⟩ : ∃ qv, (qf) i = qv := ⟨_, rfl⟩
                              rw [hpv] at c0
                              rw [hqv] at q1
                              have HV := Lib.hid (show p i = pv ∧ (qf) i = qv from ⟨hpv, hqv⟩)
                              clear hpv hqv
                              cases pv with
                              | true =>
                                go_wp2_with fail
                                go_roundw
                                case measure => simp [intOf]; omega
                                case rel => exact ⟨i + 1, hlt, by simp, Lib.hid (merge_step (HY.out.put0 hlt true) (by rw [HV.out.1]; rfl))⟩
                              | false =>
                                go_wp2_with fail
                                go_roundw
                                case measure => simp [intOf]; omega
                                case rel => exact ⟨i + 1, hlt, by simp, Lib.hid (merge_step (HY.out.put0 hlt qv) (by rw [HV.out.1, HV.out.2]; rfl))⟩
                            · obtain rfl : i = 256 := by omega
                              have i1 : ¬ ((256 : Nat) : Int) < 256 := by omega
                              have HX := Lib.hid (HY.out.it.congr (q := fun j => p j || (qf) j) (fun j hj => by simp [hj]))
                              go_wp2_with fail
                              go_roundw
                              case measure =>
                                rw [HX.out.psr.at, HR.out.1.psr.at]
                                have h1 := HM.out.2.2.1
                                have h2 := HM.out.2.2.2
                                show s.size - k2 < s.size - k
                                omega
                              case rel => exact ⟨false, k2, _, g, rfl, Lib.hid ⟨HX.out, HM.out.2.1, by have := HM.out.2.2.2; have := HR.out.2.2.1; omega, HM.out.2.2.1⟩⟩
    | false =>
      go_wp2_with fail
      refine (skip_any bk s (st.to k) 93 wr HR.out.1.psr (by show k ≤ 1000000; omega)).mono ?_
      rintro e w2 (⟨h1, rfl, h2, h3, h4⟩ | ⟨h1, rfl, q0, rfl⟩)
      · have H2 := HR.out.1.call h2 h4
        have hlaw : RX.classGo s.data.toList (s.data.toList.length + 1) true k0 (fun _ => false) = .ok p (k + 1) := by rw [← HR.out.2.1]; exact cg_close h1
        have hkl : k + 1 ≤ s.size := by
          have := (List.getElem?_eq_some_iff.1 h1).1
          have e : (st.to k).at_ = k := rfl
          omega
        have HE := Lib.hid (show ItSt w w2 bk s (st.to (k + 1)) w.heap.size p ∧ _ ∧ _ from ⟨H2, hlaw, hkl⟩)
        clear h1 h2 h3 h4 H2 hlaw hkl
        go_wp2_with fail
        go_loopw [151] (fun iv wy => ∃ i : Nat, i ≤ 256 ∧ iv = .int .i64 i ∧ Hid (ItSt w wy bk s (st.to (k + 1)) w.heap.size (fun j => if j < i then (p j != no) else p j))) (fun iv _ => 256 - (intOf iv).toNat)
        case atStart => exact ⟨0, by omega, rfl, Lib.hid (HE.out.1.congr (fun i _ => by simp))⟩
        case round =>
          obtain ⟨i, hi, rfl, HY⟩ := hrel
          by_cases hlt : i < 256
          · have i1 : (i : Int) < 256 := by omega
            have i0 : (0 : Int) ≤ (i : Int) := by omega
            have w2 : IntKind.i64.wrap ((i : Int) + 1) = (i : Int) + 1 := IntWalk.i64_in _ (by omega)
            have c0 := HY.out.set.cell hlt
            have f0 := HY.out.set.fr i
            rw [if_neg (Nat.lt_irrefl i)] at c0
            go_wp2_with fail
            go_roundw
            case measure => simp [intOf]; omega
            case rel =>
              refine ⟨i + 1, hlt, by simp, Lib.hid ((HY.out.set0 hlt _).congr fun j hj => ?_)⟩
              by_cases e : j = i
              · rw [if_pos e, if_pos (by omega), e]; rfl
              · rw [if_neg e]
                by_cases e2 : j < i
                · rw [if_pos e2, if_pos (by omega)]
                · rw [if_neg e2, if_neg (by omega)]
          · obtain rfl : i = 256 := by omega
            have i1 : ¬ ((256 : Nat) : Int) < 256 := by omega
            have HX := Lib.hid (HY.out.congr (q := fun j => p j != no) (fun j hj => by simp [hj]))
            go_wp2_with (first
              | (refine wpList_load_set rfl _ rfl rfl HX.out.set ?_)
              | (refine wpList_store_set rfl _ _ rfl rfl rfl HX.out.set ?_; intro w5 hb5 hs5 hg5; have H5 := Lib.hid (show ItSt w w5 bk s (st.to (k + 1)) w.heap.size (fun j => p j != no) from HX.out.store hb5 hg5); clear hb5 hs5 hg5)
              | (go_quiet (fail)))
            have hok : ClassPost w bk s st (.returned (.agg (setV (fun j => p j != no)))) w5 := by
              have h0 := class_ok (w := w) (W := w5) (bk := bk) (b0 := w.heap.size) (s := s) (st := st) (k := k + 1) (p := p) (by rw [HN.out.1, HN.out.2]; exact HE.out.2.1) HE.out.2.2 (by rw [HN.out.1]; exact H5.out)
              rw [HN.out.1] at h0
              exact h0
            have hld := set_result H5.out.set
            refine bodyPost_ret (v := .agg (setV (fun j => p j != no))) ?_ rfl hok
            simp [results, Tryd.results71, asAddr, Result.andThen, hld]
      · have h1 : s.data.toList[k]? ≠ some 93 := h1
        cases hc : s.data.toList[k]? with
        | none =>
          have hp := peek_none bk s (st.to k) (wr.drewN q0) (HR.out.1.psr.drewN q0) hc
          have HE := Lib.hid (show _ ∧ _ from ⟨hp, hc⟩)
          clear hp hc h1
          have c1 : wr.cell? ⟨bk, 1, none⟩ = some (.int .i64 (k : Int)) := HR.out.1.psr.c1
          go_wp2_with (first | (go_at_call 58; refine HE.out.1.mono ?_; rintro e w3 ⟨rfl, q3, rfl⟩) | (go_quiet (fail)))
          exact ⟨rfl, class_bad (by rw [HN.out.1, HN.out.2, ← HR.out.2.1, cg_none HE.out.2]) (HR.out.1.grown.drewN _)⟩
        | some c =>
          have hp := peek_some bk s (st.to k) c (wr.drewN q0) (HR.out.1.psr.drewN q0) hc
          have hds := fun W (h : Psr W bk s (st.to k)) => dash_any bk s (st.to k) W h (by show k ≤ s.size; omega) hbig
          simp only [show (st.to k).at_ = k from rfl] at hds
          have h93 : c ≠ 93 := fun e => h1 (by rw [hc, e])
          have c0 := HR.out.1.psr.c0
          have c1 : wr.cell? ⟨bk, 1, none⟩ = some (.int .i64 (k : Int)) := HR.out.1.psr.c1
          have k1w : IntKind.i64.wrap ((k : Int) + 1) = (k : Int) + 1 := IntWalk.i64_in _ (by omega)
          by_cases h45 : c = 45
          · subst h45
            by_cases hl : k + 1 = s.size
            · have b1 : (((k : Int) + 1) == (s.size : Int)) = true := by simp; omega
              have hbad := cg_len (f := g) (p := p) hc (by omega)
              rw [hlen] at hbad
              have HE := Lib.hid (show _ ∧ _ from ⟨hp, hbad⟩)
              clear hp hc h1 hds hbad hl h93
              go_wp2_with (first | (go_at_call 58; refine HE.out.1.mono ?_; rintro e w3 ⟨rfl, q3, rfl⟩) | (go_quiet (fail)))
              exact ⟨rfl, class_bad (by rw [HN.out.1, HN.out.2, ← HR.out.2.1, HE.out.2]) (HR.out.1.grown.drewN _)⟩
            · have b1 : (((k : Int) + 1) == (s.size : Int)) = false := by rw [beq_eq_false_iff_ne]; omega
              cases hd : RX.dash s.data.toList k with
              | true =>
                rw [hd] at hds
                have hbad := cg_dash (f := g) (p := p) h1 (by rw [hlen]; exact fun e => hl e.2) hd
                have HE := Lib.hid (show _ ∧ _ ∧ _ from ⟨hp, hds, hbad⟩)
                clear hp hc h1 hds hbad hl hd h93
                go_wp2_with (first | (go_at_call 58; refine HE.out.1.mono ?_; rintro e w3 ⟨rfl, q3, rfl⟩) | (go_at_call 74; refine (HE.out.2.1 _ (HR.out.1.psr.drewN _)).mono ?_; rintro e w4 ⟨rfl, q4, rfl⟩) | (go_quiet (fail)))
                exact ⟨rfl, class_bad (by rw [HN.out.1, HN.out.2, ← HR.out.2.1, HE.out.2.2]) (HR.out.1.grown.drewN _)⟩
              | false =>
                rw [hd] at hds
                have HC := Lib.hid (show _ ∧ RX.classGo s.data.toList (g + 1) false k p = clsItem s.data.toList g k p from ⟨hc, cg_item hc h93 (by rw [hlen]; exact fun e => hl e.2.2) (by rw [hd]; simp)⟩)
                have HE := Lib.hid (show _ ∧ _ from ⟨hp, hds⟩)
                clear hp hc h1 hds hl hd h93
                go_wp2_with (first | (go_at_call 58; refine HE.out.1.mono ?_; rintro e w3 ⟨rfl, q3, rfl⟩) | (go_at_call 74; refine (HE.out.2 _ (HR.out.1.psr.drewN _)).mono ?_; rintro e w4 ⟨rfl, q4, rfl⟩) | (go_quiet (fail)))
                refine (item_any bk s (st.to k) _ (HR.out.1.drewN _).psr (by omega) _ HC.out.1).mono ?_
                rintro e wi hpost
                unfold ItemPost at hpost
                have hci := HC.out.2
                unfold clsItem at hci
                simp only [show (st.to k).at_ = k from rfl] at hpost
                cases hitem : RX.item s.data.toList k with
                | bad a =>
                  rw [hitem] at hpost hci
                  obtain ⟨rfl, hg⟩ := hpost
                  have HE := Lib.hid (show _ ∧ _ from ⟨hci, hg⟩)
                  clear hci hg hitem
                  go_wp2_with fail
                  exact ⟨rfl, class_bad (by rw [HN.out.1, HN.out.2, ← HR.out.2.1, HE.out.1]) ((HR.out.1.drewN _).grown.trans HE.out.2 (fun _ _ e => e))⟩
                | ok q from_ k1 =>
                  rw [hitem] at hpost hci
                  simp only at hci hpost
                  cases from_ with
                  | none =>
                    rw [show sngV none = -1 from rfl] at hpost
                    obtain ⟨rfl, hpsr, hk1, hkk, hg⟩ := hpost
                    have HI := Lib.hid (show ItSt w wi bk s (st.to k1) w.heap.size p from (HR.out.1.drewN _).call hpsr hg)
                    have HK := Lib.hid (show _ ∧ k1 ≤ s.size ∧ k < k1 from ⟨hci, hk1, hkk⟩)
                    clear hpsr hg hci hitem

                    go_wp2_with (first
                      | (refine wpList_alloc_set rfl rfl ?_; intro w7 hb7 hs7 hg7; have H7 := Lib.hid (HI.out.two hb7 hg7); have hb0 := H7.out.set7; clear hb7 hs7 hg7)
                      | (refine wpList_store_set rfl _ _ rfl rfl rfl H7.out.set7 ?_; intro w8 hb8 hs8 hg8; have H8 := Lib.hid (H7.out.store hb8 hg8); clear hb8 hs8 hg8)
                      | (refine wpList_load_set rfl _ rfl rfl H8.out.set7 ?_)
                      | (go_quiet (fail)))
                    have HM := Lib.hid (show It2 w _ bk s (st.to k1) w.heap.size p wi.heap.size (q) ∧ RX.classGo s.data.toList g false k1 (fun i => p i || (q) i) = RX.classGo s.data.toList (s.data.toList.length + 1) true k0 (fun _ => false) ∧ k1 ≤ s.size ∧ k < k1 from ⟨H8.out, HK.out.1.symm.trans HR.out.2.1, HK.out.2.1, HK.out.2.2⟩)

                    go_loopw [138] (fun iv wy => ∃ i : Nat, i ≤ 256 ∧ iv = .int .i64 i ∧ Hid (It2 w wy bk s (st.to k1) w.heap.size (fun j => if j < i then (p j || (q) j) else p j) wi.heap.size (q))) (fun iv _ => 256 - (intOf iv).toNat)
                    case atStart => exact ⟨0, by omega, rfl, Lib.hid ⟨(HM.out.1.it.congr (fun i _ => by simp)), HM.out.1.set7, HM.out.1.ne⟩⟩
                    case round =>
                      obtain ⟨i, hi, rfl, HY⟩ := hrel
                      by_cases hlt : i < 256
                      · have i1 : (i : Int) < 256 := by omega
                        have i0 : (0 : Int) ≤ (i : Int) := by omega
                        have w2 : IntKind.i64.wrap ((i : Int) + 1) = (i : Int) + 1 := IntWalk.i64_in _ (by omega)
                        have q1 := fun W => set_index (q) hlt W
                        have c0 := HY.out.it.set.cell hlt
                        have f0 := HY.out.it.set.fr i
                        rw [if_neg (Nat.lt_irrefl i)] at c0
                        obtain ⟨pv, hpv⟩ : ∃ pv, p i = pv := ⟨_, rfl⟩
                        obtain ⟨qv, hqv⟩ : ∃ qv, (q) i = qv := ⟨_, rfl⟩
                        rw [hpv] at c0
                        rw [hqv] at q1
                        have HV := Lib.hid (show p i = pv ∧ (q) i = qv from ⟨hpv, hqv⟩)
                        clear hpv hqv
                        cases pv with
                        | true =>
                          go_wp2_with fail
                          go_roundw
                          case measure => simp [intOf]; omega
                          case rel => exact ⟨i + 1, hlt, by simp, Lib.hid (merge_step (HY.out.put0 hlt true) (by rw [HV.out.1]; rfl))⟩
                        | false =>
                          go_wp2_with fail
                          go_roundw
                          case measure => simp [intOf]; omega
                          case rel => exact ⟨i + 1, hlt, by simp, Lib.hid (merge_step (HY.out.put0 hlt qv) (by rw [HV.out.1, HV.out.2]; rfl))⟩
                      · obtain rfl : i = 256 := by omega
                        have i1 : ¬ ((256 : Nat) : Int) < 256 := by omega
                        have HX := Lib.hid (HY.out.it.congr (q := fun j => p j || (q) j) (fun j hj => by simp [hj]))
                        go_wp2_with fail
                        go_roundw
                        case measure =>
                          rw [HX.out.psr.at, HR.out.1.psr.at]
                          have h1 := HM.out.2.2.1
                          have h2 := HM.out.2.2.2
                          show s.size - k1 < s.size - k
                          omega
                        case rel => exact ⟨false, k1, _, g, rfl, Lib.hid ⟨HX.out, HM.out.2.1, by have := HM.out.2.2.2; have := HR.out.2.2.1; omega, HM.out.2.2.1⟩⟩

                  | some a =>
                    simp only at hci
                    rw [show sngV (some a) = (a.toNat : Int) from rfl] at hpost
                    obtain ⟨rfl, hpsr, hk1, hkk, hg⟩ := hpost
                    have HI := Lib.hid (show ItSt w wi bk s (st.to k1) w.heap.size p from (HR.out.1.drewN _).call hpsr hg)
                    have HK := Lib.hid (show _ ∧ k1 ≤ s.size ∧ k < k1 from ⟨hci, hk1, hkk⟩)
                    clear hpsr hg hci hitem

                    have ia : (0 : Int) ≤ (a.toNat : Int) := by omega
                    have hdash := fun W (h : Psr W bk s (st.to k1)) => dash_any bk s (st.to k1) W h (by have := HK.out; show k1 ≤ s.size; omega) hbig
                    simp only [show (st.to k1).at_ = k1 from rfl] at hdash
                    have hci2 := HK.out.1
                    cases hd : RX.dash s.data.toList k1 with
                    | false =>
                      rw [hd] at hdash hci2
                      rw [if_neg (by simp)] at hci2
                      have HD := Lib.hid (show _ ∧ _ from ⟨hdash, hci2⟩)
                      clear hdash hci2 hd
                      go_wp2_with (first
                        | (refine wpList_alloc_set rfl rfl ?_; intro w7 hb7 hs7 hg7; have H7 := Lib.hid (HI.out.two hb7 hg7); have hb0 := H7.out.set7; clear hb7 hs7 hg7)
                        | (refine wpList_store_set rfl _ _ rfl rfl rfl H7.out.set7 ?_; intro w8 hb8 hs8 hg8; have H8 := Lib.hid (H7.out.store hb8 hg8); clear hb8 hs8 hg8)
                        | (go_at_call 74; refine (HD.out.1 _ H8.out.it.psr).mono ?_; rintro e w9 ⟨rfl, q9, rfl⟩)
                        | (refine wpList_load_set rfl _ rfl rfl (H8.out.drewN q9).set7 ?_)
                        | (go_quiet (fail)))
                      have HM := Lib.hid (show It2 w _ bk s (st.to k1) w.heap.size p wi.heap.size (q) ∧ RX.classGo s.data.toList g false k1 (fun i => p i || (q) i) = RX.classGo s.data.toList (s.data.toList.length + 1) true k0 (fun _ => false) ∧ k1 ≤ s.size ∧ k < k1 from ⟨H8.out.drewN q9, HD.out.2.symm.trans HR.out.2.1, HK.out.2.1, HK.out.2.2⟩)

                      go_loopw [138] (fun iv wy => ∃ i : Nat, i ≤ 256 ∧ iv = .int .i64 i ∧ Hid (It2 w wy bk s (st.to k1) w.heap.size (fun j => if j < i then (p j || (q) j) else p j) wi.heap.size (q))) (fun iv _ => 256 - (intOf iv).toNat)
                      case atStart => exact ⟨0, by omega, rfl, Lib.hid ⟨(HM.out.1.it.congr (fun i _ => by simp)), HM.out.1.set7, HM.out.1.ne⟩⟩
                      case round =>
                        obtain ⟨i, hi, rfl, HY⟩ := hrel
                        by_cases hlt : i < 256
                        · have i1 : (i : Int) < 256 := by omega
                          have i0 : (0 : Int) ≤ (i : Int) := by omega
                          have w2 : IntKind.i64.wrap ((i : Int) + 1) = (i : Int) + 1 := IntWalk.i64_in _ (by omega)
                          have q1 := fun W => set_index (q) hlt W
                          have c0 := HY.out.it.set.cell hlt
                          have f0 := HY.out.it.set.fr i
                          rw [if_neg (Nat.lt_irrefl i)] at c0
                          obtain ⟨pv, hpv⟩ : ∃ pv, p i = pv := ⟨_, rfl⟩
                          obtain ⟨qv, hqv⟩ : ∃ qv, (q) i = qv := ⟨_, rfl⟩
                          rw [hpv] at c0
                          rw [hqv] at q1
                          have HV := Lib.hid (show p i = pv ∧ (q) i = qv from ⟨hpv, hqv⟩)
                          clear hpv hqv
                          cases pv with
                          | true =>
                            go_wp2_with fail
                            go_roundw
                            case measure => simp [intOf]; omega
                            case rel => exact ⟨i + 1, hlt, by simp, Lib.hid (merge_step (HY.out.put0 hlt true) (by rw [HV.out.1]; rfl))⟩
                          | false =>
                            go_wp2_with fail
                            go_roundw
                            case measure => simp [intOf]; omega
                            case rel => exact ⟨i + 1, hlt, by simp, Lib.hid (merge_step (HY.out.put0 hlt qv) (by rw [HV.out.1, HV.out.2]; rfl))⟩
                        · obtain rfl : i = 256 := by omega
                          have i1 : ¬ ((256 : Nat) : Int) < 256 := by omega
                          have HX := Lib.hid (HY.out.it.congr (q := fun j => p j || (q) j) (fun j hj => by simp [hj]))
                          go_wp2_with fail
                          go_roundw
                          case measure =>
                            rw [HX.out.psr.at, HR.out.1.psr.at]
                            have h1 := HM.out.2.2.1
                            have h2 := HM.out.2.2.2
                            show s.size - k1 < s.size - k
                            omega
                          case rel => exact ⟨false, k1, _, g, rfl, Lib.hid ⟨HX.out, HM.out.2.1, by have := HM.out.2.2.2; have := HR.out.2.2.1; omega, HM.out.2.2.1⟩⟩

                    | true =>
                      rw [hd] at hdash hci2
                      rw [if_pos rfl] at hci2
                      have hlt1 : k1 < s.size := by
                        have h0 : s.data.toList[k1]? ≠ none := by
                          intro e
                          unfold RX.dash at hd
                          rw [e] at hd
                          cases hd
                        have h1 : k1 < s.data.toList.length := by
                          rcases Nat.lt_or_ge k1 s.data.toList.length with h | h
                          · exact h
                          · exact absurd (List.getElem?_eq_none h) h0
                        omega
                      have w5 : IntKind.i64.wrap ((k1 : Int) + 1) = (k1 : Int) + 1 := IntWalk.i64_in _ (by omega)
                      have HD := Lib.hid (show _ ∧ _ from ⟨hdash, hci2⟩)
                      clear hdash hci2 hd
                      go_wp2_with (first
                        | (refine wpList_alloc_set rfl rfl ?_; intro w7 hb7 hs7 hg7; have H7 := Lib.hid (HI.out.two hb7 hg7); have hb0 := H7.out.set7; clear hb7 hs7 hg7)
                        | (refine wpList_store_set rfl _ _ rfl rfl rfl H7.out.set7 ?_; intro w8 hb8 hs8 hg8; have H8 := Lib.hid (H7.out.store hb8 hg8); clear hb8 hs8 hg8)
                        | (go_at_call 74; refine (HD.out.1 _ H8.out.it.psr).mono ?_; rintro e w9 ⟨rfl, q9, rfl⟩; have H9 := Lib.hid (H8.out.drewN q9); have d1 : World.cell? _ _ = some (.int .i64 (k1 : Int)) := H9.out.it.psr.c1; have g1 := H9.out.it.psr.fr 1)
                        | (go_quiet (fail)))
                      have H10 := Lib.hid H9.out.next
                      cases hc2 : s.data.toList[k1 + 1]? with
                      | none =>
                        refine (peek_none bk s (st.to (k1 + 1)) _ H10.out.it.psr hc2).mono ?_
                        rintro e w10 ⟨rfl, q10, rfl⟩
                        have H11 := Lib.hid (H10.out.drewN q10)
                        have hbad := HD.out.2
                        rw [if_pos hc2] at hbad
                        have HE := Lib.hid hbad
                        have d2 : World.cell? _ _ = some (.int .i64 ((k1 : Int) + 1)) := H11.out.it.psr.c1
                        clear hc2 hbad d1 g1
                        go_wp2_with fail
                        exact ⟨rfl, class_bad (by rw [HN.out.1, HN.out.2, ← HR.out.2.1, HE.out]) H11.out.it.grown⟩
                      | some c2 =>
                        refine (peek_some bk s (st.to (k1 + 1)) c2 _ H10.out.it.psr hc2).mono ?_
                        rintro e w10 ⟨rfl, q10, rfl⟩
                        have H11 := Lib.hid (H10.out.drewN q10)
                        have hci3 := HD.out.2
                        rw [if_neg (by rw [hc2]; simp)] at hci3
                        have HC2 := Lib.hid (show _ ∧ _ from ⟨hc2, hci3⟩)
                        have d2 : World.cell? _ _ = some (.int .i64 ((k1 : Int) + 1)) := H11.out.it.psr.c1
                        clear hc2 hci3 d1 g1
                        go_wp2_with fail
                        refine (item_any bk s (st.to (k1 + 1)) _ H11.out.it.psr (by omega) _ HC2.out.1).mono ?_
                        rintro e wj hpost
                        unfold ItemPost at hpost
                        simp only [show (st.to (k1 + 1)).at_ = k1 + 1 from rfl] at hpost
                        have hci4 := HC2.out.2
                        clear d2
                        cases hitem : RX.item s.data.toList (k1 + 1) with
                        | bad a2 =>
                          rw [hitem] at hpost hci4
                          obtain ⟨rfl, hg⟩ := hpost
                          have HE := Lib.hid (show _ ∧ _ from ⟨hci4, hg⟩)
                          clear hci4 hg hitem
                          go_wp2_with fail
                          exact ⟨rfl, class_bad (by rw [HN.out.1, HN.out.2, ← HR.out.2.1, HE.out.1]) (H11.out.it.grown.trans HE.out.2 (fun _ _ e => e))⟩
                        | ok q2 to k2 =>
                          rw [hitem] at hpost hci4
                          simp only at hci4 hpost
                          obtain ⟨z, hz⟩ : ∃ z, sngV to = z := ⟨_, rfl⟩
                          rw [hz] at hpost
                          obtain ⟨rfl, hpsr, hk2, hkk2, hg⟩ := hpost
                          have HJ := Lib.hid (show It2 w wj bk s (st.to k2) w.heap.size p wi.heap.size q from H11.out.call hpsr hg)
                          have HK2 := Lib.hid (show _ ∧ k2 ≤ s.size ∧ k1 + 1 < k2 ∧ _ from ⟨hci4, hk2, hkk2, hz⟩)
                          clear hpsr hg hci4 hitem hz
                          have hbad : z < (a.toNat : Int) → RX.classGo s.data.toList (g + 1) false k p = .bad (k1 + 1) := fun hlt => by
                            rw [HK2.out.1]
                            have e := HK2.out.2.2.2
                            cases to with
                            | none => rfl
                            | some b =>
                              have e2 : (b.toNat : Int) = z := e
                              simp only
                              rw [if_pos (by omega)]
                          have HE := Lib.hid hbad
                          clear hbad
                          by_cases hza : z < (a.toNat : Int)
                          · have HZ := Lib.hid hza
                            go_wp2_with (first
                              | (refine wpList_alloc_set rfl rfl ?_; intro w13 hb13 hs13 hg13; have H13 := Lib.hid (show _ ∧ _ from ⟨HJ.out.fresh hg13, hb13⟩); clear hb13 hs13 hg13)
                              | (refine wpList_store_set rfl _ _ rfl rfl rfl H13.out.2 ?_; intro w14 hb14 hs14 hg14; have H14 := Lib.hid (H13.out.1.other HJ.out.set7.lt hg14); clear hb14 hs14 hg14)
                              | (go_quiet (fail)))
                            exact ⟨rfl, class_bad (by rw [HN.out.1, HN.out.2, ← HR.out.2.1, HE.out HZ.out]) H14.out.it.grown⟩
                          · obtain ⟨b, rfl, hab⟩ : ∃ b : UInt8, z = (b.toNat : Int) ∧ to = some b := by
                              have e := HK2.out.2.2.2
                              cases to with
                              | none =>
                                have e2 : (-1 : Int) = z := e
                                omega
                              | some b => exact ⟨b, e.symm, rfl⟩
                            subst hab
                            have hle : a.toNat ≤ b.toNat := by omega
                            have hb256 : b.toNat < 256 := UInt8.toNat_lt b
                            have hlaw : RX.classGo s.data.toList (g + 1) false k p = RX.classGo s.data.toList g false k2 (fun i => p i || (q i || decide (a.toNat ≤ i ∧ i ≤ b.toNat))) := by
                              rw [HK2.out.1]
                              simp only
                              rw [if_neg (by omega)]
                            have HL := Lib.hid hlaw
                            clear hlaw
                            go_wp2_with (first
                              | (refine wpList_alloc_set rfl rfl ?_; intro w13 hb13 hs13 hg13; have H13 := Lib.hid (show _ ∧ _ from ⟨HJ.out.fresh hg13, hb13⟩); clear hb13 hs13 hg13)
                              | (refine wpList_store_set rfl _ _ rfl rfl rfl H13.out.2 ?_; intro w14 hb14 hs14 hg14; have H14 := Lib.hid (H13.out.1.other HJ.out.set7.lt hg14); clear hb14 hs14 hg14)
                              | (go_quiet (fail)))
                            go_loopw [14] (fun iv wx => ∃ i : Nat, a.toNat ≤ i ∧ i ≤ b.toNat + 1 ∧ iv = .int .i64 i ∧ Hid (It2 w wx bk s (st.to k2) w.heap.size p wi.heap.size (fun j => q j || decide (a.toNat ≤ j ∧ j < i)))) (fun iv _ => 256 - (intOf iv).toNat)
                            case atStart => exact ⟨a.toNat, Nat.le_refl _, by omega, rfl, Lib.hid (H14.out.congr7 (fun i _ => by
                              have : decide (a.toNat ≤ i ∧ i < a.toNat) = false := decide_eq_false (by omega)
                              rw [this, Bool.or_false]))⟩
                            case round =>
                              obtain ⟨i, hai, hib, rfl, HX⟩ := hrel
                              have i0 : (0 : Int) ≤ (i : Int) := by omega
                              have w2 : IntKind.i64.wrap ((i : Int) + 1) = (i : Int) + 1 := IntWalk.i64_in _ (by omega)
                              by_cases hlt : i ≤ b.toNat
                              · have i1 : (i : Int) ≤ (b.toNat : Int) := by omega
                                have i2 : (i : Int) < 256 := by omega
                                have c0 := HX.out.set7.cell (i := i) (by omega)
                                have f0 := HX.out.set7.fr i
                                have e0 : decide (a.toNat ≤ i ∧ i < i) = false := decide_eq_false (by omega)
                                rw [e0, Bool.or_false] at c0
                                clear e0
                                go_wp2_with fail
                                go_roundw
                                case measure => simp [intOf]; omega
                                case rel =>
                                  refine ⟨i + 1, by omega, by omega, by simp, Lib.hid ((HX.out.put7 (i := i) (by omega) true).congr7 fun j hj => ?_)⟩
                                  by_cases e : j = i
                                  · rw [if_pos e, decide_eq_true (by omega), Bool.or_true]
                                  · rw [if_neg e]
                                    congr 1
                                    exact decide_eq_decide.2 (by omega)
                              · have i1 : ¬ (i : Int) ≤ (b.toNat : Int) := by omega
                                have hib2 : i = b.toNat + 1 := by omega
                                obtain ⟨qf, hqf⟩ : ∃ qf : Nat → Bool, qf = fun j => q j || decide (a.toNat ≤ j ∧ j ≤ b.toNat) := ⟨_, rfl⟩
                                have hx2 := HX.out.congr7 (r := qf) (fun j _ => by
                                  rw [hqf]
                                  simp only
                                  congr 1
                                  exact decide_eq_decide.2 (by omega))
                                have hl2 : RX.classGo s.data.toList g false k2 (fun i => p i || qf i) = RX.classGo s.data.toList (s.data.toList.length + 1) true k0 (fun _ => false) := by rw [hqf]; exact HL.out.symm.trans HR.out.2.1
                                have HQ := Lib.hid (show _ ∧ _ from ⟨hx2, hl2⟩)
                                clear hx2 hl2 hqf hib2
                                go_wp2_with (first
                                  | (refine wpList_load_set rfl _ rfl rfl HQ.out.1.set7 ?_)
                                  | (go_quiet (fail)))
                                have HM := Lib.hid (show It2 w _ bk s (st.to k2) w.heap.size p wi.heap.size (qf) ∧ RX.classGo s.data.toList g false k2 (fun i => p i || (qf) i) = RX.classGo s.data.toList (s.data.toList.length + 1) true k0 (fun _ => false) ∧ k2 ≤ s.size ∧ k < k2 from ⟨HQ.out.1, HQ.out.2, HK2.out.2.1, by have := HK2.out.2.2.1; have := HK.out.2.2; omega⟩)

                                go_loopw [138] (fun iv wy => ∃ i : Nat, i ≤ 256 ∧ iv = .int .i64 i ∧ Hid (It2 w wy bk s (st.to k2) w.heap.size (fun j => if j < i then (p j || (qf) j) else p j) wi.heap.size (qf))) (fun iv _ => 256 - (intOf iv).toNat)
                                case atStart => exact ⟨0, by omega, rfl, Lib.hid ⟨(HM.out.1.it.congr (fun i _ => by simp)), HM.out.1.set7, HM.out.1.ne⟩⟩
                                case round =>
                                  obtain ⟨i, hi, rfl, HY⟩ := hrel
                                  by_cases hlt : i < 256
                                  · have i1 : (i : Int) < 256 := by omega
                                    have i0 : (0 : Int) ≤ (i : Int) := by omega
                                    have w2 : IntKind.i64.wrap ((i : Int) + 1) = (i : Int) + 1 := IntWalk.i64_in _ (by omega)
                                    have q1 := fun W => set_index (qf) hlt W
                                    have c0 := HY.out.it.set.cell hlt
                                    have f0 := HY.out.it.set.fr i
                                    rw [if_neg (Nat.lt_irrefl i)] at c0
                                    obtain ⟨pv, hpv⟩ : ∃ pv, p i = pv := ⟨_, rfl⟩
                                    obtain ⟨qv, hqv⟩ : ∃ qv, (qf) i = qv := ⟨_, rfl⟩
                                    rw [hpv] at c0
                                    rw [hqv] at q1
                                    have HV := Lib.hid (show p i = pv ∧ (qf) i = qv from ⟨hpv, hqv⟩)
                                    clear hpv hqv
                                    cases pv with
                                    | true =>
                                      go_wp2_with fail
                                      go_roundw
                                      case measure => simp [intOf]; omega
                                      case rel => exact ⟨i + 1, hlt, by simp, Lib.hid (merge_step (HY.out.put0 hlt true) (by rw [HV.out.1]; rfl))⟩
                                    | false =>
                                      go_wp2_with fail
                                      go_roundw
                                      case measure => simp [intOf]; omega
                                      case rel => exact ⟨i + 1, hlt, by simp, Lib.hid (merge_step (HY.out.put0 hlt qv) (by rw [HV.out.1, HV.out.2]; rfl))⟩
                                  · obtain rfl : i = 256 := by omega
                                    have i1 : ¬ ((256 : Nat) : Int) < 256 := by omega
                                    have HX := Lib.hid (HY.out.it.congr (q := fun j => p j || (qf) j) (fun j hj => by simp [hj]))
                                    go_wp2_with fail
                                    go_roundw
                                    case measure =>
                                      rw [HX.out.psr.at, HR.out.1.psr.at]
                                      have h1 := HM.out.2.2.1
                                      have h2 := HM.out.2.2.2
                                      show s.size - k2 < s.size - k
                                      omega
                                    case rel => exact ⟨false, k2, _, g, rfl, Lib.hid ⟨HX.out, HM.out.2.1, by have := HM.out.2.2.2; have := HR.out.2.2.1; omega, HM.out.2.2.1⟩⟩

          · have b45 : ((c.toNat : Int) == 45) = false := byteI h45
            have hd := dash_ne hc h45
            rw [hd] at hds
            have HC := Lib.hid (show _ ∧ RX.classGo s.data.toList (g + 1) false k p = clsItem s.data.toList g k p from ⟨hc, cg_item hc h93 (fun e => h45 e.2.1) (by rw [hd]; simp)⟩)
            have HE := Lib.hid (show _ ∧ _ from ⟨hp, hds⟩)
            clear hp hc h1 hds hd h93 h45
            go_wp2_with (first | (go_at_call 58; refine HE.out.1.mono ?_; rintro e w3 ⟨rfl, q3, rfl⟩) | (go_at_call 74; refine (HE.out.2 _ (HR.out.1.psr.drewN _)).mono ?_; rintro e w4 ⟨rfl, q4, rfl⟩) | (go_quiet (fail)))
            refine (item_any bk s (st.to k) _ (HR.out.1.drewN _).psr (by omega) _ HC.out.1).mono ?_
            rintro e wi hpost
            unfold ItemPost at hpost
            have hci := HC.out.2
            unfold clsItem at hci
            simp only [show (st.to k).at_ = k from rfl] at hpost
            cases hitem : RX.item s.data.toList k with
            | bad a =>
              rw [hitem] at hpost hci
              obtain ⟨rfl, hg⟩ := hpost
              have HE := Lib.hid (show _ ∧ _ from ⟨hci, hg⟩)
              clear hci hg hitem
              go_wp2_with fail
              exact ⟨rfl, class_bad (by rw [HN.out.1, HN.out.2, ← HR.out.2.1, HE.out.1]) ((HR.out.1.drewN _).grown.trans HE.out.2 (fun _ _ e => e))⟩
            | ok q from_ k1 =>
              rw [hitem] at hpost hci
              simp only at hci hpost
              cases from_ with
              | none =>
                rw [show sngV none = -1 from rfl] at hpost
                obtain ⟨rfl, hpsr, hk1, hkk, hg⟩ := hpost
                have HI := Lib.hid (show ItSt w wi bk s (st.to k1) w.heap.size p from (HR.out.1.drewN _).call hpsr hg)
                have HK := Lib.hid (show _ ∧ k1 ≤ s.size ∧ k < k1 from ⟨hci, hk1, hkk⟩)
                clear hpsr hg hci hitem

                go_wp2_with (first
                  | (refine wpList_alloc_set rfl rfl ?_; intro w7 hb7 hs7 hg7; have H7 := Lib.hid (HI.out.two hb7 hg7); have hb0 := H7.out.set7; clear hb7 hs7 hg7)
                  | (refine wpList_store_set rfl _ _ rfl rfl rfl H7.out.set7 ?_; intro w8 hb8 hs8 hg8; have H8 := Lib.hid (H7.out.store hb8 hg8); clear hb8 hs8 hg8)
                  | (refine wpList_load_set rfl _ rfl rfl H8.out.set7 ?_)
                  | (go_quiet (fail)))
                have HM := Lib.hid (show It2 w _ bk s (st.to k1) w.heap.size p wi.heap.size (q) ∧ RX.classGo s.data.toList g false k1 (fun i => p i || (q) i) = RX.classGo s.data.toList (s.data.toList.length + 1) true k0 (fun _ => false) ∧ k1 ≤ s.size ∧ k < k1 from ⟨H8.out, HK.out.1.symm.trans HR.out.2.1, HK.out.2.1, HK.out.2.2⟩)

                go_loopw [138] (fun iv wy => ∃ i : Nat, i ≤ 256 ∧ iv = .int .i64 i ∧ Hid (It2 w wy bk s (st.to k1) w.heap.size (fun j => if j < i then (p j || (q) j) else p j) wi.heap.size (q))) (fun iv _ => 256 - (intOf iv).toNat)
                case atStart => exact ⟨0, by omega, rfl, Lib.hid ⟨(HM.out.1.it.congr (fun i _ => by simp)), HM.out.1.set7, HM.out.1.ne⟩⟩
                case round =>
                  obtain ⟨i, hi, rfl, HY⟩ := hrel
                  by_cases hlt : i < 256
                  · have i1 : (i : Int) < 256 := by omega
                    have i0 : (0 : Int) ≤ (i : Int) := by omega
                    have w2 : IntKind.i64.wrap ((i : Int) + 1) = (i : Int) + 1 := IntWalk.i64_in _ (by omega)
                    have q1 := fun W => set_index (q) hlt W
                    have c0 := HY.out.it.set.cell hlt
                    have f0 := HY.out.it.set.fr i
                    rw [if_neg (Nat.lt_irrefl i)] at c0
                    obtain ⟨pv, hpv⟩ : ∃ pv, p i = pv := ⟨_, rfl⟩
                    obtain ⟨qv, hqv⟩ : ∃ qv, (q) i = qv := ⟨_, rfl⟩
                    rw [hpv] at c0
                    rw [hqv] at q1
                    have HV := Lib.hid (show p i = pv ∧ (q) i = qv from ⟨hpv, hqv⟩)
                    clear hpv hqv
                    cases pv with
                    | true =>
                      go_wp2_with fail
                      go_roundw
                      case measure => simp [intOf]; omega
                      case rel => exact ⟨i + 1, hlt, by simp, Lib.hid (merge_step (HY.out.put0 hlt true) (by rw [HV.out.1]; rfl))⟩
                    | false =>
                      go_wp2_with fail
                      go_roundw
                      case measure => simp [intOf]; omega
                      case rel => exact ⟨i + 1, hlt, by simp, Lib.hid (merge_step (HY.out.put0 hlt qv) (by rw [HV.out.1, HV.out.2]; rfl))⟩
                  · obtain rfl : i = 256 := by omega
                    have i1 : ¬ ((256 : Nat) : Int) < 256 := by omega
                    have HX := Lib.hid (HY.out.it.congr (q := fun j => p j || (q) j) (fun j hj => by simp [hj]))
                    go_wp2_with fail
                    go_roundw
                    case measure =>
                      rw [HX.out.psr.at, HR.out.1.psr.at]
                      have h1 := HM.out.2.2.1
                      have h2 := HM.out.2.2.2
                      show s.size - k1 < s.size - k
                      omega
                    case rel => exact ⟨false, k1, _, g, rfl, Lib.hid ⟨HX.out, HM.out.2.1, by have := HM.out.2.2.2; have := HR.out.2.2.1; omega, HM.out.2.2.1⟩⟩

              | some a =>
                simp only at hci
                rw [show sngV (some a) = (a.toNat : Int) from rfl] at hpost
                obtain ⟨rfl, hpsr, hk1, hkk, hg⟩ := hpost
                have HI := Lib.hid (show ItSt w wi bk s (st.to k1) w.heap.size p from (HR.out.1.drewN _).call hpsr hg)
                have HK := Lib.hid (show _ ∧ k1 ≤ s.size ∧ k < k1 from ⟨hci, hk1, hkk⟩)
                clear hpsr hg hci hitem

                have ia : (0 : Int) ≤ (a.toNat : Int) := by omega
                have hdash := fun W (h : Psr W bk s (st.to k1)) => dash_any bk s (st.to k1) W h (by have := HK.out; show k1 ≤ s.size; omega) hbig
                simp only [show (st.to k1).at_ = k1 from rfl] at hdash
                have hci2 := HK.out.1
                cases hd : RX.dash s.data.toList k1 with
                | false =>
                  rw [hd] at hdash hci2
                  rw [if_neg (by simp)] at hci2
                  have HD := Lib.hid (show _ ∧ _ from ⟨hdash, hci2⟩)
                  clear hdash hci2 hd
                  go_wp2_with (first
                    | (refine wpList_alloc_set rfl rfl ?_; intro w7 hb7 hs7 hg7; have H7 := Lib.hid (HI.out.two hb7 hg7); have hb0 := H7.out.set7; clear hb7 hs7 hg7)
                    | (refine wpList_store_set rfl _ _ rfl rfl rfl H7.out.set7 ?_; intro w8 hb8 hs8 hg8; have H8 := Lib.hid (H7.out.store hb8 hg8); clear hb8 hs8 hg8)
                    | (go_at_call 74; refine (HD.out.1 _ H8.out.it.psr).mono ?_; rintro e w9 ⟨rfl, q9, rfl⟩)
                    | (refine wpList_load_set rfl _ rfl rfl (H8.out.drewN q9).set7 ?_)
                    | (go_quiet (fail)))
                  have HM := Lib.hid (show It2 w _ bk s (st.to k1) w.heap.size p wi.heap.size (q) ∧ RX.classGo s.data.toList g false k1 (fun i => p i || (q) i) = RX.classGo s.data.toList (s.data.toList.length + 1) true k0 (fun _ => false) ∧ k1 ≤ s.size ∧ k < k1 from ⟨H8.out.drewN q9, HD.out.2.symm.trans HR.out.2.1, HK.out.2.1, HK.out.2.2⟩)

                  go_loopw [138] (fun iv wy => ∃ i : Nat, i ≤ 256 ∧ iv = .int .i64 i ∧ Hid (It2 w wy bk s (st.to k1) w.heap.size (fun j => if j < i then (p j || (q) j) else p j) wi.heap.size (q))) (fun iv _ => 256 - (intOf iv).toNat)
                  case atStart => exact ⟨0, by omega, rfl, Lib.hid ⟨(HM.out.1.it.congr (fun i _ => by simp)), HM.out.1.set7, HM.out.1.ne⟩⟩
                  case round =>
                    obtain ⟨i, hi, rfl, HY⟩ := hrel
                    by_cases hlt : i < 256
                    · have i1 : (i : Int) < 256 := by omega
                      have i0 : (0 : Int) ≤ (i : Int) := by omega
                      have w2 : IntKind.i64.wrap ((i : Int) + 1) = (i : Int) + 1 := IntWalk.i64_in _ (by omega)
                      have q1 := fun W => set_index (q) hlt W
                      have c0 := HY.out.it.set.cell hlt
                      have f0 := HY.out.it.set.fr i
                      rw [if_neg (Nat.lt_irrefl i)] at c0
                      obtain ⟨pv, hpv⟩ : ∃ pv, p i = pv := ⟨_, rfl⟩
                      obtain ⟨qv, hqv⟩ : ∃ qv, (q) i = qv := ⟨_, rfl⟩
                      rw [hpv] at c0
                      rw [hqv] at q1
                      have HV := Lib.hid (show p i = pv ∧ (q) i = qv from ⟨hpv, hqv⟩)
                      clear hpv hqv
                      cases pv with
                      | true =>
                        go_wp2_with fail
                        go_roundw
                        case measure => simp [intOf]; omega
                        case rel => exact ⟨i + 1, hlt, by simp, Lib.hid (merge_step (HY.out.put0 hlt true) (by rw [HV.out.1]; rfl))⟩
                      | false =>
                        go_wp2_with fail
                        go_roundw
                        case measure => simp [intOf]; omega
                        case rel => exact ⟨i + 1, hlt, by simp, Lib.hid (merge_step (HY.out.put0 hlt qv) (by rw [HV.out.1, HV.out.2]; rfl))⟩
                    · obtain rfl : i = 256 := by omega
                      have i1 : ¬ ((256 : Nat) : Int) < 256 := by omega
                      have HX := Lib.hid (HY.out.it.congr (q := fun j => p j || (q) j) (fun j hj => by simp [hj]))
                      go_wp2_with fail
                      go_roundw
                      case measure =>
                        rw [HX.out.psr.at, HR.out.1.psr.at]
                        have h1 := HM.out.2.2.1
                        have h2 := HM.out.2.2.2
                        show s.size - k1 < s.size - k
                        omega
                      case rel => exact ⟨false, k1, _, g, rfl, Lib.hid ⟨HX.out, HM.out.2.1, by have := HM.out.2.2.2; have := HR.out.2.2.1; omega, HM.out.2.2.1⟩⟩

                | true =>
                  rw [hd] at hdash hci2
                  rw [if_pos rfl] at hci2
                  have hlt1 : k1 < s.size := by
                    have h0 : s.data.toList[k1]? ≠ none := by
                      intro e
                      unfold RX.dash at hd
                      rw [e] at hd
                      cases hd
                    have h1 : k1 < s.data.toList.length := by
                      rcases Nat.lt_or_ge k1 s.data.toList.length with h | h
                      · exact h
                      · exact absurd (List.getElem?_eq_none h) h0
                    omega
                  have w5 : IntKind.i64.wrap ((k1 : Int) + 1) = (k1 : Int) + 1 := IntWalk.i64_in _ (by omega)
                  have HD := Lib.hid (show _ ∧ _ from ⟨hdash, hci2⟩)
                  clear hdash hci2 hd
                  go_wp2_with (first
                    | (refine wpList_alloc_set rfl rfl ?_; intro w7 hb7 hs7 hg7; have H7 := Lib.hid (HI.out.two hb7 hg7); have hb0 := H7.out.set7; clear hb7 hs7 hg7)
                    | (refine wpList_store_set rfl _ _ rfl rfl rfl H7.out.set7 ?_; intro w8 hb8 hs8 hg8; have H8 := Lib.hid (H7.out.store hb8 hg8); clear hb8 hs8 hg8)
                    | (go_at_call 74; refine (HD.out.1 _ H8.out.it.psr).mono ?_; rintro e w9 ⟨rfl, q9, rfl⟩; have H9 := Lib.hid (H8.out.drewN q9); have d1 : World.cell? _ _ = some (.int .i64 (k1 : Int)) := H9.out.it.psr.c1; have g1 := H9.out.it.psr.fr 1)
                    | (go_quiet (fail)))
                  have H10 := Lib.hid H9.out.next
                  cases hc2 : s.data.toList[k1 + 1]? with
                  | none =>
                    refine (peek_none bk s (st.to (k1 + 1)) _ H10.out.it.psr hc2).mono ?_
                    rintro e w10 ⟨rfl, q10, rfl⟩
                    have H11 := Lib.hid (H10.out.drewN q10)
                    have hbad := HD.out.2
                    rw [if_pos hc2] at hbad
                    have HE := Lib.hid hbad
                    have d2 : World.cell? _ _ = some (.int .i64 ((k1 : Int) + 1)) := H11.out.it.psr.c1
                    clear hc2 hbad d1 g1
                    go_wp2_with fail
                    exact ⟨rfl, class_bad (by rw [HN.out.1, HN.out.2, ← HR.out.2.1, HE.out]) H11.out.it.grown⟩
                  | some c2 =>
                    refine (peek_some bk s (st.to (k1 + 1)) c2 _ H10.out.it.psr hc2).mono ?_
                    rintro e w10 ⟨rfl, q10, rfl⟩
                    have H11 := Lib.hid (H10.out.drewN q10)
                    have hci3 := HD.out.2
                    rw [if_neg (by rw [hc2]; simp)] at hci3
                    have HC2 := Lib.hid (show _ ∧ _ from ⟨hc2, hci3⟩)
                    have d2 : World.cell? _ _ = some (.int .i64 ((k1 : Int) + 1)) := H11.out.it.psr.c1
                    clear hc2 hci3 d1 g1
                    go_wp2_with fail
                    refine (item_any bk s (st.to (k1 + 1)) _ H11.out.it.psr (by omega) _ HC2.out.1).mono ?_
                    rintro e wj hpost
                    unfold ItemPost at hpost
                    simp only [show (st.to (k1 + 1)).at_ = k1 + 1 from rfl] at hpost
                    have hci4 := HC2.out.2
                    clear d2
                    cases hitem : RX.item s.data.toList (k1 + 1) with
                    | bad a2 =>
                      rw [hitem] at hpost hci4
                      obtain ⟨rfl, hg⟩ := hpost
                      have HE := Lib.hid (show _ ∧ _ from ⟨hci4, hg⟩)
                      clear hci4 hg hitem
                      go_wp2_with fail
                      exact ⟨rfl, class_bad (by rw [HN.out.1, HN.out.2, ← HR.out.2.1, HE.out.1]) (H11.out.it.grown.trans HE.out.2 (fun _ _ e => e))⟩
                    | ok q2 to k2 =>
                      rw [hitem] at hpost hci4
                      simp only at hci4 hpost
                      obtain ⟨z, hz⟩ : ∃ z, sngV to = z := ⟨_, rfl⟩
                      rw [hz] at hpost
                      obtain ⟨rfl, hpsr, hk2, hkk2, hg⟩ := hpost
                      have HJ := Lib.hid (show It2 w wj bk s (st.to k2) w.heap.size p wi.heap.size q from H11.out.call hpsr hg)
                      have HK2 := Lib.hid (show _ ∧ k2 ≤ s.size ∧ k1 + 1 < k2 ∧ _ from ⟨hci4, hk2, hkk2, hz⟩)
                      clear hpsr hg hci4 hitem hz
                      have hbad : z < (a.toNat : Int) → RX.classGo s.data.toList (g + 1) false k p = .bad (k1 + 1) := fun hlt => by
                        rw [HK2.out.1]
                        have e := HK2.out.2.2.2
                        cases to with
                        | none => rfl
                        | some b =>
                          have e2 : (b.toNat : Int) = z := e
                          simp only
                          rw [if_pos (by omega)]
                      have HE := Lib.hid hbad
                      clear hbad
                      by_cases hza : z < (a.toNat : Int)
                      · have HZ := Lib.hid hza
                        go_wp2_with (first
                          | (refine wpList_alloc_set rfl rfl ?_; intro w13 hb13 hs13 hg13; have H13 := Lib.hid (show _ ∧ _ from ⟨HJ.out.fresh hg13, hb13⟩); clear hb13 hs13 hg13)
                          | (refine wpList_store_set rfl _ _ rfl rfl rfl H13.out.2 ?_; intro w14 hb14 hs14 hg14; have H14 := Lib.hid (H13.out.1.other HJ.out.set7.lt hg14); clear hb14 hs14 hg14)
                          | (go_quiet (fail)))
                        exact ⟨rfl, class_bad (by rw [HN.out.1, HN.out.2, ← HR.out.2.1, HE.out HZ.out]) H14.out.it.grown⟩
                      · obtain ⟨b, rfl, hab⟩ : ∃ b : UInt8, z = (b.toNat : Int) ∧ to = some b := by
                          have e := HK2.out.2.2.2
                          cases to with
                          | none =>
                            have e2 : (-1 : Int) = z := e
                            omega
                          | some b => exact ⟨b, e.symm, rfl⟩
                        subst hab
                        have hle : a.toNat ≤ b.toNat := by omega
                        have hb256 : b.toNat < 256 := UInt8.toNat_lt b
                        have hlaw : RX.classGo s.data.toList (g + 1) false k p = RX.classGo s.data.toList g false k2 (fun i => p i || (q i || decide (a.toNat ≤ i ∧ i ≤ b.toNat))) := by
                          rw [HK2.out.1]
                          simp only
                          rw [if_neg (by omega)]
                        have HL := Lib.hid hlaw
                        clear hlaw
                        go_wp2_with (first
                          | (refine wpList_alloc_set rfl rfl ?_; intro w13 hb13 hs13 hg13; have H13 := Lib.hid (show _ ∧ _ from ⟨HJ.out.fresh hg13, hb13⟩); clear hb13 hs13 hg13)
                          | (refine wpList_store_set rfl _ _ rfl rfl rfl H13.out.2 ?_; intro w14 hb14 hs14 hg14; have H14 := Lib.hid (H13.out.1.other HJ.out.set7.lt hg14); clear hb14 hs14 hg14)
                          | (go_quiet (fail)))
                        go_loopw [14] (fun iv wx => ∃ i : Nat, a.toNat ≤ i ∧ i ≤ b.toNat + 1 ∧ iv = .int .i64 i ∧ Hid (It2 w wx bk s (st.to k2) w.heap.size p wi.heap.size (fun j => q j || decide (a.toNat ≤ j ∧ j < i)))) (fun iv _ => 256 - (intOf iv).toNat)
                        case atStart => exact ⟨a.toNat, Nat.le_refl _, by omega, rfl, Lib.hid (H14.out.congr7 (fun i _ => by
                          have : decide (a.toNat ≤ i ∧ i < a.toNat) = false := decide_eq_false (by omega)
                          rw [this, Bool.or_false]))⟩
                        case round =>
                          obtain ⟨i, hai, hib, rfl, HX⟩ := hrel
                          have i0 : (0 : Int) ≤ (i : Int) := by omega
                          have w2 : IntKind.i64.wrap ((i : Int) + 1) = (i : Int) + 1 := IntWalk.i64_in _ (by omega)
                          by_cases hlt : i ≤ b.toNat
                          · have i1 : (i : Int) ≤ (b.toNat : Int) := by omega
                            have i2 : (i : Int) < 256 := by omega
                            have c0 := HX.out.set7.cell (i := i) (by omega)
                            have f0 := HX.out.set7.fr i
                            have e0 : decide (a.toNat ≤ i ∧ i < i) = false := decide_eq_false (by omega)
                            rw [e0, Bool.or_false] at c0
                            clear e0
                            go_wp2_with fail
                            go_roundw
                            case measure => simp [intOf]; omega
                            case rel =>
                              refine ⟨i + 1, by omega, by omega, by simp, Lib.hid ((HX.out.put7 (i := i) (by omega) true).congr7 fun j hj => ?_)⟩
                              by_cases e : j = i
                              · rw [if_pos e, decide_eq_true (by omega), Bool.or_true]
                              · rw [if_neg e]
                                congr 1
                                exact decide_eq_decide.2 (by omega)
                          · have i1 : ¬ (i : Int) ≤ (b.toNat : Int) := by omega
                            have hib2 : i = b.toNat + 1 := by omega
                            obtain ⟨qf, hqf⟩ : ∃ qf : Nat → Bool, qf = fun j => q j || decide (a.toNat ≤ j ∧ j ≤ b.toNat) := ⟨_, rfl⟩
                            have hx2 := HX.out.congr7 (r := qf) (fun j _ => by
                              rw [hqf]
                              simp only
                              congr 1
                              exact decide_eq_decide.2 (by omega))
                            have hl2 : RX.classGo s.data.toList g false k2 (fun i => p i || qf i) = RX.classGo s.data.toList (s.data.toList.length + 1) true k0 (fun _ => false) := by rw [hqf]; exact HL.out.symm.trans HR.out.2.1
                            have HQ := Lib.hid (show _ ∧ _ from ⟨hx2, hl2⟩)
                            clear hx2 hl2 hqf hib2
                            go_wp2_with (first
                              | (refine wpList_load_set rfl _ rfl rfl HQ.out.1.set7 ?_)
                              | (go_quiet (fail)))
                            have HM := Lib.hid (show It2 w _ bk s (st.to k2) w.heap.size p wi.heap.size (qf) ∧ RX.classGo s.data.toList g false k2 (fun i => p i || (qf) i) = RX.classGo s.data.toList (s.data.toList.length + 1) true k0 (fun _ => false) ∧ k2 ≤ s.size ∧ k < k2 from ⟨HQ.out.1, HQ.out.2, HK2.out.2.1, by have := HK2.out.2.2.1; have := HK.out.2.2; omega⟩)

                            go_loopw [138] (fun iv wy => ∃ i : Nat, i ≤ 256 ∧ iv = .int .i64 i ∧ Hid (It2 w wy bk s (st.to k2) w.heap.size (fun j => if j < i then (p j || (qf) j) else p j) wi.heap.size (qf))) (fun iv _ => 256 - (intOf iv).toNat)
                            case atStart => exact ⟨0, by omega, rfl, Lib.hid ⟨(HM.out.1.it.congr (fun i _ => by simp)), HM.out.1.set7, HM.out.1.ne⟩⟩
                            case round =>
                              obtain ⟨i, hi, rfl, HY⟩ := hrel
                              by_cases hlt : i < 256
                              · have i1 : (i : Int) < 256 := by omega
                                have i0 : (0 : Int) ≤ (i : Int) := by omega
                                have w2 : IntKind.i64.wrap ((i : Int) + 1) = (i : Int) + 1 := IntWalk.i64_in _ (by omega)
                                have q1 := fun W => set_index (qf) hlt W
                                have c0 := HY.out.it.set.cell hlt
                                have f0 := HY.out.it.set.fr i
                                rw [if_neg (Nat.lt_irrefl i)] at c0
                                obtain ⟨pv, hpv⟩ : ∃ pv, p i = pv := ⟨_, rfl⟩
                                obtain ⟨qv, hqv⟩ : ∃ qv, (qf) i = qv := ⟨_, rfl⟩
                                rw [hpv] at c0
                                rw [hqv] at q1
                                have HV := Lib.hid (show p i = pv ∧ (qf) i = qv from ⟨hpv, hqv⟩)
                                clear hpv hqv
                                cases pv with
                                | true =>
                                  go_wp2_with fail
                                  go_roundw
                                  case measure => simp [intOf]; omega
                                  case rel => exact ⟨i + 1, hlt, by simp, Lib.hid (merge_step (HY.out.put0 hlt true) (by rw [HV.out.1]; rfl))⟩
                                | false =>
                                  go_wp2_with fail
                                  go_roundw
                                  case measure => simp [intOf]; omega
                                  case rel => exact ⟨i + 1, hlt, by simp, Lib.hid (merge_step (HY.out.put0 hlt qv) (by rw [HV.out.1, HV.out.2]; rfl))⟩
                              · obtain rfl : i = 256 := by omega
                                have i1 : ¬ ((256 : Nat) : Int) < 256 := by omega
                                have HX := Lib.hid (HY.out.it.congr (q := fun j => p j || (qf) j) (fun j hj => by simp [hj]))
                                go_wp2_with fail
                                go_roundw
                                case measure =>
                                  rw [HX.out.psr.at, HR.out.1.psr.at]
                                  have h1 := HM.out.2.2.1
                                  have h2 := HM.out.2.2.2
                                  show s.size - k2 < s.size - k
                                  omega
                                case rel => exact ⟨false, k2, _, g, rfl, Lib.hid ⟨HX.out, HM.out.2.1, by have := HM.out.2.2.2; have := HR.out.2.2.1; omega, HM.out.2.2.1⟩⟩
end Go.Proofs.YtamlnkmcbbeicaaDoor
