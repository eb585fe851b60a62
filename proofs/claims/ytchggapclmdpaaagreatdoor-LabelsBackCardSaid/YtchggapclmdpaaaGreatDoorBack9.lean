/- LabelsBack's walk: a set that is written, as bytes or as a text, is read again, whatever stands behind its bytes. -/
import Derived.Test.YtchggapclmdpaaaGreatDoorGn
import Derived.Test.YtchggapclmdpaaaGreatDoorBytes7
namespace Go.Proofs.YtchggapclmdpaaaGreatDoor
open Go.RowKit Go.Lib

theorem printB_len {s : List Lb} (h : IsSet s) : (printB s).length ≤ 1000000 := by
  have h1 := join_len (l := s) (m := 5123) (fun x hx => by have h2 := prnB_len x; have h3 := h.sizes x hx; omega) [44, 32]
  have h2 := h.len
  have h3 : s.length * ([(44 : UInt8), 32].length + 5123) ≤ 64 * ([(44 : UInt8), 32].length + 5123) := Nat.mul_le_mul_right _ h2
  unfold printB
  simp only [List.length_cons, List.length_append, List.length_nil] at h1 h3 ⊢
  omega
theorem encB_len {s : List Lb} (h : IsSet s) : (encB s).length ≤ 200000 := by
  have := encO_length s
  unfold encO at this
  rwa [if_pos h.checkE] at this
theorem set_good {l : List Lb} {w : World} {e : Ending} {w' : World} (h : SetPost l w e w') (h0 : setE l = 0) : ∃ A c, e = .returned (.tuple #[.slice A (setL l).length c, .int .u16 0]) ∧ w'.ownsRow w.heap.size 94 2 (.slice A (setL l).length c) (setL l).length ((setL l).flatMap Lb.cells) ∧ Lst Lb.cells 2 w' w'.heap.size A (setL l).length (setL l) ∧ Below w.heap.size w w' := by
  obtain ⟨v, rfl, hb, _, h2⟩ := h
  have ho := h2 h0
  obtain ⟨A, c, rfl, hL, _⟩ := own_arg ho rfl
  exact ⟨A, c, by rw [h0], ho, hL, hb⟩
/-- append of bytes that came in, nil or no, to a row of the call's own. -/
theorem wpList_append_any_bytes {w w3 : World} {A' : Option Addr} {n' c' ne : Nat} {E t : List UInt8} {v : Value} {i0 : TypeInfo} (hM : Lst encBy 1 w w.heap.size A' n' t) (hnil : A' = none → n' = 0 ∧ c' = 0)
    (hi : Tryz.prog.info? 5 = some i0) (hz0 : i0.zero = some (.int .u8 0)) (hz1 : i0.size = 1) (hz2 : i0.bytes = 1) (hE : E.length = ne) (ho : w3.ownsRow w.heap.size 5 1 v ne (bytesV E)) (hb : Below w.heap.size w w3) (hne : ne ≤ 200000) (hn' : n' ≤ 20000)
    {ops : Array Oper} {rest : List Oper} {o : Oper} {ac : Act} {Q : Exit → Act → World → Prop} (s x : Operand) (hgd : o.guard = none) (hop : o.op = .call { callee := .builtin .append, args := #[s, x], argTypes := #[75, 75] }) (hs : ac.eval s = v) (hx : ac.eval x = .slice A' n' c')
    (h : ∀ v4 w4, w4.ownsRow w.heap.size 5 1 v4 (ne + n') (bytesV (E ++ t)) → w3.grownBy w4 v.ownBlock → wpList Tryz.prog ops Q rest (ac.put o.dst v4) w4) : wpList Tryz.prog ops Q (o :: rest) ac w3 := by
  have htl := hM.1
  cases A' with
  | none =>
    obtain ⟨rfl, rfl⟩ := hnil rfl
    have ht : t = [] := List.length_eq_zero_iff.1 htl
    refine wpList_append_own_none hgd s x 75 hop w.heap.size 5 i0 1 Tryz.underlying75 hi v ne (bytesV E) hs ho hx ?_
    exact h v w3 (by rw [ht, List.append_nil]; exact ho) (grownBy_refl _ _)
  | some ad =>
    have hfl := (hM.on hb).flat encBy_len
    refine wpList_append_own w3 hgd s x 75 hop w.heap.size 5 i0 _ 1 1 Tryz.underlying75 hi hz0 hz1 hz2 rfl (by omega) v ne (bytesV E) hs ho ad n' c' (bytesV t) hx (by rw [bytesV_length, htl]; omega) (by rw [bytesV_flat]; exact hfl) ?_ (by unfold maxLen; omega) (by omega) hb.size ?_
    · intro u hu
      unfold bytesV at hu
      obtain ⟨q, _, rfl⟩ := List.mem_map.1 hu
      rfl
    · intro v4 w4 ho4 hg4 _
      exact h v4 w4 (by rw [bytesV_append]; exact ho4) hg4
set_option maxHeartbeats 8000000 in
set_option maxRecDepth 100000 in
theorem back_few (K : Nat) (a b : Addr) (A A' : Option Addr) (n c n' c' : Nat) (l : List Lb) (t : List UInt8) (w : World) (hE : LaidE K a b w) (hL : Lst Lb.cells 2 w w.heap.size A n l) (hM : Lst encBy 1 w w.heap.size A' n' t) (hnil : A' = none → n' = 0 ∧ c' = 0) (hl : muchB l = false) (hn' : n' ≤ 20000) :
    Calls Tryz.prog 7 #[.slice A n c, .slice A' n' c'] w fun e w' => e = .returned (.bool true) ∧ Below w.heap.size w w' := by
  have hn : n ≤ 300 := by rw [← hL.1]; exact muchB_len hl
  have q0 : ¬ (20000 : Int) < (n' : Int) := by omega
  obtain ⟨i0, hi, hz0, hz1, hz2⟩ := info_parts Tryz.infoByte
  have HI := Lib.hid (show _ ∧ _ ∧ _ ∧ _ from ⟨hi, hz0, hz1, hz2⟩)
  have HL := Lib.hid (show _ ∧ _ from ⟨hL, hE⟩)
  have HM := Lib.hid (show _ ∧ _ from ⟨hM, hnil⟩)
  have HB := Lib.hid hl
  clear hL hM hnil hl hE hi hz0 hz1 hz2
  go_enter Tryz.func7, Tryz.ntmps7
  go_wp2_with fail
  refine (much_any A n c l w HL.out.1 (by omega)).mono ?_
  rw [HB.out]
  rintro e w0 ⟨rfl, q1', hq1⟩
  have B0 : Hid (Below w.heap.size w w0) := Lib.hid (hq1 ▸ below_drewN (Below.refl _ _) q1')
  clear hq1
  go_wp2_with fail
  refine (known7 _).mono ?_
  rintro e w1 ⟨rfl, hb1⟩
  have B1 : Hid (Below w.heap.size w w1) := Lib.hid (B0.out.trans (hb1.mono B0.out.size))
  clear hb1 B0
  go_wp2_with fail
  refine (set_any A n c l w1 (HL.out.1.on B1.out) (by omega)).mono ?_
  intro e w2 hp
  by_cases h0 : setE l = 0
  · obtain ⟨A2, c2, rfl, ho2, hL2, hb2⟩ := set_good hp h0
    have hset := setL_isSet h0
    obtain ⟨s, hs⟩ : ∃ s, setL l = s := ⟨_, rfl⟩
    rw [hs] at ho2 hL2 hset ⊢
    obtain ⟨m, hm⟩ : ∃ m, s.length = m := ⟨_, rfl⟩
    rw [hm] at ho2 hL2 ⊢
    have hm64 : m ≤ 64 := by rw [← hm]; exact hset.len
    have h1s := B1.out.size
    have H2 := Lib.hid (show _ ∧ _ ∧ _ ∧ _ from ⟨owns_base ho2 h1s, hL2, B1.out.trans (hb2.mono h1s), hset⟩)
    have HM0 := Lib.hid (show _ ∧ _ ∧ _ ∧ _ from ⟨hm, decR_enc hset t, hset.parse, printB_len hset⟩)
    have hel := encB_len hset
    clear hp ho2 hL2 hb2 hset hs hm
    go_wp2_with fail
    refine (encode_any A2 m c2 s w2 H2.out.2.1 (by omega)).mono ?_
    rintro e w3 ⟨v3, rfl, hb3, _, hgood3⟩
    have ho3 := hgood3 H2.out.2.2.2.checkE
    rw [H2.out.2.2.2.checkE]
    have h2s := H2.out.2.2.1.size
    obtain ⟨E, hE⟩ : ∃ E, encB s = E := ⟨_, rfl⟩
    rw [hE] at ho3 hel
    obtain ⟨ne, hne⟩ : ∃ ne, E.length = ne := ⟨_, rfl⟩
    rw [hne] at ho3 hel
    obtain ⟨A3, c3, rfl, hnc3, hcm3⟩ := owns_slice ho3
    have H3 := Lib.hid (show _ ∧ _ ∧ _ ∧ _ from ⟨owns_base ho3 h2s, (H2.out.2.1.on hb3), owns_below H2.out.1 hb3, H2.out.2.2.1.trans (hb3.mono h2s)⟩)
    have HE := Lib.hid (show _ ∧ _ from ⟨hE, hne⟩)
    clear ho3 hb3 hgood3 hE hne
    have h3s := H3.out.2.2.2.size
    obtain ⟨hi, hz0, hz1, hz2⟩ := HI.out
    -- the bytes with what stands behind
    have hApp : ∀ (v4 : Value) (w4 : World), w4.ownsRow w.heap.size 5 1 v4 (ne + n') (bytesV (E ++ t)) → w3.grownBy w4 (Value.slice A3 ne c3).ownBlock → ∃ A4 c4, v4 = .slice A4 (ne + n') c4 ∧ Hid (Calls Tryz.prog 32 #[.slice A4 (ne + n') c4] w4 (DecPost (E ++ t) w4) ∧ Lst Lb.cells 2 w4 w4.heap.size A2 m s ∧ w4.ownsRow w.heap.size 94 2 (.slice A2 m c2) m (s.flatMap Lb.cells) ∧ Below w.heap.size w w4) := fun v4 w4 ho4 hg4 => by
      have ho4' := ho4
      rw [bytesV_flat] at ho4'
      have hel4 : (E ++ t).length = ne + n' := by rw [List.length_append, HE.out.2, HM.out.1.1]
      obtain ⟨A4, c4, rfl, _, hL4⟩ := ownsRow_lst ho4' hel4 encBy_len
      have hc4 := owns_cap ho4'
      have hb34 : Below w.heap.size w w4 := H3.out.2.2.2.grown hg4 h3s (fun j hj => (H3.out.1.lt j hj).1)
      have hgi := GrownIn.of_grownBy hg4
      have hdis : ∀ k, (Value.slice A2 m c2).ownBlock = some k → (Value.slice A3 ne c3).ownBlock ≠ some k := fun k hk he => by
        rcases H3.out.2.2.1.2 with ⟨h, _⟩ | ⟨g, cap, cur, h, _, hg, _⟩
        · rw [h] at hk; cases hk
        · rw [h] at hk
          injection hk with hk
          subst hk
          exact owns_type H3.out.1 hg (by decide) he
      have hown := hgi.owns H3.out.2.2.1 (fun k hk he => hdis k hk he)
      obtain ⟨A5, c5, e5, hL5, _⟩ := own_arg hown (show s.length = m from HM0.out.1)
      injection e5 with e6 _ e7
      subst e6
      exact ⟨A4, c4, rfl, Lib.hid ⟨decode_any A4 (ne + n') c4 (E ++ t) w4 hL4 hc4.2 hc4.1 (by omega), hL5, hown, hb34⟩⟩
    have HA := Lib.hid hApp
    clear hApp
    have hdec : decR (E ++ t) = (s, ne, 0) := by
      have h := HM0.out.2.1
      rw [HE.out.1] at h
      rw [h, HE.out.2]
    have HD := Lib.hid hdec
    clear hdec
    go_wp2_with (first
      | (go_at_call 32; refine H4.out.1.mono ?_; rintro e w5 ⟨v5, rfl, ho5, hb5⟩; rw [HD.out] at ho5 ⊢; have ho5' : w5.ownsRow w4.heap.size 94 2 v5 s.length (s.flatMap Lb.cells) := ho5; rw [HM0.out.1] at ho5'; have h4s := H4.out.2.2.2.size; have H5 := Lib.hid (show _ ∧ _ ∧ _ ∧ _ from ⟨owns_base ho5' h4s, H4.out.2.1.on hb5, owns_below H4.out.2.2.1 hb5, H4.out.2.2.2.trans (hb5.mono h4s)⟩); clear ho5 ho5' hb5)
      | (go_at_call 16; refine (print_any A2 m c2 s w5 H5.out.2.1 (by omega) (fun x hx => by have := H2.out.2.2.2.sizes x hx; omega)).mono ?_; rintro e w6 ⟨rfl, hb6⟩; have H6 := Lib.hid (show _ ∧ _ ∧ _ ∧ Below w.heap.size w w6 from ⟨owns_below H5.out.1 hb6, H5.out.2.1.on hb6, owns_below H5.out.2.2.1 hb6, H5.out.2.2.2.trans (hb6.mono H5.out.2.2.2.size)⟩); clear hb6)
      | (go_at_call 10; refine (parse_any K a b ⟨(printB s).toArray⟩ w6 (HL.out.2.below H6.out.2.2.2 HL.out.2.size) (by have := HM0.out.2.2.2; simpa [ByteArray.size] using this)).mono ?_; rw [show ((⟨(printB s).toArray⟩ : ByteArray).data.toList) = printB s from rfl, HM0.out.2.2.1]; rintro e w7 ⟨v7, rfl, ho7, hb7⟩; have ho7' : w7.ownsRow w6.heap.size 94 2 v7 s.length (s.flatMap Lb.cells) := ho7; rw [HM0.out.1] at ho7'; have H7 := Lib.hid (show _ ∧ _ ∧ _ ∧ _ ∧ Below w.heap.size w w7 from ⟨owns_below H6.out.1 hb7, H6.out.2.1.on hb7, owns_below H6.out.2.2.1 hb7, owns_base ho7' H6.out.2.2.2.size, H6.out.2.2.2.trans (hb7.mono H6.out.2.2.2.size)⟩); clear ho7 ho7' hb7)
      | (go_at_call 19; refine (set_any A2 m c2 s w7 H7.out.2.1 (by omega)).mono ?_; intro e w8 hp8; obtain ⟨A8, c8, rfl, ho8, _, hb8⟩ := set_good hp8 H2.out.2.2.2.setE; rw [H2.out.2.2.2.setL, HM0.out.1] at ho8 ⊢; have H8 := Lib.hid (show _ ∧ _ ∧ _ ∧ _ ∧ _ ∧ Below w.heap.size w w8 from ⟨owns_below H7.out.1 hb8, H7.out.2.1.on hb8, owns_below H7.out.2.2.1 hb8, owns_below H7.out.2.2.2.1 hb8, owns_base ho8 H7.out.2.2.2.2.size, H7.out.2.2.2.2.trans (hb8.mono H7.out.2.2.2.2.size)⟩); clear hp8 ho8 hb8)
      | (at_builtin; refine wpList_append_any_bytes HM.out.1 HM.out.2 hi hz0 hz1 hz2 HE.out.2 H3.out.1 H3.out.2.2.2 (by omega) hn' _ _ rfl rfl rfl rfl ?_; intro v4 w4 ho4 hg4; obtain ⟨A4, c4, rfl, H4⟩ := HA.out v4 w4 ho4 hg4; clear ho4 hg4)
      | fail)
    refine (sameL_own H8.out.1 H8.out.2.2.1 (by omega)).mono ?_
    rintro e w9 ⟨rfl, hb9⟩
    have H9 := Lib.hid (show _ ∧ _ ∧ _ ∧ _ ∧ Below w.heap.size w w9 from ⟨H8.out.2.1.on hb9, owns_below H8.out.2.2.1 hb9, owns_below H8.out.2.2.2.1 hb9, owns_below H8.out.2.2.2.2.1 hb9, H8.out.2.2.2.2.2.trans (hb9.mono H8.out.2.2.2.2.2.size)⟩)
    clear hb9
    go_wp2_with fail
    refine (sameL_own H9.out.2.2.1 H9.out.2.1 (by omega)).mono ?_
    rintro e w10 ⟨rfl, hb10⟩
    have H10 := Lib.hid (show _ ∧ _ ∧ _ ∧ Below w.heap.size w w10 from ⟨H9.out.1.on hb10, owns_below H9.out.2.1 hb10, owns_below H9.out.2.2.2.1 hb10, H9.out.2.2.2.2.trans (hb10.mono H9.out.2.2.2.2.size)⟩)
    clear hb10
    go_wp2_with fail
    refine (sameL_own H10.out.2.2.1 H10.out.2.1 (by omega)).mono ?_
    rintro e w11 ⟨rfl, hb11⟩
    have H11 := Lib.hid (show _ ∧ Below w.heap.size w w11 from ⟨H10.out.1.on hb11, H10.out.2.2.2.trans (hb11.mono H10.out.2.2.2.size)⟩)
    clear hb11
    go_wp2_with fail
    refine (check_any A2 m c2 s w11 H11.out.1 (by omega)).mono ?_
    rw [H2.out.2.2.2.checkE]
    rintro e w12 ⟨rfl, hb12⟩
    have H12 := Lib.hid (H11.out.2.trans (hb12.mono H11.out.2.size))
    clear hb12
    go_wp2
    go_ret
    exact ⟨rfl, H12.out⟩
  · obtain ⟨v, rfl, hb2, hbad, _⟩ := hp
    obtain rfl := hbad h0
    obtain ⟨E, hE⟩ : ∃ E, setE l = E := ⟨_, rfl⟩
    rw [hE] at h0 ⊢
    have hne : (E != 0) = true := by rw [bne_iff_ne]; exact h0
    have H2 := Lib.hid (B1.out.trans (hb2.mono B1.out.size))
    clear hb2 hbad hE
    go_wp2
    go_ret
    exact ⟨rfl, H2.out⟩
set_option maxHeartbeats 2000000 in
set_option maxRecDepth 100000 in
theorem back_any (K : Nat) (a b : Addr) (A A' : Option Addr) (n c n' c' : Nat) (l : List Lb) (t : List UInt8) (w : World) (hE : LaidE K a b w) (hL : Lst Lb.cells 2 w w.heap.size A n l) (hn : n ≤ 9223372036854775807) (hM : Lst encBy 1 w w.heap.size A' n' t) (hnil : A' = none → n' = 0 ∧ c' = 0) :
    Calls Tryz.prog 7 #[.slice A n c, .slice A' n' c'] w fun e w' => e = .returned (.bool true) ∧ Below w.heap.size w w' := by
  have hm := much_any A n c l w hL hn
  cases hl : muchB l with
  | true =>
    rw [hl] at hm
    have HM := Lib.hid hm
    clear hm hL hM hnil hl hE
    go_enter Tryz.func7, Tryz.ntmps7
    go_wp2_with (go_at_call 9; refine HM.out.mono ?_; rintro e w1 ⟨rfl, q, hq⟩; have B1 : Hid (Below w.heap.size w w1) := Lib.hid (hq ▸ below_drewN (Below.refl _ _) q); clear hq)
    refine (known7 _).mono ?_
    rintro e w2 ⟨rfl, hb2⟩
    have B2 := Lib.hid (B1.out.trans (hb2.mono B1.out.size))
    clear hb2
    go_wp2
    go_ret
    exact ⟨rfl, B2.out⟩
  | false =>
    by_cases hb : 20000 < n'
    · rw [hl] at hm
      have HM := Lib.hid hm
      have q0 : (20000 : Int) < (n' : Int) := by omega
      clear hm hL hM hnil hl hE
      go_enter Tryz.func7, Tryz.ntmps7
      go_wp2_with (go_at_call 9; refine HM.out.mono ?_; rintro e w1 ⟨rfl, q, hq⟩; have B1 : Hid (Below w.heap.size w w1) := Lib.hid (hq ▸ below_drewN (Below.refl _ _) q); clear hq)
      refine (known7 _).mono ?_
      rintro e w2 ⟨rfl, hb2⟩
      have B2 := Lib.hid (B1.out.trans (hb2.mono B1.out.size))
      clear hb2
      go_wp2
      go_ret
      exact ⟨rfl, B2.out⟩
    · exact back_few K a b A A' n c n' c' l t w hE hL hM hnil hl (by omega)
end Go.Proofs.YtchggapclmdpaaaGreatDoor
