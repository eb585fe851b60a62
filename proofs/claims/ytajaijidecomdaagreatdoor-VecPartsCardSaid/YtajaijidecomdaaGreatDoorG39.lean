/- slices.Grow and slices.Concat of vectors. vec.Vectors, one to one: or. -/
import Derived.Test.YtajaijidecomdaaGreatDoorG34
import Derived.Lib.AppendZeros
import Derived.Test.YtajaijidecomdaaGreatDoorVVec
namespace Go.Proofs.YtajaijidecomdaaGreatDoor
open Go.RowKit Go.Lib

theorem wpList_append_els {wc : World} {B n : Nat} {A' : Option Addr} {n' c' : Nat} {src : List Ev} {xs : List Value} {v : Value} {i0 : TypeInfo} (hM : Lst encEv 2 wc wc.heap.size A' n' src) (hnil : A' = none → n' = 0 ∧ c' = 0)
    (hi : Tryz.prog.info? 90 = some i0) (hz0 : i0.zero = some (.agg #[.slice none 0 0, .int .u64 0])) (hz1 : i0.size = 2) (hz2 : i0.bytes = 32) (ho : wc.ownsRow B 90 2 v n xs) (hB : B ≤ wc.heap.size) (hn : n ≤ 300000) (hn' : n' ≤ 300000)
    {ops : Array Oper} {rest : List Oper} {o : Oper} {ac : Act} {Q : Exit → Act → World → Prop} (s x : Operand) (hgd : o.guard = none) (hop : o.op = .call { callee := .builtin .append, args := #[s, x], argTypes := #[33, 33] }) (hs : ac.eval s = v) (hx : ac.eval x = .slice A' n' c')
    (h : ∀ v4 w4, w4.ownsRow B 90 2 v4 (n + n') (xs ++ src.flatMap encEv) → wc.grownBy w4 v.ownBlock → wpList Tryz.prog ops Q rest (ac.put o.dst v4) w4) : wpList Tryz.prog ops Q (o :: rest) ac wc := by
  have hsl := hM.1
  cases A' with
  | none =>
    obtain ⟨rfl, rfl⟩ := hnil rfl
    obtain rfl : src = [] := List.length_eq_zero_iff.1 hsl
    refine wpList_append_own_none hgd s x 33 hop B 90 i0 2 Tryz.underlying33 hi v n xs hs ho hx ?_
    exact h v wc (by simpa using ho) (grownBy_refl _ _)
  | some ad =>
    have hfl := hM.flat encEv_len
    refine wpList_append_own wc hgd s x 33 hop B 90 i0 _ 2 32 Tryz.underlying33 hi hz0 hz1 hz2 rfl (by omega) v n xs hs ho ad n' c' (src.flatMap encEv) hx (by rw [flatMap_length encEv_len, hsl]) hfl (oneEv _) (by unfold maxLen; omega) (by omega) hB ?_
    intro v4 w4 ho4 hg4 _
    exact h v4 w4 ho4 hg4
set_option maxHeartbeats 4000000 in
set_option maxRecDepth 100000 in
theorem growE_any (n : Nat) (hn : n ≤ 300000) (w : World) : Calls Tryz.prog 156 #[.slice none 0 0, .int .i64 n] w
    fun e w' => ∃ v, e = .returned v ∧ w'.ownsRow w.heap.size 90 2 v 0 [] ∧ Below w.heap.size w w' := by
  obtain ⟨i0, hi, hz0, hz1, hz2⟩ := info_parts Tryz.infoElem
  by_cases h0 : n = 0
  · subst h0
    go_enter Tryz.func156, Tryz.ntmps156
    go_wp2_with fail
    go_ret
    exact ⟨_, rfl, World.ownsRow_nil _ _ _ _, Below.refl _ _⟩
  · have hrun := run_append_nil_zeros (P := Tryz.prog) w 33 3 33 90 i0 _ .i64 .i64 Tryz.underlying33 (by kernel_rfl) hi hz0 n (by omega) (by omega) (by omega) (by rw [hz2]; omega)
    have hge := grownCap_ge w n 0 90
    have hle := grownCap_le_maxLen w n 0 90 (by unfold maxLen; omega)
    obtain ⟨cap, hcap⟩ : ∃ k, grownCap w n 0 90 = k := ⟨_, rfl⟩
    rw [hcap] at hrun hge hle
    obtain ⟨zs, hzs⟩ : ∃ z, (Builtin.zeroCells (Value.agg #[.slice none 0 0, .int .u64 0]).cells n ++ Builtin.zeroCells (Value.agg #[.slice none 0 0, .int .u64 0]).cells (cap - n)) = z := ⟨_, rfl⟩
    have hzl : zs.size = cap * 2 := by
      rw [← hzs]
      simp [size_zeroCells, Value.cells]
      omega
    rw [hzs] at hrun
    have hb : Below w.heap.size w (w.drew.alloc (.cells zs 90)) := (Below.refl _ w).drew.alloc (by simp) _
    have hown : (w.drew.alloc (.cells zs 90)).ownsRow w.heap.size 90 2 (.slice (some ⟨w.heap.size, 0, none⟩) 0 cap) 0 [] := by
      refine ⟨rfl, .inr ⟨w.heap.size, cap, zs, rfl, Nat.le_refl _, ?_, Nat.zero_le _, hle, hzl, by simp⟩⟩
      have := heap_alloc_new w.drew (.cells zs 90)
      simpa using this
    have HO := Lib.hid hown
    have HB := Lib.hid hb
    clear hown hb
    go_enter Tryz.func156, Tryz.ntmps156
    go_wp2_with (at_builtin; refine wpList_append_run _ rfl _ _ 33 3 rfl _ _ rfl rfl _ _ hrun ?_)
    go_ret
    exact ⟨_, rfl, HO.out, HB.out⟩
set_option maxHeartbeats 4000000 in
set_option maxRecDepth 100000 in
theorem concatE_any (A A' : Option Addr) (n c n' c' : Nat) (es bs : List Ev) (b : Nat) (w : World) (hE : Lst encEv 2 w w.heap.size A n es) (hB : Lst encEv 2 w w.heap.size A' n' bs) (hnil : A = none → n = 0 ∧ c = 0) (hnil' : A' = none → n' = 0 ∧ c' = 0) (hn : n ≤ 100000) (hn' : n' ≤ 100000)
    (h0 : w.cell? ⟨b, 0, none⟩ = some (.slice A n c)) (h1 : w.cell? ⟨b, 1, none⟩ = some (.slice A' n' c')) (hbl : b < w.heap.size) :
    Calls Tryz.prog 93 #[.slice (some ⟨b, 0, none⟩) 2 2] w
    fun e w' => ∃ v, e = .returned v ∧ w'.ownsRow w.heap.size 90 2 v (n + n') ((es ++ bs).flatMap encEv) ∧ Below w.heap.size w w' := by
  obtain ⟨i0, hi, hz0, hz1, hz2⟩ := info_parts Tryz.infoElem
  have HG := Lib.hid (growE_any (n + n') (by omega) w)
  have HE := Lib.hid (show _ ∧ _ ∧ _ ∧ _ from ⟨hE, hB, hnil, hnil'⟩)
  have HI := Lib.hid (show _ ∧ _ ∧ _ ∧ _ from ⟨hi, hz0, hz1, hz2⟩)
  clear hE hB hnil hnil' hi hz0 hz1 hz2
  go_enter Tryz.func93, Tryz.ntmps93
  go_wp2_with fail
  refine wp_loop_rounds 3 ?_
  rw [rounds_succ]
  go_wp2_with fail
  rw [rounds_succ]
  go_wp2_with fail
  rw [rounds_succ]
  go_wp2_with fail
  simp only [← Int.natCast_add]
  refine HG.out.mono ?_
  rintro e w1 ⟨v, rfl, ho1, hb1⟩
  have k0 := (hb1.cell (p := ⟨b, 0, none⟩) hbl).trans h0
  have k1 := (hb1.cell (p := ⟨b, 1, none⟩) hbl).trans h1
  have H1 := Lib.hid (show _ ∧ _ from ⟨ho1, hb1⟩)
  clear ho1 hb1
  go_wp2_with fail
  refine wp_loop_rounds 3 ?_
  rw [rounds_succ]
  go_wp2_with (at_builtin; refine wpList_append_els (B := w.heap.size) (A' := A) (n' := n) (c' := c) (src := es) (Lst.more (Lst.below HE.out.1 H1.out.2) H1.out.2.size) HE.out.2.2.1 HI.out.1 HI.out.2.1 HI.out.2.2.1 HI.out.2.2.2 H1.out.1 H1.out.2.size (by omega) (by omega) _ _ rfl rfl rfl rfl ?_)
  intro v2 w2 ho2 hg2
  have hb2 : Below w.heap.size w w2 := H1.out.2.grown hg2 H1.out.2.size (fun k h => (H1.out.1.lt k h).1)
  have k2 := (hb2.cell (p := ⟨b, 1, none⟩) hbl).trans h1
  have l2 := (hb2.cell (p := ⟨b, 0, none⟩) hbl).trans h0
  have H2 := Lib.hid (show _ ∧ _ from ⟨ho2, hb2⟩)
  clear ho2 hb2 hg2
  go_wp2_with fail
  rw [rounds_succ]
  go_wp2_with (at_builtin; refine wpList_append_els (B := w.heap.size) (A' := A') (n' := n') (c' := c') (src := bs) (Lst.more (Lst.below HE.out.2.1 H2.out.2) H2.out.2.size) HE.out.2.2.2 HI.out.1 HI.out.2.1 HI.out.2.2.1 HI.out.2.2.2 H2.out.1 H2.out.2.size (by omega) (by omega) _ _ rfl rfl rfl rfl ?_)
  intro v3 w3 ho3 hg3
  have hb3 : Below w.heap.size w w3 := H2.out.2.grown hg3 H2.out.2.size (fun k h => (H2.out.1.lt k h).1)
  have H3 := Lib.hid (show _ ∧ _ from ⟨ho3, hb3⟩)
  clear ho3 hb3 hg3
  go_wp2_with fail
  rw [rounds_succ]
  go_wp2_with fail
  go_ret
  exact ⟨_, rfl, by rw [List.flatMap_append]; simpa using H3.out.1, H3.out.2⟩
end Go.Proofs.YtajaijidecomdaaGreatDoor
namespace Go.Proofs.YtajaijidecomdaaGreatDoor
open Go.RowKit Go.Lib

/-- Or: by the law. -/
def vecOr (kf : List Lb → ByteArray) (a b : List El) : Int × List El := if formL a && formL b then (0, srtL (a ++ siftL kf b a false)) else (253, [])
/-- What is put behind a vector. -/
theorem or_cat (A A3 : Option Addr) (na ca n3 c3 : Nat) (xs os bs : List Ev) (w w3 : World) (hA : Els w w.heap.size A na ca xs) (hB : ∃ Bp nb cb, Els w w.heap.size Bp nb cb bs) (hold : Below w.heap.size w w3) (hr : w3.ownsRow w.heap.size 90 2 (.slice A3 n3 c3) n3 (os.flatMap encEv)) (hin : ∀ o ∈ os, o ∈ bs) (hfew : na + n3 ≤ 100000) (W : World) (hW : Below w3.heap.size w3 W) (hlt : w3.heap.size < W.heap.size)
    (h0 : W.cell? ⟨w3.heap.size, 0, none⟩ = some (.slice A na ca)) (h1 : W.cell? ⟨w3.heap.size, 1, none⟩ = some (.slice A3 n3 c3)) :
    Calls Tryz.prog 93 #[.slice (some ⟨w3.heap.size, 0, none⟩) 2 2] W
      fun e w4 => ∃ v4 n4 c4 os4, e = .returned (.slice v4 n4 c4) ∧ Els w4 w4.heap.size v4 n4 c4 os4 ∧ os4.map Ev.el = xs.map Ev.el ++ os.map Ev.el ∧ Below w.heap.size w3 w4 := by
  have hWb : Below w.heap.size w W := hold.trans (hW.mono hold.size)
  have hr' := owns_below hr hW
  obtain ⟨l1, l2, l3⟩ := owns_lst hr' encEv_len (by omega)
  have hAW := hA.on hWb
  refine (concatE_any A A3 na ca n3 c3 xs os w3.heap.size W hAW.lst l1 hA.nil l2 (by omega) (by omega) h0 h1 hlt).mono ?_
  rintro e w4 ⟨v4, rfl, ho4, hb4⟩
  obtain ⟨Bp, nb, cb, hB⟩ := hB
  obtain ⟨A4, c4, rfl, _, _⟩ := owns_slice ho4
  obtain ⟨m1, m2, m3⟩ := owns_lst ho4 encEv_len (by omega)
  have hb : Below w.heap.size w w4 := hWb.trans (hb4.mono hWb.size)
  refine ⟨A4, na + n3, c4, xs ++ os, rfl, ⟨m1, m2, hfew, fun o ho => ?_⟩, by simp, (hW.mono hold.size).trans (hb4.mono hWb.size)⟩
  rcases List.mem_append.1 ho with h | h
  · exact (hA.on hb).each o h
  · exact (hB.on hb).each o (hin o h)
set_option maxHeartbeats 8000000 in
set_option maxRecDepth 100000 in
theorem vectors_or (isBool : Bool) (m : Mv) (hm0 : m.card = 0) (A B : Option Addr) (na ca nb cb : Nat) (xs bs : List Ev) (w : World) (hA : Els w w.heap.size A na ca xs) (hB : Els w w.heap.size B nb cb bs) (hM : Mat w w.heap.size m) (hfew : na + nb ≤ 100000) :
    Calls Tryz.prog 24 #[.int .u8 15, .bool isBool, valM m, .slice A na ca, .slice B nb cb] w (DonePost (vecOr (keyT m.on m.ls) (xs.map Ev.el) (bs.map Ev.el)) w) := by
  have hb0 : Below w.heap.size w (w.alloc (.cells #[.int .u8 0, .bool m.on, .slice m.LA m.Ln m.Lc, .slice m.IA m.In m.Ic] 80)) := (Below.refl _ _).alloc (Nat.le_refl _) _
  have hmb : MB (w.alloc (.cells #[.int .u8 0, .bool m.on, .slice m.LA m.Ln m.Lc, .slice m.IA m.In m.Ic] 80)) w.heap.size m := by
    unfold MB
    rw [hm0]
    exact heap_alloc_new _ _
  have hfa := form_any A na ca xs _ (hA.on hb0)
  have hfb := fun W (h : Below w.heap.size w W) => form_any B nb cb bs W (hB.on h)
  have hsf := fun W (h : Below w.heap.size w W) => sift_any B A nb cb na ca bs xs m false W (hB.on h) (hA.on h) (hM.on h)
  unfold vecOr
  obtain ⟨fa, hfae⟩ : ∃ f, formL (xs.map Ev.el) = f := ⟨_, rfl⟩
  obtain ⟨fb, hfbe⟩ : ∃ f, formL (bs.map Ev.el) = f := ⟨_, rfl⟩
  rw [hfae] at hfa ⊢
  rw [hfbe] at hfb ⊢
  have hvm : valM m = .agg #[.int .u8 0, .bool m.on, .slice m.LA m.Ln m.Lc, .slice m.IA m.In m.Ic] := by
    unfold valM
    rw [hm0]
  simp only [hvm] at hsf
  rw [hvm]
  have hsz : w.heap.size < (w.alloc (.cells #[.int .u8 0, .bool m.on, .slice m.LA m.Ln m.Lc, .slice m.IA m.In m.Ic] 80)).heap.size := by simp
  obtain ⟨m0, m1, m2, m3⟩ := hmb.cells
  rw [hm0] at m0
  have HC := Lib.hid (show _ ∧ _ ∧ _ ∧ _ ∧ _ ∧ _ ∧ _ from ⟨hfa, hfb, hsf, hb0, hmb, (show _ ∧ _ from ⟨hA, hB⟩), hsz⟩)
  clear hfa hfb hsf hb0 hmb hA hB hM hfae hfbe hsz
  have HM0 := Lib.hid hm0
  clear hm0 hvm
  cases fa with
  | false =>
      rw [Bool.false_and, if_neg (by decide)]
      go_enter Tryz.func24, Tryz.ntmps24
      go_wp2_with (first | (go_at_call 52; refine HC.out.1.mono ?_; rintro e w1 ⟨rfl, hb1⟩; have H1 := Lib.hid (HC.out.2.2.2.1.trans (hb1.mono HC.out.2.2.2.1.size)); clear hb1))
      exact bodyPost_ret (v := .tuple #[.slice none 0 0, .int .u16 253]) (by simp [results, Tryz.results24, go_sem]) rfl ⟨.slice none 0 0, [], rfl, OutEv.nil _ _, rfl, H1.out⟩
  | true =>
    cases fb with
    | false =>
        rw [Bool.true_and, if_neg (by decide)]
        go_enter Tryz.func24, Tryz.ntmps24
        go_wp2_with (first
          | (go_at_call 52; refine (HC.out.2.1 _ H1.out).mono ?_; rintro e w2 ⟨rfl, hb2⟩; have H2 := Lib.hid (H1.out.trans (hb2.mono H1.out.size)); clear hb2)
          | (go_at_call 52; refine HC.out.1.mono ?_; rintro e w1 ⟨rfl, hb1⟩; have H1 := Lib.hid (HC.out.2.2.2.1.trans (hb1.mono HC.out.2.2.2.1.size)); clear hb1))
        exact bodyPost_ret (v := .tuple #[.slice none 0 0, .int .u16 253]) (by simp [results, Tryz.results24, go_sem]) rfl ⟨.slice none 0 0, [], rfl, OutEv.nil _ _, rfl, H2.out⟩
    | true =>
        rw [Bool.true_and, if_pos rfl]
        go_enter Tryz.func24, Tryz.ntmps24
        go_wp2_with (first
          | (go_at_call 52; refine (HC.out.2.1 _ H1.out.1).mono ?_; rintro e w2 ⟨rfl, hb2⟩; have hmb2 : MB w2 w.heap.size m := (hb2.block _ H1.out.2.2).trans H1.out.2.1; obtain ⟨c0, c1, c2, c3⟩ := hmb2.cells; rw [HM0.out] at c0; have H2 := Lib.hid (H1.out.1.trans (hb2.mono H1.out.1.size)); clear hb2 hmb2)
          | (go_at_call 52; refine HC.out.1.mono ?_; rintro e w1 ⟨rfl, hb1⟩; have H1 := Lib.hid (show _ ∧ _ ∧ _ from ⟨HC.out.2.2.2.1.trans (hb1.mono HC.out.2.2.2.1.size), (show MB w1 w.heap.size m from (hb1.block _ HC.out.2.2.2.2.2.2).trans HC.out.2.2.2.2.1), Nat.lt_of_lt_of_le HC.out.2.2.2.2.2.2 hb1.size⟩); clear hb1)
          | (go_at_call 92; refine (HC.out.2.2.1 _ H2.out).mono ?_; rintro e w3 ⟨v3, os, rfl, hr, hel, hin, hle, hb3⟩; obtain ⟨A3, c3', rfl, _, _⟩ := owns_slice hr; have hold3 := H2.out.trans (hb3.mono H2.out.size); have hk := or_cat A A3 na ca os.length c3' xs os bs w w3 HC.out.2.2.2.2.2.1.1 ⟨B, nb, cb, HC.out.2.2.2.2.2.1.2⟩ hold3 (owns_base (B' := w.heap.size) hr H2.out.size) hin (by have hq := HC.out.2.2.2.2.2.1.2.lst.1; omega); simp only [hel] at hk; have H3 := Lib.hid (show _ ∧ _ from ⟨hk, hold3⟩); clear hr hel hin hle hb3 hold3 hk)
          | (go_at_call 93; refine (H3.out.1 _ ((Below.refl _ _).alloc (Nat.le_refl _) _) (by simp) (by first | rfl | simp) (by first | rfl | simp)).mono ?_; rintro e w4 ⟨v4, n4, c4, os4, rfl, he4, hm4, hb4⟩; have hso := sorted_any v4 n4 c4 os4 w4 he4; rw [hm4] at hso; have H4 := Lib.hid (show _ ∧ _ from ⟨hso, H3.out.2.trans hb4⟩); clear he4 hm4 hb4 hso)
          | (go_at_call 27; refine H4.out.1.mono ?_; rintro e w5 ⟨v5, os5, rfl, hO, hm, hb5⟩; have H5 := Lib.hid (show _ ∧ _ ∧ _ from ⟨hO.base H4.out.2.size, hm, H4.out.2.trans (hb5.mono H4.out.2.size)⟩); clear hO hm hb5))
        exact bodyPost_ret (v := .tuple #[v5, .int .u16 0]) (by simp [results, Tryz.results24, go_sem]) rfl ⟨v5, os5, rfl, H5.out.1, H5.out.2.1, H5.out.2.2⟩
end Go.Proofs.YtajaijidecomdaaGreatDoor
