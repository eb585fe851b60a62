/- vec.Vectors, one to one: and, unless, joining. vec.Vectors, one to one: or. long of chapter 25: are there more names than is asked? -/
import Derived.Test.YtajaijidecomdaaGreatDoorVJoinW
import Derived.Test.YtajaijidecomdaaGreatDoorG39
namespace Go.Proofs.YtajaijidecomdaaGreatDoor
open Go.RowKit Go.Lib

theorem resCon_none (m : Mv) (plain : Bool) (hm0 : m.card = 0) : ResCon m plain fun l _ => resL m.on m.ls plain l :=
  fun x z W hx hz hM => result_none m plain x.A z.A x.n x.c z.n z.c x.l W hm0 hM hx.lst hx.few hx.fine
/-- And, unless: by the law. -/
def vecSift (kf : List Lb → ByteArray) (inn : Bool) (a b : List El) : Int × List El := if formL a && formL b then (0, srtL (siftL kf a b inn)) else (253, [])
def vecJoin (kf : List Lb → ByteArray) (card : Int) (nf : UInt64 → UInt64 → UInt64 × Bool) (resF : List Lb → List Lb → List Lb) (a b : List El) : Int × List El := if formL a && formL b then (if card = 3 then joinL kf card nf resF a b else joinL kf card nf resF b a) else (253, [])
def siftOp (inn : Bool) : Int := if inn then 14 else 16
set_option maxHeartbeats 8000000 in
set_option maxRecDepth 100000 in
theorem vectors_sift (inn isBool : Bool) (m : Mv) (hm0 : m.card = 0) (A B : Option Addr) (na ca nb cb : Nat) (xs bs : List Ev) (w : World) (hA : Els w w.heap.size A na ca xs) (hB : Els w w.heap.size B nb cb bs) (hM : Mat w w.heap.size m) :
    Calls Tryz.prog 24 #[.int .u8 (siftOp inn), .bool isBool, valM m, .slice A na ca, .slice B nb cb] w (DonePost (vecSift (keyT m.on m.ls) inn (xs.map Ev.el) (bs.map Ev.el)) w) := by
  have hb0 : Below w.heap.size w (w.alloc (.cells #[.int .u8 0, .bool m.on, .slice m.LA m.Ln m.Lc, .slice m.IA m.In m.Ic] 80)) := (Below.refl _ _).alloc (Nat.le_refl _) _
  have hmb : MB (w.alloc (.cells #[.int .u8 0, .bool m.on, .slice m.LA m.Ln m.Lc, .slice m.IA m.In m.Ic] 80)) w.heap.size m := by
    unfold MB
    rw [hm0]
    exact heap_alloc_new _ _
  have hfa := form_any A na ca xs _ (hA.on hb0)
  have hfb := fun W (h : Below w.heap.size w W) => form_any B nb cb bs W (hB.on h)
  have hsf := fun W (h : Below w.heap.size w W) => sift_any A B na ca nb cb xs bs m inn W (hA.on h) (hB.on h) (hM.on h)
  unfold vecSift
  obtain ⟨fa, hfae⟩ : ∃ f, formL (xs.map Ev.el) = f := ⟨_, rfl⟩
  obtain ⟨fb, hfbe⟩ : ∃ f, formL (bs.map Ev.el) = f := ⟨_, rfl⟩
  rw [hfae] at hfa ⊢
  rw [hfbe] at hfb ⊢
  have hvm : valM m = .agg #[.int .u8 0, .bool m.on, .slice m.LA m.Ln m.Lc, .slice m.IA m.In m.Ic] := by
    unfold valM
    rw [hm0]
  simp only [hvm] at hsf
  rw [hvm]
  have hsz : w.heap.size < (w.alloc (.cells #[.int .u8 0, .bool m.on, .slice m.LA m.Ln m.Lc, .slice m.IA m.In m.Ic] 80)).heap.size := by simp
  have hnil := hA.few
  have hla := hA.lst.1
  obtain ⟨m0, m1, m2, m3⟩ := hmb.cells
  rw [hm0] at m0
  have HC := Lib.hid (show _ ∧ _ ∧ _ ∧ _ ∧ _ ∧ _ ∧ _ from ⟨hfa, hfb, hsf, hb0, hmb, hA, hsz⟩)
  clear hfa hfb hsf hb0 hmb hA hB hM hfae hfbe hsz
  have HM0 := Lib.hid hm0
  clear hm0 hvm
  cases fa with
  | false =>
    cases inn
    all_goals
      rw [Bool.false_and, if_neg (by decide)]
      unfold siftOp
      go_enter Tryz.func24, Tryz.ntmps24
      go_wp2_with (first | (go_at_call 52; refine HC.out.1.mono ?_; rintro e w1 ⟨rfl, hb1⟩; have H1 := Lib.hid (HC.out.2.2.2.1.trans (hb1.mono HC.out.2.2.2.1.size)); clear hb1))
      exact bodyPost_ret (v := .tuple #[.slice none 0 0, .int .u16 253]) (by simp [results, Tryz.results24, go_sem]) rfl ⟨.slice none 0 0, [], rfl, OutEv.nil _ _, rfl, H1.out⟩
  | true =>
    cases fb with
    | false =>
      cases inn
      all_goals
        rw [Bool.true_and, if_neg (by decide)]
        unfold siftOp
        go_enter Tryz.func24, Tryz.ntmps24
        go_wp2_with (first
          | (go_at_call 52; refine (HC.out.2.1 _ H1.out).mono ?_; rintro e w2 ⟨rfl, hb2⟩; have H2 := Lib.hid (H1.out.trans (hb2.mono H1.out.size)); clear hb2)
          | (go_at_call 52; refine HC.out.1.mono ?_; rintro e w1 ⟨rfl, hb1⟩; have H1 := Lib.hid (HC.out.2.2.2.1.trans (hb1.mono HC.out.2.2.2.1.size)); clear hb1))
        exact bodyPost_ret (v := .tuple #[.slice none 0 0, .int .u16 253]) (by simp [results, Tryz.results24, go_sem]) rfl ⟨.slice none 0 0, [], rfl, OutEv.nil _ _, rfl, H2.out⟩
    | true =>
      cases inn
      all_goals
        rw [Bool.true_and, if_pos rfl]
        unfold siftOp
        go_enter Tryz.func24, Tryz.ntmps24
        go_wp2_with (first
          | (go_at_call 52; refine (HC.out.2.1 _ H1.out.1).mono ?_; rintro e w2 ⟨rfl, hb2⟩; have hmb2 : MB w2 w.heap.size m := (hb2.block _ H1.out.2.2).trans H1.out.2.1; obtain ⟨c0, c1, c2, c3⟩ := hmb2.cells; rw [HM0.out] at c0; have H2 := Lib.hid (H1.out.1.trans (hb2.mono H1.out.1.size)); clear hb2 hmb2)
          | (go_at_call 52; refine HC.out.1.mono ?_; rintro e w1 ⟨rfl, hb1⟩; have H1 := Lib.hid (show _ ∧ _ ∧ _ from ⟨HC.out.2.2.2.1.trans (hb1.mono HC.out.2.2.2.1.size), (show MB w1 w.heap.size m from (hb1.block _ HC.out.2.2.2.2.2.2).trans HC.out.2.2.2.2.1), Nat.lt_of_lt_of_le HC.out.2.2.2.2.2.2 hb1.size⟩); clear hb1)
          | (go_at_call 92; refine (HC.out.2.2.1 _ H2.out).mono ?_; rintro e w3 ⟨v3, os, rfl, hr, hel, hin, hle, hb3⟩; obtain ⟨A3, c3', rfl, _, _⟩ := owns_slice hr; have hold3 := H2.out.trans (hb3.mono H2.out.size); have hels := row_els (owns_base (B' := w.heap.size) hr H2.out.size) (fun o ho => .inl (HC.out.2.2.2.2.2.1.each o (hin o ho))) hold3 (by omega); have hso := sorted_any A3 os.length c3' os w3 hels; rw [hel] at hso; have H3 := Lib.hid (show _ ∧ _ from ⟨hso, hold3⟩); clear hr hel hin hle hb3 hold3 hels hso)
          | (go_at_call 27; refine H3.out.1.mono ?_; rintro e w4 ⟨v4, os4, rfl, hO, hm, hb4⟩; have H4 := Lib.hid (show _ ∧ _ ∧ _ from ⟨hO.base H3.out.2.size, hm, H3.out.2.trans (hb4.mono H3.out.2.size)⟩); clear hO hm hb4))
        exact bodyPost_ret (v := .tuple #[v4, .int .u16 0]) (by simp [results, Tryz.results24, go_sem]) rfl ⟨v4, os4, rfl, H4.out.1, H4.out.2.1, H4.out.2.2⟩
set_option maxHeartbeats 8000000 in
set_option maxRecDepth 100000 in
theorem vectors_join (op : Int) (hop : 1 ≤ op ∧ op ≤ 13) (isBool cb' : Bool) (nf : UInt64 → UInt64 → UInt64 × Bool) (hnum : NumCon op isBool nf) (hcmp : CmpCon op cb') (m : Mv) (hm0 : m.card = 0) (A B : Option Addr) (na ca nb cb : Nat) (xs bs : List Ev) (w : World) (hA : Els w w.heap.size A na ca xs) (hB : Els w w.heap.size B nb cb bs) (hM : Mat w w.heap.size m) :
    Calls Tryz.prog 24 #[.int .u8 op, .bool isBool, valM m, .slice A na ca, .slice B nb cb] w (DonePost (vecJoin (keyT m.on m.ls) 0 nf (fun l _ => resL m.on m.ls (cb' && !isBool) l) (xs.map Ev.el) (bs.map Ev.el)) w) := by
  have hb0 : Below w.heap.size w (w.alloc (.cells #[.int .u8 0, .bool m.on, .slice m.LA m.Ln m.Lc, .slice m.IA m.In m.Ic] 80)) := (Below.refl _ _).alloc (Nat.le_refl _) _
  have hmb : MB (w.alloc (.cells #[.int .u8 0, .bool m.on, .slice m.LA m.Ln m.Lc, .slice m.IA m.In m.Ic] 80)) w.heap.size m := by
    unfold MB
    rw [hm0]
    exact heap_alloc_new _ _
  have hfa := form_any A na ca xs _ (hA.on hb0)
  have hfb := fun W (h : Below w.heap.size w W) => form_any B nb cb bs W (hB.on h)
  have hjn := fun W (h : Below w.heap.size w W) => join_left op isBool cb' nf hnum hcmp _ m (resCon_none m (cb' && !isBool) hm0) (fun x z hx _ => fine_res hx m.on m.ls _) (by omega) B A nb cb na ca bs xs W (hB.on h) (hA.on h) (hM.on h)
  unfold vecJoin
  rw [if_neg (show ¬ (0 : Int) = 3 by omega)]
  simp only [hm0] at hjn
  obtain ⟨fa, hfae⟩ : ∃ f, formL (xs.map Ev.el) = f := ⟨_, rfl⟩
  obtain ⟨fb, hfbe⟩ : ∃ f, formL (bs.map Ev.el) = f := ⟨_, rfl⟩
  rw [hfae] at hfa ⊢
  rw [hfbe] at hfb ⊢
  have hvm : valM m = .agg #[.int .u8 0, .bool m.on, .slice m.LA m.Ln m.Lc, .slice m.IA m.In m.Ic] := by
    unfold valM
    rw [hm0]
  simp only [hvm] at hjn
  rw [hvm]
  have hsz : w.heap.size < (w.alloc (.cells #[.int .u8 0, .bool m.on, .slice m.LA m.Ln m.Lc, .slice m.IA m.In m.Ic] 80)).heap.size := by simp
  obtain ⟨m0, m1, m2, m3⟩ := hmb.cells
  rw [hm0] at m0
  have HC := Lib.hid (show _ ∧ _ ∧ _ ∧ _ ∧ _ ∧ _ from ⟨hfa, hfb, hjn, hb0, hmb, hsz⟩)
  clear hfa hfb hjn hb0 hmb hA hB hM hfae hfbe hsz hnum hcmp
  have HM0 := Lib.hid hm0
  clear hm0 hvm
  have h1 : ¬ (14 : Int) ≤ op := by omega
  have h2 : ¬ op < 1 := by omega
  have h3 : ¬ (16 : Int) < op := by omega
  have h4 : (op == 14) = false := beq_eq_false_iff_ne.2 (by omega)
  have h5 : (op == 15) = false := beq_eq_false_iff_ne.2 (by omega)
  have h6 : (op == 16) = false := beq_eq_false_iff_ne.2 (by omega)
  cases fa with
  | false =>
    rw [Bool.false_and, if_neg (by decide)]
    go_enter Tryz.func24, Tryz.ntmps24
    go_wp2_with (first | (go_at_call 52; refine HC.out.1.mono ?_; rintro e w1 ⟨rfl, hb1⟩; have H1 := Lib.hid (HC.out.2.2.2.1.trans (hb1.mono HC.out.2.2.2.1.size)); clear hb1))
    exact bodyPost_ret (v := .tuple #[.slice none 0 0, .int .u16 253]) (by simp [results, Tryz.results24, go_sem]) rfl ⟨.slice none 0 0, [], rfl, OutEv.nil _ _, rfl, H1.out⟩
  | true =>
    cases fb with
    | false =>
      rw [Bool.true_and, if_neg (by decide)]
      go_enter Tryz.func24, Tryz.ntmps24
      go_wp2_with (first
        | (go_at_call 52; refine (HC.out.2.1 _ H1.out).mono ?_; rintro e w2 ⟨rfl, hb2⟩; have H2 := Lib.hid (H1.out.trans (hb2.mono H1.out.size)); clear hb2)
        | (go_at_call 52; refine HC.out.1.mono ?_; rintro e w1 ⟨rfl, hb1⟩; have H1 := Lib.hid (HC.out.2.2.2.1.trans (hb1.mono HC.out.2.2.2.1.size)); clear hb1))
      exact bodyPost_ret (v := .tuple #[.slice none 0 0, .int .u16 253]) (by simp [results, Tryz.results24, go_sem]) rfl ⟨.slice none 0 0, [], rfl, OutEv.nil _ _, rfl, H2.out⟩
    | true =>
      rw [Bool.true_and, if_pos rfl]
      go_enter Tryz.func24, Tryz.ntmps24
      go_wp2_with (first
        | (go_at_call 52; refine (HC.out.2.1 _ H1.out.1).mono ?_; rintro e w2 ⟨rfl, hb2⟩; have hmb2 : MB w2 w.heap.size m := (hb2.block _ H1.out.2.2).trans H1.out.2.1; obtain ⟨c0, c1, c2, c3⟩ := hmb2.cells; rw [HM0.out] at c0; have H2 := Lib.hid (H1.out.1.trans (hb2.mono H1.out.1.size)); clear hb2 hmb2)
        | (go_at_call 52; refine HC.out.1.mono ?_; rintro e w1 ⟨rfl, hb1⟩; have H1 := Lib.hid (show _ ∧ _ ∧ _ from ⟨HC.out.2.2.2.1.trans (hb1.mono HC.out.2.2.2.1.size), (show MB w1 w.heap.size m from (hb1.block _ HC.out.2.2.2.2.2).trans HC.out.2.2.2.2.1), Nat.lt_of_lt_of_le HC.out.2.2.2.2.2 hb1.size⟩); clear hb1)
        | (go_at_call 94; refine (HC.out.2.2.1 _ H2.out).mono ?_; rintro e w3 ⟨v3, os, rfl, hO, hm, hb3⟩; have H3 := Lib.hid (show _ ∧ _ ∧ _ from ⟨hO.base H2.out.size, hm, H2.out.trans (hb3.mono H2.out.size)⟩); clear hO hm hb3))
      exact bodyPost_ret (by simp [results, Tryz.results24, go_sem]) rfl ⟨v3, os, rfl, H3.out.1, H3.out.2.1, H3.out.2.2⟩
end Go.Proofs.YtajaijidecomdaaGreatDoor
namespace Go.Proofs.YtajaijidecomdaaGreatDoor
open Go.RowKit Go.Lib

/-- Or: by the law. -/
def vecOr (kf : List Lb → ByteArray) (a b : List El) : Int × List El := if formL a && formL b then (0, srtL (a ++ siftL kf b a false)) else (253, [])
/-- What is put behind a vector. -/
theorem or_cat (A A3 : Option Addr) (na ca n3 c3 : Nat) (xs os bs : List Ev) (w w3 : World) (hA : Els w w.heap.size A na ca xs) (hB : ∃ Bp nb cb, Els w w.heap.size Bp nb cb bs) (hold : Below w.heap.size w w3) (hr : w3.ownsRow w.heap.size 90 2 (.slice A3 n3 c3) n3 (os.flatMap encEv)) (hin : ∀ o ∈ os, o ∈ bs) (hfew : na + n3 ≤ 100000) (W : World) (hW : Below w3.heap.size w3 W) (hlt : w3.heap.size < W.heap.size)
    (h0 : W.cell? ⟨w3.heap.size, 0, none⟩ = some (.slice A na ca)) (h1 : W.cell? ⟨w3.heap.size, 1, none⟩ = some (.slice A3 n3 c3)) :
    Calls Tryz.prog 93 #[.slice (some ⟨w3.heap.size, 0, none⟩) 2 2] W
      fun e w4 => ∃ v4 n4 c4 os4, e = .returned (.slice v4 n4 c4) ∧ Els w4 w4.heap.size v4 n4 c4 os4 ∧ os4.map Ev.el = xs.map Ev.el ++ os.map Ev.el ∧ Below w.heap.size w3 w4 := by
  have hWb : Below w.heap.size w W := hold.trans (hW.mono hold.size)
  have hr' := owns_below hr hW
  obtain ⟨l1, l2, l3⟩ := owns_lst hr' encEv_len (by omega)
  have hAW := hA.on hWb
  refine (concatE_any A A3 na ca n3 c3 xs os w3.heap.size W hAW.lst l1 hA.nil l2 (by omega) (by omega) h0 h1 hlt).mono ?_
  rintro e w4 ⟨v4, rfl, ho4, hb4⟩
  obtain ⟨Bp, nb, cb, hB⟩ := hB
  obtain ⟨A4, c4, rfl, _, _⟩ := owns_slice ho4
  obtain ⟨m1, m2, m3⟩ := owns_lst ho4 encEv_len (by omega)
  have hb : Below w.heap.size w w4 := hWb.trans (hb4.mono hWb.size)
  refine ⟨A4, na + n3, c4, xs ++ os, rfl, ⟨m1, m2, hfew, fun o ho => ?_⟩, by simp, (hW.mono hold.size).trans (hb4.mono hWb.size)⟩
  rcases List.mem_append.1 ho with h | h
  · exact (hA.on hb).each o h
  · exact (hB.on hb).each o (hin o h)
set_option maxHeartbeats 8000000 in
set_option maxRecDepth 100000 in
theorem vectors_or (isBool : Bool) (m : Mv) (hm0 : m.card = 0) (A B : Option Addr) (na ca nb cb : Nat) (xs bs : List Ev) (w : World) (hA : Els w w.heap.size A na ca xs) (hB : Els w w.heap.size B nb cb bs) (hM : Mat w w.heap.size m) (hfew : na + nb ≤ 100000) :
    Calls Tryz.prog 24 #[.int .u8 15, .bool isBool, valM m, .slice A na ca, .slice B nb cb] w (DonePost (vecOr (keyT m.on m.ls) (xs.map Ev.el) (bs.map Ev.el)) w) := by
  have hb0 : Below w.heap.size w (w.alloc (.cells #[.int .u8 0, .bool m.on, .slice m.LA m.Ln m.Lc, .slice m.IA m.In m.Ic] 80)) := (Below.refl _ _).alloc (Nat.le_refl _) _
  have hmb : MB (w.alloc (.cells #[.int .u8 0, .bool m.on, .slice m.LA m.Ln m.Lc, .slice m.IA m.In m.Ic] 80)) w.heap.size m := by
    unfold MB
    rw [hm0]
    exact heap_alloc_new _ _
  have hfa := form_any A na ca xs _ (hA.on hb0)
  have hfb := fun W (h : Below w.heap.size w W) => form_any B nb cb bs W (hB.on h)
  have hsf := fun W (h : Below w.heap.size w W) => sift_any B A nb cb na ca bs xs m false W (hB.on h) (hA.on h) (hM.on h)
  unfold vecOr
  obtain ⟨fa, hfae⟩ : ∃ f, formL (xs.map Ev.el) = f := ⟨_, rfl⟩
  obtain ⟨fb, hfbe⟩ : ∃ f, formL (bs.map Ev.el) = f := ⟨_, rfl⟩
  rw [hfae] at hfa ⊢
  rw [hfbe] at hfb ⊢
  have hvm : valM m = .agg #[.int .u8 0, .bool m.on, .slice m.LA m.Ln m.Lc, .slice m.IA m.In m.Ic] := by
    unfold valM
    rw [hm0]
  simp only [hvm] at hsf
  rw [hvm]
  have hsz : w.heap.size < (w.alloc (.cells #[.int .u8 0, .bool m.on, .slice m.LA m.Ln m.Lc, .slice m.IA m.In m.Ic] 80)).heap.size := by simp
  obtain ⟨m0, m1, m2, m3⟩ := hmb.cells
  rw [hm0] at m0
  have HC := Lib.hid (show _ ∧ _ ∧ _ ∧ _ ∧ _ ∧ _ ∧ _ from ⟨hfa, hfb, hsf, hb0, hmb, (show _ ∧ _ from ⟨hA, hB⟩), hsz⟩)
  clear hfa hfb hsf hb0 hmb hA hB hM hfae hfbe hsz
  have HM0 := Lib.hid hm0
  clear hm0 hvm
  cases fa with
  | false =>
      rw [Bool.false_and, if_neg (by decide)]
      go_enter Tryz.func24, Tryz.ntmps24
      go_wp2_with (first | (go_at_call 52; refine HC.out.1.mono ?_; rintro e w1 ⟨rfl, hb1⟩; have H1 := Lib.hid (HC.out.2.2.2.1.trans (hb1.mono HC.out.2.2.2.1.size)); clear hb1))
      exact bodyPost_ret (v := .tuple #[.slice none 0 0, .int .u16 253]) (by simp [results, Tryz.results24, go_sem]) rfl ⟨.slice none 0 0, [], rfl, OutEv.nil _ _, rfl, H1.out⟩
  | true =>
    cases fb with
    | false =>
        rw [Bool.true_and, if_neg (by decide)]
        go_enter Tryz.func24, Tryz.ntmps24
        go_wp2_with (first
          | (go_at_call 52; refine (HC.out.2.1 _ H1.out).mono ?_; rintro e w2 ⟨rfl, hb2⟩; have H2 := Lib.hid (H1.out.trans (hb2.mono H1.out.size)); clear hb2)
          | (go_at_call 52; refine HC.out.1.mono ?_; rintro e w1 ⟨rfl, hb1⟩; have H1 := Lib.hid (HC.out.2.2.2.1.trans (hb1.mono HC.out.2.2.2.1.size)); clear hb1))
        exact bodyPost_ret (v := .tuple #[.slice none 0 0, .int .u16 253]) (by simp [results, Tryz.results24, go_sem]) rfl ⟨.slice none 0 0, [], rfl, OutEv.nil _ _, rfl, H2.out⟩
    | true =>
        rw [Bool.true_and, if_pos rfl]
        go_enter Tryz.func24, Tryz.ntmps24
        go_wp2_with (first
          | (go_at_call 52; refine (HC.out.2.1 _ H1.out.1).mono ?_; rintro e w2 ⟨rfl, hb2⟩; have hmb2 : MB w2 w.heap.size m := (hb2.block _ H1.out.2.2).trans H1.out.2.1; obtain ⟨c0, c1, c2, c3⟩ := hmb2.cells; rw [HM0.out] at c0; have H2 := Lib.hid (H1.out.1.trans (hb2.mono H1.out.1.size)); clear hb2 hmb2)
          | (go_at_call 52; refine HC.out.1.mono ?_; rintro e w1 ⟨rfl, hb1⟩; have H1 := Lib.hid (show _ ∧ _ ∧ _ from ⟨HC.out.2.2.2.1.trans (hb1.mono HC.out.2.2.2.1.size), (show MB w1 w.heap.size m from (hb1.block _ HC.out.2.2.2.2.2.2).trans HC.out.2.2.2.2.1), Nat.lt_of_lt_of_le HC.out.2.2.2.2.2.2 hb1.size⟩); clear hb1)
          | (go_at_call 92; refine (HC.out.2.2.1 _ H2.out).mono ?_; rintro e w3 ⟨v3, os, rfl, hr, hel, hin, hle, hb3⟩; obtain ⟨A3, c3', rfl, _, _⟩ := owns_slice hr; have hold3 := H2.out.trans (hb3.mono H2.out.size); have hk := or_cat A A3 na ca os.length c3' xs os bs w w3 HC.out.2.2.2.2.2.1.1 ⟨B, nb, cb, HC.out.2.2.2.2.2.1.2⟩ hold3 (owns_base (B' := w.heap.size) hr H2.out.size) hin (by have hq := HC.out.2.2.2.2.2.1.2.lst.1; omega); simp only [hel] at hk; have H3 := Lib.hid (show _ ∧ _ from ⟨hk, hold3⟩); clear hr hel hin hle hb3 hold3 hk)
          | (go_at_call 93; refine (H3.out.1 _ ((Below.refl _ _).alloc (Nat.le_refl _) _) (by simp) (by first | rfl | simp) (by first | rfl | simp)).mono ?_; rintro e w4 ⟨v4, n4, c4, os4, rfl, he4, hm4, hb4⟩; have hso := sorted_any v4 n4 c4 os4 w4 he4; rw [hm4] at hso; have H4 := Lib.hid (show _ ∧ _ from ⟨hso, H3.out.2.trans hb4⟩); clear he4 hm4 hb4 hso)
          | (go_at_call 27; refine H4.out.1.mono ?_; rintro e w5 ⟨v5, os5, rfl, hO, hm, hb5⟩; have H5 := Lib.hid (show _ ∧ _ ∧ _ from ⟨hO.base H4.out.2.size, hm, H4.out.2.trans (hb5.mono H4.out.2.size)⟩); clear hO hm hb5))
        exact bodyPost_ret (v := .tuple #[v5, .int .u16 0]) (by simp [results, Tryz.results24, go_sem]) rfl ⟨v5, os5, rfl, H5.out.1, H5.out.2.1, H5.out.2.2⟩
end Go.Proofs.YtajaijidecomdaaGreatDoor
namespace Go.Proofs.YtajaijidecomdaaGreatDoor
open Go.RowKit Go.Lib

/-- A matching that came in. -/
structure MRaw (w : World) (m : Mv) : Prop where
  lst : Lst encTx 1 w w.heap.size m.LA m.Ln m.ls
  nil : m.LA = none → m.Ln = 0 ∧ m.Lc = 0
  sz : ∀ x ∈ m.ls, x.size ≤ maxLen
  ilst : Lst encTx 1 w w.heap.size m.IA m.In m.is
  inil : m.IA = none → m.In = 0 ∧ m.Ic = 0
  isz : ∀ x ∈ m.is, x.size ≤ maxLen
def longB (m : Mv) : Bool := decide (200 < m.Ln) || decide (200 < m.In)
theorem MRaw.mat {w : World} {m : Mv} (h : MRaw w m) (hf : longB m = false) (k : Int) : Mat w w.heap.size { m with card := k } := by
  unfold longB at hf
  simp only [Bool.or_eq_false_iff, decide_eq_false_iff_not] at hf
  exact ⟨h.lst, h.nil, by show m.Ln ≤ 1000; omega, h.sz, h.ilst, h.inil, by show m.In ≤ 1000; omega, h.isz⟩
set_option maxHeartbeats 4000000 in
set_option maxRecDepth 100000 in
theorem long_any (m : Mv) (w : World) : Calls Tryz.prog 22 #[valM m] w fun e w' => e = .returned (.bool (longB m)) ∧ Below w.heap.size w w' := by
  obtain ⟨card, on, LA, Ln, Lc, ls, IA, In, Ic, is⟩ := m
  unfold longB valM
  simp only
  have hbx : Below w.heap.size w (w.alloc (.cells #[.int .u8 card, .bool on, .slice LA Ln Lc, .slice IA In Ic] 80)) := (Below.refl _ _).alloc (Nat.le_refl _) _
  have hbox : (w.alloc (.cells #[.int .u8 card, .bool on, .slice LA Ln Lc, .slice IA In Ic] 80)).heap[w.heap.size]? = some (.cells #[.int .u8 card, .bool on, .slice LA Ln Lc, .slice IA In Ic] 80 (0, 0)) := heap_alloc_new _ _
  obtain ⟨m0, m1, m2, m3⟩ := box_four hbox
  have HK := Lib.hid hbx
  clear hbx hbox
  by_cases h1 : 200 < Ln
  · rw [decide_eq_true h1, Bool.true_or]
    have h1' : (Ln : Int) > 200 := by omega
    go_enter Tryz.func22, Tryz.ntmps22
    go_wp2_with fail
    go_ret
    exact ⟨rfl, HK.out⟩
  · rw [decide_eq_false h1, Bool.false_or]
    have h1' : ¬ (Ln : Int) > 200 := by omega
    by_cases h2 : 200 < In
    · rw [decide_eq_true h2]
      have h2' : (In : Int) > 200 := by omega
      go_enter Tryz.func22, Tryz.ntmps22
      go_wp2_with fail
      go_ret
      exact ⟨rfl, HK.out⟩
    · rw [decide_eq_false h2]
      have h2' : ¬ (In : Int) > 200 := by omega
      go_enter Tryz.func22, Tryz.ntmps22
      go_wp2_with fail
      go_ret
      exact ⟨rfl, HK.out⟩
end Go.Proofs.YtajaijidecomdaaGreatDoor
