/- vec.Vectors, one to one: and, unless, joining. -/
import Derived.Test.YtajaijidecomdaaGreatDoorVJoinW
namespace Go.Proofs.YtajaijidecomdaaGreatDoor
open Go.RowKit Go.Lib

theorem resCon_none (m : Mv) (plain : Bool) (hm0 : m.card = 0) : ResCon m plain fun l _ => resL m.on m.ls plain l :=
  fun x z W hx hz hM => result_none m plain x.A z.A x.n x.c z.n z.c x.l W hm0 hM hx.lst hx.few hx.fine
/-- And, unless: by the law. -/
def vecSift (kf : List Lb → ByteArray) (inn : Bool) (a b : List El) : Int × List El := if formL a && formL b then (0, srtL (siftL kf a b inn)) else (253, [])
def vecJoin (kf : List Lb → ByteArray) (card : Int) (nf : UInt64 → UInt64 → UInt64 × Bool) (resF : List Lb → List Lb → List Lb) (a b : List El) : Int × List El := if formL a && formL b then (if card = 3 then joinL kf card nf resF a b else joinL kf card nf resF b a) else (253, [])
def siftOp (inn : Bool) : Int := if inn then 14 else 16
set_option maxHeartbeats 8000000 in
set_option maxRecDepth 100000 in
theorem vectors_sift (inn isBool : Bool) (m : Mv) (hm0 : m.card = 0) (A B : Option Addr) (na ca nb cb : Nat) (xs bs : List Ev) (w : World) (hA : Els w w.heap.size A na ca xs) (hB : Els w w.heap.size B nb cb bs) (hM : Mat w w.heap.size m) :
    Calls Tryz.prog 24 #[.int .u8 (siftOp inn), .bool isBool, valM m, .slice A na ca, .slice B nb cb] w (DonePost (vecSift (keyT m.on m.ls) inn (xs.map Ev.el) (bs.map Ev.el)) w) := by
  have hb0 : Below w.heap.size w (w.alloc (.cells #[.int .u8 0, .bool m.on, .slice m.LA m.Ln m.Lc, .slice m.IA m.In m.Ic] 80)) := (Below.refl _ _).alloc (Nat.le_refl _) _
  have hmb : MB (w.alloc (.cells #[.int .u8 0, .bool m.on, .slice m.LA m.Ln m.Lc, .slice m.IA m.In m.Ic] 80)) w.heap.size m := by
    unfold MB
    rw [hm0]
    exact heap_alloc_new _ _
  have hfa := form_any A na ca xs _ (hA.on hb0)
  have hfb := fun W (h : Below w.heap.size w W) => form_any B nb cb bs W (hB.on h)
  have hsf := fun W (h : Below w.heap.size w W) => sift_any A B na ca nb cb xs bs m inn W (hA.on h) (hB.on h) (hM.on h)
  unfold vecSift
  obtain ⟨fa, hfae⟩ : ∃ f, formL (xs.map Ev.el) = f := ⟨_, rfl⟩
  obtain ⟨fb, hfbe⟩ : ∃ f, formL (bs.map Ev.el) = f := ⟨_, rfl⟩
  rw [hfae] at hfa ⊢
  rw [hfbe] at hfb ⊢
  have hvm : valM m = .agg #[.int .u8 0, .bool m.on, .slice m.LA m.Ln m.Lc, .slice m.IA m.In m.Ic] := by
    unfold valM
    rw [hm0]
  simp only [hvm] at hsf
  rw [hvm]
  have hsz : w.heap.size < (w.alloc (.cells #[.int .u8 0, .bool m.on, .slice m.LA m.Ln m.Lc, .slice m.IA m.In m.Ic] 80)).heap.size := by simp
  have hnil := hA.few
  have hla := hA.lst.1
  obtain ⟨m0, m1, m2, m3⟩ := hmb.cells
  rw [hm0] at m0
  have HC := Lib.hid (show _ ∧ _ ∧ _ ∧ _ ∧ _ ∧ _ ∧ _ from ⟨hfa, hfb, hsf, hb0, hmb, hA, hsz⟩)
  clear hfa hfb hsf hb0 hmb hA hB hM hfae hfbe hsz
  have HM0 := Lib.hid hm0
  clear hm0 hvm
  cases fa with
  | false =>
    cases inn
    all_goals
      rw [Bool.false_and, if_neg (by decide)]
      unfold siftOp
      go_enter Tryz.func24, Tryz.ntmps24
      go_wp2_with (first | (go_at_call 52; refine HC.out.1.mono ?_; rintro e w1 ⟨rfl, hb1⟩; have H1 := Lib.hid (HC.out.2.2.2.1.trans (hb1.mono HC.out.2.2.2.1.size)); clear hb1))
      exact bodyPost_ret (v := .tuple #[.slice none 0 0, .int .u16 253]) (by simp [results, Tryz.results24, go_sem]) rfl ⟨.slice none 0 0, [], rfl, OutEv.nil _ _, rfl, H1.out⟩
  | true =>
    cases fb with
    | false =>
      cases inn
      all_goals
        rw [Bool.true_and, if_neg (by decide)]
        unfold siftOp
        go_enter Tryz.func24, Tryz.ntmps24
        go_wp2_with (first
          | (go_at_call 52; refine (HC.out.2.1 _ H1.out).mono ?_; rintro e w2 ⟨rfl, hb2⟩; have H2 := Lib.hid (H1.out.trans (hb2.mono H1.out.size)); clear hb2)
          | (go_at_call 52; refine HC.out.1.mono ?_; rintro e w1 ⟨rfl, hb1⟩; have H1 := Lib.hid (HC.out.2.2.2.1.trans (hb1.mono HC.out.2.2.2.1.size)); clear hb1))
        exact bodyPost_ret (v := .tuple #[.slice none 0 0, .int .u16 253]) (by simp [results, Tryz.results24, go_sem]) rfl ⟨.slice none 0 0, [], rfl, OutEv.nil _ _, rfl, H2.out⟩
    | true =>
      cases inn
      all_goals
        rw [Bool.true_and, if_pos rfl]
        unfold siftOp
        go_enter Tryz.func24, Tryz.ntmps24
        go_wp2_with (first
          | (go_at_call 52; refine (HC.out.2.1 _ H1.out.1).mono ?_; rintro e w2 ⟨rfl, hb2⟩; have hmb2 : MB w2 w.heap.size m := (hb2.block _ H1.out.2.2).trans H1.out.2.1; obtain ⟨c0, c1, c2, c3⟩ := hmb2.cells; rw [HM0.out] at c0; have H2 := Lib.hid (H1.out.1.trans (hb2.mono H1.out.1.size)); clear hb2 hmb2)
          | (go_at_call 52; refine HC.out.1.mono ?_; rintro e w1 ⟨rfl, hb1⟩; have H1 := Lib.hid (show _ ∧ _ ∧ _ from ⟨HC.out.2.2.2.1.trans (hb1.mono HC.out.2.2.2.1.size), (show MB w1 w.heap.size m from (hb1.block _ HC.out.2.2.2.2.2.2).trans HC.out.2.2.2.2.1), Nat.lt_of_lt_of_le HC.out.2.2.2.2.2.2 hb1.size⟩); clear hb1)
          | (go_at_call 92; refine (HC.out.2.2.1 _ H2.out).mono ?_; rintro e w3 ⟨v3, os, rfl, hr, hel, hin, hle, hb3⟩; obtain ⟨A3, c3', rfl, _, _⟩ := owns_slice hr; have hold3 := H2.out.trans (hb3.mono H2.out.size); have hels := row_els (owns_base (B' := w.heap.size) hr H2.out.size) (fun o ho => .inl (HC.out.2.2.2.2.2.1.each o (hin o ho))) hold3 (by omega); have hso := sorted_any A3 os.length c3' os w3 hels; rw [hel] at hso; have H3 := Lib.hid (show _ ∧ _ from ⟨hso, hold3⟩); clear hr hel hin hle hb3 hold3 hels hso)
          | (go_at_call 27; refine H3.out.1.mono ?_; rintro e w4 ⟨v4, os4, rfl, hO, hm, hb4⟩; have H4 := Lib.hid (show _ ∧ _ ∧ _ from ⟨hO.base H3.out.2.size, hm, H3.out.2.trans (hb4.mono H3.out.2.size)⟩); clear hO hm hb4))
        exact bodyPost_ret (v := .tuple #[v4, .int .u16 0]) (by simp [results, Tryz.results24, go_sem]) rfl ⟨v4, os4, rfl, H4.out.1, H4.out.2.1, H4.out.2.2⟩
set_option maxHeartbeats 8000000 in
set_option maxRecDepth 100000 in
theorem vectors_join (op : Int) (hop : 1 ≤ op ∧ op ≤ 13) (isBool cb' : Bool) (nf : UInt64 → UInt64 → UInt64 × Bool) (hnum : NumCon op isBool nf) (hcmp : CmpCon op cb') (m : Mv) (hm0 : m.card = 0) (A B : Option Addr) (na ca nb cb : Nat) (xs bs : List Ev) (w : World) (hA : Els w w.heap.size A na ca xs) (hB : Els w w.heap.size B nb cb bs) (hM : Mat w w.heap.size m) :
    Calls Tryz.prog 24 #[.int .u8 op, .bool isBool, valM m, .slice A na ca, .slice B nb cb] w (DonePost (vecJoin (keyT m.on m.ls) 0 nf (fun l _ => resL m.on m.ls (cb' && !isBool) l) (xs.map Ev.el) (bs.map Ev.el)) w) := by
  have hb0 : Below w.heap.size w (w.alloc (.cells #[.int .u8 0, .bool m.on, .slice m.LA m.Ln m.Lc, .slice m.IA m.In m.Ic] 80)) := (Below.refl _ _).alloc (Nat.le_refl _) _
  have hmb : MB (w.alloc (.cells #[.int .u8 0, .bool m.on, .slice m.LA m.Ln m.Lc, .slice m.IA m.In m.Ic] 80)) w.heap.size m := by
    unfold MB
    rw [hm0]
    exact heap_alloc_new _ _
  have hfa := form_any A na ca xs _ (hA.on hb0)
  have hfb := fun W (h : Below w.heap.size w W) => form_any B nb cb bs W (hB.on h)
  have hjn := fun W (h : Below w.heap.size w W) => join_left op isBool cb' nf hnum hcmp _ m (resCon_none m (cb' && !isBool) hm0) (fun x z hx _ => fine_res hx m.on m.ls _) (by omega) B A nb cb na ca bs xs W (hB.on h) (hA.on h) (hM.on h)
  unfold vecJoin
  rw [if_neg (show ¬ (0 : Int) = 3 by omega)]
  simp only [hm0] at hjn
  obtain ⟨fa, hfae⟩ : ∃ f, formL (xs.map Ev.el) = f := ⟨_, rfl⟩
  obtain ⟨fb, hfbe⟩ : ∃ f, formL (bs.map Ev.el) = f := ⟨_, rfl⟩
  rw [hfae] at hfa ⊢
  rw [hfbe] at hfb ⊢
  have hvm : valM m = .agg #[.int .u8 0, .bool m.on, .slice m.LA m.Ln m.Lc, .slice m.IA m.In m.Ic] := by
    unfold valM
    rw [hm0]
  simp only [hvm] at hjn
  rw [hvm]
  have hsz : w.heap.size < (w.alloc (.cells #[.int .u8 0, .bool m.on, .slice m.LA m.Ln m.Lc, .slice m.IA m.In m.Ic] 80)).heap.size := by simp
  obtain ⟨m0, m1, m2, m3⟩ := hmb.cells
  rw [hm0] at m0
  have HC := Lib.hid (show _ ∧ _ ∧ _ ∧ _ ∧ _ ∧ _ from ⟨hfa, hfb, hjn, hb0, hmb, hsz⟩)
  clear hfa hfb hjn hb0 hmb hA hB hM hfae hfbe hsz hnum hcmp
  have HM0 := Lib.hid hm0
  clear hm0 hvm
  have h1 : ¬ (14 : Int) ≤ op := by omega
  have h2 : ¬ op < 1 := by omega
  have h3 : ¬ (16 : Int) < op := by omega
  have h4 : (op == 14) = false := beq_eq_false_iff_ne.2 (by omega)
  have h5 : (op == 15) = false := beq_eq_false_iff_ne.2 (by omega)
  have h6 : (op == 16) = false := beq_eq_false_iff_ne.2 (by omega)
  cases fa with
  | false =>
    rw [Bool.false_and, if_neg (by decide)]
    go_enter Tryz.func24, Tryz.ntmps24
    go_wp2_with (first | (go_at_call 52; refine HC.out.1.mono ?_; rintro e w1 ⟨rfl, hb1⟩; have H1 := Lib.hid (HC.out.2.2.2.1.trans (hb1.mono HC.out.2.2.2.1.size)); clear hb1))
    exact bodyPost_ret (v := .tuple #[.slice none 0 0, .int .u16 253]) (by simp [results, Tryz.results24, go_sem]) rfl ⟨.slice none 0 0, [], rfl, OutEv.nil _ _, rfl, H1.out⟩
  | true =>
    cases fb with
    | false =>
      rw [Bool.true_and, if_neg (by decide)]
      go_enter Tryz.func24, Tryz.ntmps24
      go_wp2_with (first
        | (go_at_call 52; refine (HC.out.2.1 _ H1.out).mono ?_; rintro e w2 ⟨rfl, hb2⟩; have H2 := Lib.hid (H1.out.trans (hb2.mono H1.out.size)); clear hb2)
        | (go_at_call 52; refine HC.out.1.mono ?_; rintro e w1 ⟨rfl, hb1⟩; have H1 := Lib.hid (HC.out.2.2.2.1.trans (hb1.mono HC.out.2.2.2.1.size)); clear hb1))
      exact bodyPost_ret (v := .tuple #[.slice none 0 0, .int .u16 253]) (by simp [results, Tryz.results24, go_sem]) rfl ⟨.slice none 0 0, [], rfl, OutEv.nil _ _, rfl, H2.out⟩
    | true =>
      rw [Bool.true_and, if_pos rfl]
      go_enter Tryz.func24, Tryz.ntmps24
      go_wp2_with (first
        | (go_at_call 52; refine (HC.out.2.1 _ H1.out.1).mono ?_; rintro e w2 ⟨rfl, hb2⟩; have hmb2 : MB w2 w.heap.size m := (hb2.block _ H1.out.2.2).trans H1.out.2.1; obtain ⟨c0, c1, c2, c3⟩ := hmb2.cells; rw [HM0.out] at c0; have H2 := Lib.hid (H1.out.1.trans (hb2.mono H1.out.1.size)); clear hb2 hmb2)
        | (go_at_call 52; refine HC.out.1.mono ?_; rintro e w1 ⟨rfl, hb1⟩; have H1 := Lib.hid (show _ ∧ _ ∧ _ from ⟨HC.out.2.2.2.1.trans (hb1.mono HC.out.2.2.2.1.size), (show MB w1 w.heap.size m from (hb1.block _ HC.out.2.2.2.2.2).trans HC.out.2.2.2.2.1), Nat.lt_of_lt_of_le HC.out.2.2.2.2.2 hb1.size⟩); clear hb1)
        | (go_at_call 94; refine (HC.out.2.2.1 _ H2.out).mono ?_; rintro e w3 ⟨v3, os, rfl, hO, hm, hb3⟩; have H3 := Lib.hid (show _ ∧ _ ∧ _ from ⟨hO.base H2.out.size, hm, H2.out.trans (hb3.mono H2.out.size)⟩); clear hO hm hb3))
      exact bodyPost_ret (by simp [results, Tryz.results24, go_sem]) rfl ⟨v3, os, rfl, H3.out.1, H3.out.2.1, H3.out.2.2⟩
end Go.Proofs.YtajaijidecomdaaGreatDoor
