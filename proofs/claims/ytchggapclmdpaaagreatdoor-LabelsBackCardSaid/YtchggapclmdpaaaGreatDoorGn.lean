/- The plain law of LabelsBack: a set that is written is read again, as bytes and as a text. The plain law of LabelsBack: a set that is written as a text is read again. -/
import Derived.Test.YtchggapclmdpaaaGreatDoorPar8
import Derived.Test.YtchggapclmdpaaaGreatDoorDec7
import Derived.Test.YtchggapclmdpaaaGreatDoorPrn7
namespace Go.Proofs.YtchggapclmdpaaaGreatDoor
open Go.RowKit Go.Lib

/-! ### A set is a set -/
theorem setE_parts {l : List Lb} (h : setE l = 0) : l.any badS = false ∧ twiceN [] l = false ∧ (l.filter fullV).length ≤ 64 := by
  unfold setE at h
  cases h1 : l.any badS with
  | true => rw [h1] at h; simp at h
  | false =>
    rw [h1] at h
    cases h2 : twiceN [] l with
    | true => rw [h2] at h; simp at h
    | false =>
      rw [h2] at h
      refine ⟨rfl, rfl, ?_⟩
      by_cases h3 : 64 < (l.filter fullV).length
      · simp [h3] at h
      · omega
/-- What is known of a set. -/
structure IsSet (s : List Lb) : Prop where
  len : s.length ≤ 64
  good : ∀ x ∈ s, nameB x.nm.data.toList = true ∧ x.vl.size ≤ 1024 ∧ fullV x = true
  apart : Apart s
  up : s.Pairwise (fun a b => ¬ nameC b a < 0)
theorem setL_isSet {l : List Lb} (h : setE l = 0) : IsSet (setL l) := by
  obtain ⟨h1, h2, h3⟩ := setE_parts h
  obtain ⟨hp, hu⟩ := foldl_into (l.filter fullV) [] List.Pairwise.nil
  rw [List.nil_append] at hp
  have hp' : (setL l).Perm (l.filter fullV) := hp
  refine ⟨by rw [hp'.length_eq]; exact h3, fun x hx => ?_, ?_, hu⟩
  · have hm := List.mem_filter.1 (hp'.mem_iff.1 hx)
    have hb := List.any_eq_false.1 h1 x hm.1
    unfold badS at hb
    have hb' : (!nameB x.nm.data.toList || decide (1024 < x.vl.size)) = false := by simpa using hb
    obtain ⟨g1, g2⟩ := Bool.or_eq_false_iff.1 hb'
    exact ⟨by simpa using g1, by have := of_decide_eq_false g2; omega, hm.2⟩
  · have ha : Apart (l.filter fullV) := (twiceN_apart l [] h2).1.filter _
    unfold Apart at ha ⊢
    exact hp'.symm.pairwise ha (fun {x y} h e => h e.symm)
theorem apart_twice : ∀ (s : List Lb) (seen : List (List UInt8)), Apart s → (∀ x ∈ s, x.nm.data.toList ∉ seen) → twiceN seen s = false
  | [], _, _, _ => rfl
  | x :: t, seen, h, hs => by
    obtain ⟨h1, h2⟩ := List.pairwise_cons.1 h
    rw [twiceN, if_neg (hs x (by simp))]
    refine apart_twice t _ h2 (fun y hy hm => ?_)
    rcases List.mem_cons.1 hm with e | e
    · exact h1 y hy e.symm
    · exact hs y (List.mem_cons_of_mem _ hy) e
theorem IsSet.badS {s : List Lb} (h : IsSet s) : s.any badS = false := by
  refine List.any_eq_false.2 fun x hx => ?_
  obtain ⟨h1, h2, _⟩ := h.good x hx
  unfold Go.Proofs.YtchggapclmdpaaaGreatDoor.badS
  rw [h1, decide_eq_false (by omega)]
  decide
theorem IsSet.badC {s : List Lb} (h : IsSet s) : s.any badC = false := by
  refine List.any_eq_false.2 fun x hx => ?_
  obtain ⟨h1, h2, h3⟩ := h.good x hx
  have h4 : decide (x.vl.data.toList = []) = false := by
    unfold fullV at h3
    simpa using h3
  unfold Go.Proofs.YtchggapclmdpaaaGreatDoor.badC
  rw [h1, h4, decide_eq_false (by omega)]
  decide
theorem IsSet.twice {s : List Lb} (h : IsSet s) : twiceN [] s = false := apart_twice s [] h.apart (fun _ _ => by simp)
theorem IsSet.full {s : List Lb} (h : IsSet s) : s.filter fullV = s := List.filter_eq_self.2 fun x hx => (h.good x hx).2.2
theorem IsSet.setE {s : List Lb} (h : IsSet s) : setE s = 0 := by
  unfold Go.Proofs.YtchggapclmdpaaaGreatDoor.setE
  rw [h.badS, h.twice, h.full, if_neg (by decide), if_neg (by decide), if_neg (by have := h.len; omega)]
theorem IsSet.setL {s : List Lb} (h : IsSet s) : setL s = s := (setL_of (l := s) (l' := s) (by rw [h.full]) h.up h.twice).symm
theorem IsSet.upB {s : List Lb} (h : IsSet s) : upB s = true := by
  unfold Go.Proofs.YtchggapclmdpaaaGreatDoor.upB
  refine decide_eq_true fun j hj => ?_
  have h1 : j + 1 < s.length := by omega
  rw [getElem!_pos s (j + 1) h1, getElem!_pos s j (by omega)]
  exact (List.pairwise_iff_getElem.1 h.up) j (j + 1) (by omega) h1 (by omega)
theorem IsSet.checkE {s : List Lb} (h : IsSet s) : checkE s = 0 := by
  unfold Go.Proofs.YtchggapclmdpaaaGreatDoor.checkE
  rw [h.badC, h.twice, h.upB, if_neg (by have := h.len; omega), if_neg (by decide), if_neg (by decide), if_pos rfl]
/-! ### Bytes -/
theorem takeB_put (t r : List UInt8) (h : t.length < 65536) : takeB (putB t ++ r) = some (t, r) := by
  unfold putB lenB
  have e : (UInt8.ofNat t.length).toNat + 256 * (UInt8.ofNat (t.length / 256)).toNat = t.length := by
    rw [UInt8.toNat_ofNat', UInt8.toNat_ofNat']
    omega
  show takeB (UInt8.ofNat t.length :: UInt8.ofNat (t.length / 256) :: (t ++ r)) = _
  rw [takeB_two, e, if_neg (by rw [List.length_append]; omega), List.take_left', List.drop_left'] <;> rfl
theorem nameB_le {l : List UInt8} (h : nameB l = true) : l.length ≤ 1024 := by
  unfold nameB at h
  split at h
  · cases h
  · exact of_decide_eq_true (Bool.and_eq_true_iff.1 (Bool.and_eq_true_iff.1 h).1).1
theorem decL_enc : ∀ (s : List Lb) (acc : List Lb) (r : List UInt8), (∀ x ∈ s, x.nm.size ≤ 1024 ∧ x.vl.size ≤ 1024) → decL s.length (s.flatMap labB ++ r) acc = some (acc ++ s, r)
  | [], acc, r, _ => by simp [decL]
  | x :: t, acc, r, h => by
    obtain ⟨h1, h2⟩ := h x (by simp)
    have e1 : x.nm.size = x.nm.data.toList.length := (Array.length_toList).symm
    have e2 : x.vl.size = x.vl.data.toList.length := (Array.length_toList).symm
    rw [List.length_cons, List.flatMap_cons]
    have hb : labB x ++ t.flatMap labB ++ r = putB x.nm.data.toList ++ (putB x.vl.data.toList ++ (t.flatMap labB ++ r)) := by
      unfold labB; simp only [List.append_assoc]
    rw [hb, decL_some (takeB_put _ _ (by omega)) (takeB_put _ _ (by omega)), decL_enc t _ r (fun y hy => h y (List.mem_cons_of_mem _ hy)), bytes_eta, bytes_eta, List.append_assoc]
    rfl
theorem IsSet.sizes {s : List Lb} (h : IsSet s) : ∀ x ∈ s, x.nm.size ≤ 1024 ∧ x.vl.size ≤ 1024 := fun x hx => by
  obtain ⟨h1, h2, _⟩ := h.good x hx
  have e1 : x.nm.size = x.nm.data.toList.length := (Array.length_toList).symm
  have := nameB_le h1
  exact ⟨by omega, h2⟩
theorem decR_enc {s : List Lb} (h : IsSet s) (r : List UInt8) : decR (encB s ++ r) = (s, (encB s).length, 0) := by
  have h64 := h.len
  have e : (UInt8.ofNat s.length).toNat = s.length := UInt8.toNat_ofNat_of_lt' (by show s.length < 256; omega)
  have hd := decL_enc s [] r h.sizes
  show decR (UInt8.ofNat s.length :: (s.flatMap labB ++ r)) = _
  unfold decR
  simp only [e, hd, List.nil_append, h.checkE, if_pos]
  unfold encB
  simp only [List.length_cons, List.length_append]
  simp
  omega
/-! ### A text -/
theorem at_drop {l r : List UInt8} {k : Nat} {c : UInt8} (h : l.drop k = c :: r) : l[k]? = some c ∧ l.drop (k + 1) = r := by
  have h1 : (l.drop k)[0]? = some c := by rw [h]; rfl
  rw [List.getElem?_drop, Nat.add_zero] at h1
  refine ⟨h1, ?_⟩
  rw [← List.drop_drop, h]
  rfl
theorem skipP_here {l r : List UInt8} {k : Nat} {c : UInt8} (h : l.drop k = c :: r) (hc : c ≠ 32) : skipP l k = k := skipP_stop (by rw [(at_drop h).1]; exact fun e => hc (Option.some.inj e))
theorem skipP_end {l : List UInt8} {k : Nat} (h : l.drop k = []) : skipP l k = k := skipP_stop (by rw [List.getElem?_eq_none (by simpa using h)]; simp)
theorem sign_no {l r : List UInt8} {k : Nat} {c d : UInt8} (h : l.drop k = c :: r) (hc : c ≠ 32) (hd : c ≠ d) : signB l k d = false ∧ signK l k d = k := by
  have h1 := skipP_here h hc
  have h2 : (l[skipP l k]? == some d) = false := by rw [h1, (at_drop h).1]; simpa using hd
  exact ⟨h2, by unfold signK; rw [h2, if_neg (by decide), h1]⟩
/-- A sign stands there, and no blank behind it. -/
theorem sign_yes {l r : List UInt8} {k : Nat} {d : UInt8} (h : l.drop k = d :: r) (hd : d ≠ 32) (hn : r.head? ≠ some 32) : signB l k d = true ∧ signK l k d = k + 1 := by
  have h1 := skipP_here h hd
  obtain ⟨h3, h4⟩ := at_drop h
  have h2 : (l[skipP l k]? == some d) = true := by rw [h1, h3]; simp
  refine ⟨h2, ?_⟩
  unfold signK
  rw [h2, if_pos rfl, h1]
  match r, hn with
  | [], _ => exact skipP_end h4
  | c :: r, hn => exact skipP_here h4 (fun e => hn (by rw [e]; rfl))
/-- A sign, a blank, then none. -/
theorem sign_blank {l r : List UInt8} {k : Nat} {c d : UInt8} (h : l.drop k = d :: 32 :: c :: r) (hd : d ≠ 32) (hc : c ≠ 32) : signB l k d = true ∧ signK l k d = k + 2 := by
  have h1 := skipP_here h hd
  obtain ⟨h3, h4⟩ := at_drop h
  obtain ⟨h5, h6⟩ := at_drop h4
  have h2 : (l[skipP l k]? == some d) = true := by rw [h1, h3]; simp
  refine ⟨h2, ?_⟩
  unfold signK
  rw [h2, if_pos rfl, h1, skipP_step h5, skipP_here h6 hc]
end Go.Proofs.YtchggapclmdpaaaGreatDoor
namespace Go.Proofs.YtchggapclmdpaaaGreatDoor
open Go.RowKit Go.Lib

theorem take_drop_eq (l : List UInt8) (k n : Nat) : (l.take (k + n)).drop k = (l.drop k).take n := by rw [List.drop_take]; congr 1; omega
theorem drop_add_of {l a r : List UInt8} {k : Nat} (h : l.drop k = a ++ r) : l.drop (k + a.length) = r := by
  rw [← List.drop_drop, h, List.drop_left' rfl]
/-! ### A name -/
theorem nameB_cons (b : UInt8) (t : List UInt8) : nameB (b :: t) = (decide ((b :: t).length ≤ 1024) && letL.contains b && (b :: t).all (alnL.contains ·)) := rfl
theorem nameB_prefix {nm : List UInt8} (h : nameB nm = true) {i : Nat} (h0 : 0 < i) : nameB (nm.take i) = true := by
  match nm, i, h, h0 with
  | b :: t, i + 1, h, _ =>
    unfold nameB at h
    obtain ⟨h1, h2⟩ := Bool.and_eq_true_iff.1 h
    obtain ⟨h3, h4⟩ := Bool.and_eq_true_iff.1 h1
    have h5 := of_decide_eq_true h3
    rw [List.take_succ_cons, nameB_cons]
    have h6 : (b :: t.take i).length ≤ 1024 := by
      rw [List.length_cons] at h5 ⊢
      have := List.length_take_le i t
      rw [List.length_take]
      omega
    rw [decide_eq_true h6, h4, Bool.true_and, Bool.true_and]
    rw [List.all_eq_true] at h2 ⊢
    intro x hx
    refine h2 x ?_
    rcases List.mem_cons.1 hx with e | e
    · rw [e]; exact List.mem_cons_self
    · exact List.mem_cons_of_mem _ (List.mem_of_mem_take e)
theorem nameB_eq (nm : List UInt8) : nameB (nm ++ [61]) = false := by
  match nm with
  | [] => decide
  | b :: t =>
    show nameB (b :: (t ++ [61])) = false
    rw [nameB_cons]
    have : (b :: (t ++ [61])).all (alnL.contains ·) = false := by
      rw [List.all_eq_false]
      exact ⟨61, by simp, by decide⟩
    rw [this, Bool.and_false]
theorem nameEnd_here {l nm r : List UInt8} {k : Nat} (hd : l.drop k = nm ++ 61 :: r) (hn : nameB nm = true) : ∀ (f i : Nat), i ≤ nm.length → nm.length + 1 ≤ f + i → nameEnd l k f (k + i) = k + nm.length
  | 0, i, h1, h2 => by
    have : i = nm.length := by omega
    omega
  | f + 1, i, h1, h2 => by
    unfold nameEnd
    rw [show k + i + 1 = k + (i + 1) by omega, take_drop_eq, hd]
    by_cases hi : i < nm.length
    · rw [List.take_append_of_le_length (by omega), if_pos (nameB_prefix hn (Nat.succ_pos i)), show k + (i + 1) = k + (i + 1) from rfl]
      exact nameEnd_here hd hn f (i + 1) hi (by omega)
    · have hi' : i = nm.length := by omega
      subst hi'
      rw [show (nm ++ 61 :: r).take (nm.length + 1) = nm ++ [61] by
        rw [List.take_append, List.take_of_length_le (by omega), show nm.length + 1 - nm.length = 1 by omega]; rfl, nameB_eq, if_neg (by decide)]
theorem nameK_here {l nm r : List UInt8} {k : Nat} (hd : l.drop k = nm ++ 61 :: r) (hn : nameB nm = true) : nameK l k = k + nm.length := by
  have hl := congrArg List.length hd
  rw [List.length_drop, List.length_append, List.length_cons] at hl
  exact nameEnd_here hd hn (l.length - k) 0 (Nat.zero_le _) (by omega)
theorem name_head {nm : List UInt8} (h : nameB nm = true) : ∃ b t, nm = b :: t ∧ b ≠ 32 ∧ b ≠ 125 := by
  match nm, h with
  | b :: t, h =>
    unfold nameB at h
    have h1 := (Bool.and_eq_true_iff.1 (Bool.and_eq_true_iff.1 h).1).2
    have h2 : b ∈ letL := by simpa using h1
    have h3 : ∀ c ∈ letL, c ≠ 32 ∧ c ≠ 125 := by decide
    exact ⟨b, t, rfl, h3 b h2⟩
/-! ### A value -/
theorem hexD_ne : ∀ n, n < 16 → hexD n ≠ 34 ∧ hexD n ≠ 92 := by decide
theorem hexV_hexD : ∀ n, n < 16 → hexV (hexD n).toNat = (n : Int) := by decide
theorem escB_cases (c : UInt8) : (escB c = [92, c] ∧ (c = 34 ∨ c = 92)) ∨ (escB c = [92, 110] ∧ c = 10) ∨ (escB c = [92, 114] ∧ c = 13) ∨ (escB c = [92, 116] ∧ c = 9) ∨
    escB c = [92, 120, hexD (c.toNat / 16), hexD (c.toNat % 16)] ∨ (escB c = [c] ∧ c ≠ 34 ∧ c ≠ 92 ∧ c ≠ 10) := by
  unfold escB
  by_cases h1 : c = 34 ∨ c = 92
  · exact .inl ⟨if_pos h1, h1⟩
  · rw [if_neg h1]
    by_cases h2 : c = 10
    · exact .inr (.inl ⟨if_pos h2, h2⟩)
    · rw [if_neg h2]
      by_cases h3 : c = 13
      · exact .inr (.inr (.inl ⟨if_pos h3, h3⟩))
      · rw [if_neg h3]
        by_cases h4 : c = 9
        · exact .inr (.inr (.inr (.inl ⟨if_pos h4, h4⟩)))
        · rw [if_neg h4]
          by_cases h5 : c.toNat < 32 ∨ 126 < c.toNat
          · exact .inr (.inr (.inr (.inr (.inl (if_pos h5)))))
          · exact .inr (.inr (.inr (.inr (.inr ⟨if_neg h5, fun e => h1 (.inl e), fun e => h1 (.inr e), h2⟩))))
theorem closeK_esc2 {f j : Nat} {l r : List UInt8} {d : UInt8} (h : l.drop j = 92 :: d :: r) (hf : 2 ≤ f) : ∃ f', f ≤ f' + 2 ∧ closeK f l j = closeK f' l (j + 2) := by
  obtain ⟨f', rfl⟩ : ∃ f', f = f' + 1 := ⟨f - 1, by omega⟩
  exact ⟨f', by omega, closeK_esc (at_drop h).1⟩
theorem closeK_pass {l r : List UInt8} {j f : Nat} {c : UInt8} (h : l.drop j = escB c ++ r) (hf : (escB c).length ≤ f) : ∃ f', f ≤ f' + (escB c).length ∧ closeK f l j = closeK f' l (j + (escB c).length) := by
  have hn : c.toNat < 256 := c.toNat_lt
  rcases escB_cases c with ⟨e, _⟩ | ⟨e, _⟩ | ⟨e, _⟩ | ⟨e, _⟩ | e | ⟨e, h1, h2, h3⟩
  · rw [e] at h hf ⊢; exact closeK_esc2 h hf
  · rw [e] at h hf ⊢; exact closeK_esc2 h hf
  · rw [e] at h hf ⊢; exact closeK_esc2 h hf
  · rw [e] at h hf ⊢; exact closeK_esc2 h hf
  · rw [e] at h hf ⊢
    obtain ⟨a1, a2⟩ := hexD_ne (c.toNat / 16) (by omega)
    obtain ⟨b1, b2⟩ := hexD_ne (c.toNat % 16) (by omega)
    generalize hexD (c.toNat / 16) = x at *
    generalize hexD (c.toNat % 16) = y at *
    simp only [List.length_cons, List.length_nil] at hf ⊢
    obtain ⟨f', rfl⟩ : ∃ f', f = f' + 3 := ⟨f - 3, by omega⟩
    have d1 : l.drop (j + 2) = x :: y :: r := drop_add_of (a := [92, 120]) h
    have d2 : l.drop (j + 2 + 1) = y :: r := (at_drop d1).2
    refine ⟨f', by omega, ?_⟩
    rw [closeK_esc (at_drop h).1, closeK_on (at_drop d1).1 a1 a2, closeK_on (at_drop d2).1 b1 b2]
  · rw [e] at h hf ⊢
    simp only [List.length_cons, List.length_nil] at hf ⊢
    obtain ⟨f', rfl⟩ : ∃ f', f = f' + 1 := ⟨f - 1, by omega⟩
    exact ⟨f', by omega, closeK_on (at_drop h).1 h1 h2⟩
theorem closeK_quote : ∀ (v : List UInt8) (l r : List UInt8) (j f : Nat), l.drop j = v.flatMap escB ++ 34 :: r → (v.flatMap escB).length + 1 ≤ f → closeK f l j = j + (v.flatMap escB).length
  | [], l, r, j, f, h, _ => closeK_q (at_drop h).1
  | c :: v, l, r, j, f, h, hf => by
    rw [List.flatMap_cons] at h hf ⊢
    rw [List.append_assoc] at h
    rw [List.length_append] at hf ⊢
    obtain ⟨f', h1, h2⟩ := closeK_pass (f := f) h (by omega)
    rw [h2, closeK_quote v l r _ f' (drop_add_of h) (by omega)]
    omega
theorem escR_hex (c : UInt8) (r : List UInt8) : escR (120 :: hexD (c.toNat / 16) :: hexD (c.toNat % 16) :: r) = some ([c], 3) := by
  have hn : c.toNat < 256 := c.toNat_lt
  have h1 := hexV_hexD (c.toNat / 16) (by omega)
  have h2 := hexV_hexD (c.toNat % 16) (by omega)
  have hnum : numR 2 16 (hexD (c.toNat / 16) :: hexD (c.toNat % 16) :: r) 0 = some c.toNat := by
    rw [numR, h1, if_neg (by omega), numR, h2, if_neg (by omega), numR]
    congr 1
    omega
  rw [escR_num (need := 2) (base := 16) (from_ := 1) (most := 255) (by decide) (by decide)]
  show (match numR 2 16 (hexD (c.toNat / 16) :: hexD (c.toNat % 16) :: r) 0 with | none => none | some n => match outR 255 n with | none => none | some x => some (x, 3)) = _
  rw [hnum]
  have : outR 255 c.toNat = some [c] := by
    unfold outR
    rw [if_neg (by omega), if_neg (by decide), UInt8.ofNat_toNat]
  simp only [this]
theorem unqR_quote : ∀ (v : List UInt8) (r acc : List UInt8) (f : Nat), (v.flatMap escB).length + 1 ≤ f → unqR f (v.flatMap escB ++ 34 :: r) acc = some (acc ++ v)
  | [], r, acc, f, h => by
    obtain ⟨f', rfl⟩ : ∃ f', f = f' + 1 := ⟨f - 1, by simp at h; omega⟩
    show unqR (f' + 1) (34 :: r) acc = _
    rw [unqR_q, List.append_nil]
  | c :: v, r, acc, f, h => by
    rw [List.flatMap_cons, List.length_append] at h
    have hlen : 0 < (escB c).length := by
      rcases escB_cases c with ⟨e, _⟩ | ⟨e, _⟩ | ⟨e, _⟩ | ⟨e, _⟩ | e | ⟨e, _⟩ <;> rw [e] <;> simp
    obtain ⟨f', rfl⟩ : ∃ f', f = f' + 1 := ⟨f - 1, by omega⟩
    have ih := unqR_quote v r (acc ++ [c]) f' (by omega)
    rw [List.append_assoc, List.singleton_append] at ih
    rw [List.flatMap_cons, List.append_assoc]
    rcases escB_cases c with ⟨e, hc⟩ | ⟨e, rfl⟩ | ⟨e, rfl⟩ | ⟨e, rfl⟩ | e | ⟨e, h1, h2, h3⟩
    · rw [e]
      rcases hc with rfl | rfl
      · exact (unqR_esc (x := [34]) (k := 1) (escR_simple (by decide) rfl)).trans ih
      · exact (unqR_esc (x := [92]) (k := 1) (escR_simple (by decide) rfl)).trans ih
    · rw [e]; exact (unqR_esc (x := [10]) (k := 1) (escR_simple (by decide) rfl)).trans ih
    · rw [e]; exact (unqR_esc (x := [13]) (k := 1) (escR_simple (by decide) rfl)).trans ih
    · rw [e]; exact (unqR_esc (x := [9]) (k := 1) (escR_simple (by decide) rfl)).trans ih
    · rw [e]; exact (unqR_esc (escR_hex c _)).trans ih
    · rw [e]; exact (unqR_byte h1 h3 h2).trans ih
theorem valR_quote {l r v : List UInt8} {k : Nat} (h : l.drop k = quoteB v ++ r) : valR l k = (some v, k + (quoteB v).length) := by
  have hq : quoteB v ++ r = 34 :: (v.flatMap escB ++ 34 :: r) := by unfold quoteB; simp
  rw [hq] at h
  obtain ⟨h1, h2⟩ := at_drop h
  have hl := congrArg List.length h
  rw [List.length_drop, List.length_cons, List.length_append, List.length_cons] at hl
  have hJ := closeK_quote v l r (k + 1) (l.length + 1) h2 (by omega)
  have hm : (l.take (k + 1 + (v.flatMap escB).length + 1)).drop (k + 1) = v.flatMap escB ++ 34 :: [] := by
    rw [show k + 1 + (v.flatMap escB).length + 1 = k + 1 + ((v.flatMap escB).length + 1) by omega, take_drop_eq, h2, List.take_append, List.take_of_length_le (by omega), show (v.flatMap escB).length + 1 - (v.flatMap escB).length = 1 by omega]
    rfl
  have hu : unqR (k + 1 + (v.flatMap escB).length - k + 1) ((l.take (k + 1 + (v.flatMap escB).length + 1)).drop (k + 1)) [] = some v := by
    rw [hm]
    exact unqR_quote v [] [] _ (by omega)
  rw [valR_good h1 hJ (by omega) hu]
  congr 1
  unfold quoteB
  rw [List.length_cons, List.length_append, List.length_singleton]
  omega
/-! ### A label, a set -/
theorem labR_print {l r : List UInt8} {k : Nat} {x : Lb} (h : l.drop k = prnB x ++ r) (hn : nameB x.nm.data.toList = true) : labR l k = (some x, k + (prnB x).length) := by
  have hp : prnB x ++ r = x.nm.data.toList ++ 61 :: (quoteB x.vl.data.toList ++ r) := by unfold prnB; simp
  rw [hp] at h
  have hK := nameK_here h hn
  have hd := drop_add_of h
  have hsg : signB l (k + x.nm.data.toList.length) 61 = true ∧ signK l (k + x.nm.data.toList.length) 61 = k + x.nm.data.toList.length + 1 := sign_yes hd (by decide) (by unfold quoteB; simp)
  have hv := valR_quote (at_drop hd).2
  have hnm : (l.take (nameK l k)).drop k = x.nm.data.toList := by
    rw [hK, take_drop_eq, h, List.take_left' rfl]
  have hne : x.nm.data.toList ≠ [] := fun e => by rw [e] at hn; cases hn
  unfold labR
  rw [hnm, if_neg hne, hK, hsg.1, if_neg (by decide), hsg.2, hv]
  simp only [bytes_eta]
  congr 1
  unfold prnB
  rw [List.length_append, List.length_cons]
  omega
theorem prn_head {x : Lb} (hn : nameB x.nm.data.toList = true) (r : List UInt8) : ∃ b t, prnB x ++ r = b :: t ∧ b ≠ 32 ∧ b ≠ 125 := by
  obtain ⟨b, t, e, h⟩ := name_head hn
  unfold prnB
  rw [e]
  exact ⟨b, _, rfl, h⟩
theorem lsR_print : ∀ (s : List Lb) (l : List UInt8) (k f : Nat) (acc : List Lb), s ≠ [] → (∀ x ∈ s, nameB x.nm.data.toList = true) → l.drop k = Lib.join (s.map prnB) [44, 32] ++ [125] → s.length ≤ f → lsR f l k acc = (some (acc ++ s), l.length)
  | [], _, _, _, _, h, _, _, _ => absurd rfl h
  | x :: t, l, k, f, acc, _, hg, hd, hf => by
    obtain ⟨f', rfl⟩ : ∃ f', f = f' + 1 := ⟨f - 1, by simp at hf; omega⟩
    have hx := hg x (by simp)
    have hjoin : Lib.join ((x :: t).map prnB) [44, 32] ++ [125] = prnB x ++ (Lib.joinTail [44, 32] (t.map prnB) ++ [125]) := by rw [List.map_cons, Lib.join_cons, List.append_assoc]
    rw [hjoin] at hd
    obtain ⟨b, q, e, hb1, hb2⟩ := prn_head hx (Lib.joinTail [44, 32] (t.map prnB) ++ [125])
    have hbr := sign_no (d := 125) (by rw [hd, e]) hb1 hb2
    have hlab := labR_print hd hx
    have hd2 := drop_add_of hd
    rw [lsR, hbr.1, if_neg (by decide), hbr.2, hlab]
    match t, hd2, hg, hf with
    | [], hd2, _, _ =>
      have hc := sign_no (c := 125) (d := 44) hd2 (by decide) (by decide)
      have he := sign_yes (d := 125) hd2 (by decide) (by simp)
      have hlen : k + (prnB x).length + 1 = l.length := by
        have hl := congrArg List.length hd2
        rw [List.length_drop] at hl
        simp [Lib.joinTail] at hl
        omega
      simp only [hc.1, hc.2, he.1, he.2, hlen]
      simp
    | y :: t', hd2, hg, hf =>
      have hy := hg y (by simp)
      have htail : Lib.joinTail [44, 32] ((y :: t').map prnB) ++ [125] = 44 :: 32 :: (Lib.join ((y :: t').map prnB) [44, 32] ++ [125]) := by
        rw [List.map_cons, Lib.join_cons]
        unfold Lib.joinTail
        simp
      rw [htail] at hd2
      obtain ⟨b', q', e', hb1', _⟩ := prn_head hy (Lib.joinTail [44, 32] (t'.map prnB) ++ [125])
      have hjoin' : Lib.join ((y :: t').map prnB) [44, 32] ++ [125] = b' :: q' := by rw [List.map_cons, Lib.join_cons, List.append_assoc, e']
      have hc := sign_blank (d := 44) (c := b') (r := q') (by rw [hd2, hjoin']) (by decide) hb1'
      have hd3 : l.drop (k + (prnB x).length + 2) = Lib.join ((y :: t').map prnB) [44, 32] ++ [125] := drop_add_of (a := [44, 32]) hd2
      have ih := lsR_print (y :: t') l _ f' (acc ++ [x]) (by simp) (fun z hz => hg z (List.mem_cons_of_mem _ hz)) hd3 (by simp at hf ⊢; omega)
      simp only [hc.1, hc.2, if_pos]
      rw [ih, List.append_assoc, List.singleton_append]
theorem IsSet.parse {s : List Lb} (h : IsSet s) : parR (printB s) = (s, 0, 0) := by
  have htop : lsTop (printB s) = (some s, (printB s).length) := by
    have hd0 : (printB s).drop 0 = 123 :: (Lib.join (s.map prnB) [44, 32] ++ [125]) := rfl
    unfold lsTop
    match s, h, hd0 with
    | [], _, _ => rfl
    | x :: t, h, hd0 =>
      obtain ⟨b, q, e, hb1, _⟩ := prn_head (h.good x (by simp)).1 (Lib.joinTail [44, 32] (t.map prnB) ++ [125])
      have hjoin : Lib.join ((x :: t).map prnB) [44, 32] ++ [125] = b :: q := by rw [List.map_cons, Lib.join_cons, List.append_assoc, e]
      have hs := sign_yes (d := 123) hd0 (by decide) (by rw [hjoin]; simpa using hb1)
      rw [hs.1, if_pos rfl, hs.2]
      refine lsR_print (x :: t) _ 1 _ [] (by simp) (fun y hy => (h.good y hy).1) (at_drop hd0).2 ?_
      have hl := congrArg List.length hd0
      have : (x :: t).length ≤ (Lib.join ((x :: t).map prnB) [44, 32] ++ [125]).length := by
        rw [List.map_cons, Lib.join_cons, List.append_assoc, List.length_append]
        have h1 : 1 ≤ (prnB x).length := by unfold prnB; rw [List.length_append, List.length_cons]; omega
        have h2 : ∀ u : List Lb, u.length ≤ (Lib.joinTail [44, 32] (u.map prnB)).length := by
          intro u
          induction u with
          | nil => simp
          | cons y u ih =>
            unfold Lib.joinTail at ih ⊢
            simp only [List.map_cons, List.flatten_cons, List.length_append, List.length_cons] at ih ⊢
            omega
        have := h2 t
        rw [List.length_append, List.length_cons]
        omega
      rw [List.drop_zero, List.length_cons] at hl
      omega
  unfold parR
  rw [htop]
  simp only [h.setE, h.setL, if_pos]
end Go.Proofs.YtchggapclmdpaaaGreatDoor
