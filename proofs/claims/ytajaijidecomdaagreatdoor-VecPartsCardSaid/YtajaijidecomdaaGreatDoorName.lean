/- labels.Name: may a text be a label's name? -/
import Derived.Test.YtajaijidecomdaaGreatDoorG05
import Derived.Test.YtajaijidecomdaaGreatDoorShelf7
import Derived.Shelf.Strings.Search3
import Derived.Shelf.Strings.SlTrimAscii
namespace Go.Proofs.YtajaijidecomdaaGreatDoor
open Go.RowKit Go.Lib

def letL : List UInt8 := [97, 98, 99, 100, 101, 102, 103, 104, 105, 106, 107, 108, 109, 110, 111, 112, 113, 114, 115, 116, 117, 118, 119, 120, 121, 122, 65, 66, 67, 68, 69, 70, 71, 72, 73, 74, 75, 76, 77, 78, 79, 80, 81, 82, 83, 84, 85, 86, 87, 88, 89, 90, 95]
def alnL : List UInt8 := [97, 98, 99, 100, 101, 102, 103, 104, 105, 106, 107, 108, 109, 110, 111, 112, 113, 114, 115, 116, 117, 118, 119, 120, 121, 122, 65, 66, 67, 68, 69, 70, 71, 72, 73, 74, 75, 76, 77, 78, 79, 80, 81, 82, 83, 84, 85, 86, 87, 88, 89, 90, 95, 48, 49, 50, 51, 52, 53, 54, 55, 56, 57]
/-- May it be one? -/
def nameB (l : List UInt8) : Bool := match l with
  | [] => false
  | b :: t => decide ((b :: t).length ≤ 1024) && letL.contains b && (b :: t).all (alnL.contains ·)
theorem indexByte_has (l : List UInt8) (c : UInt8) : decide (0 ≤ Lib.indexByte l c) = l.contains c := by
  induction l with
  | nil => rfl
  | cons b l ih =>
    have hge := indexByte_ge l c
    unfold Lib.indexByte
    rw [List.contains_cons]
    by_cases h : b = c
    · subst h; simp
    · have h1 : (b == c) = false := by simpa using h
      have h2 : (c == b) = false := by simpa using fun e => h e.symm
      rw [h1, h2, Bool.false_or, ← ih]
      by_cases h3 : Lib.indexByte l c = -1
      · simp [h3]
      · have h4 : (Lib.indexByte l c == -1) = false := by simpa using h3
        simp [h4]
        omega
theorem dw_nil {α} (p : α → Bool) (l : List α) : l.dropWhile p = [] ↔ ∀ b ∈ l, p b = true := by
  induction l with
  | nil => simp
  | cons b l ih =>
    rw [List.dropWhile_cons]
    cases h : p b with
    | true =>
      simp only [if_true]; rw [ih]; constructor
      · intro h1 x hx; rcases List.mem_cons.1 hx with rfl | hx
        · exact h
        · exact h1 x hx
      · intro h1 x hx; exact h1 x (List.mem_cons_of_mem _ hx)
    | false =>
      simp only [Bool.false_eq_true, if_false]; constructor
      · intro h1; cases h1
      · intro h1; have := h1 b List.mem_cons_self; rw [h] at this; cases this
theorem dw_head {α} (p : α → Bool) (l : List α) (b : α) (t : List α) (h : l.dropWhile p = b :: t) : p b = false := by
  induction l with
  | nil => simp at h
  | cons y l ih =>
    rw [List.dropWhile_cons] at h
    cases hy : p y with
    | true => rw [hy] at h; exact ih (by simpa using h)
    | false => rw [hy] at h; simp at h; rw [← h.1]; exact hy
theorem trim_nil {α} (p : α → Bool) (l : List α) : ((l.reverse.dropWhile p).reverse.dropWhile p = []) ↔ l.all p = true := by
  rw [dw_nil, List.all_eq_true]
  constructor
  · intro h x hx
    cases hd : l.reverse.dropWhile p with
    | nil => exact (dw_nil p l.reverse).1 hd x (List.mem_reverse.2 hx)
    | cons b t =>
      have h1 := h b (by rw [hd]; simp)
      rw [dw_head p _ b t hd] at h1
      cases h1
  · intro h x hx
    rw [List.mem_reverse] at hx
    exact h x (List.mem_reverse.1 ((List.dropWhile_sublist _).subset hx))
theorem trimS_all (l cs : List UInt8) : (Lib.trimS l cs = []) ↔ l.all (cs.contains ·) = true := trim_nil (cs.contains ·) l
set_option maxHeartbeats 1000000 in
set_option maxRecDepth 100000 in
theorem name_any (s : ByteArray) (w : World) : Calls Tryz.prog 238 #[.string s] w fun e w' => e = .returned (.bool (nameB s.data.toList)) ∧ Below w.heap.size w w' := by
  cases hl : s.data.toList with
  | nil =>
    obtain rfl : s = ⟨#[]⟩ := by
      rcases s with ⟨⟨l⟩⟩
      simp at hl; subst hl; rfl
    go_enter Tryz.func238, Tryz.ntmps238
    go_wp2
    go_ret
    exact ⟨rfl, Below.refl _ _⟩
  | cons b t =>
    have hs : s = ⟨⟨b :: t⟩⟩ := by rcases s with ⟨⟨l⟩⟩; simp at hl; subst hl; rfl
    have hsz : s.size = (b :: t).length := by rw [hs]; rfl
    have hne : (s.toList == []) = false := by rw [ByteArray.toList_eq, hl]; rfl
    by_cases h1 : s.size ≤ 1024
    · have hc : ∀ w', Calls Tryz.prog 262 #[.string ⟨letL.toArray⟩, .string (s.extract 0 1)] w' fun e w'' => e = .returned (.bool (letL.contains b)) ∧ w'' = w' := by
        intro w'
        have := Any.strings_Contains_one Tryz.lContains ⟨letL.toArray⟩ b w'
        rw [show (⟨letL.toArray⟩ : ByteArray).data.toList = letL from rfl, indexByte_has] at this
        rw [show s.extract 0 1 = ⟨#[b]⟩ by rw [hs]; apply ByteArray.ext; simp]
        exact this
      cases hb : letL.contains b with
      | false =>
        rw [hb] at hc
        have hr : nameB (b :: t) = false := by simp only [nameB]; rw [hb]; simp
        rw [hr]
        have h2 : (1 : Int) ≤ (s.size : Int) := by rw [hsz]; simp; omega
        clear hr hb hs hl hsz
        go_enter Tryz.func238, Tryz.ntmps238
        go_wp2_with (go_at_call 262; refine (hc _).mono ?_; rintro e w' ⟨rfl, rfl⟩)
        go_ret
        exact ⟨rfl, Below.refl _ _⟩
      | true =>
        rw [hb] at hc
        have ht := fun w' => Any.strings_Trim_laid Tryz.lTrim (by kernel_rfl) s ⟨alnL.toArray⟩ w' (by omega) (by decide) (ascii_of_all (by decide))
        have hr : nameB (b :: t) = (b :: t).all (alnL.contains ·) := by
          have h3 : (b :: t).length ≤ 1024 := by rw [← hsz]; exact h1
          simp only [nameB]; rw [hb, decide_eq_true h3]; rfl
        rw [hr]
        have h2 : (1 : Int) ≤ (s.size : Int) := by rw [hsz]; simp; omega
        obtain ⟨r, hr'⟩ : ∃ r : List UInt8, Lib.trimS s.data.toList alnL = r := ⟨_, rfl⟩
        have hra : (b :: t).all (alnL.contains ·) = decide (r = []) := by
          rw [← hr', hl]
          cases ha : (b :: t).all (alnL.contains ·) with
          | true => rw [decide_eq_true ((trimS_all _ _).2 ha)]
          | false => rw [decide_eq_false (fun h => by rw [(trimS_all _ _).1 h] at ha; cases ha)]
        have ht' : ∀ w', Calls Tryz.prog 263 #[.string s, .string ⟨alnL.toArray⟩] w' fun e w'' => e = .returned (.string ⟨r.toArray⟩) ∧ Below w'.heap.size w' w'' := by
          intro w'
          rw [← hr']
          exact ht w'
        rw [hra]
        clear hr hb hs hl hsz hr' ht hra
        cases r with
        | nil =>
          go_enter Tryz.func238, Tryz.ntmps238
          go_wp2_with (first | (go_at_call 262; refine (hc _).mono ?_; rintro e w' ⟨rfl, rfl⟩) | (go_at_call 263; refine (ht' _).mono ?_; rintro e w' ⟨rfl, hbw⟩))
          go_ret
          exact ⟨rfl, hbw⟩
        | cons x r =>
          have hxr : ((⟨(x :: r).toArray⟩ : ByteArray).toList == []) = false := by rw [ByteArray.toList_eq]; rfl
          generalize (⟨(x :: r).toArray⟩ : ByteArray) = rr at hxr ht'
          go_enter Tryz.func238, Tryz.ntmps238
          go_wp2_with (first | (go_at_call 262; refine (hc _).mono ?_; rintro e w' ⟨rfl, rfl⟩) | (go_at_call 263; refine (ht' _).mono ?_; rintro e w' ⟨rfl, hbw⟩))
          go_ret
          exact ⟨rfl, hbw⟩
    · have hr : nameB (b :: t) = false := by
        have h3 : ¬ (b :: t).length ≤ 1024 := by rw [← hsz]; exact h1
        simp only [nameB]; rw [decide_eq_false h3]; rfl
      rw [hr]
      have h2 : (1024 : Int) < (s.size : Int) := by omega
      clear hr hs hl hsz
      go_enter Tryz.func238, Tryz.ntmps238
      go_wp2
      go_ret
      exact ⟨rfl, Below.refl _ _⟩
end Go.Proofs.YtajaijidecomdaaGreatDoor
