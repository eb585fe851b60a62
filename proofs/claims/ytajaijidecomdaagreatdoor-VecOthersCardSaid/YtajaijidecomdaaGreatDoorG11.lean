/- labels.Name: may a text be a label's name? labels.twice: is a name there twice? The map of the names that were seen. The predicates of labels.Set and labels.Check; their ContainsFunc; labels by name. labels.kept; slices.SortFunc and slices.IsSortedFunc of labels by their names. -/
import Derived.Test.YtajaijidecomdaaGreatDoorG03
import Derived.Test.YtajaijidecomdaaGreatDoorG09
import Derived.Shelf.Strings.Search3
import Derived.Shelf.Strings.SlTrimAscii
import Derived.Maps.OwnSet
import Derived.Maps.OwnOps
import Derived.BigQuiet
import Derived.Shelf.SlicesQ.IndexFunc
import Derived.OwnWalk
import Derived.Laws.AppendOwnNone
import Derived.Shelf.SlSortCmp.NoneTotal
namespace Go.Proofs.YtajaijidecomdaaGreatDoor
open Go.RowKit Go.Lib

def letL : List UInt8 := [97, 98, 99, 100, 101, 102, 103, 104, 105, 106, 107, 108, 109, 110, 111, 112, 113, 114, 115, 116, 117, 118, 119, 120, 121, 122, 65, 66, 67, 68, 69, 70, 71, 72, 73, 74, 75, 76, 77, 78, 79, 80, 81, 82, 83, 84, 85, 86, 87, 88, 89, 90, 95]
def alnL : List UInt8 := [97, 98, 99, 100, 101, 102, 103, 104, 105, 106, 107, 108, 109, 110, 111, 112, 113, 114, 115, 116, 117, 118, 119, 120, 121, 122, 65, 66, 67, 68, 69, 70, 71, 72, 73, 74, 75, 76, 77, 78, 79, 80, 81, 82, 83, 84, 85, 86, 87, 88, 89, 90, 95, 48, 49, 50, 51, 52, 53, 54, 55, 56, 57]
/-- May it be one? -/
def nameB (l : List UInt8) : Bool := match l with
  | [] => false
  | b :: t => decide ((b :: t).length ≤ 1024) && letL.contains b && (b :: t).all (alnL.contains ·)
theorem indexByte_has (l : List UInt8) (c : UInt8) : decide (0 ≤ Lib.indexByte l c) = l.contains c := by
  induction l with
  | nil => rfl
  | cons b l ih =>
    have hge := indexByte_ge l c
    unfold Lib.indexByte
    rw [List.contains_cons]
    by_cases h : b = c
    · subst h; simp
    · have h1 : (b == c) = false := by simpa using h
      have h2 : (c == b) = false := by simpa using fun e => h e.symm
      rw [h1, h2, Bool.false_or, ← ih]
      by_cases h3 : Lib.indexByte l c = -1
      · simp [h3]
      · have h4 : (Lib.indexByte l c == -1) = false := by simpa using h3
        simp [h4]
        omega
theorem dw_nil {α} (p : α → Bool) (l : List α) : l.dropWhile p = [] ↔ ∀ b ∈ l, p b = true := by
  induction l with
  | nil => simp
  | cons b l ih =>
    rw [List.dropWhile_cons]
    cases h : p b with
    | true =>
      simp only [if_true]; rw [ih]; constructor
      · intro h1 x hx; rcases List.mem_cons.1 hx with rfl | hx
        · exact h
        · exact h1 x hx
      · intro h1 x hx; exact h1 x (List.mem_cons_of_mem _ hx)
    | false =>
      simp only [Bool.false_eq_true, if_false]; constructor
      · intro h1; cases h1
      · intro h1; have := h1 b List.mem_cons_self; rw [h] at this; cases this
theorem dw_head {α} (p : α → Bool) (l : List α) (b : α) (t : List α) (h : l.dropWhile p = b :: t) : p b = false := by
  induction l with
  | nil => simp at h
  | cons y l ih =>
    rw [List.dropWhile_cons] at h
    cases hy : p y with
    | true => rw [hy] at h; exact ih (by simpa using h)
    | false => rw [hy] at h; simp at h; rw [← h.1]; exact hy
theorem trim_nil {α} (p : α → Bool) (l : List α) : ((l.reverse.dropWhile p).reverse.dropWhile p = []) ↔ l.all p = true := by
  rw [dw_nil, List.all_eq_true]
  constructor
  · intro h x hx
    cases hd : l.reverse.dropWhile p with
    | nil => exact (dw_nil p l.reverse).1 hd x (List.mem_reverse.2 hx)
    | cons b t =>
      have h1 := h b (by rw [hd]; simp)
      rw [dw_head p _ b t hd] at h1
      cases h1
  · intro h x hx
    rw [List.mem_reverse] at hx
    exact h x (List.mem_reverse.1 ((List.dropWhile_sublist _).subset hx))
theorem trimS_all (l cs : List UInt8) : (Lib.trimS l cs = []) ↔ l.all (cs.contains ·) = true := trim_nil (cs.contains ·) l
set_option maxHeartbeats 1000000 in
set_option maxRecDepth 100000 in
theorem name_any (s : ByteArray) (w : World) : Calls Tryz.prog 238 #[.string s] w fun e w' => e = .returned (.bool (nameB s.data.toList)) ∧ Below w.heap.size w w' := by
  cases hl : s.data.toList with
  | nil =>
    obtain rfl : s = ⟨#[]⟩ := by
      rcases s with ⟨⟨l⟩⟩
      simp at hl; subst hl; rfl
    go_enter Tryz.func238, Tryz.ntmps238
    go_wp2
    go_ret
    exact ⟨rfl, Below.refl _ _⟩
  | cons b t =>
    have hs : s = ⟨⟨b :: t⟩⟩ := by rcases s with ⟨⟨l⟩⟩; simp at hl; subst hl; rfl
    have hsz : s.size = (b :: t).length := by rw [hs]; rfl
    have hne : (s.toList == []) = false := by rw [ByteArray.toList_eq, hl]; rfl
    by_cases h1 : s.size ≤ 1024
    · have hc : ∀ w', Calls Tryz.prog 262 #[.string ⟨letL.toArray⟩, .string (s.extract 0 1)] w' fun e w'' => e = .returned (.bool (letL.contains b)) ∧ w'' = w' := by
        intro w'
        have := Any.strings_Contains_one Tryz.lContains ⟨letL.toArray⟩ b w'
        rw [show (⟨letL.toArray⟩ : ByteArray).data.toList = letL from rfl, indexByte_has] at this
        rw [show s.extract 0 1 = ⟨#[b]⟩ by rw [hs]; apply ByteArray.ext; simp]
        exact this
      cases hb : letL.contains b with
      | false =>
        rw [hb] at hc
        have hr : nameB (b :: t) = false := by simp only [nameB]; rw [hb]; simp
        rw [hr]
        have h2 : (1 : Int) ≤ (s.size : Int) := by rw [hsz]; simp; omega
        clear hr hb hs hl hsz
        go_enter Tryz.func238, Tryz.ntmps238
        go_wp2_with (go_at_call 262; refine (hc _).mono ?_; rintro e w' ⟨rfl, rfl⟩)
        go_ret
        exact ⟨rfl, Below.refl _ _⟩
      | true =>
        rw [hb] at hc
        have ht := fun w' => Any.strings_Trim_laid Tryz.lTrim (by kernel_rfl) s ⟨alnL.toArray⟩ w' (by omega) (by decide) (ascii_of_all (by decide))
        have hr : nameB (b :: t) = (b :: t).all (alnL.contains ·) := by
          have h3 : (b :: t).length ≤ 1024 := by rw [← hsz]; exact h1
          simp only [nameB]; rw [hb, decide_eq_true h3]; rfl
        rw [hr]
        have h2 : (1 : Int) ≤ (s.size : Int) := by rw [hsz]; simp; omega
        obtain ⟨r, hr'⟩ : ∃ r : List UInt8, Lib.trimS s.data.toList alnL = r := ⟨_, rfl⟩
        have hra : (b :: t).all (alnL.contains ·) = decide (r = []) := by
          rw [← hr', hl]
          cases ha : (b :: t).all (alnL.contains ·) with
          | true => rw [decide_eq_true ((trimS_all _ _).2 ha)]
          | false => rw [decide_eq_false (fun h => by rw [(trimS_all _ _).1 h] at ha; cases ha)]
        have ht' : ∀ w', Calls Tryz.prog 263 #[.string s, .string ⟨alnL.toArray⟩] w' fun e w'' => e = .returned (.string ⟨r.toArray⟩) ∧ Below w'.heap.size w' w'' := by
          intro w'
          rw [← hr']
          exact ht w'
        rw [hra]
        clear hr hb hs hl hsz hr' ht hra
        cases r with
        | nil =>
          go_enter Tryz.func238, Tryz.ntmps238
          go_wp2_with (first | (go_at_call 262; refine (hc _).mono ?_; rintro e w' ⟨rfl, rfl⟩) | (go_at_call 263; refine (ht' _).mono ?_; rintro e w' ⟨rfl, hbw⟩))
          go_ret
          exact ⟨rfl, hbw⟩
        | cons x r =>
          have hxr : ((⟨(x :: r).toArray⟩ : ByteArray).toList == []) = false := by rw [ByteArray.toList_eq]; rfl
          generalize (⟨(x :: r).toArray⟩ : ByteArray) = rr at hxr ht'
          go_enter Tryz.func238, Tryz.ntmps238
          go_wp2_with (first | (go_at_call 262; refine (hc _).mono ?_; rintro e w' ⟨rfl, rfl⟩) | (go_at_call 263; refine (ht' _).mono ?_; rintro e w' ⟨rfl, hbw⟩))
          go_ret
          exact ⟨rfl, hbw⟩
    · have hr : nameB (b :: t) = false := by
        have h3 : ¬ (b :: t).length ≤ 1024 := by rw [← hsz]; exact h1
        simp only [nameB]; rw [decide_eq_false h3]; rfl
      rw [hr]
      have h2 : (1024 : Int) < (s.size : Int) := by omega
      clear hr hs hl hsz
      go_enter Tryz.func238, Tryz.ntmps238
      go_wp2
      go_ret
      exact ⟨rfl, Below.refl _ _⟩
end Go.Proofs.YtajaijidecomdaaGreatDoor
namespace Go.Proofs.YtajaijidecomdaaGreatDoor
open Go.RowKit Go.Lib Go.Maps Go.WideMaps Go.WideShapes

/-- Is one of the names among those seen, or twice there? -/
def twiceN (seen : List (List UInt8)) : List Lb → Bool
  | [] => false
  | x :: t => if x.nm.data.toList ∈ seen then true else twiceN (x.nm.data.toList :: seen) t
theorem Tryz.keyStr : Keyed Tryz.prog 9 := string_keyed Tryz.underlying9
theorem Tryz.zeroBool (w : World) : (zeroValue 4).run Tryz.prog w = .ok (.bool false) w := by kernel_rfl
theorem plainElem_bool_inv {H : Type} {P : Program} {e : TypeId} (he : P.underlying e = some .bool) {v : Value} {z : DataW H × List MemPlace} (h : plainElem P e v = some z) : ∃ c, v = .bool c ∧ z = (.lit (.bool c), []) := by
  unfold plainElem at h
  rw [he] at h
  cases v <;> simp at h
  exact ⟨_, rfl, h.symm⟩
/-- A look-up in a map of the call's own, of truths. -/
theorem wpList_lookup_own_bool {H : Type} {P : Program} (w : World) {ops : Array Oper} {rest : List Oper} {o : Oper} {a : Act} {Q : Exit → Act → World → Prop}
    (hg : o.guard = none) (m x : Operand) (t : TypeId) (hop : o.op = Op.lookup t m x false)
    (k e : TypeId) (K : Keyed P k) (ht : P.underlying t = some (.map k e)) (he : P.underlying e = some .bool) (hz : (zeroValue e).run P w = .ok (.bool false) w) (b n : Nat) (D : DataW H)
    (hm : a.eval m = .map (some b)) (hown : w.ownsMap P k (plainElem P e) b n D) (key : Value) (kl : Lit) (hx : a.eval x = key) (hkey : keyOf P k key = some kl)
    (hK : ∀ c : Bool, D.atKey kl (.lit (.bool false)) = .lit (.bool c) → wpList P ops Q rest (a.put o.dst (.bool c)) w) :
    wpList P ops Q (o :: rest) a w := by
  refine wpList_plain hg fun K' hK' => ?_
  obtain ⟨v, ps, hrun, hv⟩ := hown.lookup K ht hz (plainElem_bool he false) hkey
  obtain ⟨c, rfl, hc⟩ := plainElem_bool_inv he hv
  simp only [Prod.mk.injEq] at hc
  unfold Oper.wp
  simp [execOp, hop, hm, hx, hrun, Result.andThen]
  exact hK' _ _ (hK c hc.1)
/-- The map holds just those names. -/
def SeenMap (D : DataW Unit) (seen : List (List UInt8)) : Prop := IsMap D ∧ ∀ s : List UInt8, D.atKey (.string s) (.lit (.bool false)) = .lit (.bool (decide (s ∈ seen)))
theorem seenMap_start : SeenMap (.map []) [] := ⟨isMap_empty, fun s => by simp only [List.not_mem_nil, decide_false]; rfl⟩
theorem seenMap_next {D : DataW Unit} {seen : List (List UInt8)} (h : SeenMap D seen) (x : List UInt8) : SeenMap (D.put (.string x) (.lit (.bool true))) (x :: seen) := by
  refine ⟨h.1.put _ _, fun s => ?_⟩
  by_cases hs : s = x
  · subst hs
    rw [atKey_put_same h.1 (by simp [WideAt.IsKeyLit]), decide_eq_true (by simp)]
  · rw [atKey_put_other (fun e => hs (by injection e)), h.2 s]
    simp [hs]
set_option maxHeartbeats 2000000 in
set_option maxRecDepth 100000 in
theorem twice_any (A : Option Addr) (n c : Nat) (l : List Lb) (w : World) (hL : Lst Lb.cells 2 w w.heap.size A n l) (hbig : n ≤ 1099511627776) (hsz : ∀ x ∈ l, x.nm.size ≤ maxLen) :
    Calls Tryz.prog 240 #[.slice A n c] w fun e w' => e = .returned (.bool (twiceN [] l)) ∧ Below w.heap.size w w' := by
  have hmm := @run_makeMap Tryz.prog
  have HL := Lib.hid (show _ ∧ _ from ⟨hL, hsz⟩)
  clear hL hsz
  go_enter Tryz.func240, Tryz.ntmps240
  go_wp2
  go_loopw [5, 9] (fun _ i wr => ∃ (k : Nat) (seen : List (List UInt8)) (D : DataW Unit), k ≤ n ∧ i = .int .i64 k ∧ Hid (wr.ownsMap Tryz.prog 9 (plainElem Tryz.prog 4) w.heap.size k D ∧ SeenMap D seen ∧ twiceN [] l = twiceN seen (l.drop k)) ∧ Below w.heap.size w wr) (fun _ i _ => n - (intOf i).toNat)
  case atStart => exact ⟨0, [], .map [], Nat.zero_le _, rfl, Lib.hid ⟨World.ownsMap_made _ _ _ _, seenMap_start, rfl⟩, (Below.refl _ _).alloc (Nat.le_refl _) _⟩
  case round =>
    obtain ⟨k, seen, D, hk, rfl, HR, hbl⟩ := hrel
    by_cases hlt : k < n
    · obtain ⟨b, off, x, rfl, hb, hx, hcl⟩ := HL.out.1.at hlt
      have hxm : x ∈ l := List.mem_of_getElem? hx
      have c0 := (hbl.cell (p := ⟨b, off + k * 2 + 0, none⟩) hb).trans (hcl 0 _ rfl)
      have c1 := (hbl.cell (p := ⟨b, off + k * 2 + 1, none⟩) hb).trans (hcl 1 _ rfl)
      simp only [Nat.add_zero] at c0
      have hkey : keyOf Tryz.prog 9 (.string x.nm) = some (.string x.nm.data.toList) := keyOf_string_mk Tryz.underlying9 (HL.out.2 x hxm)
      obtain ⟨h1, e1⟩ := List.getElem?_eq_some_iff.1 hx
      have hdr : l.drop k = x :: l.drop (k + 1) := by rw [List.drop_eq_getElem_cons h1, e1]
      have hat := HR.out.2.1.2 x.nm.data.toList
      have hne : w.heap.size ≠ wr.heap.size := by
        have := hbl.size
        obtain ⟨es, clock, hbk, _⟩ := HR.out.1
        have := (Array.getElem?_eq_some_iff.1 hbk).1
        omega
      by_cases hm : x.nm.data.toList ∈ seen
      · have hr : twiceN [] l = true := by rw [HR.out.2.2, hdr, twiceN, if_pos hm]
        rw [decide_eq_true hm] at hat
        have HA := Lib.hid (show _ ∧ _ from ⟨hat, hr⟩)
        have HB := Lib.hid hbl
        clear hcl hx e1 hdr hat hr hbl
        go_wp2_with (first
          | (at_lookup; refine wpList_lookup_own_bool _ rfl _ _ 172 rfl 9 4 Tryz.keyStr Tryz.underlying172 Tryz.underlying4 (Tryz.zeroBool _) w.heap.size k D rfl (HR.out.1.alloc _) _ _ rfl hkey ?_; intro c hc; obtain rfl : c = true := by (rw [HA.out.1] at hc; injection hc with hc; injection hc with hc; exact hc.symm)))
        go_ret
        exact ⟨by rw [HA.out.2]; rfl, HB.out.alloc HB.out.size _⟩
      · have hr : twiceN [] l = twiceN (x.nm.data.toList :: seen) (l.drop (k + 1)) := by rw [HR.out.2.2, hdr, twiceN, if_neg hm]
        rw [decide_eq_false hm] at hat
        have HA := Lib.hid (show _ ∧ _ from ⟨hat, hr⟩)
        have HB := Lib.hid hbl
        clear hcl hx e1 hdr hat hr hbl
        go_wp2_with (first
          | (at_lookup; refine wpList_lookup_own_bool _ rfl _ _ 172 rfl 9 4 Tryz.keyStr Tryz.underlying172 Tryz.underlying4 (Tryz.zeroBool _) w.heap.size k D rfl (HR.out.1.alloc _) _ _ rfl hkey ?_; intro c hc; obtain rfl : c = false := by (rw [HA.out.1] at hc; injection hc with hc; injection hc with hc; exact hc.symm))
          | (at_mapUpdate; refine wpList_mapUpdate_own _ rfl _ _ _ 172 rfl 9 4 Tryz.keyStr Tryz.underlying172 _ w.heap.size k D rfl (HR.out.1.alloc _) (by unfold maxLen; omega) _ _ _ rfl rfl hkey _ [] (plainElem_bool Tryz.underlying4 true) ?_))
        intro w1 hown1 hgrow1
        have hb1 := (HB.out.alloc HB.out.size (.cells #[.string x.nm, .string x.vl] 104)).grown hgrow1 (by simp; have := HB.out.size; omega) (fun j hj => by cases hj; exact Nat.le_refl _)
        have H1 := Lib.hid (show _ ∧ _ from ⟨hown1, hb1⟩)
        clear hown1 hgrow1 hb1
        go_wp2
        go_roundw
        case measure => simp [intOf]; omega
        case rel => exact ⟨k + 1, x.nm.data.toList :: seen, _, hlt, by simp, Lib.hid ⟨H1.out.1, seenMap_next HR.out.2.1 _, HA.out.2⟩, H1.out.2⟩
    · have hr : twiceN [] l = false := by rw [HR.out.2.2, List.drop_eq_nil_of_le (by have := HL.out.1.1; omega)]; rfl
      have HX := Lib.hid hr
      clear hr
      go_wp2
      go_ret
      exact ⟨by rw [HX.out]; rfl, hbl⟩
end Go.Proofs.YtajaijidecomdaaGreatDoor
namespace Go.Proofs.YtajaijidecomdaaGreatDoor
open Go.RowKit Go.Lib Go.Sort

/-- A label that a set can't hold: by its name, or its value is too long. -/
def badS (x : Lb) : Bool := !nameB x.nm.data.toList || decide (1024 < x.vl.size)
/-- .. its value empty, too. -/
def badC (x : Lb) : Bool := !nameB x.nm.data.toList || decide (x.vl.data.toList = []) || decide (1024 < x.vl.size)
def fullV (x : Lb) : Bool := !decide (x.vl.data.toList = [])
set_option maxHeartbeats 1000000 in
theorem checkBad (W : World) (x : Lb) : Calls Tryz.prog 237 #[.agg #[.string x.nm, .string x.vl]] W fun e w' => e = .returned (.bool (badC x)) ∧ Below W.heap.size W w' := by
  unfold badC
  have hc := fun W' => name_any x.nm W'
  generalize nameB x.nm.data.toList = r at hc ⊢
  have hc0 : (W.alloc (.cells #[.string x.nm, .string x.vl] 104)).cell? ⟨W.heap.size, 1, none⟩ = some (.string x.vl) := by simp
  cases r with
  | false =>
    go_enter Tryz.func237, Tryz.ntmps237
    go_wp2_with (go_at_call 238; refine (hc _).mono ?_; rintro e w' ⟨rfl, hbw⟩)
    go_ret
    exact ⟨rfl, ((Below.refl _ _).alloc (Nat.le_refl _) _).trans (hbw.mono (by simp))⟩
  | true =>
    obtain ⟨y, hy⟩ : ∃ y, decide (1024 < x.vl.size) = y := ⟨_, rfl⟩
    have hyi : decide ((1024 : Int) < (x.vl.size : Int)) = y := by rw [← hy]; apply decide_eq_decide.2; omega
    obtain ⟨z, hz⟩ : ∃ z, decide (x.vl.data.toList = []) = z := ⟨_, rfl⟩
    have hzi : (x.vl.toList == []) = z := by rw [← hz, ByteArray.toList_eq]; cases x.vl.data.toList <;> rfl
    rw [hy, hz]
    clear hy hz
    cases z with
    | false =>
      go_enter Tryz.func237, Tryz.ntmps237
      go_wp2_with (go_at_call 238; refine (hc _).mono ?_; rintro e w' ⟨rfl, hbw⟩; have k1 := (hbw.cell (p := ⟨W.heap.size, 1, none⟩) (by simp)).trans hc0)
      go_ret
      exact ⟨rfl, ((Below.refl _ _).alloc (Nat.le_refl _) _).trans (hbw.mono (by simp))⟩
    | true =>
      go_enter Tryz.func237, Tryz.ntmps237
      go_wp2_with (go_at_call 238; refine (hc _).mono ?_; rintro e w' ⟨rfl, hbw⟩; have k1 := (hbw.cell (p := ⟨W.heap.size, 1, none⟩) (by simp)).trans hc0)
      go_ret
      exact ⟨rfl, ((Below.refl _ _).alloc (Nat.le_refl _) _).trans (hbw.mono (by simp))⟩
/-- The one before the other by name. -/
def nameC (x y : Lb) : Int := textC x.nm y.nm
theorem byName_grow (x y : Lb) (W : World) : Calls Tryz.prog 242 #[.agg #[.string x.nm, .string x.vl], .agg #[.string y.nm, .string y.vl]] W fun e w' => e = .returned (.int .i64 (nameC x y)) ∧ ∃ q os', w' = grow (W.drewN q) os' := by
  have hcon := fun W' => compare_str x.nm y.nm W'
  change ∀ W', Calls _ _ _ _ (fun e w' => e = .returned (.int .i64 (nameC x y)) ∧ w' = W') at hcon
  generalize nameC x y = r at hcon ⊢
  go_enter Tryz.func242, Tryz.ntmps242
  go_wp2_with (go_at_call 217; refine (hcon _).mono ?_; rintro e w' ⟨rfl, rfl⟩)
  go_ret
  exact ⟨rfl, 0, _, by rw [alloc_eq_grow, alloc_eq_grow, grow_grow]; rfl⟩
instance : Inhabited Lb := ⟨⟨ByteArray.empty, ByteArray.empty⟩⟩
/-- slices.ContainsFunc at labels, by a predicate that may lay blocks of its own. -/
theorem containsLabel (g : Nat) (eg : ∀ args w, (callFunc g args).run Tryz.prog w = .ok (.enter g args) w) (p : Lb → Bool) (hp : ∀ (W : World) (x : Lb), Calls Tryz.prog g #[.agg #[.string x.nm, .string x.vl]] W fun e w' => e = .returned (.bool (p x)) ∧ Below W.heap.size W w')
    (A : Option Addr) (n c : Nat) (l : List Lb) (w : World) (hL : Lst Lb.cells 2 w w.heap.size A n l) (hbig : n ≤ 1099511627776) :
    Calls Tryz.prog 239 #[.slice A n c, .func (.func g) #[] #[]] w fun e w' => e = .returned (.bool (l.any p)) ∧ Below w.heap.size w w' := by
  by_cases h0 : n = 0
  · subst h0
    have hl0 : l = [] := List.length_eq_zero_iff.1 hL.1
    rw [hl0]
    clear hL hp eg
    go_enter Tryz.func239, Tryz.ntmps239
    go_wp2
    refine wp_loop_rounds 1 ?_
    rw [rounds_succ]
    go_wp2
    go_ret
    exact ⟨rfl, Below.refl _ _⟩
  · obtain ⟨b, off, x, rfl, hb, _, _⟩ := hL.at (k := 0) (by omega)
    have hcon := AnyQ.slices_ContainsFunc { Tryz.hasLabel with } 2 Tryz.isAgg104 Tryz.sizeOf104 Lb.cells Lb.len p g #[] eg b off n c l w (fun W x hb => (hp W x).mono fun e w' h => ⟨h.1, hb.trans (h.2.mono hb.size)⟩) (by rw [hL.1]; exact Nat.le_refl _) (by omega) hb (fun j hj i v hv => by
      obtain ⟨b', off', y, hA, _, hy, hcl⟩ := hL.at (k := j) (by have := hL.1; omega)
      cases hA
      have h1 := List.getElem?_eq_some_iff.1 hy
      rw [getElem!_pos l j hj, h1.2] at hv
      exact hcl i v hv)
    rw [show l.take n = l by rw [← hL.1]; exact List.take_length] at hcon
    exact hcon
end Go.Proofs.YtajaijidecomdaaGreatDoor
namespace Go.Proofs.YtajaijidecomdaaGreatDoor
open Go.RowKit Go.Lib Go.Sort

set_option maxHeartbeats 2000000 in
set_option maxRecDepth 100000 in
theorem kept_any (g : Nat) (lb : Array Value) (eg : ∀ args w, (callFunc g args).run Tryz.prog w = .ok (.enter g args) w) (p : Lb → Bool) (A : Option Addr) (n c : Nat) (l : List Lb) (w : World)
    (hp : ∀ (W : World) (x : Lb), x ∈ l → Below w.heap.size w W → Calls Tryz.prog g (#[.agg #[.string x.nm, .string x.vl]] ++ lb) W fun e w' => e = .returned (.bool (p x)) ∧ Below W.heap.size W w')
    (hL : Lst Lb.cells 2 w w.heap.size A n l) (hbig : n ≤ 1099511627776) :
    Calls Tryz.prog 149 #[.slice A n c, .func (.func g) #[] lb] w fun e w' => ∃ v, e = .returned v ∧ w'.ownsRow w.heap.size 104 2 v (l.filter p).length ((l.filter p).flatMap Lb.cells) ∧ Below w.heap.size w w' := by
  obtain ⟨i0, hi, hz0, hz1, hz2⟩ := info_parts Tryz.infoLabel
  have HI := Lib.hid (show _ ∧ _ ∧ _ ∧ _ from ⟨hi, hz0, hz1, hz2⟩)
  have HL := Lib.hid (show _ ∧ _ from ⟨hL, hp⟩)
  clear hL hp hi hz0 hz1 hz2
  go_enter Tryz.func149, Tryz.ntmps149
  go_wp2
  go_loopw [5, 7, 10] (fun v _ i wr => ∃ k : Nat, k ≤ n ∧ i = .int .i64 k ∧ Hid (wr.ownsRow w.heap.size 104 2 v ((l.take k).filter p).length (((l.take k).filter p).flatMap Lb.cells) ∧ Below w.heap.size w wr)) (fun _ _ i _ => n - (intOf i).toNat)
  case atStart => exact ⟨0, Nat.zero_le _, rfl, Lib.hid ⟨World.ownsRow_nil _ _ _ _, Below.refl _ _⟩⟩
  case round =>
    obtain ⟨k, hk, rfl, HR⟩ := hrel
    by_cases hlt : k < n
    · obtain ⟨b, off, x, rfl, hb, hx, hcl⟩ := HL.out.1.at hlt
      have c0 := (HR.out.2.cell (p := ⟨b, off + k * 2 + 0, none⟩) hb).trans (hcl 0 _ rfl)
      have c1 := (HR.out.2.cell (p := ⟨b, off + k * 2 + 1, none⟩) hb).trans (hcl 1 _ rfl)
      simp only [Nat.add_zero] at c0
      obtain ⟨hkl, e1⟩ := List.getElem?_eq_some_iff.1 hx
      have hst : (l.take (k + 1)).filter p = (l.take k).filter p ++ (if p x then [x] else []) := by
        rw [List.take_succ_eq_append_getElem hkl, List.filter_append, e1]
        congr 1
        simp [List.filter_cons]
      have hlen : ((l.take k).filter p).length ≤ k := by
        have h1 := List.length_filter_le p (l.take k)
        have h2 := List.length_take_le k l
        omega
      have hb0 : Below w.heap.size w (wr.alloc (.cells #[.string x.nm, .string x.vl] 104)) := HR.out.2.alloc HR.out.2.size _
      have hcon := HL.out.2 (wr.alloc (.cells #[.string x.nm, .string x.vl] 104)) x (List.mem_of_getElem? hx) hb0
      have ho0 := HR.out.1.alloc (.cells #[.string x.nm, .string x.vl] 104)
      generalize (l.take k).filter p = fl at hst hlen ho0
      have HC := Lib.hid (show _ ∧ _ ∧ _ from ⟨hcon, hb0, ho0⟩)
      have HS := Lib.hid (show _ ∧ _ from ⟨hst, hlen⟩)
      have hx0 : (wr.alloc (.cells #[.string x.nm, .string x.vl] 104)).cell? ⟨wr.heap.size, 0, none⟩ = some (.string x.nm) := by simp
      have hx1 : (wr.alloc (.cells #[.string x.nm, .string x.vl] 104)).cell? ⟨wr.heap.size, 1, none⟩ = some (.string x.vl) := by simp
      clear hcon hb0 ho0 hst hlen hcl hx HR e1
      cases hpx : p x with
      | false =>
        rw [hpx] at HC HS
        go_wp2_with (go_at_fn g; refine HC.out.1.mono ?_; rintro e w1 ⟨rfl, hb1⟩; have H1 := Lib.hid hb1; clear hb1)
        go_roundw
        case measure => simp [intOf]; omega
        case rel =>
          have hbB := HC.out.2.1.trans (H1.out.mono HC.out.2.1.size)
          refine ⟨k + 1, hlt, by simp, Lib.hid ⟨?_, hbB⟩⟩
          rw [HS.out.1]
          simp only [Bool.false_eq_true, if_false, List.append_nil]
          exact HC.out.2.2.kept (row := none) ⟨H1.out.os, H1.out.tape, H1.out.output, H1.out.size, fun j hj _ => H1.out.block j hj⟩ (by cases u5.ownBlock <;> simp)
      | true =>
        rw [hpx] at HC HS
        have hfll := HS.out.2
        obtain ⟨hi, hz0, hz1, hz2⟩ := HI.out
        go_wp2_with (first
          | (go_at_fn g; refine HC.out.1.mono ?_; rintro e w1 ⟨rfl, hb1⟩; have k0 := (hb1.cell (p := ⟨wr.heap.size, 0, none⟩) (by simp)).trans hx0; have k1 := (hb1.cell (p := ⟨wr.heap.size, 1, none⟩) (by simp)).trans hx1; have hsz1 := hb1.size; have H1 := Lib.hid (show w1.ownsRow w.heap.size 104 2 u5 fl.length (fl.flatMap Lb.cells) ∧ Below w.heap.size w w1 from ⟨HC.out.2.2.kept (row := none) ⟨hb1.os, hb1.tape, hb1.output, hb1.size, fun j hj _ => hb1.block j hj⟩ (by cases u5.ownBlock <;> simp), HC.out.2.1.trans (hb1.mono HC.out.2.1.size)⟩); have hsw := H1.out.2.size; clear hb1)
          | (at_builtin; refine wpList_append_own _ rfl _ _ 88 rfl w.heap.size 104 i0 _ 2 32 Tryz.underlying88 hi hz0 hz1 hz2 rfl (by omega) _ fl.length (fl.flatMap Lb.cells) rfl (H1.out.1.alloc _) ⟨w1.heap.size, 0, none⟩ 1 1 (x.cells) rfl rfl (cells_newL w1 x.cells _) ?c2 (by unfold maxLen; omega) (by omega) (by simp; omega) ?_))
        case c2 => exact fun u hu => by simp only [Lb.cells, List.mem_cons, List.not_mem_nil, or_false] at hu; rcases hu with rfl | rfl <;> rfl
        intro v' w5 hown5 hg5 _
        have hb5 := (H1.out.2.alloc H1.out.2.size (.cells #[.string x.nm, .string x.vl] 104)).grown hg5 (by simp; have := H1.out.2.size; omega) (fun j hj => (H1.out.1.lt j hj).1)
        have H5 := Lib.hid (show _ ∧ _ from ⟨hown5, hb5⟩)
        clear hi hz0 hz1 hz2 hown5 hg5 hb5
        go_wp2
        go_roundw
        case measure => simp [intOf]; omega
        case rel =>
          refine ⟨k + 1, hlt, by simp, Lib.hid ⟨?_, H5.out.2⟩⟩
          rw [HS.out.1]
          simp only [if_true]
          rw [List.flatMap_append, List.length_append]
          simpa using H5.out.1
    · have hkn : k = n := by omega
      have hfl : l.take k = l := by rw [hkn, ← HL.out.1.1]; exact List.take_length
      rw [hfl] at HR
      go_wp2
      go_ret
      exact ⟨_, rfl, HR.out.1, HR.out.2⟩
end Go.Proofs.YtajaijidecomdaaGreatDoor
