/- labels.twice: is a name there twice? The map of the names that were seen. The predicates of labels.Set and labels.Check; their ContainsFunc; labels by name. -/
import Derived.Test.YtajaijidecomdaaGreatDoorG05
import Derived.Maps.OwnSet
import Derived.Maps.OwnOps
import Derived.BigQuiet
import Derived.Test.YtajaijidecomdaaGreatDoorName
import Derived.Shelf.SlicesQ.IndexFunc
namespace Go.Proofs.YtajaijidecomdaaGreatDoor
open Go.RowKit Go.Lib Go.Maps Go.WideMaps Go.WideShapes

/-- Is one of the names among those seen, or twice there? -/
def twiceN (seen : List (List UInt8)) : List Lb → Bool
  | [] => false
  | x :: t => if x.nm.data.toList ∈ seen then true else twiceN (x.nm.data.toList :: seen) t
theorem Tryz.keyStr : Keyed Tryz.prog 9 := string_keyed Tryz.underlying9
theorem Tryz.zeroBool (w : World) : (zeroValue 4).run Tryz.prog w = .ok (.bool false) w := by kernel_rfl
theorem plainElem_bool_inv {H : Type} {P : Program} {e : TypeId} (he : P.underlying e = some .bool) {v : Value} {z : DataW H × List MemPlace} (h : plainElem P e v = some z) : ∃ c, v = .bool c ∧ z = (.lit (.bool c), []) := by
  unfold plainElem at h
  rw [he] at h
  cases v <;> simp at h
  exact ⟨_, rfl, h.symm⟩
/-- A look-up in a map of the call's own, of truths. -/
theorem wpList_lookup_own_bool {H : Type} {P : Program} (w : World) {ops : Array Oper} {rest : List Oper} {o : Oper} {a : Act} {Q : Exit → Act → World → Prop}
    (hg : o.guard = none) (m x : Operand) (t : TypeId) (hop : o.op = Op.lookup t m x false)
    (k e : TypeId) (K : Keyed P k) (ht : P.underlying t = some (.map k e)) (he : P.underlying e = some .bool) (hz : (zeroValue e).run P w = .ok (.bool false) w) (b n : Nat) (D : DataW H)
    (hm : a.eval m = .map (some b)) (hown : w.ownsMap P k (plainElem P e) b n D) (key : Value) (kl : Lit) (hx : a.eval x = key) (hkey : keyOf P k key = some kl)
    (hK : ∀ c : Bool, D.atKey kl (.lit (.bool false)) = .lit (.bool c) → wpList P ops Q rest (a.put o.dst (.bool c)) w) :
    wpList P ops Q (o :: rest) a w := by
  refine wpList_plain hg fun K' hK' => ?_
  obtain ⟨v, ps, hrun, hv⟩ := hown.lookup K ht hz (plainElem_bool he false) hkey
  obtain ⟨c, rfl, hc⟩ := plainElem_bool_inv he hv
  simp only [Prod.mk.injEq] at hc
  unfold Oper.wp
  simp [execOp, hop, hm, hx, hrun, Result.andThen]
  exact hK' _ _ (hK c hc.1)
/-- The map holds just those names. -/
def SeenMap (D : DataW Unit) (seen : List (List UInt8)) : Prop := IsMap D ∧ ∀ s : List UInt8, D.atKey (.string s) (.lit (.bool false)) = .lit (.bool (decide (s ∈ seen)))
theorem seenMap_start : SeenMap (.map []) [] := ⟨isMap_empty, fun s => by simp only [List.not_mem_nil, decide_false]; rfl⟩
theorem seenMap_next {D : DataW Unit} {seen : List (List UInt8)} (h : SeenMap D seen) (x : List UInt8) : SeenMap (D.put (.string x) (.lit (.bool true))) (x :: seen) := by
  refine ⟨h.1.put _ _, fun s => ?_⟩
  by_cases hs : s = x
  · subst hs
    rw [atKey_put_same h.1 (by simp [WideAt.IsKeyLit]), decide_eq_true (by simp)]
  · rw [atKey_put_other (fun e => hs (by injection e)), h.2 s]
    simp [hs]
set_option maxHeartbeats 2000000 in
set_option maxRecDepth 100000 in
theorem twice_any (A : Option Addr) (n c : Nat) (l : List Lb) (w : World) (hL : Lst Lb.cells 2 w w.heap.size A n l) (hbig : n ≤ 1099511627776) (hsz : ∀ x ∈ l, x.nm.size ≤ maxLen) :
    Calls Tryz.prog 240 #[.slice A n c] w fun e w' => e = .returned (.bool (twiceN [] l)) ∧ Below w.heap.size w w' := by
  have hmm := @run_makeMap Tryz.prog
  have HL := Lib.hid (show _ ∧ _ from ⟨hL, hsz⟩)
  clear hL hsz
  go_enter Tryz.func240, Tryz.ntmps240
  go_wp2
  go_loopw [5, 9] (fun _ i wr => ∃ (k : Nat) (seen : List (List UInt8)) (D : DataW Unit), k ≤ n ∧ i = .int .i64 k ∧ Hid (wr.ownsMap Tryz.prog 9 (plainElem Tryz.prog 4) w.heap.size k D ∧ SeenMap D seen ∧ twiceN [] l = twiceN seen (l.drop k)) ∧ Below w.heap.size w wr) (fun _ i _ => n - (intOf i).toNat)
  case atStart => exact ⟨0, [], .map [], Nat.zero_le _, rfl, Lib.hid ⟨World.ownsMap_made _ _ _ _, seenMap_start, rfl⟩, (Below.refl _ _).alloc (Nat.le_refl _) _⟩
  case round =>
    obtain ⟨k, seen, D, hk, rfl, HR, hbl⟩ := hrel
    by_cases hlt : k < n
    · obtain ⟨b, off, x, rfl, hb, hx, hcl⟩ := HL.out.1.at hlt
      have hxm : x ∈ l := List.mem_of_getElem? hx
      have c0 := (hbl.cell (p := ⟨b, off + k * 2 + 0, none⟩) hb).trans (hcl 0 _ rfl)
      have c1 := (hbl.cell (p := ⟨b, off + k * 2 + 1, none⟩) hb).trans (hcl 1 _ rfl)
      simp only [Nat.add_zero] at c0
      have hkey : keyOf Tryz.prog 9 (.string x.nm) = some (.string x.nm.data.toList) := keyOf_string_mk Tryz.underlying9 (HL.out.2 x hxm)
      obtain ⟨h1, e1⟩ := List.getElem?_eq_some_iff.1 hx
      have hdr : l.drop k = x :: l.drop (k + 1) := by rw [List.drop_eq_getElem_cons h1, e1]
      have hat := HR.out.2.1.2 x.nm.data.toList
      have hne : w.heap.size ≠ wr.heap.size := by
        have := hbl.size
        obtain ⟨es, clock, hbk, _⟩ := HR.out.1
        have := (Array.getElem?_eq_some_iff.1 hbk).1
        omega
      by_cases hm : x.nm.data.toList ∈ seen
      · have hr : twiceN [] l = true := by rw [HR.out.2.2, hdr, twiceN, if_pos hm]
        rw [decide_eq_true hm] at hat
        have HA := Lib.hid (show _ ∧ _ from ⟨hat, hr⟩)
        have HB := Lib.hid hbl
        clear hcl hx e1 hdr hat hr hbl
        go_wp2_with (first
          | (at_lookup; refine wpList_lookup_own_bool _ rfl _ _ 172 rfl 9 4 Tryz.keyStr Tryz.underlying172 Tryz.underlying4 (Tryz.zeroBool _) w.heap.size k D rfl (HR.out.1.alloc _) _ _ rfl hkey ?_; intro c hc; obtain rfl : c = true := by (rw [HA.out.1] at hc; injection hc with hc; injection hc with hc; exact hc.symm)))
        go_ret
        exact ⟨by rw [HA.out.2]; rfl, HB.out.alloc HB.out.size _⟩
      · have hr : twiceN [] l = twiceN (x.nm.data.toList :: seen) (l.drop (k + 1)) := by rw [HR.out.2.2, hdr, twiceN, if_neg hm]
        rw [decide_eq_false hm] at hat
        have HA := Lib.hid (show _ ∧ _ from ⟨hat, hr⟩)
        have HB := Lib.hid hbl
        clear hcl hx e1 hdr hat hr hbl
        go_wp2_with (first
          | (at_lookup; refine wpList_lookup_own_bool _ rfl _ _ 172 rfl 9 4 Tryz.keyStr Tryz.underlying172 Tryz.underlying4 (Tryz.zeroBool _) w.heap.size k D rfl (HR.out.1.alloc _) _ _ rfl hkey ?_; intro c hc; obtain rfl : c = false := by (rw [HA.out.1] at hc; injection hc with hc; injection hc with hc; exact hc.symm))
          | (at_mapUpdate; refine wpList_mapUpdate_own _ rfl _ _ _ 172 rfl 9 4 Tryz.keyStr Tryz.underlying172 _ w.heap.size k D rfl (HR.out.1.alloc _) (by unfold maxLen; omega) _ _ _ rfl rfl hkey _ [] (plainElem_bool Tryz.underlying4 true) ?_))
        intro w1 hown1 hgrow1
        have hb1 := (HB.out.alloc HB.out.size (.cells #[.string x.nm, .string x.vl] 104)).grown hgrow1 (by simp; have := HB.out.size; omega) (fun j hj => by cases hj; exact Nat.le_refl _)
        have H1 := Lib.hid (show _ ∧ _ from ⟨hown1, hb1⟩)
        clear hown1 hgrow1 hb1
        go_wp2
        go_roundw
        case measure => simp [intOf]; omega
        case rel => exact ⟨k + 1, x.nm.data.toList :: seen, _, hlt, by simp, Lib.hid ⟨H1.out.1, seenMap_next HR.out.2.1 _, HA.out.2⟩, H1.out.2⟩
    · have hr : twiceN [] l = false := by rw [HR.out.2.2, List.drop_eq_nil_of_le (by have := HL.out.1.1; omega)]; rfl
      have HX := Lib.hid hr
      clear hr
      go_wp2
      go_ret
      exact ⟨by rw [HX.out]; rfl, hbl⟩
end Go.Proofs.YtajaijidecomdaaGreatDoor
namespace Go.Proofs.YtajaijidecomdaaGreatDoor
open Go.RowKit Go.Lib Go.Sort

/-- A label that a set can't hold: by its name, or its value is too long. -/
def badS (x : Lb) : Bool := !nameB x.nm.data.toList || decide (1024 < x.vl.size)
/-- .. its value empty, too. -/
def badC (x : Lb) : Bool := !nameB x.nm.data.toList || decide (x.vl.data.toList = []) || decide (1024 < x.vl.size)
def fullV (x : Lb) : Bool := !decide (x.vl.data.toList = [])
set_option maxHeartbeats 1000000 in
theorem checkBad (W : World) (x : Lb) : Calls Tryz.prog 237 #[.agg #[.string x.nm, .string x.vl]] W fun e w' => e = .returned (.bool (badC x)) ∧ Below W.heap.size W w' := by
  unfold badC
  have hc := fun W' => name_any x.nm W'
  generalize nameB x.nm.data.toList = r at hc ⊢
  have hc0 : (W.alloc (.cells #[.string x.nm, .string x.vl] 104)).cell? ⟨W.heap.size, 1, none⟩ = some (.string x.vl) := by simp
  cases r with
  | false =>
    go_enter Tryz.func237, Tryz.ntmps237
    go_wp2_with (go_at_call 238; refine (hc _).mono ?_; rintro e w' ⟨rfl, hbw⟩)
    go_ret
    exact ⟨rfl, ((Below.refl _ _).alloc (Nat.le_refl _) _).trans (hbw.mono (by simp))⟩
  | true =>
    obtain ⟨y, hy⟩ : ∃ y, decide (1024 < x.vl.size) = y := ⟨_, rfl⟩
    have hyi : decide ((1024 : Int) < (x.vl.size : Int)) = y := by rw [← hy]; apply decide_eq_decide.2; omega
    obtain ⟨z, hz⟩ : ∃ z, decide (x.vl.data.toList = []) = z := ⟨_, rfl⟩
    have hzi : (x.vl.toList == []) = z := by rw [← hz, ByteArray.toList_eq]; cases x.vl.data.toList <;> rfl
    rw [hy, hz]
    clear hy hz
    cases z with
    | false =>
      go_enter Tryz.func237, Tryz.ntmps237
      go_wp2_with (go_at_call 238; refine (hc _).mono ?_; rintro e w' ⟨rfl, hbw⟩; have k1 := (hbw.cell (p := ⟨W.heap.size, 1, none⟩) (by simp)).trans hc0)
      go_ret
      exact ⟨rfl, ((Below.refl _ _).alloc (Nat.le_refl _) _).trans (hbw.mono (by simp))⟩
    | true =>
      go_enter Tryz.func237, Tryz.ntmps237
      go_wp2_with (go_at_call 238; refine (hc _).mono ?_; rintro e w' ⟨rfl, hbw⟩; have k1 := (hbw.cell (p := ⟨W.heap.size, 1, none⟩) (by simp)).trans hc0)
      go_ret
      exact ⟨rfl, ((Below.refl _ _).alloc (Nat.le_refl _) _).trans (hbw.mono (by simp))⟩
/-- The one before the other by name. -/
def nameC (x y : Lb) : Int := textC x.nm y.nm
theorem byName_grow (x y : Lb) (W : World) : Calls Tryz.prog 242 #[.agg #[.string x.nm, .string x.vl], .agg #[.string y.nm, .string y.vl]] W fun e w' => e = .returned (.int .i64 (nameC x y)) ∧ ∃ q os', w' = grow (W.drewN q) os' := by
  have hcon := fun W' => compare_str x.nm y.nm W'
  change ∀ W', Calls _ _ _ _ (fun e w' => e = .returned (.int .i64 (nameC x y)) ∧ w' = W') at hcon
  generalize nameC x y = r at hcon ⊢
  go_enter Tryz.func242, Tryz.ntmps242
  go_wp2_with (go_at_call 217; refine (hcon _).mono ?_; rintro e w' ⟨rfl, rfl⟩)
  go_ret
  exact ⟨rfl, 0, _, by rw [alloc_eq_grow, alloc_eq_grow, grow_grow]; rfl⟩
instance : Inhabited Lb := ⟨⟨ByteArray.empty, ByteArray.empty⟩⟩
/-- slices.ContainsFunc at labels, by a predicate that may lay blocks of its own. -/
theorem containsLabel (g : Nat) (eg : ∀ args w, (callFunc g args).run Tryz.prog w = .ok (.enter g args) w) (p : Lb → Bool) (hp : ∀ (W : World) (x : Lb), Calls Tryz.prog g #[.agg #[.string x.nm, .string x.vl]] W fun e w' => e = .returned (.bool (p x)) ∧ Below W.heap.size W w')
    (A : Option Addr) (n c : Nat) (l : List Lb) (w : World) (hL : Lst Lb.cells 2 w w.heap.size A n l) (hbig : n ≤ 1099511627776) :
    Calls Tryz.prog 239 #[.slice A n c, .func (.func g) #[] #[]] w fun e w' => e = .returned (.bool (l.any p)) ∧ Below w.heap.size w w' := by
  by_cases h0 : n = 0
  · subst h0
    have hl0 : l = [] := List.length_eq_zero_iff.1 hL.1
    rw [hl0]
    clear hL hp eg
    go_enter Tryz.func239, Tryz.ntmps239
    go_wp2
    refine wp_loop_rounds 1 ?_
    rw [rounds_succ]
    go_wp2
    go_ret
    exact ⟨rfl, Below.refl _ _⟩
  · obtain ⟨b, off, x, rfl, hb, _, _⟩ := hL.at (k := 0) (by omega)
    have hcon := AnyQ.slices_ContainsFunc { Tryz.hasLabel with } 2 Tryz.isAgg104 Tryz.sizeOf104 Lb.cells Lb.len p g #[] eg b off n c l w (fun W x hb => (hp W x).mono fun e w' h => ⟨h.1, hb.trans (h.2.mono hb.size)⟩) (by rw [hL.1]; exact Nat.le_refl _) (by omega) hb (fun j hj i v hv => by
      obtain ⟨b', off', y, hA, _, hy, hcl⟩ := hL.at (k := j) (by have := hL.1; omega)
      cases hA
      have h1 := List.getElem?_eq_some_iff.1 hy
      rw [getElem!_pos l j hj, h1.2] at hv
      exact hcl i v hv)
    rw [show l.take n = l by rw [← hL.1]; exact List.take_length] at hcon
    exact hcon
end Go.Proofs.YtajaijidecomdaaGreatDoor
