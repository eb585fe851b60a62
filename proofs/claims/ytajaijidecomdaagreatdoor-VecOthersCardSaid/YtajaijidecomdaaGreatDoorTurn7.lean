/- labels.Get, Keep, Without; the document's Get, Keep, Without. -/
import Derived.Test.YtajaijidecomdaaGreatDoorG11
import Derived.Test.YtajaijidecomdaaGreatDoorG12
namespace Go.Proofs.YtajaijidecomdaaGreatDoor
open Go.RowKit Go.Lib Go.Maps Go.WideMaps Go.WideShapes

/-- A label's value; empty, if it is not there. -/
def getL : List Lb → ByteArray → ByteArray
  | [], _ => ⟨#[]⟩
  | x :: t, s => if (x.nm.toList == s.toList) = true then x.vl else getL t s
/-- Is a text among some? -/
def inT (names : List ByteArray) (s : ByteArray) : Bool := decide (s.data.toList ∈ names.map (·.data.toList))
theorem inT_cons (t : ByteArray) (names : List ByteArray) (s : ByteArray) : inT (t :: names) s = ((t.toList == s.toList) || inT names s) := by
  unfold inT
  rw [ByteArray.toList_eq, ByteArray.toList_eq, List.map_cons]
  by_cases h : t.data.toList = s.data.toList
  · rw [decide_eq_true (by rw [h]; exact List.mem_cons_self)]
    simp [h]
  · have h1 : (t.data.toList == s.data.toList) = false := by simpa using h
    rw [h1, Bool.false_or]
    apply decide_eq_decide.2
    constructor
    · intro hm
      rcases List.mem_cons.1 hm with e | e
      · exact absurd e.symm h
      · exact e
    · exact fun hm => List.mem_cons_of_mem _ hm
theorem drop_cons {α : Type} {l : List α} {k : Nat} {x : α} (hx : l[k]? = some x) : l.drop k = x :: l.drop (k + 1) := by
  obtain ⟨h1, h2⟩ := List.getElem?_eq_some_iff.1 hx
  rw [List.drop_eq_getElem_cons h1, h2]
set_option maxHeartbeats 2000000 in
set_option maxRecDepth 100000 in
theorem get_any (A : Option Addr) (n c : Nat) (l : List Lb) (s : ByteArray) (w : World) (hL : Lst Lb.cells 2 w w.heap.size A n l) (hbig : n ≤ 1099511627776) :
    Calls Tryz.prog 201 #[.slice A n c, .string s] w fun e w' => e = .returned (.string (getL l s)) ∧ Below w.heap.size w w' := by
  obtain ⟨r, hr⟩ : ∃ r, getL l s = r := ⟨_, rfl⟩
  rw [hr]
  have HL := Lib.hid (show _ ∧ _ from ⟨hL, hr⟩)
  clear hL hr
  go_enter Tryz.func201, Tryz.ntmps201
  go_wp2
  go_loopw [6, 9] (fun _ i wr => ∃ k : Nat, k ≤ n ∧ i = .int .i64 k ∧ Hid (getL (l.drop k) s = r ∧ Below w.heap.size w wr)) (fun _ i _ => n - (intOf i).toNat)
  case atStart => exact ⟨0, Nat.zero_le _, rfl, Lib.hid ⟨HL.out.2, Below.refl _ _⟩⟩
  case round =>
    obtain ⟨k, hk, rfl, HR⟩ := hrel
    by_cases hlt : k < n
    · obtain ⟨b, off, x, rfl, hb, hx, hcl⟩ := HL.out.1.at hlt
      have c0 := (HR.out.2.cell (p := ⟨b, off + k * 2 + 0, none⟩) hb).trans (hcl 0 _ rfl)
      have c1 := (HR.out.2.cell (p := ⟨b, off + k * 2 + 1, none⟩) hb).trans (hcl 1 _ rfl)
      simp only [Nat.add_zero] at c0
      have hst : (if (x.nm.toList == s.toList) = true then x.vl else getL (l.drop (k + 1)) s) = r := by rw [← HR.out.1, drop_cons hx]; rfl
      have HX := Lib.hid hst
      clear hcl hx hst
      cases he : (x.nm.toList == s.toList) with
      | true =>
        have hv : x.vl = r := by have := HX.out; rwa [he, if_pos rfl] at this
        go_wp2
        go_ret
        exact ⟨rfl, HR.out.2.alloc HR.out.2.size _⟩
      | false =>
        have hv : Hid (getL (l.drop (k + 1)) s = r) := Lib.hid (by have := HX.out; rwa [he, if_neg (by decide)] at this)
        go_wp2
        go_roundw
        case measure => simp [intOf]; omega
        case rel => exact ⟨k + 1, hlt, by simp, Lib.hid ⟨hv.out, HR.out.2.alloc HR.out.2.size _⟩⟩
    · have hv : r = ⟨#[]⟩ := by rw [← HR.out.1, List.drop_eq_nil_of_le (by have := HL.out.1.1; omega)]; rfl
      go_wp2
      go_ret
      exact ⟨by rw [hv]; rfl, HR.out.2⟩
set_option maxHeartbeats 2000000 in
set_option maxRecDepth 100000 in
theorem refGet_any (A : Option Addr) (n c : Nat) (l : List Lb) (s : ByteArray) (w : World) (hL : Lst Lb.cells 2 w w.heap.size A n l) (hbig : n ≤ 1099511627776) :
    Calls Tryz.prog 160 #[.slice A n c, .string s] w fun e w' => e = .returned (.string (getL l s)) ∧ Below w.heap.size w w' := by
  obtain ⟨r, hr⟩ : ∃ r, getL l s = r := ⟨_, rfl⟩
  rw [hr]
  have HL := Lib.hid (show _ ∧ _ from ⟨hL, hr⟩)
  clear hL hr
  go_enter Tryz.func160, Tryz.ntmps160
  go_wp2
  go_loopw [5] (fun i wr => ∃ k : Nat, k ≤ n ∧ i = .int .i64 k ∧ Hid (getL (l.drop k) s = r ∧ Below w.heap.size w wr)) (fun i _ => n - (intOf i).toNat)
  case atStart => exact ⟨0, Nat.zero_le _, rfl, Lib.hid ⟨HL.out.2, Below.refl _ _⟩⟩
  case round =>
    obtain ⟨k, hk, rfl, HR⟩ := hrel
    by_cases hlt : k < n
    · obtain ⟨b, off, x, rfl, hb, hx, hcl⟩ := HL.out.1.at hlt
      have c0 := (HR.out.2.cell (p := ⟨b, off + k * 2 + 0, none⟩) hb).trans (hcl 0 _ rfl)
      have c1 := (HR.out.2.cell (p := ⟨b, off + k * 2 + 1, none⟩) hb).trans (hcl 1 _ rfl)
      simp only [Nat.add_zero] at c0
      have hst : (if (x.nm.toList == s.toList) = true then x.vl else getL (l.drop (k + 1)) s) = r := by rw [← HR.out.1, drop_cons hx]; rfl
      have HX := Lib.hid hst
      clear hcl hx hst
      cases he : (x.nm.toList == s.toList) with
      | true =>
        have hv : x.vl = r := by have := HX.out; rwa [he, if_pos rfl] at this
        go_wp2_with (go_quiet (fail))
        go_ret
        exact ⟨rfl, by first | exact HR.out.2 | exact below_drewN HR.out.2 _⟩
      | false =>
        have hv : Hid (getL (l.drop (k + 1)) s = r) := Lib.hid (by have := HX.out; rwa [he, if_neg (by decide)] at this)
        go_wp2_with (go_quiet (fail))
        go_roundw
        case measure => simp [intOf]; omega
        case rel => exact ⟨k + 1, hlt, by simp, Lib.hid ⟨hv.out, by first | exact HR.out.2 | exact below_drewN HR.out.2 _⟩⟩
    · have hv : r = ⟨#[]⟩ := by rw [← HR.out.1, List.drop_eq_nil_of_le (by have := HL.out.1.1; omega)]; rfl
      go_wp2
      go_ret
      exact ⟨by rw [hv]; rfl, HR.out.2⟩
set_option maxHeartbeats 2000000 in
set_option maxRecDepth 100000 in
theorem has_any (A : Option Addr) (n c : Nat) (l : List ByteArray) (s : ByteArray) (w : World) (hL : Lst encTx 1 w w.heap.size A n l) (hbig : n ≤ 1099511627776) :
    Calls Tryz.prog 168 #[.slice A n c, .string s] w fun e w' => e = .returned (.bool (inT l s)) ∧ ∃ q, w' = w.drewN q := by
  obtain ⟨r, hr⟩ : ∃ r, inT l s = r := ⟨_, rfl⟩
  rw [hr]
  have HL := Lib.hid (show _ ∧ _ from ⟨hL, hr⟩)
  clear hL hr
  go_enter Tryz.func168, Tryz.ntmps168
  go_wp2
  go_loopw [5] (fun i wr => ∃ k q : Nat, k ≤ n ∧ i = .int .i64 k ∧ wr = w.drewN q ∧ Hid (inT (l.drop k) s = r)) (fun i _ => n - (intOf i).toNat)
  case atStart => exact ⟨0, 0, Nat.zero_le _, rfl, rfl, Lib.hid HL.out.2⟩
  case round =>
    obtain ⟨k, q, hk, rfl, rfl, HR⟩ := hrel
    by_cases hlt : k < n
    · obtain ⟨b, off, x, rfl, hb, hx, hcl⟩ := HL.out.1.at hlt
      have c0 := hcl 0 _ rfl
      simp only [Nat.add_zero, Nat.mul_one] at c0
      have hst : ((x.toList == s.toList) || inT (l.drop (k + 1)) s) = r := by rw [← HR.out, drop_cons hx, inT_cons]
      have HX := Lib.hid hst
      clear hcl hx hst
      cases he : (x.toList == s.toList) with
      | true =>
        have hv : r = true := by have := HX.out; rw [he, Bool.true_or] at this; exact this.symm
        go_wp2_with (go_quiet (fail))
        go_ret
        exact ⟨by rw [hv]; rfl, _, by first | rfl | exact World.drewN_drewN _ _ _⟩
      | false =>
        have hv : Hid (inT (l.drop (k + 1)) s = r) := Lib.hid (by have := HX.out; rwa [he, Bool.false_or] at this)
        go_wp2_with (go_quiet (fail))
        go_roundw
        case measure => simp [intOf]; omega
        case rel => exact ⟨k + 1, _, hlt, by simp, by first | rfl | exact World.drewN_drewN _ _ _, hv⟩
    · have hv : r = false := by rw [← HR.out, List.drop_eq_nil_of_le (by have := HL.out.1.1; omega)]; rfl
      go_wp2
      go_ret
      exact ⟨by rw [hv]; rfl, q, rfl⟩
/-- The map holds just those texts. -/
def AmongT (D : DataW Unit) (names : List ByteArray) : Prop := ∀ s : ByteArray, D.atKey (.string s.data.toList) (.lit (.bool false)) = .lit (.bool (inT names s))
set_option maxHeartbeats 2000000 in
set_option maxRecDepth 100000 in
theorem among_any (A : Option Addr) (n c : Nat) (l : List ByteArray) (w : World) (hL : Lst encTx 1 w w.heap.size A n l) (hbig : n ≤ 1099511627776) (hsz : ∀ x ∈ l, x.size ≤ maxLen) :
    Calls Tryz.prog 148 #[.slice A n c] w fun e w' => e = .returned (.map (some w.heap.size)) ∧ (∃ D, w'.ownsMap Tryz.prog 9 (plainElem Tryz.prog 4) w.heap.size n D ∧ AmongT D l) ∧ Below w.heap.size w w' := by
  have hmm := @run_makeMap Tryz.prog
  have HL := Lib.hid (show _ ∧ _ from ⟨hL, hsz⟩)
  clear hL hsz
  go_enter Tryz.func148, Tryz.ntmps148
  go_wp2
  go_loopw [5, 9] (fun _ i wr => ∃ (k : Nat) (seen : List (List UInt8)) (D : DataW Unit), k ≤ n ∧ i = .int .i64 k ∧ Hid (wr.ownsMap Tryz.prog 9 (plainElem Tryz.prog 4) w.heap.size k D ∧ SeenMap D seen ∧ ∀ s, s ∈ seen ↔ s ∈ (l.take k).map (·.data.toList)) ∧ Below w.heap.size w wr) (fun _ i _ => n - (intOf i).toNat)
  case atStart => exact ⟨0, [], .map [], Nat.zero_le _, rfl, Lib.hid ⟨World.ownsMap_made _ _ _ _, seenMap_start, by simp⟩, (Below.refl _ _).alloc (Nat.le_refl _) _⟩
  case round =>
    obtain ⟨k, seen, D, hk, rfl, HR, hbl⟩ := hrel
    by_cases hlt : k < n
    · obtain ⟨b, off, x, rfl, hb, hx, hcl⟩ := HL.out.1.at hlt
      have hxm : x ∈ l := List.mem_of_getElem? hx
      have c0 := (hbl.cell (p := ⟨b, off + k * 1 + 0, none⟩) hb).trans (hcl 0 _ rfl)
      simp only [Nat.add_zero, Nat.mul_one] at c0
      have hkey : keyOf Tryz.prog 9 (.string x) = some (.string x.data.toList) := keyOf_string_mk Tryz.underlying9 (HL.out.2 x hxm)
      have hs : ∀ s, s ∈ x.data.toList :: seen ↔ s ∈ (l.take (k + 1)).map (·.data.toList) := by
        intro s
        obtain ⟨h1, e1⟩ := List.getElem?_eq_some_iff.1 hx
        rw [List.take_succ_eq_append_getElem h1, e1, List.map_append, List.mem_append, List.mem_cons, HR.out.2.2 s]
        simp only [List.map_cons, List.map_nil, List.mem_singleton]
        exact Or.comm
      have HA := Lib.hid hs
      have HB := Lib.hid hbl
      clear hcl hx hs hbl
      go_wp2_with (at_mapUpdate; refine wpList_mapUpdate_own _ rfl _ _ _ 172 rfl 9 4 Tryz.keyStr Tryz.underlying172 _ w.heap.size k D rfl HR.out.1 (by unfold maxLen; omega) _ _ _ rfl rfl hkey _ [] (plainElem_bool Tryz.underlying4 true) ?_)
      intro w1 hown1 hgrow1
      have hb1 := HB.out.grown hgrow1 HB.out.size (fun j hj => by cases hj; exact Nat.le_refl _)
      have H1 := Lib.hid (show _ ∧ _ from ⟨hown1, hb1⟩)
      clear hown1 hgrow1 hb1
      go_wp2
      go_roundw
      case measure => simp [intOf]; omega
      case rel => exact ⟨k + 1, x.data.toList :: seen, _, hlt, by simp, Lib.hid ⟨H1.out.1, seenMap_next HR.out.2.1 _, HA.out⟩, H1.out.2⟩
    · obtain rfl : k = n := by omega
      go_wp2
      go_ret
      refine ⟨rfl, ⟨D, HR.out.1, fun s => ?_⟩, hbl⟩
      rw [HR.out.2.1.2]
      unfold inT
      congr 2
      apply decide_eq_decide.2
      rw [HR.out.2.2, List.take_of_length_le (by have := HL.out.1.1; omega)]
set_option maxHeartbeats 2000000 in
set_option maxRecDepth 100000 in
theorem keep1_any (p mb k : Nat) (D : DataW Unit) (names : List ByteArray) (W : World) (x : Lb) (hm : W.ownsMap Tryz.prog 9 (plainElem Tryz.prog 4) mb k D) (hS : AmongT D names) (hp : W.cell? ⟨p, 0, none⟩ = some (.map (some mb))) (hx : x.nm.size ≤ maxLen) :
    Calls Tryz.prog 167 (#[.agg #[.string x.nm, .string x.vl]] ++ #[.pointer (some ⟨p, 0, none⟩)]) W fun e w' => e = .returned (.bool (inT names x.nm)) ∧ Below W.heap.size W w' := by
  have hkey : keyOf Tryz.prog 9 (.string x.nm) = some (.string x.nm.data.toList) := keyOf_string_mk Tryz.underlying9 hx
  have hat := hS x.nm
  generalize inT names x.nm = r at hat ⊢
  have hpl := World.block_lt_of_cell? _ _ hp
  have HM := Lib.hid (show _ ∧ _ from ⟨hm, hat⟩)
  have hp' : (W.alloc (.cells #[.string x.nm, .string x.vl] 104)).cell? ⟨p, 0, none⟩ = some (.map (some mb)) := (((Below.refl W.heap.size W).alloc (Nat.le_refl _) _).cell hpl).trans hp
  clear hm hat hS
  go_enter Tryz.func167, Tryz.ntmps167
  go_wp2_with (at_lookup; refine wpList_lookup_own_bool _ rfl _ _ 172 rfl 9 4 Tryz.keyStr Tryz.underlying172 Tryz.underlying4 (Tryz.zeroBool _) mb k D rfl (HM.out.1.alloc _) _ _ rfl hkey ?_; intro c hc; obtain rfl : c = r := by (rw [HM.out.2] at hc; injection hc with hc; injection hc with hc; exact hc.symm))
  go_ret
  exact ⟨rfl, (Below.refl _ _).alloc (Nat.le_refl _) _⟩
set_option maxHeartbeats 2000000 in
set_option maxRecDepth 100000 in
theorem without1_any (p mb k : Nat) (D : DataW Unit) (names : List ByteArray) (W : World) (x : Lb) (hm : W.ownsMap Tryz.prog 9 (plainElem Tryz.prog 4) mb k D) (hS : AmongT D names) (hp : W.cell? ⟨p, 0, none⟩ = some (.map (some mb))) (hx : x.nm.size ≤ maxLen) :
    Calls Tryz.prog 150 (#[.agg #[.string x.nm, .string x.vl]] ++ #[.pointer (some ⟨p, 0, none⟩)]) W fun e w' => e = .returned (.bool (!inT names x.nm)) ∧ Below W.heap.size W w' := by
  have hkey : keyOf Tryz.prog 9 (.string x.nm) = some (.string x.nm.data.toList) := keyOf_string_mk Tryz.underlying9 hx
  have hat := hS x.nm
  generalize inT names x.nm = r at hat ⊢
  have hpl := World.block_lt_of_cell? _ _ hp
  have HM := Lib.hid (show _ ∧ _ from ⟨hm, hat⟩)
  have hp' : (W.alloc (.cells #[.string x.nm, .string x.vl] 104)).cell? ⟨p, 0, none⟩ = some (.map (some mb)) := (((Below.refl W.heap.size W).alloc (Nat.le_refl _) _).cell hpl).trans hp
  clear hm hat hS
  go_enter Tryz.func150, Tryz.ntmps150
  go_wp2_with (at_lookup; refine wpList_lookup_own_bool _ rfl _ _ 172 rfl 9 4 Tryz.keyStr Tryz.underlying172 Tryz.underlying4 (Tryz.zeroBool _) mb k D rfl (HM.out.1.alloc _) _ _ rfl hkey ?_; intro c hc; obtain rfl : c = r := by (rw [HM.out.2] at hc; injection hc with hc; injection hc with hc; exact hc.symm))
  go_ret
  exact ⟨rfl, (Below.refl _ _).alloc (Nat.le_refl _) _⟩
theorem Tryz.enterKeep1 : ∀ args w, (callFunc 167 args).run Tryz.prog w = .ok (.enter 167 args) w := enters_of Tryz.func167 (by kernel_rfl) rfl
theorem Tryz.enterWithout1 : ∀ args w, (callFunc 150 args).run Tryz.prog w = .ok (.enter 150 args) w := enters_of Tryz.func150 (by kernel_rfl) rfl
/-- Those names alone; all others. -/
def keepL (l : List Lb) (names : List ByteArray) : List Lb := l.filter fun x => inT names x.nm
def lessL (l : List Lb) (names : List ByteArray) : List Lb := l.filter fun x => !inT names x.nm
def OwnedL (R : List Lb) (w : World) (e : Ending) (w' : World) : Prop := ∃ v, e = .returned v ∧ w'.ownsRow w.heap.size 104 2 v R.length (R.flatMap Lb.cells) ∧ Below w.heap.size w w'
set_option maxHeartbeats 2000000 in
set_option maxRecDepth 100000 in
theorem keep_any (A A' : Option Addr) (n c n' c' : Nat) (l : List Lb) (names : List ByteArray) (w : World) (hL : Lst Lb.cells 2 w w.heap.size A n l) (hM : Lst encTx 1 w w.heap.size A' n' names) (hn : n ≤ 1099511627776) (hn' : n' ≤ 1099511627776) (hsz : ∀ x ∈ l, x.nm.size ≤ maxLen) (hsz' : ∀ x ∈ names, x.size ≤ maxLen) :
    Calls Tryz.prog 105 #[.slice A n c, .slice A' n' c'] w (OwnedL (keepL l names) w) := by
  have ham := among_any A' n' c' names w hM hn' hsz'
  have HL := Lib.hid (show _ ∧ _ from ⟨hL, hsz⟩)
  have HA := Lib.hid ham
  clear hL hM hsz hsz' ham
  go_enter Tryz.func105, Tryz.ntmps105
  go_wp2_with fail
  refine HA.out.mono ?_
  rintro e w1 ⟨rfl, ⟨D, hD, hS⟩, hb1⟩
  have hs1 := hb1.size
  have H1 := Lib.hid (show _ ∧ _ ∧ _ from ⟨hD, hS, hb1⟩)
  clear hD hS hb1
  go_wp2_with fail
  have hbx : Below w.heap.size w (w1.alloc (.cells #[.map (some w.heap.size)] 172)) := H1.out.2.2.alloc hs1 _
  have hcx : (w1.alloc (.cells #[.map (some w.heap.size)] 172)).cell? ⟨w1.heap.size, 0, none⟩ = some (.map (some w.heap.size)) := by simp
  have hmx := H1.out.1.alloc (.cells #[.map (some w.heap.size)] 172)
  have hsx : w1.heap.size < (w1.alloc (.cells #[.map (some w.heap.size)] 172)).heap.size := by simp
  change Calls _ _ _ (w1.alloc (.cells #[.map (some w.heap.size)] 172)) _
  generalize w1.alloc (.cells #[.map (some w.heap.size)] 172) = w2 at hbx hcx hmx hsx ⊢
  refine (kept_any 167 #[.pointer (some ⟨w1.heap.size, 0, none⟩)] Tryz.enterKeep1 (fun x => inT names x.nm) A n c l w2 (fun W x hx hb => keep1_any w1.heap.size w.heap.size _ D names W x (hmx.kept (row := none) ⟨hb.os, hb.tape, hb.output, hb.size, fun j hj _ => hb.block j hj⟩ (by simp)) H1.out.2.1 ((hb.cell hsx).trans hcx) (HL.out.2 x hx)) ((HL.out.1.below hbx).more hbx.size) hn).mono ?_
  rintro e w3 ⟨v, rfl, ho, hb3⟩
  have H3 := Lib.hid (show _ ∧ _ from ⟨owns_base ho hbx.size, hbx.trans (hb3.mono hbx.size)⟩)
  clear ho hb3 hbx hcx hmx hsx
  go_wp2
  go_ret
  exact ⟨_, rfl, H3.out.1, H3.out.2⟩
set_option maxHeartbeats 2000000 in
set_option maxRecDepth 100000 in
theorem without_any (A A' : Option Addr) (n c n' c' : Nat) (l : List Lb) (names : List ByteArray) (w : World) (hL : Lst Lb.cells 2 w w.heap.size A n l) (hM : Lst encTx 1 w w.heap.size A' n' names) (hn : n ≤ 1099511627776) (hn' : n' ≤ 1099511627776) (hsz : ∀ x ∈ l, x.nm.size ≤ maxLen) (hsz' : ∀ x ∈ names, x.size ≤ maxLen) :
    Calls Tryz.prog 53 #[.slice A n c, .slice A' n' c'] w (OwnedL (lessL l names) w) := by
  have ham := among_any A' n' c' names w hM hn' hsz'
  have HL := Lib.hid (show _ ∧ _ from ⟨hL, hsz⟩)
  have HA := Lib.hid ham
  clear hL hM hsz hsz' ham
  go_enter Tryz.func53, Tryz.ntmps53
  go_wp2_with fail
  refine HA.out.mono ?_
  rintro e w1 ⟨rfl, ⟨D, hD, hS⟩, hb1⟩
  have hs1 := hb1.size
  have H1 := Lib.hid (show _ ∧ _ ∧ _ from ⟨hD, hS, hb1⟩)
  clear hD hS hb1
  go_wp2_with fail
  have hbx : Below w.heap.size w (w1.alloc (.cells #[.map (some w.heap.size)] 172)) := H1.out.2.2.alloc hs1 _
  have hcx : (w1.alloc (.cells #[.map (some w.heap.size)] 172)).cell? ⟨w1.heap.size, 0, none⟩ = some (.map (some w.heap.size)) := by simp
  have hmx := H1.out.1.alloc (.cells #[.map (some w.heap.size)] 172)
  have hsx : w1.heap.size < (w1.alloc (.cells #[.map (some w.heap.size)] 172)).heap.size := by simp
  change Calls _ _ _ (w1.alloc (.cells #[.map (some w.heap.size)] 172)) _
  generalize w1.alloc (.cells #[.map (some w.heap.size)] 172) = w2 at hbx hcx hmx hsx ⊢
  refine (kept_any 150 #[.pointer (some ⟨w1.heap.size, 0, none⟩)] Tryz.enterWithout1 (fun x => !inT names x.nm) A n c l w2 (fun W x hx hb => without1_any w1.heap.size w.heap.size _ D names W x (hmx.kept (row := none) ⟨hb.os, hb.tape, hb.output, hb.size, fun j hj _ => hb.block j hj⟩ (by simp)) H1.out.2.1 ((hb.cell hsx).trans hcx) (HL.out.2 x hx)) ((HL.out.1.below hbx).more hbx.size) hn).mono ?_
  rintro e w3 ⟨v, rfl, ho, hb3⟩
  have H3 := Lib.hid (show _ ∧ _ from ⟨owns_base ho hbx.size, hbx.trans (hb3.mono hbx.size)⟩)
  clear ho hb3 hbx hcx hmx hsx
  go_wp2
  go_ret
  exact ⟨_, rfl, H3.out.1, H3.out.2⟩
end Go.Proofs.YtajaijidecomdaaGreatDoor
