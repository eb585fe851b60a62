/- slices.Clone at rows of texts. Written off a master by mk2.py. vec.Key, vec.of: what of an element's labels is looked at. The document's numbers: rounded, whole ones, two of one power of two. -/
import Derived.Test.YtajaijidecomdaaGreatDoorG33
import Derived.Test.YtajaijidecomdaaGreatDoorG12
import Derived.Test.YtajaijidecomdaaGreatDoorG03
import Derived.Deep.DeepCutAuto
import Derived.OwnWalk
import Derived.WalkLawsBesides
import Derived.Test.YtajaijidecomdaaGreatDoorTurn7
import Derived.Test.YtajaijidecomdaaGreatDoorG20
import Derived.Test.YtajaijidecomdaaGreatDoorG32
namespace Go.Proofs.YtajaijidecomdaaGreatDoor
open Go.RowKit Go.Lib

def OwnPostTx (B n : Nat) (l : List ByteArray) (w : World) (e : Ending) (w' : World) : Prop := ∃ v', e = .returned v' ∧ w'.ownsRow B 9 1 v' n (l.flatMap encTx) ∧ Below w.heap.size w w'
set_option maxHeartbeats 2000000 in
set_option maxRecDepth 100000 in
theorem cloneTx (A : Option Addr) (n c : Nat) (l : List ByteArray) (w : World) (hL : Lst encTx 1 w w.heap.size A n l) (hnil : A = none → n = 0 ∧ c = 0) (hn : n ≤ 1099511627776) :
    Calls Tryz.prog 106 #[.slice A n c] w (OwnPostTx w.heap.size n l w) := by
  obtain ⟨i0, hi, hz0, hz1, hz2⟩ := info_parts Tryz.infoText
  cases A with
  | none =>
    obtain ⟨rfl, rfl⟩ := hnil rfl
    have hl0 : l = [] := List.length_eq_zero_iff.1 hL.1
    clear hi hz0 hz1 hz2 hL hnil
    have hq := fun w : World => Lib.run_eql_slice_nil w 78 9 none 0 0 0 0 Tryz.underlying78
    go_enter Tryz.func106, Tryz.ntmps106
    go_wp2
    go_ret
    exact ⟨_, rfl, by rw [hl0]; exact World.ownsRow_nil _ _ _ _, Below.refl _ _⟩
  | some ad =>
    have hcells := fun w1 (hb : Below w.heap.size w w1) => (hL.below hb).flat (fun _ => rfl)
    have HC := Lib.hid hcells
    have HLL := Lib.hid hL.1
    have hq := fun w : World => Lib.run_eql_slice_nil w 78 9 (some ad) n c 0 0 Tryz.underlying78
    clear hcells hL hnil
    go_enter Tryz.func106, Tryz.ntmps106
    go_wp2_with (at_builtin; refine wpList_append_own _ rfl _ _ 78 rfl w.heap.size 9 i0 _ 1 16 Tryz.underlying78 hi hz0 hz1 hz2 rfl (by omega) _ _ _ rfl (World.ownsRow_made w #[] 0 (Nat.le_refl _) (Nat.zero_le _) (by simp)) ad n c (l.flatMap encTx) rfl (by rw [flatMap_length (enc := encTx) (size := 1) (fun _ => rfl), HLL.out]) (HC.out _ ((Below.refl _ w).alloc (Nat.le_refl _) _)) (oneTx _) (by unfold maxLen; omega) (by omega) (by simp) ?_)
    intro v' w1 hown hgrow _
    have HF := Lib.hid (show _ ∧ _ from ⟨hown, ((Below.refl w.heap.size w).alloc (Nat.le_refl _) _).grown hgrow (by simp) (by intro k hk; simp [Value.ownBlock] at hk; omega)⟩)
    clear hi hz0 hz1 hz2 hown hgrow hq
    go_wp2
    go_ret
    exact ⟨v', rfl, by simpa using HF.out.1, HF.out.2⟩
end Go.Proofs.YtajaijidecomdaaGreatDoor
namespace Go.Proofs.YtajaijidecomdaaGreatDoor
open Go.RowKit Go.Lib

/-- How elements are matched, as the program has it. -/
structure Mv where
  card : Int
  on : Bool
  LA : Option Addr
  Ln : Nat
  Lc : Nat
  ls : List ByteArray
  IA : Option Addr
  In : Nat
  Ic : Nat
  is : List ByteArray
def valM (m : Mv) : Value := .agg #[.int .u8 m.card, .bool m.on, .slice m.LA m.Ln m.Lc, .slice m.IA m.In m.Ic]
def cellsM (m : Mv) : List Value := [.int .u8 m.card, .bool m.on, .slice m.LA m.Ln m.Lc, .slice m.IA m.In m.Ic]
structure Mat (w : World) (B : Nat) (m : Mv) : Prop where
  lst : Lst encTx 1 w B m.LA m.Ln m.ls
  nil : m.LA = none → m.Ln = 0 ∧ m.Lc = 0
  few : m.Ln ≤ 1000
  sz : ∀ x ∈ m.ls, x.size ≤ maxLen
  ilst : Lst encTx 1 w B m.IA m.In m.is
  inil : m.IA = none → m.In = 0 ∧ m.Ic = 0
  ifew : m.In ≤ 1000
  isz : ∀ x ∈ m.is, x.size ≤ maxLen
theorem Mat.below {w w' : World} {B : Nat} {m : Mv} (h : Mat w B m) (hb : Below B w w') : Mat w' B m := ⟨h.lst.below hb, h.nil, h.few, h.sz, h.ilst.below hb, h.inil, h.ifew, h.isz⟩
theorem Mat.more {w : World} {B B' : Nat} {m : Mv} (h : Mat w B m) (hB : B ≤ B') : Mat w B' m := ⟨h.lst.more hB, h.nil, h.few, h.sz, h.ilst.more hB, h.inil, h.ifew, h.isz⟩
theorem Mat.keep {w w' : World} {B : Nat} {m : Mv} (h : Mat w B m) (hk : ∀ p : Addr, p.block < B → w'.cell? p = w.cell? p) : Mat w' B m := ⟨h.lst.keep hk, h.nil, h.few, h.sz, h.ilst.keep hk, h.inil, h.ifew, h.isz⟩
theorem Mat.on {w w' : World} {m : Mv} (h : Mat w w.heap.size m) (hb : Below w.heap.size w w') : Mat w' w'.heap.size m := (h.below hb).more hb.size
/-- What of a set of labels is looked at. -/
def keyL (l : List Lb) (on : Bool) (ls : List ByteArray) : List Lb := if on then keepL l ls else lessL l (ls ++ [nameT])
def keyT (on : Bool) (ls : List ByteArray) (l : List Lb) : ByteArray := ⟨(printB (keyL l on ls)).toArray⟩
theorem fine_key {l : List Lb} (h : Fine l) (on : Bool) (ls : List ByteArray) : Fine (keyL l on ls) := by
  unfold keyL
  split
  · exact fine_filter h _
  · exact fine_filter h _
theorem print_len {l : List Lb} (h : Fine l) : (printB l).length ≤ 200000000000 := by
  have h1 := join_len (l := l) (m := 500003) (fun x hx => by have h2 := prnB_len x; have h3 := h.2 x hx; omega) [44, 32]
  have h3 : l.length * ([44, 32].length + 500003) ≤ 100000 * ([(44 : UInt8), 32].length + 500003) := Nat.mul_le_mul_right _ h.1
  unfold printB
  simp at h3 h1 ⊢
  omega
theorem keyT_size {l : List Lb} (h : Fine l) (on : Bool) (ls : List ByteArray) : (keyT on ls l).size ≤ maxLen := by
  have := print_len (fine_key h on ls)
  have e : (keyT on ls l).size = (printB (keyL l on ls)).length := by simp [keyT, ByteArray.size]
  unfold maxLen
  omega
theorem box_four {w : World} {b : Nat} {u0 u1 u2 u3 : Value} {e : TypeId} (h : w.heap[b]? = some (Obj.cells #[u0, u1, u2, u3] e (0, 0))) : w.cell? ⟨b, 0, none⟩ = some u0 ∧ w.cell? ⟨b, 1, none⟩ = some u1 ∧ w.cell? ⟨b, 2, none⟩ = some u2 ∧ w.cell? ⟨b, 3, none⟩ = some u3 :=
  ⟨by rw [cell_of_row w b 0 _ _ _ h]; rfl, by rw [cell_of_row w b 1 _ _ _ h]; rfl, by rw [cell_of_row w b 2 _ _ _ h]; rfl, by rw [cell_of_row w b 3 _ _ _ h]; rfl⟩
set_option maxHeartbeats 4000000 in
set_option maxRecDepth 100000 in
theorem key_any (A : Option Addr) (n c : Nat) (l : List Lb) (m : Mv) (w : World) (hL : Lst Lb.cells 2 w w.heap.size A n l) (hn : n ≤ 100000) (hf : Fine l) (hM : Mat w w.heap.size m) :
    Calls Tryz.prog 31 #[.slice A n c, valM m] w (OwnedL (keyL l m.on m.ls) w) := by
  have hsz : ∀ x ∈ l, x.nm.size ≤ maxLen := fun x hx => by have := (hf.2 x hx).1; unfold maxLen; omega
  have HL := Lib.hid (show _ ∧ _ ∧ _ from ⟨hL, hsz, hM⟩)
  have hfew := hM.few
  unfold keyL valM
  obtain ⟨card, on, LA, Ln, Lc, ls, IA, In, Ic, is⟩ := m
  simp only at hfew ⊢
  have hbx : Below w.heap.size w (w.alloc (.cells #[.int .u8 card, .bool on, .slice LA Ln Lc, .slice IA In Ic] 80)) := (Below.refl _ _).alloc (Nat.le_refl _) _
  have hbox : (w.alloc (.cells #[.int .u8 card, .bool on, .slice LA Ln Lc, .slice IA In Ic] 80)).heap[w.heap.size]? = some (.cells #[.int .u8 card, .bool on, .slice LA Ln Lc, .slice IA In Ic] 80 (0, 0)) := heap_alloc_new _ _
  clear hL hsz hM hf
  cases on with
  | true =>
    rw [if_pos rfl]
    have hk := keep_any A LA n c Ln Lc l ls _ ((HL.out.1.below hbx).more hbx.size) (HL.out.2.2.on hbx).lst (by omega) (by omega) HL.out.2.1 HL.out.2.2.sz
    have HK := Lib.hid (show _ ∧ _ from ⟨hk, hbx⟩)
    clear hk hbx hbox
    go_enter Tryz.func31, Tryz.ntmps31
    go_wp2_with (first | (go_at_call 105; refine HK.out.1.mono ?_; rintro e w1 ⟨v, rfl, ho, hb⟩; have H1 := Lib.hid (show _ ∧ _ from ⟨owns_base ho HK.out.2.size, HK.out.2.trans (hb.mono HK.out.2.size)⟩); clear ho hb))
    go_ret
    exact ⟨v, rfl, H1.out.1, H1.out.2⟩
  | false =>
    rw [if_neg (by decide)]
    have hcl := cloneTx LA Ln Lc ls _ (HL.out.2.2.on hbx).lst HL.out.2.2.nil (by omega)
    have HK := Lib.hid (show _ ∧ _ from ⟨hcl, hbx⟩)
    obtain ⟨i0, hi, hz0, hz1, hz2⟩ := info_parts Tryz.infoText
    clear hcl hbx hbox
    go_enter Tryz.func31, Tryz.ntmps31
    go_wp2_with (first
      | (go_at_call 106; refine HK.out.1.mono ?_; rintro e w1 ⟨v1, rfl, ho, hb⟩; have H1 := Lib.hid (show _ ∧ _ ∧ _ from ⟨HK.out.2.trans (hb.mono HK.out.2.size), ho.alloc (.cells #[.string nameT] 9), hb⟩); have hs1 := H1.out.1.size; clear ho hb)
      | (at_builtin; refine wpList_append_own _ rfl _ _ 78 rfl _ 9 i0 _ 1 16 Tryz.underlying78 hi hz0 hz1 hz2 rfl (by omega) _ Ln (ls.flatMap encTx) rfl H1.out.2.1 ⟨w1.heap.size, 0, none⟩ 1 1 [.string nameT] rfl rfl (cells_newL w1 [.string nameT] _) (by simp [Value.oneCell']) (by unfold maxLen; omega) (by omega) (by simp; omega) ?_)
      | fail)
    intro v5 w5 hown5 hg5 _
    have hown6 : w5.ownsRow w.heap.size 9 1 v5 (Ln + 1) ((ls ++ [nameT]).flatMap encTx) := by
      rw [List.flatMap_append, List.flatMap_singleton]
      exact owns_base hown5 (by first | omega | exact HK.out.2.size)
    obtain ⟨A5, c5, rfl, _, _⟩ := owns_slice hown6
    have hlst := (owns_lst hown6 (fun _ => rfl) (by omega)).1
    have hold5 : Below w.heap.size w w5 := (H1.out.1.alloc hs1 _).grown hg5 (by simp; omega) (fun j hj => by have := ((H1.out.2.1).lt j hj).1; have := HK.out.2.size; omega)
    have hk := without_any A A5 n c (Ln + 1) c5 l (ls ++ [nameT]) w5 ((HL.out.1.below hold5).more hold5.size) hlst (by omega) (by omega) HL.out.2.1 (fun x hx => by
      rcases List.mem_append.1 hx with hx | hx
      · exact HL.out.2.2.sz x hx
      · rw [List.mem_singleton.1 hx]; decide)
    have H5 := Lib.hid (show _ ∧ _ from ⟨hk, hold5⟩)
    clear hown5 hown6 hg5 hlst hold5 hk hi hz0 hz1 hz2
    go_wp2_with (first | (go_at_call 53; refine H5.out.1.mono ?_; rintro e w6 ⟨v6, rfl, ho6, hb6⟩; have H6 := Lib.hid (show _ ∧ _ from ⟨owns_base ho6 H5.out.2.size, H5.out.2.trans (hb6.mono H5.out.2.size)⟩); clear ho6 hb6))
    go_ret
    exact ⟨v6, rfl, H6.out.1, H6.out.2⟩
set_option maxHeartbeats 4000000 in
set_option maxRecDepth 100000 in
theorem of_key (x : Ev) (m : Mv) (w : World) (hx : Eat w w.heap.size x) (hM : Mat w w.heap.size m) :
    Calls Tryz.prog 155 #[.agg #[.slice x.A x.n x.c, .int .u64 x.v.toNat], valM m] w fun e w' => e = .returned (.string (keyT m.on m.ls x.l)) ∧ Below w.heap.size w w' := by
  have hbx : Below w.heap.size w ((w.alloc (.cells #[.slice x.A x.n x.c, .int .u64 x.v.toNat] 90)).alloc (.cells #[.int .u8 m.card, .bool m.on, .slice m.LA m.Ln m.Lc, .slice m.IA m.In m.Ic] 80)) := ((Below.refl _ _).alloc (Nat.le_refl _) _).alloc (by simp) _
  have hk := key_any x.A x.n x.c x.l m _ ((hx.on hbx).lst) hx.few hx.fine (hM.on hbx)
  have hfk := fine_key hx.fine m.on m.ls
  have HK := Lib.hid (show _ ∧ _ ∧ _ from ⟨hk, hbx, hfk⟩)
  clear hk hbx hfk hx hM
  unfold keyT
  unfold valM at *
  go_enter Tryz.func155, Tryz.ntmps155
  go_wp2_with (first
    | (go_at_call 31; refine HK.out.1.mono ?_; rintro e w1 ⟨v1, rfl, ho, hb⟩; obtain ⟨A1, c1, rfl, _, _⟩ := owns_slice ho; have H1 := Lib.hid (show _ ∧ _ from ⟨print_any A1 _ c1 (keyL x.l m.on m.ls) w1 (owns_lst ho Lb.len (by omega)).1 HK.out.2.2.1 HK.out.2.2.2, HK.out.2.1.trans (hb.mono HK.out.2.1.size)⟩); clear ho hb)
    | (go_at_call 199; refine H1.out.1.mono ?_; rintro e w2 ⟨rfl, hb2⟩; have H2 := Lib.hid (H1.out.2.trans (hb2.mono H1.out.2.size)); clear hb2))
  go_ret
  exact ⟨rfl, H2.out⟩
end Go.Proofs.YtajaijidecomdaaGreatDoor
namespace Go.Proofs.YtajaijidecomdaaGreatDoor
open Go.RowKit Go.Lib

theorem isNaN_u (a : UInt64) (w : World) : Calls Tryz.prog 120 #[.int .u64 a.toNat] w fun e w' => e = .returned (.bool (FL.isNaN a.toNat)) ∧ w' = w := rIsNaN_any _ a.toNat_lt w
theorem isInf_u (a : UInt64) (w : World) : Calls Tryz.prog 121 #[.int .u64 a.toNat] w fun e w' => e = .returned (.bool (FL.isInf a.toNat)) ∧ w' = w := rIsInf_any _ a.toNat_lt w
theorem nought_u (a : UInt64) (w : World) : Calls Tryz.prog 128 #[.int .u64 a.toNat] w fun e w' => e = .returned (.bool (FL.nought a.toNat)) ∧ w' = w := rNought_any _ a.toNat_lt w
theorem neg0_u (a : UInt64) (w : World) : Calls Tryz.prog 123 #[.int .u64 a.toNat] w fun e w' => e = .returned (.bool (FL.neg0 a.toNat)) ∧ w' = w := rNeg0_any _ a.toNat_lt w
theorem negU_any (a : UInt64) (w : World) : Calls Tryz.prog 109 #[.int .u64 a.toNat] w fun e w' => e = .returned (.int .u64 (FL.negU a).toNat) ∧ w' = w := by
  rw [FL.negU_nat]; exact rNeg_any _ a.toNat_lt w
theorem absU_any (a : UInt64) (w : World) : Calls Tryz.prog 137 #[.int .u64 a.toNat] w fun e w' => e = .returned (.int .u64 (FL.absU a).toNat) ∧ w' = w := by
  rw [FL.absU_nat]; exact rAbs_any _ a.toNat_lt w
theorem open_u (a : UInt64) (w : World) : Calls Tryz.prog 130 #[.int .u64 a.toNat] w fun e w' => e = .returned (.tuple #[.int .u64 (FL.openM a.toNat), .int .i64 (FL.openE a.toNat)]) ∧ w' = w := rOpen_any _ a.toNat_lt w
theorem openE_most (a : Nat) : FL.openE a ≤ 972 := by unfold FL.openE; split <;> omega
theorem digs_len_zero {N : Nat} : (FL.digs N).length = 0 ↔ N = 0 := by
  constructor
  · intro h
    have := FL.digs_top N (i := 0) (by omega)
    simpa using this
  · rintro rfl; rw [FL.digs_zero]; rfl
set_option maxHeartbeats 1000000 in
theorem round_zero (neg : Bool) (A : Option Addr) (c : Nat) (e : Int) (more : Bool) (w : World) :
    Calls Tryz.prog 124 #[.bool neg, .slice A 0 c, .int .i64 e, .bool more] w fun e' w' => e' = .returned (.int .u64 (if neg then 2 ^ 63 else 0 : Nat)) ∧ Below w.heap.size w w' := by
  cases neg
  all_goals
    go_enter Tryz.func124, Tryz.ntmps124
    go_wp2
    go_ret
    exact ⟨rfl, Below.refl _ _⟩
/-- Round at any number. -/
theorem roundN_any (neg : Bool) (A : Option Addr) (n c N : Nat) (e : Int) (more : Bool) (w : World) (hA : Lst encD 1 w w.heap.size A n (FL.digs N)) (hn : n ≤ 900000) (he1 : -4000000000000000000 ≤ e) (he2 : e ≤ 4000000000000000000) :
    Calls Tryz.prog 124 #[.bool neg, .slice A n c, .int .i64 e, .bool more] w fun e' w' => e' = .returned (.int .u64 (FL.roundR neg N e more : Nat)) ∧ Below w.heap.size w w' := by
  by_cases h0 : N = 0
  · subst h0
    have hn0 : n = 0 := by rw [← hA.1]; exact digs_len_zero.2 rfl
    subst hn0
    have hr : FL.roundR neg 0 e more = if neg then 2 ^ 63 else 0 := by unfold FL.roundR; rw [if_pos rfl]
    rw [hr]
    exact round_zero neg A c e more w
  · exact round_any neg A n c N e more w hA hn h0 he1 he2
theorem two_words {x : Nat} (h : x < 2 ^ 64) {w : World} {B : Nat} {A : Option Addr} {n : Nat} (hL : Lst encD 1 w B A n (FL.digs x)) : n ≤ 2 := nat_few (by simpa using h) hL
set_option maxHeartbeats 2000000 in
set_option maxRecDepth 100000 in
theorem rInt_any (k : Int) (h1 : -9223372036854775808 ≤ k) (h2 : k ≤ 9223372036854775807) (w : World) : Calls Tryz.prog 49 #[.int .i64 k] w fun e w' => e = .returned (.int .u64 (FL.intU k).toNat) ∧ Below w.heap.size w w' := by
  rw [FL.intU_nat]
  unfold FL.intR
  have hf := from_any k.natAbs (by omega) w
  by_cases hneg : k < 0
  · rw [decide_eq_true hneg]
    have hw1 : IntKind.u64.wrap k = k + 18446744073709551616 := by simp [IntKind.wrap, IntKind.bits, IntKind.signed]; omega
    have hw2 : IntKind.u64.wrap (-(k + 18446744073709551616)) = (k.natAbs : Int) := by simp [IntKind.wrap, IntKind.bits, IntKind.signed]; omega
    obtain ⟨x, hx⟩ : ∃ x : Int, k + 18446744073709551616 = x := ⟨_, rfl⟩
    rw [hx] at hw1 hw2
    have hk : k.natAbs < 2 ^ 64 := by omega
    obtain ⟨m, hm⟩ : ∃ m, k.natAbs = m := ⟨_, rfl⟩
    rw [hm] at hf hw2 hk ⊢
    have HK := Lib.hid (show _ ∧ _ ∧ _ ∧ _ from ⟨hf, hk, h1, h2⟩)
    clear hx hm hf hk h1 h2
    go_enter Tryz.func49, Tryz.ntmps49
    go_wp2_with fail
    refine HK.out.1.mono ?_
    rintro e w1 ⟨A1, n1, c1, rfl, hl1, hb1, _⟩
    have H1 := Lib.hid (show _ ∧ _ from ⟨roundN_any true A1 n1 c1 m 0 false w1 hl1 (by have := two_words HK.out.2.1 hl1; omega) (by omega) (by omega), hb1⟩)
    clear hl1 hb1
    go_wp2_with fail
    refine H1.out.1.mono ?_
    rintro e w2 ⟨rfl, hb2⟩
    have H2 := Lib.hid (H1.out.2.trans (hb2.mono H1.out.2.size))
    clear hb2
    go_wp2
    go_ret
    exact ⟨rfl, H2.out⟩
  · rw [decide_eq_false hneg]
    have hw1 : IntKind.u64.wrap k = (k.natAbs : Int) := by simp [IntKind.wrap, IntKind.bits, IntKind.signed]; omega
    have hk : k.natAbs < 2 ^ 64 := by omega
    obtain ⟨m, hm⟩ : ∃ m, k.natAbs = m := ⟨_, rfl⟩
    rw [hm] at hf hw1 hk ⊢
    have hkm : k = (m : Int) := by omega
    subst hkm
    have hn2 : ¬ (m : Int) < 0 := by omega
    have HK := Lib.hid (show _ ∧ _ ∧ _ ∧ _ from ⟨hf, hk, h1, h2⟩)
    clear hm hf hk h1 h2 hneg
    go_enter Tryz.func49, Tryz.ntmps49
    go_wp2_with fail
    refine HK.out.1.mono ?_
    rintro e w1 ⟨A1, n1, c1, rfl, hl1, hb1, _⟩
    have H1 := Lib.hid (show _ ∧ _ from ⟨roundN_any false A1 n1 c1 m 0 false w1 hl1 (by have := two_words HK.out.2.1 hl1; omega) (by omega) (by omega), hb1⟩)
    clear hl1 hb1
    go_wp2_with fail
    refine H1.out.1.mono ?_
    rintro e w2 ⟨rfl, hb2⟩
    have H2 := Lib.hid (H1.out.2.trans (hb2.mono H1.out.2.size))
    clear hb2
    go_wp2
    go_ret
    exact ⟨rfl, H2.out⟩
/-- Two finite numbers as whole ones. -/
def LinePost (a b : UInt64) (w : World) (e : Ending) (w' : World) : Prop := ∃ A n c A' n' c', e = .returned (.tuple #[.slice A n c, .slice A' n' c', .int .i64 (min (FL.openE a.toNat) (FL.openE b.toNat))]) ∧ Lst encD 1 w' w'.heap.size A n (FL.digs (FL.lineX a.toNat b.toNat)) ∧ Lst encD 1 w' w'.heap.size A' n' (FL.digs (FL.lineY a.toNat b.toNat)) ∧ n ≤ 900 ∧ n' ≤ 900 ∧ Below w.heap.size w w'
set_option exponentiation.threshold 40000 in
theorem line_few {x k n : Nat} (hx : x < 2 ^ 53) (hk : k ≤ 2046) {w : World} {B : Nat} {A : Option Addr} (hL : Lst encD 1 w B A n (FL.digs (x * 2 ^ k))) : n ≤ 900 := by
  refine nat_few (k := 900) ?_ hL
  have h1 : x * 2 ^ k < 2 ^ 53 * 2 ^ k := Nat.mul_lt_mul_of_pos_right hx (Nat.pow_pos (by omega))
  rw [← Nat.pow_add] at h1
  exact Nat.lt_of_lt_of_le h1 (Nat.pow_le_pow_right (by omega) (by omega))
set_option maxHeartbeats 4000000 in
set_option maxRecDepth 100000 in
theorem line_any (a b : UInt64) (w : World) : Calls Tryz.prog 122 #[.int .u64 a.toNat, .int .u64 b.toNat] w (LinePost a b w) := by
  have hoa := fun w => open_u a w
  have hob := fun w => open_u b w
  have h1 := FL.openE_least (a := a.toNat)
  have h2 := FL.openE_least (a := b.toNat)
  have h3 := openE_most a.toNat
  have h4 := openE_most b.toNat
  have m1 := FL.openM_lt a.toNat
  have m2 := FL.openM_lt b.toNat
  unfold LinePost FL.lineX FL.lineY
  obtain ⟨x, hx⟩ : ∃ x, FL.openM a.toNat = x := ⟨_, rfl⟩
  obtain ⟨y, hy⟩ : ∃ y, FL.openM b.toNat = y := ⟨_, rfl⟩
  obtain ⟨i, hi⟩ : ∃ i, FL.openE a.toNat = i := ⟨_, rfl⟩
  obtain ⟨j, hj⟩ : ∃ j, FL.openE b.toNat = j := ⟨_, rfl⟩
  rw [hx, hi] at hoa
  rw [hy, hj] at hob
  rw [hx, hy, hi, hj]
  rw [hi] at h1 h3
  rw [hj] at h2 h4
  rw [hx] at m1
  rw [hy] at m2
  clear hx hy hi hj
  generalize a.toNat = an at hoa ⊢
  generalize b.toNat = bn at hob ⊢
  obtain ⟨l, hl⟩ : ∃ l, min i j = l := ⟨_, rfl⟩
  have hle : (if j < i then j else i) = l := by rw [← hl]; split <;> omega
  obtain ⟨p, hp⟩ : ∃ p : Nat, (i - l).toNat = p := ⟨_, rfl⟩
  obtain ⟨q, hq⟩ : ∃ q : Nat, (j - l).toNat = q := ⟨_, rfl⟩
  have hpi : i - l = (p : Int) := by omega
  have hqi : j - l = (q : Int) := by omega
  have hp6 : p ≤ 2046 := by omega
  have hq6 : q ≤ 2046 := by omega
  have hl1 : -1074 ≤ l := by omega
  have hl2 : l ≤ 972 := by omega
  rw [hl, hp, hq]
  have HM := Lib.hid (show _ ∧ _ ∧ _ from ⟨m1, m2, hle⟩)
  clear hl hp hq m1 m2 hle
  go_enter Tryz.func122, Tryz.ntmps122
  go_wp2_with fail
  refine (hoa _).mono ?_
  rintro e w' ⟨rfl, hw⟩
  rw [hw]
  clear hw w'
  go_wp2_with fail
  refine (hob _).mono ?_
  rintro e w' ⟨rfl, hw⟩
  rw [hw]
  clear hw w' hoa hob
  go_upto_region 3 with (fail)
  go_cut [11] from 12 (fun s11 wc => s11 = .int .i64 l ∧ wc = w)
  case first =>
    go_wp2_with fail
    all_goals
      go_meet
      case rel => exact ⟨by rw [← HM.out.2.2]; first | (split <;> first | rfl | (exfalso; omega)) | (congr 1; rw [Int.min_def]; split <;> split <;> omega), rfl⟩
  case rest =>
    obtain ⟨rfl, hwc⟩ := hcut
    obtain rfl := hwc.symm
    clear hwc
    have hw1 : IntKind.i64.wrap (i - l) = (p : Int) := by rw [hpi]; exact IntWalk.i64_in _ (by omega)
    have hw2 : IntKind.i64.wrap (j - l) = (q : Int) := by rw [hqi]; exact IntWalk.i64_in _ (by omega)
    go_wp2_with fail
    refine (from_any x (Nat.lt_trans HM.out.1 (by decide)) _).mono ?_
    rintro e w1 ⟨A1, n1, c1, rfl, hl1, hb1, _⟩
    have H1 := Lib.hid (show _ ∧ _ from ⟨up_any A1 n1 c1 x p w1 hl1 (by have := two_words (Nat.lt_trans HM.out.1 (by decide)) hl1; omega) (by omega), hb1⟩)
    clear hl1 hb1
    go_wp2_with fail
    refine H1.out.1.mono ?_
    rintro e w2 ⟨A2, n2, c2, rfl, hl2, hb2, _⟩
    have H2 := Lib.hid (show _ ∧ _ from ⟨hl2, H1.out.2.trans (hb2.mono H1.out.2.size)⟩)
    clear hl2 hb2
    go_wp2_with fail
    refine (from_any y (Nat.lt_trans HM.out.2.1 (by decide)) _).mono ?_
    rintro e w3 ⟨A3, n3, c3, rfl, hl3, hb3, _⟩
    have H3 := Lib.hid (show _ ∧ _ ∧ _ from ⟨up_any A3 n3 c3 y q w3 hl3 (by have := two_words (Nat.lt_trans HM.out.2.1 (by decide)) hl3; omega) (by omega), nat_on H2.out.1 hb3, H2.out.2.trans (hb3.mono H2.out.2.size)⟩)
    clear hl3 hb3
    go_wp2_with fail
    refine H3.out.1.mono ?_
    rintro e w4 ⟨A4, n4, c4, rfl, hl4, hb4, _⟩
    have H4 := Lib.hid (show _ ∧ _ ∧ _ from ⟨hl4, nat_on H3.out.2.1 hb4, H3.out.2.2.trans (hb4.mono H3.out.2.2.size)⟩)
    clear hl4 hb4
    go_wp2
    exact bodyPost_ret (by simp [results, Tryz.results122, go_sem]) rfl ⟨A2, n2, c2, A4, n4, c4, rfl, H4.out.2.1, H4.out.1, line_few HM.out.1 hp6 H4.out.2.1, line_few HM.out.2.1 hq6 H4.out.1, H4.out.2.2⟩
end Go.Proofs.YtajaijidecomdaaGreatDoor
