/- vec.Key, vec.of: what of an element's labels is looked at. -/
import Derived.Test.YtajaijidecomdaaGreatDoorG15
import Derived.Test.YtajaijidecomdaaGreatDoorTurn7
import Derived.Test.YtajaijidecomdaaGreatDoorVNumber
namespace Go.Proofs.YtajaijidecomdaaGreatDoor
open Go.RowKit Go.Lib

/-- How elements are matched, as the program has it. -/
structure Mv where
  card : Int
  on : Bool
  LA : Option Addr
  Ln : Nat
  Lc : Nat
  ls : List ByteArray
  IA : Option Addr
  In : Nat
  Ic : Nat
  is : List ByteArray
def valM (m : Mv) : Value := .agg #[.int .u8 m.card, .bool m.on, .slice m.LA m.Ln m.Lc, .slice m.IA m.In m.Ic]
def cellsM (m : Mv) : List Value := [.int .u8 m.card, .bool m.on, .slice m.LA m.Ln m.Lc, .slice m.IA m.In m.Ic]
structure Mat (w : World) (B : Nat) (m : Mv) : Prop where
  lst : Lst encTx 1 w B m.LA m.Ln m.ls
  nil : m.LA = none → m.Ln = 0 ∧ m.Lc = 0
  few : m.Ln ≤ 1000
  sz : ∀ x ∈ m.ls, x.size ≤ maxLen
  ilst : Lst encTx 1 w B m.IA m.In m.is
  inil : m.IA = none → m.In = 0 ∧ m.Ic = 0
  ifew : m.In ≤ 1000
  isz : ∀ x ∈ m.is, x.size ≤ maxLen
theorem Mat.below {w w' : World} {B : Nat} {m : Mv} (h : Mat w B m) (hb : Below B w w') : Mat w' B m := ⟨h.lst.below hb, h.nil, h.few, h.sz, h.ilst.below hb, h.inil, h.ifew, h.isz⟩
theorem Mat.more {w : World} {B B' : Nat} {m : Mv} (h : Mat w B m) (hB : B ≤ B') : Mat w B' m := ⟨h.lst.more hB, h.nil, h.few, h.sz, h.ilst.more hB, h.inil, h.ifew, h.isz⟩
theorem Mat.keep {w w' : World} {B : Nat} {m : Mv} (h : Mat w B m) (hk : ∀ p : Addr, p.block < B → w'.cell? p = w.cell? p) : Mat w' B m := ⟨h.lst.keep hk, h.nil, h.few, h.sz, h.ilst.keep hk, h.inil, h.ifew, h.isz⟩
theorem Mat.on {w w' : World} {m : Mv} (h : Mat w w.heap.size m) (hb : Below w.heap.size w w') : Mat w' w'.heap.size m := (h.below hb).more hb.size
/-- What of a set of labels is looked at. -/
def keyL (l : List Lb) (on : Bool) (ls : List ByteArray) : List Lb := if on then keepL l ls else lessL l (ls ++ [nameT])
def keyT (on : Bool) (ls : List ByteArray) (l : List Lb) : ByteArray := ⟨(printB (keyL l on ls)).toArray⟩
theorem fine_key {l : List Lb} (h : Fine l) (on : Bool) (ls : List ByteArray) : Fine (keyL l on ls) := by
  unfold keyL
  split
  · exact fine_filter h _
  · exact fine_filter h _
theorem print_len {l : List Lb} (h : Fine l) : (printB l).length ≤ 200000000000 := by
  have h1 := join_len (l := l) (m := 500003) (fun x hx => by have h2 := prnB_len x; have h3 := h.2 x hx; omega) [44, 32]
  have h3 : l.length * ([44, 32].length + 500003) ≤ 100000 * ([(44 : UInt8), 32].length + 500003) := Nat.mul_le_mul_right _ h.1
  unfold printB
  simp at h3 h1 ⊢
  omega
theorem keyT_size {l : List Lb} (h : Fine l) (on : Bool) (ls : List ByteArray) : (keyT on ls l).size ≤ maxLen := by
  have := print_len (fine_key h on ls)
  have e : (keyT on ls l).size = (printB (keyL l on ls)).length := by simp [keyT, ByteArray.size]
  unfold maxLen
  omega
theorem box_four {w : World} {b : Nat} {u0 u1 u2 u3 : Value} {e : TypeId} (h : w.heap[b]? = some (Obj.cells #[u0, u1, u2, u3] e (0, 0))) : w.cell? ⟨b, 0, none⟩ = some u0 ∧ w.cell? ⟨b, 1, none⟩ = some u1 ∧ w.cell? ⟨b, 2, none⟩ = some u2 ∧ w.cell? ⟨b, 3, none⟩ = some u3 :=
  ⟨by rw [cell_of_row w b 0 _ _ _ h]; rfl, by rw [cell_of_row w b 1 _ _ _ h]; rfl, by rw [cell_of_row w b 2 _ _ _ h]; rfl, by rw [cell_of_row w b 3 _ _ _ h]; rfl⟩
set_option maxHeartbeats 4000000 in
set_option maxRecDepth 100000 in
theorem key_any (A : Option Addr) (n c : Nat) (l : List Lb) (m : Mv) (w : World) (hL : Lst Lb.cells 2 w w.heap.size A n l) (hn : n ≤ 100000) (hf : Fine l) (hM : Mat w w.heap.size m) :
    Calls Tryz.prog 31 #[.slice A n c, valM m] w (OwnedL (keyL l m.on m.ls) w) := by
  have hsz : ∀ x ∈ l, x.nm.size ≤ maxLen := fun x hx => by have := (hf.2 x hx).1; unfold maxLen; omega
  have HL := Lib.hid (show _ ∧ _ ∧ _ from ⟨hL, hsz, hM⟩)
  have hfew := hM.few
  unfold keyL valM
  obtain ⟨card, on, LA, Ln, Lc, ls, IA, In, Ic, is⟩ := m
  simp only at hfew ⊢
  have hbx : Below w.heap.size w (w.alloc (.cells #[.int .u8 card, .bool on, .slice LA Ln Lc, .slice IA In Ic] 80)) := (Below.refl _ _).alloc (Nat.le_refl _) _
  have hbox : (w.alloc (.cells #[.int .u8 card, .bool on, .slice LA Ln Lc, .slice IA In Ic] 80)).heap[w.heap.size]? = some (.cells #[.int .u8 card, .bool on, .slice LA Ln Lc, .slice IA In Ic] 80 (0, 0)) := heap_alloc_new _ _
  clear hL hsz hM hf
  cases on with
  | true =>
    rw [if_pos rfl]
    have hk := keep_any A LA n c Ln Lc l ls _ ((HL.out.1.below hbx).more hbx.size) (HL.out.2.2.on hbx).lst (by omega) (by omega) HL.out.2.1 HL.out.2.2.sz
    have HK := Lib.hid (show _ ∧ _ from ⟨hk, hbx⟩)
    clear hk hbx hbox
    go_enter Tryz.func31, Tryz.ntmps31
    go_wp2_with (first | (go_at_call 105; refine HK.out.1.mono ?_; rintro e w1 ⟨v, rfl, ho, hb⟩; have H1 := Lib.hid (show _ ∧ _ from ⟨owns_base ho HK.out.2.size, HK.out.2.trans (hb.mono HK.out.2.size)⟩); clear ho hb))
    go_ret
    exact ⟨v, rfl, H1.out.1, H1.out.2⟩
  | false =>
    rw [if_neg (by decide)]
    have hcl := cloneTx LA Ln Lc ls _ (HL.out.2.2.on hbx).lst HL.out.2.2.nil (by omega)
    have HK := Lib.hid (show _ ∧ _ from ⟨hcl, hbx⟩)
    obtain ⟨i0, hi, hz0, hz1, hz2⟩ := info_parts Tryz.infoText
    clear hcl hbx hbox
    go_enter Tryz.func31, Tryz.ntmps31
    go_wp2_with (first
      | (go_at_call 106; refine HK.out.1.mono ?_; rintro e w1 ⟨v1, rfl, ho, hb⟩; have H1 := Lib.hid (show _ ∧ _ ∧ _ from ⟨HK.out.2.trans (hb.mono HK.out.2.size), ho.alloc (.cells #[.string nameT] 9), hb⟩); have hs1 := H1.out.1.size; clear ho hb)
      | (at_builtin; refine wpList_append_own _ rfl _ _ 78 rfl _ 9 i0 _ 1 16 Tryz.underlying78 hi hz0 hz1 hz2 rfl (by omega) _ Ln (ls.flatMap encTx) rfl H1.out.2.1 ⟨w1.heap.size, 0, none⟩ 1 1 [.string nameT] rfl rfl (cells_newL w1 [.string nameT] _) (by simp [Value.oneCell']) (by unfold maxLen; omega) (by omega) (by simp; omega) ?_)
      | fail)
    intro v5 w5 hown5 hg5 _
    have hown6 : w5.ownsRow w.heap.size 9 1 v5 (Ln + 1) ((ls ++ [nameT]).flatMap encTx) := by
      rw [List.flatMap_append, List.flatMap_singleton]
      exact owns_base hown5 (by first | omega | exact HK.out.2.size)
    obtain ⟨A5, c5, rfl, _, _⟩ := owns_slice hown6
    have hlst := (owns_lst hown6 (fun _ => rfl) (by omega)).1
    have hold5 : Below w.heap.size w w5 := (H1.out.1.alloc hs1 _).grown hg5 (by simp; omega) (fun j hj => by have := ((H1.out.2.1).lt j hj).1; have := HK.out.2.size; omega)
    have hk := without_any A A5 n c (Ln + 1) c5 l (ls ++ [nameT]) w5 ((HL.out.1.below hold5).more hold5.size) hlst (by omega) (by omega) HL.out.2.1 (fun x hx => by
      rcases List.mem_append.1 hx with hx | hx
      · exact HL.out.2.2.sz x hx
      · rw [List.mem_singleton.1 hx]; decide)
    have H5 := Lib.hid (show _ ∧ _ from ⟨hk, hold5⟩)
    clear hown5 hown6 hg5 hlst hold5 hk hi hz0 hz1 hz2
    go_wp2_with (first | (go_at_call 53; refine H5.out.1.mono ?_; rintro e w6 ⟨v6, rfl, ho6, hb6⟩; have H6 := Lib.hid (show _ ∧ _ from ⟨owns_base ho6 H5.out.2.size, H5.out.2.trans (hb6.mono H5.out.2.size)⟩); clear ho6 hb6))
    go_ret
    exact ⟨v6, rfl, H6.out.1, H6.out.2⟩
set_option maxHeartbeats 4000000 in
set_option maxRecDepth 100000 in
theorem of_key (x : Ev) (m : Mv) (w : World) (hx : Eat w w.heap.size x) (hM : Mat w w.heap.size m) :
    Calls Tryz.prog 155 #[.agg #[.slice x.A x.n x.c, .int .u64 x.v.toNat], valM m] w fun e w' => e = .returned (.string (keyT m.on m.ls x.l)) ∧ Below w.heap.size w w' := by
  have hbx : Below w.heap.size w ((w.alloc (.cells #[.slice x.A x.n x.c, .int .u64 x.v.toNat] 90)).alloc (.cells #[.int .u8 m.card, .bool m.on, .slice m.LA m.Ln m.Lc, .slice m.IA m.In m.Ic] 80)) := ((Below.refl _ _).alloc (Nat.le_refl _) _).alloc (by simp) _
  have hk := key_any x.A x.n x.c x.l m _ ((hx.on hbx).lst) hx.few hx.fine (hM.on hbx)
  have hfk := fine_key hx.fine m.on m.ls
  have HK := Lib.hid (show _ ∧ _ ∧ _ from ⟨hk, hbx, hfk⟩)
  clear hk hbx hfk hx hM
  unfold keyT
  unfold valM at *
  go_enter Tryz.func155, Tryz.ntmps155
  go_wp2_with (first
    | (go_at_call 31; refine HK.out.1.mono ?_; rintro e w1 ⟨v1, rfl, ho, hb⟩; obtain ⟨A1, c1, rfl, _, _⟩ := owns_slice ho; have H1 := Lib.hid (show _ ∧ _ from ⟨print_any A1 _ c1 (keyL x.l m.on m.ls) w1 (owns_lst ho Lb.len (by omega)).1 HK.out.2.2.1 HK.out.2.2.2, HK.out.2.1.trans (hb.mono HK.out.2.1.size)⟩); clear ho hb)
    | (go_at_call 199; refine H1.out.1.mono ?_; rintro e w2 ⟨rfl, hb2⟩; have H2 := Lib.hid (H1.out.2.trans (hb2.mono H1.out.2.size)); clear hb2))
  go_ret
  exact ⟨rfl, H2.out⟩
end Go.Proofs.YtajaijidecomdaaGreatDoor
