/- vec.result: the labels of what comes out, one to one. The law of joining: elements of one vector with those of another one of the same key. vec.join: the walk. -/
import Derived.Test.YtajaijidecomdaaGreatDoorG39
import Derived.BigQuiet
namespace Go.Proofs.YtajaijidecomdaaGreatDoor
open Go.RowKit Go.Lib

def resL (on : Bool) (ls : List ByteArray) (plain : Bool) (l : List Lb) : List Lb := if on then keepL (if plain then l else lessL l [nameT]) ls else lessL (if plain then l else lessL l [nameT]) ls
/-- What result hands back: labels of the call's own, or those that came in. -/
def ResPost (R : List Lb) (l : List Lb) (v0 : Value) (w : World) (e : Ending) (w' : World) : Prop :=
  ∃ v, e = .returned v ∧ Below w.heap.size w w' ∧ ((v = v0 ∧ R = l) ∨ w'.ownsRow w.heap.size 104 2 v R.length (R.flatMap Lb.cells))
theorem fine_res {l : List Lb} (h : Fine l) (on : Bool) (ls : List ByteArray) (plain : Bool) : Fine (resL on ls plain l) := by
  have h1 : Fine (if plain then l else lessL l [nameT]) := by
    split
    · exact h
    · exact fine_filter h _
  unfold resL
  split
  · exact fine_filter h1 _
  · exact fine_filter h1 _
set_option maxHeartbeats 8000000 in
set_option maxRecDepth 100000 in
theorem result_none (m : Mv) (plain : Bool) (A A' : Option Addr) (n c n' c' : Nat) (l : List Lb) (w : World) (hm0 : m.card = 0) (hM : Mat w w.heap.size m) (hL : Lst Lb.cells 2 w w.heap.size A n l) (hn : n ≤ 100000) (hf : Fine l) :
    Calls Tryz.prog 157 #[valM m, .bool plain, .slice A n c, .slice A' n' c'] w (ResPost (resL m.on m.ls plain l) l (.slice A n c) w) := by
  have hsz : ∀ x ∈ l, x.nm.size ≤ maxLen := fun x hx => by have := (hf.2 x hx).1; unfold maxLen; omega
  have HL := Lib.hid (show _ ∧ _ ∧ _ from ⟨hL, hsz, hM⟩)
  have hfew := hM.few
  have hll : l.length = n := hL.1
  unfold resL valM
  obtain ⟨card, on, LA, Ln, Lc, ls, IA, In, Ic, is⟩ := m
  simp only at hfew hm0 ⊢
  subst hm0
  have hbx : Below w.heap.size w (w.alloc (.cells #[.int .u8 0, .bool on, .slice LA Ln Lc, .slice IA In Ic] 80)) := (Below.refl _ _).alloc (Nat.le_refl _) _
  have hbox : (w.alloc (.cells #[.int .u8 0, .bool on, .slice LA Ln Lc, .slice IA In Ic] 80)).heap[w.heap.size]? = some (.cells #[.int .u8 0, .bool on, .slice LA Ln Lc, .slice IA In Ic] 80 (0, 0)) := heap_alloc_new _ _
  have hsb : w.heap.size < (w.alloc (.cells #[.int .u8 0, .bool on, .slice LA Ln Lc, .slice IA In Ic] 80)).heap.size := by simp
  clear hL hsz hM hf
  cases plain with
  | true =>
    simp only [if_true]
    have hk := keep_any A LA n c Ln Lc l ls _ ((HL.out.1.below hbx).more hbx.size) (HL.out.2.2.on hbx).lst (by omega) (by omega) HL.out.2.1 HL.out.2.2.sz
    have hk2 := without_any A LA n c Ln Lc l ls _ ((HL.out.1.below hbx).more hbx.size) (HL.out.2.2.on hbx).lst (by omega) (by omega) HL.out.2.1 HL.out.2.2.sz
    have HK := Lib.hid (show _ ∧ _ ∧ _ from ⟨hk, hk2, hbx⟩)
    clear hk hk2 hbx hbox
    cases on
    all_goals
      simp only [Bool.false_eq_true, if_false, if_true]
      go_enter Tryz.func157, Tryz.ntmps157
      go_wp2_with (first
        | (go_at_call 105; refine HK.out.1.mono ?_; rintro e w1 ⟨v, rfl, ho, hb⟩; have H1 := Lib.hid (show _ ∧ _ from ⟨owns_base ho HK.out.2.2.size, HK.out.2.2.trans (hb.mono HK.out.2.2.size)⟩); clear ho hb)
        | (go_at_call 53; refine HK.out.2.1.mono ?_; rintro e w1 ⟨v, rfl, ho, hb⟩; have H1 := Lib.hid (show _ ∧ _ from ⟨owns_base ho HK.out.2.2.size, HK.out.2.2.trans (hb.mono HK.out.2.2.size)⟩); clear ho hb))
      go_ret
      exact ⟨v, rfl, H1.out.2, .inr H1.out.1⟩
  | false =>
    simp only [Bool.false_eq_true, if_false]
    have hb1 : Below w.heap.size w ((w.alloc (.cells #[.int .u8 0, .bool on, .slice LA Ln Lc, .slice IA In Ic] 80)).alloc (.cells #[.string nameT] 9)) := hbx.alloc hbx.size _
    have hk := without_any A (some ⟨(w.alloc (.cells #[.int .u8 0, .bool on, .slice LA Ln Lc, .slice IA In Ic] 80)).heap.size, 0, none⟩) n c 1 1 l [nameT] _ ((HL.out.1.below hb1).more hb1.size) (encTx_name _) (by omega) (by omega) HL.out.2.1 (fun q hq => by rw [List.mem_singleton.1 hq]; decide)
    have hbox1 := (heap_alloc_old _ (.cells #[.string nameT] 9) hsb).trans hbox
    obtain ⟨r, hr⟩ : ∃ r, lessL l [nameT] = r := ⟨_, rfl⟩
    have hrl : r.length ≤ n := by rw [← hr, ← hll]; exact List.length_filter_le _ _
    have hrs : ∀ x ∈ r, x.nm.size ≤ maxLen := fun x hx => HL.out.2.1 x (by rw [← hr] at hx; exact (List.mem_filter.1 hx).1)
    rw [hr] at hk ⊢
    simp only [World.size_alloc] at hk
    have hs1 : ((w.alloc (.cells #[.int .u8 0, .bool on, .slice LA Ln Lc, .slice IA In Ic] 80)).alloc (.cells #[.string nameT] 9)).heap.size = w.heap.size + 2 := by simp
    have HK := Lib.hid (show _ ∧ _ ∧ _ ∧ _ from ⟨hk, hb1, hbox1, hrs⟩)
    clear hk hb1 hbox1 hbx hbox hr hrs
    cases on
    all_goals
      simp only [Bool.false_eq_true, if_false, if_true]
      go_enter Tryz.func157, Tryz.ntmps157
      go_wp2_with fail
      refine HK.out.1.mono ?_
      rintro e w1 ⟨v1, rfl, ho, hb⟩
      have hbx1 := (hb.block w.heap.size (by omega)).trans HK.out.2.2.1
      obtain ⟨m0, m1, m2, m3⟩ := box_four hbx1
      obtain ⟨A1, c1, rfl, _, _⟩ := owns_slice ho
      have hold1 := HK.out.2.1.trans (hb.mono HK.out.2.1.size)
      have hl1 := (owns_lst ho Lb.len (by omega)).1
      have hM1 := HL.out.2.2.on hold1
      have H1 := Lib.hid (show _ ∧ _ ∧ _ from ⟨keep_any A1 LA r.length c1 Ln Lc r ls _ hl1 hM1.lst (by omega) (by omega) HK.out.2.2.2 hM1.sz, without_any A1 LA r.length c1 Ln Lc r ls _ hl1 hM1.lst (by omega) (by omega) HK.out.2.2.2 hM1.sz, hold1⟩)
      clear ho hb hbx1 hold1 hl1 hM1
      go_wp2_with (first
        | (go_at_call 105; refine H1.out.1.mono ?_; rintro e w2 ⟨v, rfl, ho, hb⟩; have H2 := Lib.hid (show _ ∧ _ from ⟨owns_base (B' := w.heap.size) ho H1.out.2.2.size, H1.out.2.2.trans (hb.mono H1.out.2.2.size)⟩); clear ho hb)
        | (go_at_call 53; refine H1.out.2.1.mono ?_; rintro e w2 ⟨v, rfl, ho, hb⟩; have H2 := Lib.hid (show _ ∧ _ from ⟨owns_base (B' := w.heap.size) ho H1.out.2.2.size, H1.out.2.2.trans (hb.mono H1.out.2.2.size)⟩); clear ho hb))
      go_ret
      exact ⟨v, rfl, H2.out.2, .inr H2.out.1⟩
end Go.Proofs.YtajaijidecomdaaGreatDoor
namespace Go.Proofs.YtajaijidecomdaaGreatDoor
open Go.RowKit Go.Lib

section
variable (kf : List Lb → ByteArray) (card : Int) (nf : UInt64 → UInt64 → UInt64 × Bool) (resF : List Lb → List Lb → List Lb)
def grpE (s : ByteArray) (v : List El) : List El := v.filter fun y => decide (kf y.1 = s)
/-- Do too many match? -/
def joinBad (one many : List El) : Bool := one.any fun z => decide (1 < (grpE kf (kf z.1) one).length) || (card == 0 && decide (1 < (grpE kf (kf z.1) many).length))
/-- What comes of an element of the many side and one of the one side. -/
def pairE (x z : El) : Option El := if (if card = 3 then nf z.2 x.2 else nf x.2 z.2).2 then some (resF x.1 z.1, (if card = 3 then nf z.2 x.2 else nf x.2 z.2).1) else none
def joinOut (one many : List El) : List El := one.flatMap fun z => (grpE kf (kf z.1) many).filterMap fun x => pairE card nf resF x z
def joinL (one many : List El) : Int × List El := if joinBad kf card one many then (251, []) else doneL (joinOut kf card nf resF one many)
/-- What comes of a key. -/
def outK (one many : List El) (s : ByteArray) : List El := match grpE kf s one with
  | z :: _ => (grpE kf s many).filterMap fun x => pairE card nf resF x z
  | [] => []
end
section
variable {kf : List Lb → ByteArray} {card : Int} {nf : UInt64 → UInt64 → UInt64 × Bool} {resF : List Lb → List Lb → List Lb}
theorem grp_grpE (s : ByteArray) (es : List Ev) : (grp kf s es).map Ev.el = grpE kf s (es.map Ev.el) := by
  unfold grp grpE
  rw [List.filter_map]
  rfl
theorem grpE_len (s : ByteArray) (es : List Ev) : (grpE kf s (es.map Ev.el)).length = (grp kf s es).length := by rw [← grp_grpE, List.length_map]
theorem flatMap_eqs {α β : Type} {f g : α → List β} : ∀ {l : List α}, (∀ x ∈ l, f x = g x) → l.flatMap f = l.flatMap g
  | [], _ => rfl
  | x :: l, h => by rw [List.flatMap_cons, List.flatMap_cons, h x (by simp), flatMap_eqs fun y hy => h y (by simp [hy])]
theorem parts_len : ∀ (vis : List ByteArray) (many : List Ev), vis.Nodup → (vis.flatMap fun s => grp kf s many).length ≤ many.length
  | [], _, _ => by simp
  | s :: vis, many, h => by
    obtain ⟨h1, h2⟩ := List.nodup_cons.1 h
    have ih := parts_len vis (many.filter fun y => !decide (kf y.l = s)) h2
    have e : (vis.flatMap fun t => grp kf t (many.filter fun y => !decide (kf y.l = s))) = vis.flatMap fun t => grp kf t many := by
      refine flatMap_eqs fun t ht => ?_
      unfold grp
      rw [List.filter_filter]
      refine List.filter_congr fun y _ => ?_
      by_cases hy : kf y.l = t
      · have : ¬ kf y.l = s := fun e => h1 (by rw [← e, hy]; exact ht)
        simp [hy]
        rw [← hy]; exact this
      · simp [hy]
    rw [e] at ih
    have hp := (List.filter_append_perm (fun y : Ev => decide (kf y.l = s)) many).length_eq
    rw [List.length_append] at hp
    rw [List.flatMap_cons, List.length_append]
    show (many.filter fun y => decide (kf y.l = s)).length + _ ≤ _
    omega
theorem outK_of {one many : List El} {z : El} {s : ByteArray} (h : grpE kf s one = [z]) : outK kf card nf resF one many s = (grpE kf s many).filterMap fun x => pairE card nf resF x z := by
  unfold outK
  rw [h]
/-- If nothing is bad, each key has one element. -/
theorem grp_single {one : List El} {z : El} (hz : z ∈ one) (h : (grpE kf (kf z.1) one).length ≤ 1) : grpE kf (kf z.1) one = [z] := by
  have hm : z ∈ grpE kf (kf z.1) one := List.mem_filter.2 ⟨hz, by simp⟩
  match hg : grpE kf (kf z.1) one, h with
  | [], _ => rw [hg] at hm; cases hm
  | [y], _ =>
    rw [hg] at hm
    rw [List.mem_singleton.1 hm]
  | a :: b :: l, h => simp at h
theorem keys_nodup : ∀ {one : List El}, (∀ z ∈ one, (grpE kf (kf z.1) one).length ≤ 1) → (one.map fun z => kf z.1).Nodup
  | [], _ => by simp
  | y :: one, h => by
    rw [List.map_cons, List.nodup_cons]
    have hy := h y (by simp)
    have hcons : ∀ s, grpE kf s (y :: one) = (if kf y.1 = s then [y] else []) ++ grpE kf s one := fun s => by
      unfold grpE
      rw [List.filter_cons]
      by_cases e : kf y.1 = s <;> simp [e]
    refine ⟨fun hm => ?_, keys_nodup fun z hz => ?_⟩
    · obtain ⟨z, hz, e⟩ := List.mem_map.1 hm
      have h2 : z ∈ grpE kf (kf y.1) one := List.mem_filter.2 ⟨hz, by simp [e]⟩
      have h3 := List.length_pos_of_mem h2
      rw [hcons, if_pos rfl, List.length_append, List.length_singleton] at hy
      omega
    · have := h z (by simp [hz])
      rw [hcons, List.length_append] at this
      omega
/-- What was put together key by key is what the law says. -/
theorem join_keys {one many os : List El} {vis : List ByteArray} (hnd : vis.Nodup) (hvis : ∀ s, s ∈ vis ↔ ∃ z ∈ one, kf z.1 = s) (hg : ∀ s ∈ vis, (grpE kf s one).length ≤ 1 ∧ (card = 0 → (grpE kf s many).length ≤ 1)) (ho : os = vis.flatMap (outK kf card nf resF one many)) :
    joinL kf card nf resF one many = doneL os := by
  have hg1 : ∀ z ∈ one, (grpE kf (kf z.1) one).length ≤ 1 := fun z hz => (hg _ ((hvis _).2 ⟨z, hz, rfl⟩)).1
  have hb : joinBad kf card one many = false := by
    unfold joinBad
    rw [List.any_eq_false]
    intro z hz
    obtain ⟨h1, h2⟩ := hg _ ((hvis _).2 ⟨z, hz, rfl⟩)
    rw [Bool.not_eq_true, Bool.or_eq_false_iff]
    refine ⟨decide_eq_false (by omega), ?_⟩
    by_cases hc : card = 0
    · rw [decide_eq_false (by have := h2 hc; omega), Bool.and_false]
    · rw [beq_eq_false_iff_ne.2 hc, Bool.false_and]
  unfold joinL
  rw [hb, if_neg (by decide)]
  refine doneL_perm ?_
  rw [ho]
  unfold joinOut
  have e : (one.flatMap fun z => (grpE kf (kf z.1) many).filterMap fun x => pairE card nf resF x z) = (one.map fun z => kf z.1).flatMap (outK kf card nf resF one many) := by
    rw [List.flatMap_map]
    exact flatMap_eqs fun z hz => (outK_of (grp_single hz (hg1 z hz))).symm
  rw [e]
  refine List.Perm.flatMap_right _ ?_
  refine (List.perm_ext_iff_of_nodup (keys_nodup hg1) hnd).2 fun s => ?_
  rw [hvis, List.mem_map]
theorem join_bad {one many : List El} {z : El} (hz : z ∈ one) (h : 1 < (grpE kf (kf z.1) one).length ∨ card = 0 ∧ 1 < (grpE kf (kf z.1) many).length) : joinL kf card nf resF one many = (251, []) := by
  have hb : joinBad kf card one many = true := by
    unfold joinBad
    rw [List.any_eq_true]
    refine ⟨z, hz, ?_⟩
    rcases h with h | ⟨h1, h2⟩
    · rw [decide_eq_true h, Bool.true_or]
    · rw [h1, decide_eq_true h2]; simp
  unfold joinL
  rw [hb, if_pos rfl]
end
end Go.Proofs.YtajaijidecomdaaGreatDoor
namespace Go.Proofs.YtajaijidecomdaaGreatDoor
open Go.RowKit Go.Lib
open Go.Maps (Keyed)

section
variable {kf : List Lb → ByteArray} {card : Int} {nf : UInt64 → UInt64 → UInt64 × Bool} {resF : List Lb → List Lb → List Lb} {w w2 wr : World} {b1 r n1 cnt : Nat} {D1 : DataW Value} {left : Lit → Bool} {one many : List Ev} {vis : List ByteArray} {v : Value} {os : List Ev}
/-- While the keys are ranged over; w2 is the world behind the two maps. -/
structure JSt (kf : List Lb → ByteArray) (card : Int) (nf : UInt64 → UInt64 → UInt64 × Bool) (resF : List Lb → List Lb → List Lb) (w w2 wr : World) (b1 r n1 : Nat) (D1 : DataW Value) (one many : List Ev) (left : Lit → Bool) (cnt : Nat) (vis : List ByteArray) (v : Value) (os : List Ev) : Prop where
  rng : wr.ranges Tryz.prog 9 RV b1 r n1 D1 left cnt
  row : wr.ownsRow w2.heap.size 90 2 v os.length (os.flatMap encEv)
  src : ∀ o ∈ os, Src w wr o
  el : os.map Ev.el = vis.flatMap (outK kf card nf resF (one.map Ev.el) (many.map Ev.el))
  nd : vis.Nodup
  good : ∀ s ∈ vis, (∃ z ∈ one, kf z.l = s) ∧ (grp kf s one).length ≤ 1 ∧ (card = 0 → (grp kf s many).length ≤ 1)
  all : ∀ z ∈ one, left (tLit (kf z.l)) = true ∨ kf z.l ∈ vis
  fresh : ∀ kl, left kl = true → ∃ z ∈ one, kl = tLit (kf z.l) ∧ kf z.l ∉ vis
  old : Below w2.heap.size w2 wr
  few : os.length ≤ (vis.flatMap fun s => grp kf s many).length
theorem iter_off {k e : TypeId} {R : Value → Option (DataW Value × List MemPlace)} {s m B : Nat} {D : DataW Value} {xs : List Value} (h : wr.ranges Tryz.prog k R b1 r n1 D left cnt) (hr : wr.ownsRow B e s v m xs) : some r ≠ v.ownBlock := fun e' => by
  obtain ⟨es, clock, since, seen, c0, _, _, _, _, hb, _⟩ := h
  obtain ⟨cs, fz, h1⟩ := owns_typed hr e'.symm
  rw [hb] at h1
  injection h1 with h1
  cases h1
theorem ranges_below {w' : World} {D : DataW Value} (h : wr.ranges Tryz.prog 9 RV b1 r n1 D left cnt) (hb : Below wr.heap.size wr w') : w'.ranges Tryz.prog 9 RV b1 r n1 D left cnt :=
  h.kept (row := none) ⟨hb.os, hb.tape, hb.output, hb.size, fun j hj _ => hb.block j hj⟩ (by simp) (by simp)
/-- A key has come. -/
theorem JSt.took {w3 : World} {s : ByteArray} (h : JSt kf card nf resF w w2 wr b1 r n1 D1 one many left cnt vis v os) (hk : left (tLit s) = true) (hg : wr.grownBy w3 (some r)) (hr0 : w2.heap.size ≤ r) :
    (∃ z ∈ one, kf z.l = s) ∧ s ∉ vis ∧ w3.ownsRow w2.heap.size 90 2 v os.length (os.flatMap encEv) ∧ (∀ o ∈ os, Src w w3 o) ∧ Below w2.heap.size w2 w3 := by
  obtain ⟨z, hz, e, hv⟩ := h.fresh _ hk
  have e := tLit_inj e
  rw [← e] at hv
  have hoff : ∀ {e : TypeId} {B q m : Nat} {u : Value} {xs : List Value}, wr.ownsRow B e q u m xs → w3.ownsRow B e q u m xs := fun ho => ho.kept hg (by
    cases hv : Value.ownBlock _ with
    | none => exact .inl rfl
    | some b => exact .inr fun e => iter_off h.rng ho (hv.trans e).symm)
  exact ⟨⟨z, hz, e.symm⟩, hv, hoff h.row, fun o ho => (h.src o ho).imp_right fun q => ⟨hoff q.1, q.2⟩,
    ⟨hg.os.trans h.old.os, hg.tape.trans h.old.tape, hg.output.trans h.old.output, Nat.le_trans h.old.size hg.size, fun k hk => (hg.block k (Nat.lt_of_lt_of_le hk h.old.size) (fun e => by injection e with e; omega)).trans (h.old.block k hk)⟩⟩
/-- The key is done. -/
theorem JSt.done_ {wz : World} {s : ByteArray} {cnt' : Nat} {v' : Value} {os' : List Ev} (h : JSt kf card nf resF w w2 wr b1 r n1 D1 one many left cnt vis v os) (hd : ∃ z ∈ one, kf z.l = s) (hv : s ∉ vis)
    (hrg : wz.ranges Tryz.prog 9 RV b1 r n1 D1 (fun z => left z && !z.sameKey (tLit s)) cnt') (hrow : wz.ownsRow w2.heap.size 90 2 v' os'.length (os'.flatMap encEv)) (hsrc : ∀ o ∈ os', Src w wz o)
    (hel : os'.map Ev.el = os.map Ev.el ++ outK kf card nf resF (one.map Ev.el) (many.map Ev.el) s) (hg1 : (grp kf s one).length ≤ 1) (hg2 : card = 0 → (grp kf s many).length ≤ 1) (hold : Below w2.heap.size w2 wz) (hfew : os'.length ≤ os.length + (grp kf s many).length) :
    JSt kf card nf resF w w2 wz b1 r n1 D1 one many (fun z => left z && !z.sameKey (tLit s)) cnt' (vis ++ [s]) v' os' := by
  refine ⟨hrg, hrow, hsrc, ?_, ?_, fun t ht => ?_, fun z hz => ?_, fun kl hk => ?_, hold, ?_⟩
  · rw [hel, h.el, List.flatMap_append, List.flatMap_singleton]
  · exact List.nodup_append.2 ⟨h.nd, by simp, fun a ha b hb e => by rw [List.mem_singleton.1 hb] at e; exact hv (e ▸ ha)⟩
  · rcases List.mem_append.1 ht with ht | ht
    · exact h.good t ht
    · rw [List.mem_singleton.1 ht]; exact ⟨hd, hg1, hg2⟩
  · by_cases hl : kf z.l = s
    · exact .inr (by simp [hl])
    · rcases h.all z hz with h1 | h1
      · exact .inl (by rw [h1, Maps.sameKey_ne (fun e => hl (tLit_inj e))]; rfl)
      · exact .inr (by simp [h1])
  · simp only [Bool.and_eq_true, Bool.not_eq_true'] at hk
    obtain ⟨z, hz, e, h1⟩ := h.fresh kl hk.1
    refine ⟨z, hz, e, fun h2 => ?_⟩
    rcases List.mem_append.1 h2 with h2 | h2
    · exact h1 h2
    · have h3 := List.mem_singleton.1 h2
      rw [e, h3, WideAt.sameKey_self (tLit_key s)] at hk
      cases hk.2
  · rw [List.flatMap_append, List.flatMap_singleton, List.length_append]
    have := h.few
    omega
/-- The range has ended. -/
theorem JSt.end_ (h : JSt kf card nf resF w w2 wr b1 r n1 D1 one many left cnt vis v os) (hl : ∀ kl, left kl = false) : joinL kf card nf resF (one.map Ev.el) (many.map Ev.el) = doneL (os.map Ev.el) := by
  refine join_keys h.nd (fun s => ⟨fun hs => ?_, ?_⟩) (fun s hs => ?_) h.el
  · obtain ⟨z, hz, e⟩ := (h.good s hs).1
    exact ⟨z.el, List.mem_map.2 ⟨z, hz, rfl⟩, e⟩
  · rintro ⟨x, hx, e⟩
    obtain ⟨z, hz, rfl⟩ := List.mem_map.1 hx
    rcases h.all z hz with h1 | h1
    · rw [hl] at h1; cases h1
    · rw [← e]; exact h1
  · rw [grpE_len, grpE_len]
    exact (h.good s hs).2
/-- Within a key: the first j of the many side have been looked at. -/
structure JIn (kf : List Lb → ByteArray) (card : Int) (nf : UInt64 → UInt64 → UInt64 × Bool) (resF : List Lb → List Lb → List Lb) (w w2 wz : World) (b1 r n1 : Nat) (D1 : DataW Value) (left : Lit → Bool) (cnt : Nat) (ms : List Ev) (z : Ev) (os : List Ev) (j : Nat) (v : Value) (os' : List Ev) : Prop where
  rng : wz.ranges Tryz.prog 9 RV b1 r n1 D1 left cnt
  row : wz.ownsRow w2.heap.size 90 2 v os'.length (os'.flatMap encEv)
  src : ∀ o ∈ os', Src w wz o
  el : os'.map Ev.el = os.map Ev.el ++ (ms.take j).filterMap fun x => pairE card nf resF x.el z.el
  old : Below w2.heap.size w2 wz
  few : os'.length ≤ os.length + j
section
variable {wz w' wa wy : World} {ms os' : List Ev} {z x o : Ev} {j : Nat} {v' : Value}
theorem JIn.skip (h : JIn kf card nf resF w w2 wz b1 r n1 D1 left cnt ms z os j v os') (hx : ms[j]? = some x) (hb : Below wz.heap.size wz w') (hp : pairE card nf resF x.el z.el = none) : JIn kf card nf resF w w2 w' b1 r n1 D1 left cnt ms z os (j + 1) v os' := by
  obtain ⟨hj, he⟩ := List.getElem?_eq_some_iff.1 hx
  refine ⟨ranges_below h.rng hb, owns_below h.row hb, fun o ho => (h.src o ho).below hb, ?_, h.old.trans (hb.mono h.old.size), by have := h.few; omega⟩
  rw [h.el, List.take_succ_eq_append_getElem hj, he, List.filterMap_append]
  simp [hp]
theorem JIn.add (h : JIn kf card nf resF w w2 wz b1 r n1 D1 left cnt ms z os j v os') (hx : ms[j]? = some x) (hba : Below wz.heap.size wz wa) (ho : Src w wa o) (hr : wy.ownsRow w2.heap.size 90 2 v' (os'.length + 1) (os'.flatMap encEv ++ encEv o)) (hg : wa.grownBy wy v.ownBlock) (hp : pairE card nf resF x.el z.el = some o.el) :
    JIn kf card nf resF w w2 wy b1 r n1 D1 left cnt ms z os (j + 1) v' (os' ++ [o]) := by
  obtain ⟨hj, he⟩ := List.getElem?_eq_some_iff.1 hx
  have hra := owns_below h.row hba
  have hrga := ranges_below h.rng hba
  refine ⟨hrga.kept hg (map_off hrga.owns hra) (iter_off hrga hra), by rw [List.length_append, List.length_singleton, List.flatMap_append, List.flatMap_singleton]; exact hr, fun q hq => ?_, ?_, (h.old.trans (hba.mono h.old.size)).grown hg (Nat.le_trans h.old.size hba.size) (fun k hk => (hra.lt k hk).1), by have := h.few; simp; omega⟩
  · rcases List.mem_append.1 hq with hq | hq
    · exact ((h.src q hq).below hba).kept hra hg
    · rw [List.mem_singleton.1 hq]; exact ho.kept hra hg
  · rw [List.map_append, h.el, List.take_succ_eq_append_getElem hj, he, List.filterMap_append, List.append_assoc]
    congr 1
    simp [hp]
end
end
end Go.Proofs.YtajaijidecomdaaGreatDoor
