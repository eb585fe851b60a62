/- The document's Sorted. -/
import Derived.Test.YtajaijidecomdaaGreatDoorG37
import Derived.Test.YtajaijidecomdaaGreatDoorG39
import Derived.Deep.RegionHeld3
namespace Go.Proofs.YtajaijidecomdaaGreatDoor
open Go.RowKit Go.Lib

/-- 's[k:]', 's[:k]' of elements. -/
def tailE (A : Option Addr) (n c k : Nat) : Value := .slice (if c = k then A else A.map (·.add (k * 2))) (n - k) (c - k)
theorem run_tailE (A : Option Addr) (n c k : Nat) (hk : k ≤ n) (W : World) : (Instr.slice 33 (.slice A n c) (some (.int .i64 (k : Int))) none none).run Tryz.prog W = .ok (tailE A n c k) W := by
  rw [run_slice_l _ _ _ _ _ (by kernel_rfl) .i64 (k : Int) (by omega) (by omega)]
  rw [show Tryz.prog.elem 33 = 90 by kernel_rfl, Tryz.sizeOfElem]
  simp only [Result.andThen, Int.toNat_natCast, sliced, tailE]
theorem Lst.dropE {α : Type} {enc : α → List Value} {w : World} {B b off n k : Nat} {l : List α} (h : Lst enc 2 w B (some ⟨b, off, none⟩) n l) (hk : k ≤ n) : Lst enc 2 w B (some ⟨b, off + k * 2, none⟩) (n - k) (l.drop k) := by
  refine ⟨by rw [List.length_drop, h.1], fun hn => ?_⟩
  obtain ⟨b', off', e, hb, hc⟩ := h.2 (by omega)
  cases e
  refine ⟨b, off + k * 2, rfl, hb, fun j x hx i u hu => ?_⟩
  rw [List.getElem?_drop] at hx
  have := hc (k + j) x hx i u hu
  rwa [show off + (k + j) * 2 + i = off + k * 2 + j * 2 + i by omega] at this
theorem tailE_lst {w : World} {B n c k : Nat} {A : Option Addr} {ss : List Ev} (h : Lst encEv 2 w B A n ss) (hnil : A = none → n = 0 ∧ c = 0) (hk : k ≤ n) (hnc : n ≤ c) : ∃ A' c', tailE A n c k = .slice A' (n - k) c' ∧ Lst encEv 2 w B A' (n - k) (ss.drop k) ∧ (A' = none → n - k = 0 ∧ c' = 0) := by
  refine ⟨_, _, rfl, ?_, fun e => ?_⟩
  · by_cases hn : k < n
    · obtain ⟨b, off, e, hb, hc⟩ := h.2 (by omega)
      subst e
      rw [if_neg (by omega)]
      have := h.dropE (k := k) hk
      simp only [Option.map_some, Addr.add]
      by_cases hk0 : k * 2 = 0
      · rw [if_pos hk0]
        rw [hk0, Nat.add_zero] at this
        exact this
      · rw [if_neg hk0]
        exact this
    · exact ⟨by rw [List.length_drop, h.1], fun h => absurd h (by omega)⟩
  · by_cases hc : c = k
    · omega
    · rw [if_neg hc] at e
      cases A with
      | none => have := hnil rfl; omega
      | some a => simp at e
/-- An append of labels onto nothing, at a step of a region that draws its order. -/
theorem step_append_labs {ops : Array Oper} {o : Oper} {a : Act} {K : Act → World → Prop} {Q : Exit → Act → World → Prop} {E : Prop} {wc : World} {B : Nat} {A' : Option Addr} {n' c' : Nat} {src : List Lb} {i0 : TypeInfo}
    (hgd : o.guard = none) (s x : Operand) (hop : o.op = .call { callee := .builtin .append, args := #[s, x], argTypes := #[88, 88] }) (hs : a.eval s = .slice none 0 0) (hx : a.eval x = .slice A' n' c')
    (hM : Lst Lb.cells 2 wc wc.heap.size A' n' src) (hnil : A' = none → n' = 0 ∧ c' = 0) (hi : Tryz.prog.info? 104 = some i0) (hz0 : i0.zero = some (.agg #[.string ByteArray.empty, .string ByteArray.empty])) (hz1 : i0.size = 2) (hz2 : i0.bytes = 32)
    (hB : B ≤ wc.heap.size) (hn' : n' ≤ 100000)
    (h : ∀ v4 w4, w4.ownsRow B 104 2 v4 n' (src.flatMap Lb.cells) → Below wc.heap.size wc w4 → K (a.put o.dst v4) w4) :
    if Region.wanted o (yielded ops a.tmps) = true then Oper.wp Tryz.prog o a wc K Q else E := by
  have hw : Region.wanted o (yielded ops a.tmps) = true := by simp [Region.wanted, hgd]
  rw [if_pos hw]
  have hsl := hM.1
  have hown : wc.ownsRow B 104 2 (.slice none 0 0) 0 [] := World.ownsRow_nil _ _ _ _
  cases A' with
  | none =>
    obtain ⟨rfl, rfl⟩ := hnil rfl
    obtain rfl : src = [] := List.length_eq_zero_iff.1 hsl
    have hrun := run_append_owned_none (P := Tryz.prog) (w := wc) B 88 o.type 104 i0 2 Tryz.underlying88 hi _ 0 [] hown
    unfold Oper.wp
    simp [execOp, hop, resolve, invoke, builtin, hs, hx, hrun, Result.andThen]
    exact h _ _ hown (Below.refl _ _)
  | some ad =>
    have hfl := hM.flat Lb.len
    refine wp_append_own wc s x 88 hop B 104 i0 _ 2 32 Tryz.underlying88 hi hz0 hz1 hz2 rfl (by omega) _ 0 [] hs hown ad n' c' (src.flatMap Lb.cells) hx (by rw [flatMap_length Lb.len, hsl]) hfl (oneLabel _) (by unfold maxLen; omega) (by omega) hB ?_
    intro v4 w4 ho4 hg4 _
    rw [Nat.zero_add, List.nil_append] at ho4
    exact h v4 w4 ho4 ((Below.refl _ _).grown hg4 (Nat.le_refl _) (fun j hj => by cases hj))
/-- The first k elements stand in order. -/
structure RSt (w wr : World) (es : List Ev) (k : Nat) (A : Option Addr) (c : Nat) (os : List Ev) : Prop where
  els : Els wr wr.heap.size A k c os
  cap : k ≤ c
  srt : FL.SrtOf elL ((es.take k).map Ev.el) (os.map Ev.el)
  old : Below w.heap.size w wr
/-- What the document's Sorted hands back. -/
def RSortPost (l : List El) (w : World) (e : Ending) (w' : World) : Prop := ∃ A c os, e = .returned (.slice A l.length c) ∧ Els w' w'.heap.size A l.length c os ∧ os.map Ev.el = srtL l ∧ Below w.heap.size w w'
/-- An element put in at its place. -/
theorem srt_insert {l os : List El} {x : El} {t : Nat} (h : FL.SrtOf elL l os) (ht : t ≤ os.length) (hlo : t = 0 ∨ ∃ y, os[t - 1]? = some y ∧ ¬ elL x y < 0) (hhi : ∀ j z, t ≤ j → os[j]? = some z → elL x z < 0) : FL.SrtOf elL (l ++ [x]) (os.take t ++ x :: os.drop t) := by
  obtain ⟨hp, hs⟩ := h
  refine ⟨?_, ?_⟩
  · have h1 : (os.take t ++ x :: os.drop t).Perm (x :: (os.take t ++ os.drop t)) := List.perm_middle
    rw [List.take_append_drop] at h1
    exact h1.trans ((List.Perm.cons x hp).trans (List.perm_append_singleton x l).symm)
  · have hs2 : (os.take t ++ os.drop t).Pairwise fun x y => elL x y ≤ 0 := by rw [List.take_append_drop]; exact hs
    obtain ⟨p1, p2, p3⟩ := List.pairwise_append.1 hs2
    have hxd : ∀ z ∈ os.drop t, elL x z ≤ 0 := fun z hz => by
      obtain ⟨j, hj, e⟩ := List.getElem_of_mem hz
      rw [List.length_drop] at hj
      rw [List.getElem_drop] at e
      have := hhi (t + j) z (by omega) (by rw [← e]; exact List.getElem?_eq_getElem (by omega))
      omega
    have hyx : ∀ y ∈ os.take t, elL y x ≤ 0 := fun y hy => by
      rcases hlo with h0 | ⟨u, hu, hux⟩
      · subst h0; simp at hy
      · have hux2 : elL u x ≤ 0 := by have := elL_tot.swap u x; omega
        obtain ⟨j, hj, e⟩ := List.getElem_of_mem hy
        rw [List.length_take] at hj
        rw [List.getElem_take] at e
        by_cases hjt : j = t - 1
        · subst hjt
          have : os[t - 1]? = some y := by rw [← e]; exact List.getElem?_eq_getElem (by omega)
          rw [hu] at this
          injection this with this
          rw [← this]; exact hux2
        · have h3 := List.pairwise_iff_getElem.1 hs j (t - 1) (by omega) (by omega) (by omega)
          rw [e] at h3
          have h4 : os[t - 1]'(by omega) = u := by
            have := List.getElem?_eq_getElem (l := os) (i := t - 1) (by omega)
            rw [hu] at this
            exact (Option.some.inj this).symm
          rw [h4] at h3
          exact elL_tot.le_trans h3 hux2
    refine List.pairwise_append.2 ⟨p1, List.pairwise_cons.2 ⟨hxd, p2⟩, fun y hy z hz => ?_⟩
    rcases List.mem_cons.1 hz with rfl | hz
    · exact hyx y hy
    · exact p3 y hy z hz
theorem rst_next {w wo w9 : World} {es os : List Ev} {k t B c c4 c10 : Nat} {A A4 A10 : Option Addr} {x : Ev} (h : RSt w wo es k A c os) (hx : es[k]? = some x) (hxE : Eat wo wo.heap.size x) (ht : t ≤ k)
    (hins : FL.SrtOf elL ((es.take k).map Ev.el ++ [x.el]) ((os.map Ev.el).take t ++ x.el :: (os.map Ev.el).drop t)) (hl : w9.ownsRow B 104 2 (.slice A4 x.n c4) x.n (x.l.flatMap Lb.cells))
    (ho : w9.ownsRow w.heap.size 90 2 (.slice A10 (k + 1) c10) (k + 1) (((os.take t).flatMap encEv ++ encEv ⟨A4, x.n, c4, x.l, x.v⟩) ++ (os.drop t).flatMap encEv)) (hb : Below wo.heap.size wo w9) (hk : k + 1 ≤ 100000) :
    RSt w w9 es (k + 1) A10 c10 (os.take t ++ ⟨A4, x.n, c4, x.l, x.v⟩ :: os.drop t) := by
  have hrow : w9.ownsRow w.heap.size 90 2 (.slice A10 (k + 1) c10) (k + 1) ((os.take t ++ ⟨A4, x.n, c4, x.l, x.v⟩ :: os.drop t).flatMap encEv) := by
    rw [List.flatMap_append, List.flatMap_cons, ← List.append_assoc]; exact ho
  obtain ⟨e1, e2, _⟩ := owns_lst hrow encEv_len (by omega)
  obtain ⟨l1, l2, _⟩ := owns_lst hl Lb.len (by omega)
  refine ⟨⟨e1, e2, by omega, fun z hz => ?_⟩, (owns_cap hrow).2, ?_, h.old.trans (hb.mono h.old.size)⟩
  · rcases List.mem_append.1 hz with hz | hz
    · exact (h.els.each z (List.mem_of_mem_take hz)).on hb
    · rcases List.mem_cons.1 hz with rfl | hz
      · exact ⟨l1, l2, hxE.few, hxE.sz⟩
      · exact (h.els.each z (List.mem_of_mem_drop hz)).on hb
  · obtain ⟨hk', hxe⟩ := List.getElem?_eq_some_iff.1 hx
    rw [List.take_succ_eq_append_getElem hk', hxe]
    have := hins
    simp only [List.map_append, List.map_cons, List.map_nil, List.map_take, List.map_drop] at this ⊢
    exact this
set_option maxHeartbeats 16000000 in
set_option maxRecDepth 100000 in
theorem refSorted_any (A0 : Option Addr) (n c0 : Nat) (es : List Ev) (w : World) (hE : Els w w.heap.size A0 n c0 es) : Calls Tryz.prog 35 #[.slice A0 n c0] w (RSortPost (es.map Ev.el) w) := by
  have hn := hE.few
  have hln := hE.lst.1
  have HE := Lib.hid hE
  obtain ⟨i1, hi, hz0, hz1, hz2⟩ := info_parts Tryz.infoLabel
  have HJ := Lib.hid (show _ ∧ _ ∧ _ ∧ _ from ⟨hi, hz0, hz1, hz2⟩)
  clear hi hz0 hz1 hz2
  obtain ⟨i0, hi, hz0, hz1, hz2⟩ := info_parts Tryz.infoElem
  have HI := Lib.hid (show _ ∧ _ ∧ _ ∧ _ from ⟨hi, hz0, hz1, hz2⟩)
  clear hi hz0 hz1 hz2 hE
  go_enter Tryz.func35, Tryz.ntmps35
  go_wp2
  go_loopw [3, 4] (fun v iv wr => ∃ (k : Nat) (A : Option Addr) (c : Nat) (os : List Ev), k ≤ n ∧ iv = .int .i64 k ∧ v = .slice A k c ∧ Hid (RSt w wr es k A c os)) (fun _ iv _ => n - (intOf iv).toNat)
  case atStart => exact ⟨0, none, 0, [], Nat.zero_le _, rfl, rfl, Lib.hid ⟨⟨Lst.nil, fun _ => ⟨rfl, rfl⟩, by omega, by simp⟩, Nat.le_refl _, ⟨by simp, by simp⟩, Below.refl _ _⟩⟩
  case round =>
    obtain ⟨k, A, c, os, hk, rfl, rfl, HR⟩ := hrel
    by_cases hlt : k < n
    · obtain ⟨b, off, x, rfl, hb, hx, hcl⟩ := HE.out.lst.at hlt
      have c0 := (HR.out.old.cell (p := ⟨b, off + k * 2 + 0, none⟩) hb).trans (hcl 0 _ rfl)
      have c1 := (HR.out.old.cell (p := ⟨b, off + k * 2 + 1, none⟩) hb).trans (hcl 1 _ rfl)
      simp only [Nat.add_zero] at c0
      have hxE := (HE.out.each x (List.mem_of_getElem? hx)).on HR.out.old
      have hsz := HR.out.old.size
      have HX := Lib.hid (show _ ∧ _ ∧ _ from ⟨hx, hxE, (⟨c0, c1⟩ : _ ∧ _)⟩)
      have hbr : b < wr.heap.size := by omega
      have hcap := HR.out.cap
      have hosl := HR.out.els.lst.1
      obtain ⟨wo, rfl⟩ : ∃ wo : World, wo = wr := ⟨_, rfl⟩
      clear hx hxE hcl c0 c1
      go_wp2
      go_loopw [5] (fun tv wz => ∃ t : Nat, t ≤ k ∧ tv = .int .i64 t ∧ Hid ((∀ j z, t ≤ j → (os.map Ev.el)[j]? = some z → elL x.el z < 0) ∧ Below wo.heap.size wo wz)) (fun tv _ => (intOf tv).toNat)
      case atStart => exact ⟨k, Nat.le_refl _, rfl, Lib.hid ⟨fun j z h1 h2 => by have := (List.getElem?_eq_some_iff.1 h2).1; simp at this; omega, Below.refl _ _⟩⟩
      case round =>
        obtain ⟨t, ht, rfl, HT⟩ := hrel
        by_cases hgo : 0 < t ∧ ∃ y, os[t - 1]? = some y ∧ elL x.el y.el < 0
        · obtain ⟨h0, y', hy', hlx⟩ := hgo
          obtain ⟨j, hj⟩ : ∃ j, t - 1 = j := ⟨_, rfl⟩
          obtain ⟨b2, off2, y, rfl, hb2, hy, hcy⟩ := HR.out.els.lst.at (k := t - 1) (by omega)
          obtain rfl : y' = y := by rw [hy'] at hy; exact Option.some.inj hy
          have d0 := (HT.out.2.cell (p := ⟨b2, off2 + (t - 1) * 2 + 0, none⟩) hb2).trans (hcy 0 _ rfl)
          have d1 := (HT.out.2.cell (p := ⟨b2, off2 + (t - 1) * 2 + 1, none⟩) hb2).trans (hcy 1 _ rfl)
          rw [hj] at d0 d1
          simp only [Nat.add_zero] at d0
          have e0 := (HT.out.2.cell (p := ⟨b, off + k * 2, none⟩) hbr).trans HX.out.2.2.1
          have e1 := (HT.out.2.cell (p := ⟨b, off + k * 2 + 1, none⟩) hbr).trans HX.out.2.2.2
          have hyE := HR.out.els.each y' (List.mem_of_getElem? hy)
          have hles := fun W (hW : Below wo.heap.size wo W) => refLess_any x y' W (HX.out.2.1.on hW) (hyE.on hW)
          have hd : decide (elL x.el y'.el < 0) = true := decide_eq_true hlx
          rw [hd] at hles
          have hw1 : IntKind.i64.wrap ((t : Int) - 1) = (j : Int) := by rw [show (t : Int) - 1 = j by omega]; exact IntWalk.i64_in _ (by omega)
          have i1 : (0 : Int) ≤ (j : Int) := by omega
          have i2 : (j : Int) < (k : Int) := by omega
          have i3 : (0 : Int) ≤ (k : Int) := by omega
          have i4 : (k : Int) < (n : Int) := by omega
          have i5 : (0 : Int) < (t : Int) := by omega
          have hnx : ∀ q z, j ≤ q → (os.map Ev.el)[q]? = some z → elL x.el z < 0 := fun q z hq hz => by
            by_cases hqj : q = j
            · subst hqj
              rw [hj] at hy'
              rw [List.getElem?_map, hy'] at hz
              injection hz with hz
              rw [← hz]; exact hlx
            · exact HT.out.1 q z (by omega) hz
          have HL := Lib.hid (show _ ∧ _ ∧ _ from ⟨hles, hnx, HT.out.2⟩)
          clear hy hy' hcy hyE hles hd hnx hlx
          go_wp2_with fail
          go_region_held3 (fun w' => w'.cell? ⟨b, off + k * 2, none⟩ = some (.slice x.A x.n x.c) ∧ w'.cell? ⟨b, off + k * 2 + 1, none⟩ = some (.int .u64 x.v.toNat) ∧ w'.cell? ⟨b2, off2 + j * 2, none⟩ = some (.slice y'.A y'.n y'.c) ∧ w'.cell? ⟨b2, off2 + j * 2 + 1, none⟩ = some (.int .u64 y'.v.toNat)) (first | exact k6 | exact ⟨e0, e1, d0, d1⟩)
            (first
              | (go_at_call 110; refine (HL.out.1 _ (HL.out.2.2.drew)).mono ?_; rintro e w5 ⟨rfl, hb5⟩; have hb5' := HL.out.2.2.drew.trans (hb5.mono HL.out.2.2.drew.size); have H5 := Lib.hid hb5'; have k6 := (show _ ∧ _ ∧ _ ∧ _ from ⟨(cell_two ((Below.refl _ wr).drew.trans hb5) ⟨e0, e1⟩).1, (cell_two ((Below.refl _ wr).drew.trans hb5) ⟨e0, e1⟩).2, (cell_two ((Below.refl _ wr).drew.trans hb5) ⟨d0, d1⟩).1, (cell_two ((Below.refl _ wr).drew.trans hb5) ⟨d0, d1⟩).2⟩); clear hb5 hb5')
              | fail)
          all_goals
            go_wp2
            go_roundw
            case measure => simp [intOf]; omega
            case rel => exact ⟨j, by omega, by simp, Lib.hid ⟨HL.out.2.1, H5.out⟩⟩
        · have hlo : t = 0 ∨ (0 < t ∧ ∃ y, os[t - 1]? = some y ∧ ¬ elL x.el y.el < 0) := by
            by_cases h0 : t = 0
            · exact .inl h0
            · have h1 : os[t - 1]? = some (os[t - 1]'(by omega)) := List.getElem?_eq_getElem _
              exact .inr ⟨by omega, _, h1, fun h => hgo ⟨by omega, _, h1, h⟩⟩
          have hins := srt_insert (x := x.el) (t := t) HR.out.srt (by rw [List.length_map]; omega) (by
            rcases hlo with h | ⟨_, y, hy, hn'⟩
            · exact .inl h
            · exact .inr ⟨y.el, by rw [List.getElem?_map, hy]; rfl, hn'⟩) HT.out.1
          have i3 : (0 : Int) ≤ (k : Int) := by omega
          have i4 : (k : Int) < (n : Int) := by omega
          have i6 : (0 : Int) ≤ (t : Int) := by omega
          have i7 : (t : Int) ≤ (c : Int) := by omega
          have i8 : (t : Int) ≤ (k : Int) := by omega
          have hnil := HR.out.els.nil
          obtain ⟨A9, c9, e9, hl9, hn9⟩ := tailE_lst (k := t) HR.out.els.lst hnil ht hcap
          have htl := fun W => run_tailE A k c t ht W
          rw [e9] at htl
          have e0 := (HT.out.2.cell (p := ⟨b, off + k * 2, none⟩) hbr).trans HX.out.2.2.1
          have e1 := (HT.out.2.cell (p := ⟨b, off + k * 2 + 1, none⟩) hbr).trans HX.out.2.2.2
          have HL := Lib.hid (show _ ∧ _ ∧ _ ∧ _ ∧ _ from ⟨hins, hl9, hn9, HT.out.2, (show _ ∧ _ from ⟨HR.out.els.lst.take ht, (fun e => (⟨by have := (hnil e).1; omega, (hnil e).2⟩ : t = 0 ∧ c = 0))⟩)⟩)
          clear hgo hins hl9 hn9 e9 hnil
          rcases hlo with rfl | ⟨h0, y', hy', hnl⟩
          · simp only [Int.natCast_zero, Nat.sub_zero] at htl
            obtain ⟨hi, hz0, hz1, hz2⟩ := HI.out
            have HC6 := Lib.hid (fun q => below_drewN HL.out.2.2.2.1 q)
            go_wp2_with (first
              | go_quiet (fail)
              | (at_builtin; refine wpList_append_els (B := wo.heap.size) (A' := A) (n' := 0) (c' := c) (src := os.take 0) (xs := []) ((HL.out.2.2.2.2.1.below (below_drewN HL.out.2.2.2.1 _)).more (below_drewN HL.out.2.2.2.1 _).size) HL.out.2.2.2.2.2 hi hz0 hz1 hz2 (World.ownsRow_nil _ _ _ _) (below_drewN HL.out.2.2.2.1 _).size (by omega) (by omega) _ _ rfl rfl rfl rfl ?_))
            intro v6 w6 ho6 hg6
            have hb6 : Below wo.heap.size wo w6 := (HC6.out _).grown hg6 (HC6.out _).size (fun j hj => by cases hj)
            have ho6 : w6.ownsRow wo.heap.size 90 2 v6 0 ((os.take 0).flatMap encEv) := by simpa using ho6
            have f0 := (hb6.cell (p := ⟨b, off + k * 2, none⟩) hbr).trans HX.out.2.2.1
            have f1 := (hb6.cell (p := ⟨b, off + k * 2 + 1, none⟩) hbr).trans HX.out.2.2.2
            have hs6 := hb6.size
            have hv6 : v6.ownBlock ≠ some b := fun e => by have := (ho6.lt b e).1; omega
            have H6 := Lib.hid (show _ ∧ _ ∧ _ from ⟨ho6, hb6, hv6⟩)
            clear ho6 hg6 hb6 hv6 hi hz0 hz1 hz2
            go_wp2_with fail
            obtain ⟨hi, hz0, hz1, hz2⟩ := HI.out
            obtain ⟨hi', hz0', hz1', hz2'⟩ := HJ.out
            go_region_held3 (fun w' => w'.cell? ⟨b, off + k * 2, none⟩ = some (.slice x.A x.n x.c) ∧ w'.cell? ⟨b, off + k * 2 + 1, none⟩ = some (.int .u64 x.v.toNat)) (first | exact k7 | exact k6 | exact ⟨f0, f1⟩ | go_keep)
              (first
                | (refine step_append_labs (B := wo.heap.size) (A' := x.A) (n' := x.n) (c' := x.c) (src := x.l) (by rfl) _ _ (by rfl) (by rfl) (by rfl) (by first | exact (HX.out.2.1.on H6.out.2.1.drew).lst | exact (HX.out.2.1.on H6.out.2.1).lst) HX.out.2.1.nil hi' hz0' hz1' hz2' (by simp; omega) (by have := HX.out.2.1.few; omega) ?_; intro v4 w4 ho4 hb4; obtain ⟨A4, c4, rfl, _, _⟩ := owns_slice ho4; have hb4' := (Below.refl w6.heap.size w6).drew.trans hb4; have k6 := cell_two hb4' ⟨f0, f1⟩; have hold4 := H6.out.2.1.trans (hb4'.mono hs6); have hs4 := hold4.size; have H4 := Lib.hid (show _ ∧ _ ∧ _ from ⟨ho4, hold4, owns_below H6.out.1 hb4'⟩); clear ho4 hb4 hb4' hold4)
                | (refine step_append_lies _ (by rfl) _ _ _ (by rfl) wo.heap.size 90 i0 _ 2 32 Tryz.underlying33 hi hz0 hz1 hz2 rfl (by omega) _ 0 ((os.take 0).flatMap encEv) (by rfl) (by exact H4.out.2.2.alloc _) ⟨w4.heap.size, 0, none⟩ 1 1 (encEv ⟨A4, x.n, c4, x.l, x.v⟩) (by rfl) (by rfl) (by exact cells_newL w4 (encEv ⟨A4, x.n, c4, x.l, x.v⟩) _) (by simp [Value.oneCell', encEv]) (by omega) (by unfold maxLen; omega) (by omega) (by simp; omega) (w4.heap.size + 1) (by simp) ?_; intro g8 c8 w8 hown8 hg8 hl8 hlt8; have hba : Below w4.heap.size w4 (w4.alloc (.cells #[.slice A4 x.n c4, .int .u64 x.v.toNat] 90)) := (Below.refl _ _).alloc (Nat.le_refl _) _; have k7 := (show World.cell? w8 ⟨b, off + k * 2, none⟩ = some (.slice x.A x.n x.c) ∧ World.cell? w8 ⟨b, off + k * 2 + 1, none⟩ = some (.int .u64 x.v.toNat) from ⟨(GrownIn.of_grownBy hg8).cell (cell_two hba k6).1 H6.out.2.2, (GrownIn.of_grownBy hg8).cell (cell_two hba k6).2 H6.out.2.2⟩); have hra := H4.out.2.2.alloc (.cells #[.slice A4 x.n c4, .int .u64 x.v.toNat] 90); have H8 := Lib.hid (show _ ∧ Below wo.heap.size wo w8 ∧ _ from ⟨hown8, ((H4.out.2.1.alloc hs4 _).grown hg8 (by simp; omega) (fun j hj => by have := (hra.lt j hj).1; have := (H6.out.1.lt j hj); omega)), (H4.out.1.alloc (.cells #[.slice A4 x.n c4, .int .u64 x.v.toNat] 90)).kept hg8 (owns_apart (H4.out.1.alloc _) hra (by decide))⟩); clear hown8 hg8 hl8 hlt8 hba hra)
                | fail)
            all_goals
              go_wp2_with (at_builtin; refine wpList_append_els (B := wo.heap.size) (A' := A9) (n' := k - 0) (c' := c9) (src := os.drop 0) (xs := (os.take 0).flatMap encEv ++ encEv ⟨A4, x.n, c4, x.l, x.v⟩) ((HL.out.2.1.below H8.out.2.1).more H8.out.2.1.size) HL.out.2.2.1 hi hz0 hz1 hz2 H8.out.1 H8.out.2.1.size (by omega) (by omega) _ _ rfl rfl rfl rfl ?_)
              intro v9 w9 ho9 hg9
              have hb9 : Below wo.heap.size wo w9 := H8.out.2.1.grown hg9 H8.out.2.1.size (fun j hj => (H8.out.1.lt j hj).1)
              have ho9 : w9.ownsRow wo.heap.size 90 2 v9 (k + 1) (((os.take 0).flatMap encEv ++ encEv ⟨A4, x.n, c4, x.l, x.v⟩) ++ (os.drop 0).flatMap encEv) := by simpa [Nat.add_comm] using ho9
              obtain ⟨A10, c10, rfl, _, _⟩ := owns_slice ho9
              have hlab := H8.out.2.2.kept hg9 (owns_apart H8.out.2.2 H8.out.1 (by decide))
              have HN := Lib.hid (rst_next HR.out HX.out.1 HX.out.2.1 ht HL.out.1 hlab (owns_base ho9 hsz) hb9 (by omega))
              clear hb9 ho9 hg9 hlab hi hz0 hz1 hz2 hi' hz0' hz1' hz2'
              go_wp2
              go_roundw
              case measure => simp [intOf]; omega
              case rel => exact ⟨k + 1, A10, c10, _, hlt, by simp, rfl, HN⟩
          · obtain ⟨j, hj⟩ : ∃ j, t - 1 = j := ⟨_, rfl⟩
            obtain ⟨b2, off2, y, rfl, hb2, hy, hcy⟩ := HR.out.els.lst.at (k := t - 1) (by omega)
            obtain rfl : y' = y := by rw [hy'] at hy; exact Option.some.inj hy
            have d0 := (HT.out.2.cell (p := ⟨b2, off2 + (t - 1) * 2 + 0, none⟩) hb2).trans (hcy 0 _ rfl)
            have d1 := (HT.out.2.cell (p := ⟨b2, off2 + (t - 1) * 2 + 1, none⟩) hb2).trans (hcy 1 _ rfl)
            rw [hj] at d0 d1
            simp only [Nat.add_zero] at d0
            have hyE := HR.out.els.each y' (List.mem_of_getElem? hy)
            have hles := fun W (hW : Below wo.heap.size wo W) => refLess_any x y' W (HX.out.2.1.on hW) (hyE.on hW)
            have hd : decide (elL x.el y'.el < 0) = false := decide_eq_false hnl
            rw [hd] at hles
            have hw1 : IntKind.i64.wrap ((t : Int) - 1) = (j : Int) := by rw [show (t : Int) - 1 = j by omega]; exact IntWalk.i64_in _ (by omega)
            have i1 : (0 : Int) ≤ (j : Int) := by omega
            have i2 : (j : Int) < (k : Int) := by omega
            have i5 : (0 : Int) < (t : Int) := by omega
            have HLS := Lib.hid hles
            clear hy hy' hcy hyE hles hd hnl hj
            go_wp2_with fail
            go_region_held3 (fun w' => w'.cell? ⟨b, off + k * 2, none⟩ = some (.slice x.A x.n x.c) ∧ w'.cell? ⟨b, off + k * 2 + 1, none⟩ = some (.int .u64 x.v.toNat) ∧ w'.cell? ⟨b2, off2 + j * 2, none⟩ = some (.slice y'.A y'.n y'.c) ∧ w'.cell? ⟨b2, off2 + j * 2 + 1, none⟩ = some (.int .u64 y'.v.toNat)) (first | exact k6 | exact ⟨e0, e1, d0, d1⟩)
              (first
                | (go_at_call 110; refine (HLS.out _ (HL.out.2.2.2.1.drew)).mono ?_; rintro e w5 ⟨rfl, hb5⟩; have hb5' := HL.out.2.2.2.1.drew.trans (hb5.mono HL.out.2.2.2.1.drew.size); have H5 := Lib.hid hb5'; have k6 := (show _ ∧ _ ∧ _ ∧ _ from ⟨(cell_two ((Below.refl _ wr).drew.trans hb5) ⟨e0, e1⟩).1, (cell_two ((Below.refl _ wr).drew.trans hb5) ⟨e0, e1⟩).2, (cell_two ((Below.refl _ wr).drew.trans hb5) ⟨d0, d1⟩).1, (cell_two ((Below.refl _ wr).drew.trans hb5) ⟨d0, d1⟩).2⟩); clear hb5 hb5')
                | fail)
            all_goals
              clear d0 d1 i1 i2 hw1
              obtain ⟨hi, hz0, hz1, hz2⟩ := HI.out
              go_wp2_with (first
                | (at_builtin; refine wpList_append_els (B := wo.heap.size) (A' := some ⟨b2, off2, none⟩) (n' := t) (c' := c) (src := os.take t) (xs := []) ((HL.out.2.2.2.2.1.below H5.out).more H5.out.size) HL.out.2.2.2.2.2 hi hz0 hz1 hz2 (World.ownsRow_nil _ _ _ _) H5.out.size (by omega) (by omega) _ _ rfl rfl rfl rfl ?_))
              intro v6 w6 ho6 hg6
              have hb6 : Below wo.heap.size wo w6 := H5.out.grown hg6 H5.out.size (fun j hj => by cases hj)
              have ho6 : w6.ownsRow wo.heap.size 90 2 v6 t ((os.take t).flatMap encEv) := by simpa using ho6
              have f0 := (hb6.cell (p := ⟨b, off + k * 2, none⟩) hbr).trans HX.out.2.2.1
              have f1 := (hb6.cell (p := ⟨b, off + k * 2 + 1, none⟩) hbr).trans HX.out.2.2.2
              have hs6 := hb6.size
              have hv6 : v6.ownBlock ≠ some b := fun e => by have := (ho6.lt b e).1; omega
              have H6 := Lib.hid (show _ ∧ _ ∧ _ from ⟨ho6, hb6, hv6⟩)
              clear ho6 hg6 hb6 hv6 hi hz0 hz1 hz2
              go_wp2_with fail
              obtain ⟨hi, hz0, hz1, hz2⟩ := HI.out
              obtain ⟨hi', hz0', hz1', hz2'⟩ := HJ.out
              go_region_held3 (fun w' => w'.cell? ⟨b, off + k * 2, none⟩ = some (.slice x.A x.n x.c) ∧ w'.cell? ⟨b, off + k * 2 + 1, none⟩ = some (.int .u64 x.v.toNat)) (first | exact k7 | exact k6 | exact ⟨f0, f1⟩ | go_keep)
                (first
                  | (refine step_append_labs (B := wo.heap.size) (A' := x.A) (n' := x.n) (c' := x.c) (src := x.l) (by rfl) _ _ (by rfl) (by rfl) (by rfl) (by first | exact (HX.out.2.1.on H6.out.2.1.drew).lst | exact (HX.out.2.1.on H6.out.2.1).lst) HX.out.2.1.nil hi' hz0' hz1' hz2' (by simp; omega) (by have := HX.out.2.1.few; omega) ?_; intro v4 w4 ho4 hb4; obtain ⟨A4, c4, rfl, _, _⟩ := owns_slice ho4; have hb4' := (Below.refl w6.heap.size w6).drew.trans hb4; have k6 := cell_two hb4' ⟨f0, f1⟩; have hold4 := H6.out.2.1.trans (hb4'.mono hs6); have hs4 := hold4.size; have H4 := Lib.hid (show _ ∧ _ ∧ _ from ⟨ho4, hold4, owns_below H6.out.1 hb4'⟩); clear ho4 hb4 hb4' hold4)
                  | (refine step_append_lies _ (by rfl) _ _ _ (by rfl) wo.heap.size 90 i0 _ 2 32 Tryz.underlying33 hi hz0 hz1 hz2 rfl (by omega) _ t ((os.take t).flatMap encEv) (by rfl) (by exact H4.out.2.2.alloc _) ⟨w4.heap.size, 0, none⟩ 1 1 (encEv ⟨A4, x.n, c4, x.l, x.v⟩) (by rfl) (by rfl) (by exact cells_newL w4 (encEv ⟨A4, x.n, c4, x.l, x.v⟩) _) (by simp [Value.oneCell', encEv]) (by omega) (by unfold maxLen; omega) (by omega) (by simp; omega) (w4.heap.size + 1) (by simp) ?_; intro g8 c8 w8 hown8 hg8 hl8 hlt8; have hba : Below w4.heap.size w4 (w4.alloc (.cells #[.slice A4 x.n c4, .int .u64 x.v.toNat] 90)) := (Below.refl _ _).alloc (Nat.le_refl _) _; have k7 := (show World.cell? w8 ⟨b, off + k * 2, none⟩ = some (.slice x.A x.n x.c) ∧ World.cell? w8 ⟨b, off + k * 2 + 1, none⟩ = some (.int .u64 x.v.toNat) from ⟨(GrownIn.of_grownBy hg8).cell (cell_two hba k6).1 H6.out.2.2, (GrownIn.of_grownBy hg8).cell (cell_two hba k6).2 H6.out.2.2⟩); have hra := H4.out.2.2.alloc (.cells #[.slice A4 x.n c4, .int .u64 x.v.toNat] 90); have H8 := Lib.hid (show _ ∧ Below wo.heap.size wo w8 ∧ _ from ⟨hown8, ((H4.out.2.1.alloc hs4 _).grown hg8 (by simp; omega) (fun j hj => by have := (hra.lt j hj).1; have := (H6.out.1.lt j hj); omega)), (H4.out.1.alloc (.cells #[.slice A4 x.n c4, .int .u64 x.v.toNat] 90)).kept hg8 (owns_apart (H4.out.1.alloc _) hra (by decide))⟩); clear hown8 hg8 hl8 hlt8 hba hra)
                  | fail)
              all_goals
                go_wp2_with (at_builtin; refine wpList_append_els (B := wo.heap.size) (A' := A9) (n' := k - t) (c' := c9) (src := os.drop t) (xs := (os.take t).flatMap encEv ++ encEv ⟨A4, x.n, c4, x.l, x.v⟩) ((HL.out.2.1.below H8.out.2.1).more H8.out.2.1.size) HL.out.2.2.1 hi hz0 hz1 hz2 H8.out.1 H8.out.2.1.size (by omega) (by omega) _ _ rfl rfl rfl rfl ?_)
                intro v9 w9 ho9 hg9
                have hb9 : Below wo.heap.size wo w9 := H8.out.2.1.grown hg9 H8.out.2.1.size (fun j hj => (H8.out.1.lt j hj).1)
                have ho9 : w9.ownsRow wo.heap.size 90 2 v9 (k + 1) (((os.take t).flatMap encEv ++ encEv ⟨A4, x.n, c4, x.l, x.v⟩) ++ (os.drop t).flatMap encEv) := by rw [show t + 1 + (k - t) = k + 1 by omega] at ho9; rw [List.append_assoc]; exact ho9
                obtain ⟨A10, c10, rfl, _, _⟩ := owns_slice ho9
                have hlab := H8.out.2.2.kept hg9 (owns_apart H8.out.2.2 H8.out.1 (by decide))
                have HN := Lib.hid (rst_next HR.out HX.out.1 HX.out.2.1 ht HL.out.1 hlab (owns_base ho9 hsz) hb9 (by omega))
                clear hb9 ho9 hg9 hlab hi hz0 hz1 hz2 hi' hz0' hz1' hz2'
                go_wp2
                go_roundw
                case measure => simp [intOf]; omega
                case rel => exact ⟨k + 1, A10, c10, _, hlt, by simp, rfl, HN⟩
    · obtain rfl : k = n := by omega
      have hs := HR.out.srt
      rw [List.take_of_length_le (by omega)] at hs
      have hL := FL.sortE_eq elL_tot hs
      have HF := Lib.hid (show _ ∧ _ ∧ _ from ⟨HR.out.els, hL, HR.out.old⟩)
      have hlm : (es.map Ev.el).length = k := by rw [List.length_map]; exact hln
      have HLM := Lib.hid hlm
      clear hs hL HR hlm
      go_wp2
      go_ret
      exact ⟨A, c, os, by rw [HLM.out]; rfl, by rw [HLM.out]; exact HF.out.1, HF.out.2.1, HF.out.2.2⟩
end Go.Proofs.YtajaijidecomdaaGreatDoor
