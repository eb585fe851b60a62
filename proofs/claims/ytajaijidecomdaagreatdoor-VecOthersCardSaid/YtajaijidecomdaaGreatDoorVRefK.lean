/- The document's Key, Negative. -/
import Derived.Test.YtajaijidecomdaaGreatDoorVRefS
namespace Go.Proofs.YtajaijidecomdaaGreatDoor
open Go.RowKit Go.Lib

theorem wpList_append_txs {wc : World} {B n : Nat} {A' : Option Addr} {n' c' : Nat} {src : List ByteArray} {xs : List Value} {v : Value} {i0 : TypeInfo} (hM : Lst encTx 1 wc wc.heap.size A' n' src) (hnil : A' = none → n' = 0 ∧ c' = 0)
    (hi : Tryz.prog.info? 9 = some i0) (hz0 : i0.zero = some (.string ByteArray.empty)) (hz1 : i0.size = 1) (hz2 : i0.bytes = 16) (ho : wc.ownsRow B 9 1 v n xs) (hB : B ≤ wc.heap.size) (hn : n ≤ 300000) (hn' : n' ≤ 300000)
    {ops : Array Oper} {rest : List Oper} {o : Oper} {ac : Act} {Q : Exit → Act → World → Prop} (s x : Operand) (hgd : o.guard = none) (hop : o.op = .call { callee := .builtin .append, args := #[s, x], argTypes := #[78, 78] }) (hs : ac.eval s = v) (hx : ac.eval x = .slice A' n' c')
    (h : ∀ v4 w4, w4.ownsRow B 9 1 v4 (n + n') (xs ++ src.flatMap encTx) → wc.grownBy w4 v.ownBlock → wpList Tryz.prog ops Q rest (ac.put o.dst v4) w4) : wpList Tryz.prog ops Q (o :: rest) ac wc := by
  have hsl := hM.1
  cases A' with
  | none =>
    obtain ⟨rfl, rfl⟩ := hnil rfl
    obtain rfl : src = [] := List.length_eq_zero_iff.1 hsl
    refine wpList_append_own_none hgd s x 78 hop B 9 i0 1 Tryz.underlying78 hi v n xs hs ho hx ?_
    exact h v wc (by simpa using ho) (grownBy_refl _ _)
  | some ad =>
    have hfl := hM.flat encTx_len
    refine wpList_append_own wc hgd s x 78 hop B 9 i0 _ 1 16 Tryz.underlying78 hi hz0 hz1 hz2 rfl (by omega) v n xs hs ho ad n' c' (src.flatMap encTx) hx (by rw [flatMap_length encTx_len, hsl]) hfl (oneTx _) (by unfold maxLen; omega) (by omega) hB ?_
    intro v4 w4 ho4 hg4 _
    exact h v4 w4 ho4 hg4
set_option maxHeartbeats 4000000 in
set_option maxRecDepth 100000 in
theorem refKey_any (A : Option Addr) (n c : Nat) (l : List Lb) (m : Mv) (w : World) (hL : Lst Lb.cells 2 w w.heap.size A n l) (hn : n ≤ 100000) (hM : Mat w w.heap.size m) :
    Calls Tryz.prog 33 #[.slice A n c, valM m] w (OwnedL (keyL l m.on m.ls) w) := by
  have HL := Lib.hid (show _ ∧ _ from ⟨hL, hM⟩)
  have hfew := hM.few
  unfold keyL valM
  obtain ⟨card, on, LA, Ln, Lc, ls, IA, In, Ic, is⟩ := m
  simp only at hfew ⊢
  have hbx : Below w.heap.size w (w.alloc (.cells #[.int .u8 card, .bool on, .slice LA Ln Lc, .slice IA In Ic] 80)) := (Below.refl _ _).alloc (Nat.le_refl _) _
  have hbox : (w.alloc (.cells #[.int .u8 card, .bool on, .slice LA Ln Lc, .slice IA In Ic] 80)).heap[w.heap.size]? = some (.cells #[.int .u8 card, .bool on, .slice LA Ln Lc, .slice IA In Ic] 80 (0, 0)) := heap_alloc_new _ _
  clear hL hM
  cases on with
  | true =>
    rw [if_pos rfl]
    have hk := refKeep_any A LA n c Ln Lc l ls _ ((HL.out.1.below hbx).more hbx.size) (HL.out.2.on hbx).lst (by omega) (by omega)
    have HK := Lib.hid (show _ ∧ _ from ⟨hk, hbx⟩)
    clear hk hbx hbox
    go_enter Tryz.func33, Tryz.ntmps33
    go_wp2_with (first | (go_at_call 107; refine HK.out.1.mono ?_; rintro e w1 ⟨v, rfl, ho, hb⟩; have H1 := Lib.hid (show _ ∧ _ from ⟨owns_base ho HK.out.2.size, HK.out.2.trans (hb.mono HK.out.2.size)⟩); clear ho hb))
    go_ret
    exact ⟨v, rfl, H1.out.1, H1.out.2⟩
  | false =>
    rw [if_neg (by decide)]
    obtain ⟨i0, hi, hz0, hz1, hz2⟩ := info_parts Tryz.infoText
    have hlst0 := (HL.out.2.on hbx).lst
    have hnil0 := HL.out.2.nil
    have HK := Lib.hid (show _ ∧ _ ∧ _ from ⟨hlst0, hnil0, hbx⟩)
    clear hlst0 hnil0 hbx hbox
    go_enter Tryz.func33, Tryz.ntmps33
    go_wp2_with (first
      | (at_builtin; refine wpList_append_txs (B := w.heap.size) (A' := LA) (n' := Ln) (c' := Lc) (src := ls) (xs := []) HK.out.1 HK.out.2.1 hi hz0 hz1 hz2 (World.ownsRow_nil _ _ _ _) HK.out.2.2.size (by omega) (by omega) _ _ rfl rfl rfl rfl ?_)
      | fail)
    intro v4 w4 ho4 hg4
    have hold4 : Below w.heap.size w w4 := HK.out.2.2.grown hg4 HK.out.2.2.size (fun j hj => by cases hj)
    have hs4 := hold4.size
    have H4 := Lib.hid (show _ ∧ _ from ⟨ho4, hold4⟩)
    clear ho4 hg4 hold4
    go_wp2_with (first
      | (at_builtin; refine wpList_append_own _ rfl _ _ 78 rfl w.heap.size 9 i0 _ 1 16 Tryz.underlying78 hi hz0 hz1 hz2 rfl (by omega) _ Ln (ls.flatMap encTx) rfl (H4.out.1.alloc _) ⟨w4.heap.size, 0, none⟩ 1 1 [.string nameT] rfl rfl (cells_newL w4 [.string nameT] _) (by simp [Value.oneCell']) (by unfold maxLen; omega) (by omega) (by simp; omega) ?_)
      | fail)
    intro v5 w5 hown5 hg5 _
    have hown6 : w5.ownsRow w.heap.size 9 1 v5 (Ln + 1) ((ls ++ [nameT]).flatMap encTx) := by
      rw [List.flatMap_append, List.flatMap_singleton]
      exact hown5
    obtain ⟨A5, c5, rfl, _, _⟩ := owns_slice hown6
    have hlst := (owns_lst hown6 (fun _ => rfl) (by omega)).1
    have hold5 : Below w.heap.size w w5 := (H4.out.2.alloc hs4 _).grown hg5 (by simp; omega) (fun j hj => (H4.out.1.lt j hj).1)
    have hk := refWithout_any A A5 n c (Ln + 1) c5 l (ls ++ [nameT]) w5 ((HL.out.1.below hold5).more hold5.size) hlst (by omega) (by omega)
    have H5 := Lib.hid (show _ ∧ _ from ⟨hk, hold5⟩)
    clear hown5 hown6 hg5 hlst hold5 hk hi hz0 hz1 hz2
    go_wp2_with (first | (go_at_call 108; refine H5.out.1.mono ?_; rintro e w6 ⟨v6, rfl, ho6, hb6⟩; have H6 := Lib.hid (show _ ∧ _ from ⟨owns_base ho6 H5.out.2.size, H5.out.2.trans (hb6.mono H5.out.2.size)⟩); clear ho6 hb6))
    go_ret
    exact ⟨v6, rfl, H6.out.1, H6.out.2⟩
set_option maxHeartbeats 8000000 in
set_option maxRecDepth 100000 in
theorem refNegative_any (A : Option Addr) (n c : Nat) (es : List Ev) (w : World) (hE : Els w w.heap.size A n c es) :
    Calls Tryz.prog 34 #[.slice A n c] w (RSortPost (numOut negF true 0 false (es.map Ev.el)) w) := by
  have hn := hE.few
  have hln := hE.lst.1
  have HE := Lib.hid hE
  obtain ⟨i0, hi, hz0, hz1, hz2⟩ := info_parts Tryz.infoElem
  have HI := Lib.hid (show _ ∧ _ ∧ _ ∧ _ from ⟨hi, hz0, hz1, hz2⟩)
  clear hi hz0 hz1 hz2 hE
  go_enter Tryz.func34, Tryz.ntmps34
  go_wp2
  go_loopw [3, 4] (fun v iv wr => ∃ (k : Nat) (os : List Ev), k ≤ n ∧ iv = .int .i64 k ∧ Hid (NumSt w wr negF true 0 false es k v os)) (fun _ iv _ => n - (intOf iv).toNat)
  case atStart => exact ⟨0, [], Nat.zero_le _, rfl, Lib.hid ⟨World.ownsRow_nil _ _ _ _, by simp, rfl, Below.refl _ _, Nat.le_refl _⟩⟩
  case round =>
    obtain ⟨k, os, hk, rfl, HR⟩ := hrel
    by_cases hlt : k < n
    · obtain ⟨b, off, x, rfl, hb, hx, hcl⟩ := HE.out.lst.at hlt
      have c0 := (HR.out.old.cell (p := ⟨b, off + k * 2 + 0, none⟩) hb).trans (hcl 0 _ rfl)
      have c1 := (HR.out.old.cell (p := ⟨b, off + k * 2 + 1, none⟩) hb).trans (hcl 1 _ rfl)
      simp only [Nat.add_zero] at c0
      have hxE := HE.out.each x (List.mem_of_getElem? hx)
      have hfew := HR.out.few
      have hsz := HR.out.old.size
      have hbr : b < wr.heap.size := by omega
      have hW2 : Below wr.heap.size wr wr.drew := (Below.refl _ wr).drew
      have hcon : Calls Tryz.prog 58 #[.slice x.A x.n x.c] wr.drew (OwnedL (lessL x.l [nameT]) wr.drew) := by
        have hxW := (hxE.on HR.out.old).on hW2
        exact nameless_any x.A x.n x.c x.l _ hxW.lst (by have := hxE.few; omega)
      have hvn : u3.ownBlock ≠ some b := fun e => by have := (HR.out.row.lt _ e).1; omega
      have HX := Lib.hid (show _ ∧ _ ∧ _ ∧ _ ∧ _ from ⟨hx, hcon, hvn, (⟨c0, c1⟩ : _ ∧ _), fine_filter hxE.fine fun z => !inT [nameT] z.nm⟩)
      have i3 : (0 : Int) ≤ (k : Int) := by omega
      have i4 : (k : Int) < (n : Int) := by omega
      clear hx hxE hcl hcon hvn hW2
      obtain ⟨hi, hz0, hz1, hz2⟩ := HI.out
      go_wp2_with fail
      go_region_held3 (fun w' => w'.cell? ⟨b, off + k * 2, none⟩ = some (.slice x.A x.n x.c) ∧ w'.cell? ⟨b, off + k * 2 + 1, none⟩ = some (.int .u64 x.v.toNat)) (first | exact k7 | exact k6 | exact HX.out.2.2.2.1 | go_keep)
        (first
          | (go_at_call 58; refine HX.out.2.1.mono ?_; rintro e w5 ⟨v5, rfl, ho5, hb5⟩; obtain ⟨A5, c5, rfl, _, _⟩ := owns_slice ho5; have hold5 := (Below.refl wr.heap.size wr).drew.trans hb5; have k6 := cell_two hold5 HX.out.2.2.2.1; have hs5 := hold5.size; have H5 := Lib.hid (show _ ∧ _ ∧ _ from ⟨owns_base ho5 (B' := wr.heap.size) (by simp), hold5, owns_below HR.out.row hold5⟩); clear ho5 hb5 hold5)
          | (go_at_call 109; refine (negU_any _ _).mono ?_; rintro e w' ⟨rfl, hw⟩; rw [hw]; clear hw w')
          | (refine step_append_lies _ (by rfl) _ _ _ (by rfl) w.heap.size 90 i0 _ 2 32 Tryz.underlying33 hi hz0 hz1 hz2 rfl (by omega) _ os.length (os.flatMap encEv) (by rfl) (by exact H5.out.2.2.alloc _) ⟨w5.heap.size, 0, none⟩ 1 1 [.slice A5 (lessL x.l [nameT]).length c5, .int .u64 (FL.negU x.v).toNat] (by rfl) (by rfl) (by exact cells_newL w5 [.slice A5 (lessL x.l [nameT]).length c5, .int .u64 (FL.negU x.v).toNat] _) (by simp [Value.oneCell']) (by omega) (by unfold maxLen; omega) (by omega) (by simp; omega) (w5.heap.size + 1) (by simp) ?_; intro g6 c6' w6 hown6 hg6 hl6 hlt6; have hba : Below w5.heap.size w5 (w5.alloc (.cells #[.slice A5 (lessL x.l [nameT]).length c5, .int .u64 (FL.negU x.v).toNat] 90)) := (Below.refl _ _).alloc (Nat.le_refl _) _; have k7 := (show World.cell? w6 ⟨b, off + k * 2, none⟩ = some (.slice x.A x.n x.c) ∧ World.cell? w6 ⟨b, off + k * 2 + 1, none⟩ = some (.int .u64 x.v.toNat) from ⟨(GrownIn.of_grownBy hg6).cell (cell_two hba k6).1 HX.out.2.2.1, (GrownIn.of_grownBy hg6).cell (cell_two hba k6).2 HX.out.2.2.1⟩); have H6 := Lib.hid (HR.out.add HX.out.1 (H5.out.2.1.alloc H5.out.2.1.size _) (src_box (y := FL.negU x.v) H5.out.1 hsz HX.out.2.2.2.2 _) hown6 hg6 rfl rfl); clear hown6 hg6 hl6 hlt6 hba)
          | fail)
      all_goals
        go_wp2
        go_roundw
        case measure => simp [intOf]; omega
        case rel => exact ⟨k + 1, _, hlt, by simp, H6⟩
    · obtain rfl : k = n := by omega
      have hel := HR.out.el
      rw [List.take_of_length_le (by omega)] at hel
      have hfew := HR.out.few
      obtain ⟨A3, c3, rfl, _, _⟩ := owns_slice HR.out.row
      have hels := row_els HR.out.row HR.out.src HR.out.old (by omega)
      have hd := refSorted_any A3 os.length c3 os _ hels
      rw [hel] at hd
      have HD := Lib.hid (show _ ∧ _ from ⟨hd, HR.out.old⟩)
      clear hels hd hel HR
      go_wp2_with fail
      refine HD.out.1.mono ?_
      rintro e w4 ⟨A4, c4, os4, rfl, hO, hm, hb4⟩
      have HF := Lib.hid (show _ ∧ _ ∧ _ from ⟨hO, hm, HD.out.2.trans (hb4.mono HD.out.2.size)⟩)
      clear hO hm hb4
      go_wp2
      go_ret
      exact ⟨A4, c4, os4, rfl, HF.out.1, HF.out.2.1, HF.out.2.2⟩
end Go.Proofs.YtajaijidecomdaaGreatDoor
