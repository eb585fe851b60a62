/- Patterns' reader: an atom. -/
import Derived.Test.YtamlnkmcbbeicaaDoorRgAtom0
namespace Go.Proofs.YtamlnkmcbbeicaaDoor
open Go.RowKit Go.Lib
open RX (PS Tr Pr)

theorem item_gt {s : List UInt8} {k k2 : Nat} {p : Nat → Bool} {c : Option UInt8} (h : RX.item s k = .ok p c k2) : k < k2 := by
  unfold RX.item at h
  split at h
  · cases h
  · split at h
    · injection h with _ _ h; omega
    · split at h
      · cases h
      · repeat (first | (injection h with _ _ h; omega) | (split at h) | cases h)
theorem classGo_ge {s : List UInt8} : ∀ {f k : Nat} {b : Bool} {p q : Nat → Bool} {e : Nat}, RX.classGo s f b k p = .ok q e → k ≤ e
  | 0, _, _, _, _, _, h => by simp [RX.classGo] at h
  | f + 1, k, b, p, q, e, h => by
    rw [RX.classGo] at h
    split at h
    · injection h with _ h; omega
    · split at h
      · cases h
      · split at h
        · cases h
        · split at h
          · cases h
          · rename_i q2 fr k1 hi
            have h1 := item_gt hi
            split at h
            · have := classGo_ge h; omega
            · split at h
              · split at h
                · cases h
                · split at h
                  · cases h
                  · rename_i to k2 hi2
                    have h2 := item_gt hi2
                    split at h
                    · cases h
                    · split at h
                      · cases h
                      · have := classGo_ge h; omega
              · have := classGo_ge h; omega
theorem cls_ge {s : List UInt8} {k e : Nat} {p : Nat → Bool} (h : RX.cls s k = .ok p e) : k ≤ e := by
  unfold RX.cls at h
  simp only at h
  split at h
  · cases h
  · rename_i q e2 hg
    injection h with _ h
    have h1 := classGo_ge hg
    split at h1 <;> omega
theorem bytes_tree {w : World} {T : Nat → Prop} (p : Nat → Bool) : TreeV w T (.bytes p) (.iface 85 (.agg (setV p))) := by rw [TreeV]
theorem edge_tree {w : World} {T : Nat → Prop} (e : Bool) : TreeV w T (.edge e) (.iface 87 (.agg #[.bool e])) := by rw [TreeV]
theorem PsOk.next {s : ByteArray} {st : PS} (h : PsOk s st) {k : Nat} (hk : k ≤ s.size) (hle : st.at_ ≤ k) : PsOk s (st.to k) := ⟨hk, Nat.le_trans h.groups hle, Nat.le_trans h.deep hle, Nat.le_trans h.deeper hle⟩
set_option maxHeartbeats 4000000 in
set_option maxRecDepth 100000 in
theorem atom_bad (bk : Nat) (s : ByteArray) (f : Nat) (hbig : s.size ≤ 500) (st : PS) (w : World) (hS : Psr w bk s st) (hok : PsOk s st) (c : UInt8) (hc : s.data.toList[st.at_]? = some c) (hb : c = 93 ∨ c = 42 ∨ c = 43 ∨ c = 63 ∨ c = 123 ∨ c = 125) : Calls Tryd.prog 66 #[.pointer (some ⟨bk, 0, none⟩)] w (PrPost w bk s st 1 (RX.pAtom (RX.pAll s.data.toList f) s.data.toList st)) := by
  have hlt : st.at_ + 1 ≤ s.size := by
    have := (List.getElem?_eq_some_iff.1 hc).1
    rw [Array.length_toList] at this
    exact this
  obtain ⟨z, hz1, hz2⟩ := idx_in [93, 42, 43, 63, 123, 125] c
  have HZ := Lib.hid hz1
  have HP := Lib.hid (show _ ∧ _ ∧ _ from ⟨peek_some bk s st c w hS hc, hS, hok⟩)
  have hcon : ([93, 42, 43, 63, 123, 125] : List UInt8).contains c = true ↔ (c = 93 ∨ c = 42 ∨ c = 43 ∨ c = 63 ∨ c = 123 ∨ c = 125) := by simp
  have iz : (0 : Int) ≤ z := hz2.2 (hcon.2 hb)
  have hr : RX.pAtom (RX.pAll s.data.toList f) s.data.toList st = .bad st.at_ := by unfold RX.pAtom; rw [hc]; simp only; rw [if_pos hb]
  have c1 := hS.c1
  have HR := Lib.hid hr
  clear hz1 hz2 hcon hS hok hc hb hr hlt
  go_enter Tryd.func66, Tryd.ntmps66
  go_wp2_with (first
    | (go_at_call 58; refine HP.out.1.mono ?_; rintro e wp ⟨rfl, q0, rfl⟩)
    | (go_at_call 64; refine (HZ.out _).mono ?_; rintro e wz ⟨rfl, rfl⟩)
    | (go_quiet (fail)))
  exact ⟨rfl, pr_bad HR.out ((GrownIn.refl _ w).drewN _)⟩
set_option maxHeartbeats 4000000 in
set_option maxRecDepth 100000 in
theorem atom_caret (bk : Nat) (s : ByteArray) (f : Nat) (hbig : s.size ≤ 500) (st : PS) (w : World) (hS : Psr w bk s st) (hok : PsOk s st) (hc : s.data.toList[st.at_]? = some 94) : Calls Tryd.prog 66 #[.pointer (some ⟨bk, 0, none⟩)] w (PrPost w bk s st 1 (RX.pAtom (RX.pAll s.data.toList f) s.data.toList st)) := by
  have hlt : st.at_ + 1 ≤ s.size := by
    have := (List.getElem?_eq_some_iff.1 hc).1
    rw [Array.length_toList] at this
    exact this
  obtain ⟨z, hz1, hz2⟩ := idx_in [93, 42, 43, 63, 123, 125] 94
  have HZ := Lib.hid hz1
  have HP := Lib.hid (show _ ∧ _ ∧ _ from ⟨peek_some bk s st 94 w hS hc, hS, hok⟩)
  have hcon : ([93, 42, 43, 63, 123, 125] : List UInt8).contains 94 = true ↔ False := by decide
  have iz : ¬ (0 : Int) ≤ z := fun h => hcon.1 (hz2.1 h)
  have n46 := fun (W : World) (h : Psr W bk s st) => skip_no bk s st 46 94 W h (by omega) hc (by decide)
  have y94 := fun (W : World) (h : Psr W bk s st) => skip_yes bk s st 94 W h (by omega) hc
  have HK := Lib.hid (show _ ∧ _ ∧ _ from ⟨n46, y94, trivial⟩)
  have hr : RX.pAtom (RX.pAll s.data.toList f) s.data.toList st = .ok (.edge false) (st.to (st.at_ + 1)) := by unfold RX.pAtom; rw [hc]; simp only; rw [if_neg (by decide)]; rw [if_neg (by decide)]; rw [if_pos trivial]
  have HR := Lib.hid hr
  have HO := Lib.hid (hok.next hlt (Nat.le_succ _))
  clear hr hc hlt
  clear n46 y94 hz1 hz2 hcon hS hok
  go_enter Tryd.func66, Tryd.ntmps66
  go_wp2_with (first
    | (go_at_call 58; refine HP.out.1.mono ?_; rintro e wp ⟨rfl, q0, rfl⟩)
    | (go_at_call 64; refine (HZ.out _).mono ?_; rintro e wz ⟨rfl, rfl⟩)
    | (go_quiet (fail)))
  refine (HK.out.1 _ (HP.out.2.1.drewN _)).mono ?_
  rintro e ws ⟨rfl, q1, rfl⟩
  go_wp2_with fail
  refine (HK.out.2.1 _ (HP.out.2.1.drewN _)).mono ?_
  rintro e ws ⟨rfl, hps, hgs⟩
  have H1 := Lib.hid (show _ ∧ GrownIn (fun b => b = bk) w ws from ⟨hps, ((GrownIn.refl _ w).drewN _).trans hgs (fun _ _ e => e)⟩)
  clear hps hgs
  go_wp2_with fail
  go_ret
  rw [HR.out]
  exact ⟨_, rfl, H1.out.1, edge_tree false, H1.out.2, HO.out, rfl, Nat.le_refl _⟩
set_option maxHeartbeats 4000000 in
set_option maxRecDepth 100000 in
theorem atom_dollar (bk : Nat) (s : ByteArray) (f : Nat) (hbig : s.size ≤ 500) (st : PS) (w : World) (hS : Psr w bk s st) (hok : PsOk s st) (hc : s.data.toList[st.at_]? = some 36) : Calls Tryd.prog 66 #[.pointer (some ⟨bk, 0, none⟩)] w (PrPost w bk s st 1 (RX.pAtom (RX.pAll s.data.toList f) s.data.toList st)) := by
  have hlt : st.at_ + 1 ≤ s.size := by
    have := (List.getElem?_eq_some_iff.1 hc).1
    rw [Array.length_toList] at this
    exact this
  obtain ⟨z, hz1, hz2⟩ := idx_in [93, 42, 43, 63, 123, 125] 36
  have HZ := Lib.hid hz1
  have HP := Lib.hid (show _ ∧ _ ∧ _ from ⟨peek_some bk s st 36 w hS hc, hS, hok⟩)
  have hcon : ([93, 42, 43, 63, 123, 125] : List UInt8).contains 36 = true ↔ False := by decide
  have iz : ¬ (0 : Int) ≤ z := fun h => hcon.1 (hz2.1 h)
  have n46 := fun (W : World) (h : Psr W bk s st) => skip_no bk s st 46 36 W h (by omega) hc (by decide)
  have n94 := fun (W : World) (h : Psr W bk s st) => skip_no bk s st 94 36 W h (by omega) hc (by decide)
  have y36 := fun (W : World) (h : Psr W bk s st) => skip_yes bk s st 36 W h (by omega) hc
  have HK := Lib.hid (show _ ∧ _ ∧ _ ∧ _ from ⟨n46, n94, y36, trivial⟩)
  have hr : RX.pAtom (RX.pAll s.data.toList f) s.data.toList st = .ok (.edge true) (st.to (st.at_ + 1)) := by unfold RX.pAtom; rw [hc]; simp only; rw [if_neg (by decide)]; rw [if_neg (by decide)]; rw [if_neg (by decide)]; rw [if_pos trivial]
  have HR := Lib.hid hr
  have HO := Lib.hid (hok.next hlt (Nat.le_succ _))
  clear hr hc hlt
  clear n46 n94 y36 hz1 hz2 hcon hS hok
  go_enter Tryd.func66, Tryd.ntmps66
  go_wp2_with (first
    | (go_at_call 58; refine HP.out.1.mono ?_; rintro e wp ⟨rfl, q0, rfl⟩)
    | (go_at_call 64; refine (HZ.out _).mono ?_; rintro e wz ⟨rfl, rfl⟩)
    | (go_quiet (fail)))
  refine (HK.out.1 _ (HP.out.2.1.drewN _)).mono ?_
  rintro e ws ⟨rfl, q1, rfl⟩
  go_wp2_with fail
  refine (HK.out.2.1 _ (HP.out.2.1.drewN _)).mono ?_
  rintro e ws ⟨rfl, q2, rfl⟩
  go_wp2_with fail
  refine (HK.out.2.2.1 _ (HP.out.2.1.drewN _)).mono ?_
  rintro e ws ⟨rfl, hps, hgs⟩
  have H1 := Lib.hid (show _ ∧ GrownIn (fun b => b = bk) w ws from ⟨hps, ((GrownIn.refl _ w).drewN _).trans hgs (fun _ _ e => e)⟩)
  clear hps hgs
  go_wp2_with fail
  go_ret
  rw [HR.out]
  exact ⟨_, rfl, H1.out.1, edge_tree true, H1.out.2, HO.out, rfl, Nat.le_refl _⟩
set_option maxHeartbeats 4000000 in
set_option maxRecDepth 100000 in
theorem atom_dot (bk : Nat) (s : ByteArray) (f : Nat) (hbig : s.size ≤ 500) (st : PS) (w : World) (hS : Psr w bk s st) (hok : PsOk s st) (hc : s.data.toList[st.at_]? = some 46) : Calls Tryd.prog 66 #[.pointer (some ⟨bk, 0, none⟩)] w (PrPost w bk s st 1 (RX.pAtom (RX.pAll s.data.toList f) s.data.toList st)) := by
  have hlt : st.at_ + 1 ≤ s.size := by
    have := (List.getElem?_eq_some_iff.1 hc).1
    rw [Array.length_toList] at this
    exact this
  obtain ⟨z, hz1, hz2⟩ := idx_in [93, 42, 43, 63, 123, 125] 46
  have HZ := Lib.hid hz1
  have HP := Lib.hid (show _ ∧ _ ∧ _ from ⟨peek_some bk s st 46 w hS hc, hS, hok⟩)
  have hcon : ([93, 42, 43, 63, 123, 125] : List UInt8).contains 46 = true ↔ False := by decide
  have iz : ¬ (0 : Int) ≤ z := fun h => hcon.1 (hz2.1 h)
  have y46 := fun (W : World) (h : Psr W bk s st) => skip_yes bk s st 46 W h (by omega) hc
  have HK := Lib.hid (show _ ∧ _ from ⟨y46, trivial⟩)
  have hr : RX.pAtom (RX.pAll s.data.toList f) s.data.toList st = .ok (.bytes fun _ => true) (st.to (st.at_ + 1)) := by unfold RX.pAtom; rw [hc]; simp only; rw [if_neg (by decide)]; rw [if_pos trivial]
  have HR := Lib.hid hr
  have HO := Lib.hid (show PsOk s (st.to (st.at_ + 1)) ∧ PsOk s st ∧ bk < w.heap.size from ⟨hok.next hlt (Nat.le_succ _), hok, hS.lt⟩)
  clear hr hc
  clear y46 hz1 hz2 hcon hS hok
  go_enter Tryd.func66, Tryd.ntmps66
  go_wp2_with (first
    | (go_at_call 58; refine HP.out.1.mono ?_; rintro e wp ⟨rfl, q0, rfl⟩)
    | (go_at_call 64; refine (HZ.out _).mono ?_; rintro e wz ⟨rfl, rfl⟩)
    | (go_quiet (fail)))
  refine (HK.out.1 _ (HP.out.2.1.drewN _)).mono ?_
  rintro e ws ⟨rfl, hps, hgs⟩
  have H1 := Lib.hid (show _ ∧ GrownIn (fun b => b = bk) w ws from ⟨hps, ((GrownIn.refl _ w).drewN _).trans hgs (fun _ _ e => e)⟩)
  clear hps hgs
  go_wp2_with (refine wpList_alloc_set rfl rfl ?_; intro w5 hb5 hs5 hg5; have H5 := Lib.hid (show ItSt w w5 bk s (st.to (st.at_ + 1)) ws.heap.size (fun _ => false) from ⟨H1.out.1.grown hg5 id, hb5, H1.out.2.size, HO.out.2.2, H1.out.2.trans hg5 (fun _ _ e => e.elim)⟩); clear hb5 hs5 hg5)
  go_loopw [27] (fun iv wr => ∃ i : Nat, i ≤ 256 ∧ iv = .int .i64 i ∧ Hid (ItSt w wr bk s (st.to (st.at_ + 1)) ws.heap.size (fun j => decide (j < i)))) (fun iv _ => 256 - (intOf iv).toNat)
  case atStart => exact ⟨0, by omega, rfl, Lib.hid (H5.out.congr (fun i _ => by simp))⟩
  case round =>
    obtain ⟨i, hi, rfl, HY⟩ := hrel
    by_cases hl : i < 256
    · have i1 : (i : Int) < 256 := by omega
      have i0 : (0 : Int) ≤ (i : Int) := by omega
      have w2 : IntKind.i64.wrap ((i : Int) + 1) = (i : Int) + 1 := IntWalk.i64_in _ (by omega)
      have c0 := HY.out.set.cell hl
      have f0 := HY.out.set.fr i
      go_wp2_with fail
      go_roundw
      case measure => simp [intOf]; omega
      case rel =>
        refine ⟨i + 1, hl, by simp, Lib.hid ((HY.out.set0 hl true).congr fun j hj => ?_)⟩
        by_cases e : j = i
        · rw [if_pos e, decide_eq_true (by omega)]
        · rw [if_neg e]
          exact decide_eq_decide.2 (by omega)
    · obtain rfl : i = 256 := by omega
      have i1 : ¬ ((256 : Nat) : Int) < 256 := by omega
      have HX := Lib.hid (HY.out.congr (q := fun _ => true) (fun j hj => decide_eq_true hj))
      go_wp2_with (first
        | (refine wpList_load_set rfl _ rfl rfl HX.out.set ?_)
        | (refine wpList_build_set rfl _ rfl rfl ?_)
        | fail)
      go_ret
      rw [HR.out]
      exact ⟨_, rfl, HX.out.psr, bytes_tree _, HX.out.grown, HO.out.1, rfl, Nat.le_refl _⟩
set_option maxHeartbeats 4000000 in
set_option maxRecDepth 100000 in
theorem atom_class (bk : Nat) (s : ByteArray) (f : Nat) (hbig : s.size ≤ 500) (st : PS) (w : World) (hS : Psr w bk s st) (hok : PsOk s st) (hc : s.data.toList[st.at_]? = some 91) : Calls Tryd.prog 66 #[.pointer (some ⟨bk, 0, none⟩)] w (PrPost w bk s st 1 (RX.pAtom (RX.pAll s.data.toList f) s.data.toList st)) := by
  have hlt : st.at_ + 1 ≤ s.size := by
    have := (List.getElem?_eq_some_iff.1 hc).1
    rw [Array.length_toList] at this
    exact this
  obtain ⟨z, hz1, hz2⟩ := idx_in [93, 42, 43, 63, 123, 125] 91
  have HZ := Lib.hid hz1
  have HP := Lib.hid (show _ ∧ _ ∧ _ from ⟨peek_some bk s st 91 w hS hc, hS, hok⟩)
  have hcon : ([93, 42, 43, 63, 123, 125] : List UInt8).contains 91 = true ↔ False := by decide
  have iz : ¬ (0 : Int) ≤ z := fun h => hcon.1 (hz2.1 h)
  have n46 := fun (W : World) (h : Psr W bk s st) => skip_no bk s st 46 91 W h (by omega) hc (by decide)
  have n94 := fun (W : World) (h : Psr W bk s st) => skip_no bk s st 94 91 W h (by omega) hc (by decide)
  have n36 := fun (W : World) (h : Psr W bk s st) => skip_no bk s st 36 91 W h (by omega) hc (by decide)
  have y91 := fun (W : World) (h : Psr W bk s st) => skip_yes bk s st 91 W h (by omega) hc
  have HK := Lib.hid (show _ ∧ _ ∧ _ ∧ _ ∧ _ from ⟨n46, n94, n36, y91, trivial⟩)
  have hr : RX.pAtom (RX.pAll s.data.toList f) s.data.toList st = (match RX.cls s.data.toList (st.at_ + 1) with | .bad a => .bad a | .ok p k => .ok (.bytes p) (st.to k)) := by unfold RX.pAtom; rw [hc]; simp only; rw [if_neg (by decide)]; rw [if_neg (by decide)]; rw [if_neg (by decide)]; rw [if_neg (by decide)]; rw [if_pos trivial]; cases RX.cls s.data.toList (st.at_ + 1) <;> rfl
  have HR := Lib.hid hr
  have HO := Lib.hid (show PsOk s (st.to (st.at_ + 1)) ∧ PsOk s st ∧ bk < w.heap.size from ⟨hok.next hlt (Nat.le_succ _), hok, hS.lt⟩)
  clear hr hc
  clear n46 n94 n36 y91 hz1 hz2 hcon hS hok
  go_enter Tryd.func66, Tryd.ntmps66
  go_wp2_with (first
    | (go_at_call 58; refine HP.out.1.mono ?_; rintro e wp ⟨rfl, q0, rfl⟩)
    | (go_at_call 64; refine (HZ.out _).mono ?_; rintro e wz ⟨rfl, rfl⟩)
    | (go_quiet (fail)))
  refine (HK.out.1 _ (HP.out.2.1.drewN _)).mono ?_
  rintro e ws ⟨rfl, q1, rfl⟩
  go_wp2_with fail
  refine (HK.out.2.1 _ (HP.out.2.1.drewN _)).mono ?_
  rintro e ws ⟨rfl, q2, rfl⟩
  go_wp2_with fail
  refine (HK.out.2.2.1 _ (HP.out.2.1.drewN _)).mono ?_
  rintro e ws ⟨rfl, q3, rfl⟩
  go_wp2_with fail
  refine (HK.out.2.2.2.1 _ (HP.out.2.1.drewN _)).mono ?_
  rintro e ws ⟨rfl, hps, hgs⟩
  have H1 := Lib.hid (show _ ∧ GrownIn (fun b => b = bk) w ws from ⟨hps, ((GrownIn.refl _ w).drewN _).trans hgs (fun _ _ e => e)⟩)
  clear hps hgs
  go_wp2_with fail
  refine (class_any bk s (st.to (st.at_ + 1)) ws H1.out.1 hlt (by omega)).mono ?_
  rintro e w5 hpost
  unfold ClassPost at hpost
  simp only [show (st.to (st.at_ + 1)).at_ = st.at_ + 1 from rfl] at hpost
  have hr := HR.out
  cases hcl : RX.cls s.data.toList (st.at_ + 1) with
  | bad a =>
    rw [hcl] at hpost hr
    obtain ⟨rfl, hg⟩ := hpost
    have HE := Lib.hid (show _ ∧ _ from ⟨hr, hg⟩)
    clear hr hg hcl
    go_wp2_with fail
    exact ⟨rfl, pr_bad HE.out.1 (H1.out.2.trans HE.out.2 (fun _ _ e => e))⟩
  | ok p k =>
    rw [hcl] at hpost hr
    obtain ⟨rfl, hp, hk, hg⟩ := hpost
    have hge := cls_ge hcl
    have HE := Lib.hid (show _ ∧ _ ∧ _ ∧ _ ∧ _ from ⟨hr, hp, hk, hg, hge⟩)
    clear hr hp hk hg hcl hge
    go_wp2_with (first
      | (refine wpList_build_set rfl _ rfl rfl ?_)
      | fail)
    go_ret
    rw [HE.out.1]
    exact ⟨_, rfl, HE.out.2.1, bytes_tree _, H1.out.2.trans HE.out.2.2.2.1 (fun _ _ e => e), HO.out.2.1.next HE.out.2.2.1 (by have := HE.out.2.2.2.2; omega), rfl, HE.out.2.2.2.2⟩
set_option maxHeartbeats 4000000 in
set_option maxRecDepth 100000 in
theorem atom_paren (bk : Nat) (s : ByteArray) (f : Nat) (hbig : s.size ≤ 500) (st : PS) (w : World) (hS : Psr w bk s st) (hok : PsOk s st) (hc : s.data.toList[st.at_]? = some 40) (hA : AllDoes bk s f) (hf : s.size + 1 ≤ f + st.at_ + 1) : Calls Tryd.prog 66 #[.pointer (some ⟨bk, 0, none⟩)] w (PrPost w bk s st 1 (RX.pAtom (RX.pAll s.data.toList f) s.data.toList st)) := by
  have hlt : st.at_ + 1 ≤ s.size := by
    have := (List.getElem?_eq_some_iff.1 hc).1
    rw [Array.length_toList] at this
    exact this
  obtain ⟨z, hz1, hz2⟩ := idx_in [93, 42, 43, 63, 123, 125] 40
  have HZ := Lib.hid hz1
  have HP := Lib.hid (show _ ∧ _ ∧ _ from ⟨peek_some bk s st 40 w hS hc, hS, hok⟩)
  have hcon : ([93, 42, 43, 63, 123, 125] : List UInt8).contains 40 = true ↔ False := by decide
  have iz : ¬ (0 : Int) ≤ z := fun h => hcon.1 (hz2.1 h)
  have n46 := fun (W : World) (h : Psr W bk s st) => skip_no bk s st 46 40 W h (by omega) hc (by decide)
  have n94 := fun (W : World) (h : Psr W bk s st) => skip_no bk s st 94 40 W h (by omega) hc (by decide)
  have n36 := fun (W : World) (h : Psr W bk s st) => skip_no bk s st 36 40 W h (by omega) hc (by decide)
  have n91 := fun (W : World) (h : Psr W bk s st) => skip_no bk s st 91 40 W h (by omega) hc (by decide)
  have y40 := fun (W : World) (h : Psr W bk s st) => skip_yes bk s st 40 W h (by omega) hc
  have HK := Lib.hid (show _ ∧ _ ∧ _ ∧ _ ∧ _ ∧ _ from ⟨n46, n94, n36, n91, y40, trivial⟩)
  have hr : RX.pAtom (RX.pAll s.data.toList f) s.data.toList st = RX.pParen (RX.pAll s.data.toList f) s.data.toList (st.to (st.at_ + 1)) := by unfold RX.pAtom; rw [hc]; simp only; rw [if_neg (by decide)]; rw [if_neg (by decide)]; rw [if_neg (by decide)]; rw [if_neg (by decide)]; rw [if_neg (by decide)]; rw [if_pos trivial]
  have HR := Lib.hid hr
  have HO := Lib.hid (show PsOk s (st.to (st.at_ + 1)) ∧ PsOk s st ∧ bk < w.heap.size from ⟨hok.next hlt (Nat.le_succ _), hok, hS.lt⟩)
  clear hr hc
  clear n46 n94 n36 n91 y40 hz1 hz2 hcon hS hok
  go_enter Tryd.func66, Tryd.ntmps66
  go_wp2_with (first
    | (go_at_call 58; refine HP.out.1.mono ?_; rintro e wp ⟨rfl, q0, rfl⟩)
    | (go_at_call 64; refine (HZ.out _).mono ?_; rintro e wz ⟨rfl, rfl⟩)
    | (go_quiet (fail)))
  refine (HK.out.1 _ (HP.out.2.1.drewN _)).mono ?_
  rintro e ws ⟨rfl, q1, rfl⟩
  go_wp2_with fail
  refine (HK.out.2.1 _ (HP.out.2.1.drewN _)).mono ?_
  rintro e ws ⟨rfl, q2, rfl⟩
  go_wp2_with fail
  refine (HK.out.2.2.1 _ (HP.out.2.1.drewN _)).mono ?_
  rintro e ws ⟨rfl, q3, rfl⟩
  go_wp2_with fail
  refine (HK.out.2.2.2.1 _ (HP.out.2.1.drewN _)).mono ?_
  rintro e ws ⟨rfl, q4, rfl⟩
  go_wp2_with fail
  refine (HK.out.2.2.2.2.1 _ (HP.out.2.1.drewN _)).mono ?_
  rintro e ws ⟨rfl, hps, hgs⟩
  have H1 := Lib.hid (show _ ∧ GrownIn (fun b => b = bk) w ws from ⟨hps, ((GrownIn.refl _ w).drewN _).trans hgs (fun _ _ e => e)⟩)
  clear hps hgs
  go_wp2_with fail
  refine (paren_any bk s f hA hbig (st.to (st.at_ + 1)) ws H1.out.1 hlt (by have := HO.out.2.1.groups; show st.groups + 1 ≤ st.at_ + 1; omega) (by have := HO.out.2.1.deep; show st.deep + 1 ≤ st.at_ + 1; omega) (by have := HO.out.2.1.deeper; show st.deeper ≤ st.at_ + 1; omega) (by show s.size + 1 ≤ f + (st.at_ + 1); omega)).mono ?_
  rintro e w5 hpost
  unfold PrPost at hpost
  have hr := HR.out
  cases hcl : RX.pParen (RX.pAll s.data.toList f) s.data.toList (st.to (st.at_ + 1)) with
  | bad a =>
    rw [hcl] at hpost hr
    obtain ⟨rfl, hg⟩ := hpost
    have HE := Lib.hid (show _ ∧ _ from ⟨hr, hg⟩)
    clear hr hg hcl
    go_wp2_with fail
    exact ⟨rfl, pr_bad HE.out.1 (H1.out.2.trans HE.out.2 (fun _ _ e => e))⟩
  | ok t st2 =>
    rw [hcl] at hpost hr
    obtain ⟨v, rfl, hp, ht, hg, hk, hd, hle⟩ := hpost
    have HE := Lib.hid (show _ ∧ _ ∧ _ ∧ _ ∧ _ ∧ _ ∧ _ from ⟨hr, hp, ht, hg, hk, hd, hle⟩)
    clear hr hp ht hg hk hd hle hcl
    go_wp2_with fail
    go_ret
    rw [HE.out.1]
    exact ⟨_, rfl, HE.out.2.1, TreeV.move (fun b h => ⟨Nat.le_trans H1.out.2.size h.1, h.2⟩) (fun _ _ _ => rfl) _ _ HE.out.2.2.1, H1.out.2.trans HE.out.2.2.2.1 (fun _ _ e => e), HE.out.2.2.2.2.1, HE.out.2.2.2.2.2.1, HE.out.2.2.2.2.2.2⟩
set_option maxHeartbeats 4000000 in
set_option maxRecDepth 100000 in
theorem atom_item (bk : Nat) (s : ByteArray) (f : Nat) (hbig : s.size ≤ 500) (st : PS) (w : World) (hS : Psr w bk s st) (hok : PsOk s st) (c : UInt8) (hc : s.data.toList[st.at_]? = some c) (hnb : ¬ (c = 93 ∨ c = 42 ∨ c = 43 ∨ c = 63 ∨ c = 123 ∨ c = 125)) (h46 : c ≠ 46) (h94 : c ≠ 94) (h36 : c ≠ 36) (h91 : c ≠ 91) (h40 : c ≠ 40) : Calls Tryd.prog 66 #[.pointer (some ⟨bk, 0, none⟩)] w (PrPost w bk s st 1 (RX.pAtom (RX.pAll s.data.toList f) s.data.toList st)) := by
  have hlt : st.at_ + 1 ≤ s.size := by
    have := (List.getElem?_eq_some_iff.1 hc).1
    rw [Array.length_toList] at this
    exact this
  obtain ⟨z, hz1, hz2⟩ := idx_in [93, 42, 43, 63, 123, 125] c
  have HZ := Lib.hid hz1
  have HP := Lib.hid (show _ ∧ _ ∧ _ from ⟨peek_some bk s st c w hS hc, hS, hok⟩)
  have hcon : ([93, 42, 43, 63, 123, 125] : List UInt8).contains c = true ↔ (c = 93 ∨ c = 42 ∨ c = 43 ∨ c = 63 ∨ c = 123 ∨ c = 125) := by simp
  have iz : ¬ (0 : Int) ≤ z := fun h => hnb (hcon.1 (hz2.1 h))
  have n46 := fun (W : World) (h : Psr W bk s st) => skip_no bk s st 46 c W h (by omega) hc h46
  have n94 := fun (W : World) (h : Psr W bk s st) => skip_no bk s st 94 c W h (by omega) hc h94
  have n36 := fun (W : World) (h : Psr W bk s st) => skip_no bk s st 36 c W h (by omega) hc h36
  have n91 := fun (W : World) (h : Psr W bk s st) => skip_no bk s st 91 c W h (by omega) hc h91
  have n40 := fun (W : World) (h : Psr W bk s st) => skip_no bk s st 40 c W h (by omega) hc h40
  have HK := Lib.hid (show _ ∧ _ ∧ _ ∧ _ ∧ _ ∧ _ from ⟨n46, n94, n36, n91, n40, trivial⟩)
  have hr : RX.pAtom (RX.pAll s.data.toList f) s.data.toList st = (match RX.item s.data.toList st.at_ with | .bad a => .bad a | .ok p _ k => .ok (.bytes p) (st.to k)) := by unfold RX.pAtom; rw [hc]; simp only; rw [if_neg hnb, if_neg h46, if_neg h94, if_neg h36, if_neg h91, if_neg h40]; cases RX.item s.data.toList st.at_ <;> rfl
  have HR := Lib.hid hr
  have HO := Lib.hid (show PsOk s (st.to (st.at_ + 1)) ∧ PsOk s st ∧ bk < w.heap.size from ⟨hok.next hlt (Nat.le_succ _), hok, hS.lt⟩)
  clear hr
  clear n46 n94 n36 n91 n40 hz1 hz2 hcon hS hok
  go_enter Tryd.func66, Tryd.ntmps66
  go_wp2_with (first
    | (go_at_call 58; refine HP.out.1.mono ?_; rintro e wp ⟨rfl, q0, rfl⟩)
    | (go_at_call 64; refine (HZ.out _).mono ?_; rintro e wz ⟨rfl, rfl⟩)
    | (go_quiet (fail)))
  refine (HK.out.1 _ (HP.out.2.1.drewN _)).mono ?_
  rintro e ws ⟨rfl, q1, rfl⟩
  go_wp2_with fail
  refine (HK.out.2.1 _ (HP.out.2.1.drewN _)).mono ?_
  rintro e ws ⟨rfl, q2, rfl⟩
  go_wp2_with fail
  refine (HK.out.2.2.1 _ (HP.out.2.1.drewN _)).mono ?_
  rintro e ws ⟨rfl, q3, rfl⟩
  go_wp2_with fail
  refine (HK.out.2.2.2.1 _ (HP.out.2.1.drewN _)).mono ?_
  rintro e ws ⟨rfl, q4, rfl⟩
  go_wp2_with fail
  refine (HK.out.2.2.2.2.1 _ (HP.out.2.1.drewN _)).mono ?_
  rintro e ws ⟨rfl, q5, rfl⟩
  go_wp2_with fail
  refine (item_any bk s st _ (HP.out.2.1.drewN _) (by omega) c hc).mono ?_
  rintro e w5 hpost
  unfold ItemPost at hpost
  have hr := HR.out
  cases hcl : RX.item s.data.toList st.at_ with
  | bad a =>
    rw [hcl] at hpost hr
    obtain ⟨rfl, hg⟩ := hpost
    have HE := Lib.hid (show _ ∧ _ from ⟨hr, hg⟩)
    clear hr hg hcl
    go_wp2_with fail
    exact ⟨rfl, pr_bad HE.out.1 (((GrownIn.refl _ w).drewN _).trans HE.out.2 (fun _ _ e => e))⟩
  | ok p c2 k =>
    rw [hcl] at hpost hr
    obtain ⟨rfl, hp, hk, hkk, hg⟩ := hpost
    have HE := Lib.hid (show _ ∧ _ ∧ _ ∧ _ ∧ _ from ⟨hr, hp, hk, hkk, ((GrownIn.refl (fun b => b = bk) w).drewN _).trans hg (fun _ _ e => e)⟩)
    clear hr hp hk hkk hg hcl hc
    go_wp2_with (first
      | (refine wpList_alloc_set rfl rfl ?_; intro w6 hb6 hs6 hg6; have H6 := Lib.hid (show ItSt w w6 bk s (st.to k) w5.heap.size (fun _ => false) from ⟨HE.out.2.1.grown hg6 id, hb6, HE.out.2.2.2.2.size, HO.out.2.2, HE.out.2.2.2.2.trans hg6 (fun _ _ e => e.elim)⟩); clear hb6 hs6 hg6)
      | (refine wpList_store_set rfl _ _ rfl rfl rfl H6.out.set ?_; intro w7 hb7 hs7 hg7; have H7 := Lib.hid (H6.out.store hb7 hg7); clear hb7 hs7 hg7)
      | (refine wpList_load_set rfl _ rfl rfl H7.out.set ?_)
      | (refine wpList_build_set rfl _ rfl rfl ?_)
      | fail)
    go_ret
    rw [HE.out.1]
    exact ⟨_, rfl, H7.out.psr, bytes_tree _, H7.out.grown, HO.out.2.1.next HE.out.2.2.1 (by have := HE.out.2.2.2.1; omega), rfl, HE.out.2.2.2.1⟩
theorem atom_any (bk : Nat) (s : ByteArray) (f : Nat) (hA : AllDoes bk s f) (hbig : s.size ≤ 500) (st : PS) (w : World) (hS : Psr w bk s st) (hok : PsOk s st) (hf : s.size + 1 ≤ f + st.at_ + 1) (c : UInt8) (hc : s.data.toList[st.at_]? = some c) :
    Calls Tryd.prog 66 #[.pointer (some ⟨bk, 0, none⟩)] w (PrPost w bk s st 1 (RX.pAtom (RX.pAll s.data.toList f) s.data.toList st)) := by
  by_cases hb : c = 93 ∨ c = 42 ∨ c = 43 ∨ c = 63 ∨ c = 123 ∨ c = 125
  · exact atom_bad bk s f hbig st w hS hok c hc hb
  · by_cases h46 : c = 46
    · subst h46; exact atom_dot bk s f hbig st w hS hok hc
    · by_cases h94 : c = 94
      · subst h94; exact atom_caret bk s f hbig st w hS hok hc
      · by_cases h36 : c = 36
        · subst h36; exact atom_dollar bk s f hbig st w hS hok hc
        · by_cases h91 : c = 91
          · subst h91; exact atom_class bk s f hbig st w hS hok hc
          · by_cases h40 : c = 40
            · subst h40; exact atom_paren bk s f hbig st w hS hok hc hA hf
            · exact atom_item bk s f hbig st w hS hok c hc hb h46 h94 h36 h91 h40
end Go.Proofs.YtamlnkmcbbeicaaDoor
