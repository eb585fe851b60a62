/- Patterns: sets of bytes: family. Patterns' reader: an item, a dash. -/
import Derived.Test.YtamlnkmcbbeicaaDoorRgSet
namespace Go.Proofs.YtamlnkmcbbeicaaDoor
open Go.RowKit Go.Lib
open RX (PS Tr Pr)

set_option maxHeartbeats 4000000 in
set_option maxRecDepth 1000000 in
theorem family_any (l : List UInt8) (no : Bool) (w : World) : Calls Tryd.prog 76 #[.string ⟨l.toArray⟩, .bool no] w fun e w' => e = .returned (.agg (setV (RX.family l no))) ∧ Below w.heap.size w w' := by
  have hz := set_zero
  have HB := Lib.hid (show SetB (w.alloc (.cells (setV fun _ => false) 61)) w.heap.size (fun _ => false) ∧ Below w.heap.size w (w.alloc (.cells (setV fun _ => false) 61)) from ⟨SetB.new w _, (Below.refl _ _).alloc (Nat.le_refl _) _⟩)
  go_enter Tryd.func76, Tryd.ntmps76
  go_wp2
  go_loopw [6] (fun iv wr => ∃ i : Nat, i ≤ 256 ∧ iv = .int .i64 i ∧ Hid (SetB wr w.heap.size (fun j => if j < i then RX.family l no j else false) ∧ Below w.heap.size w wr)) (fun iv _ => 256 - (intOf iv).toNat)
  case atStart => exact ⟨0, by omega, rfl, Lib.hid ⟨HB.out.1.congr (fun _ _ => by simp), HB.out.2⟩⟩
  case round =>
    obtain ⟨i, hi, rfl, HR⟩ := hrel
    by_cases hlt : i < 256
    · have i1 : (i : Int) < 256 := by omega
      have i0 : (0 : Int) ≤ (i : Int) := by omega
      have w1 : IntKind.u8.wrap (i : Int) = (i : Int) := by
        unfold IntKind.wrap
        simp [IntKind.signed, IntKind.bits]
        omega
      have w2 : IntKind.i64.wrap ((i : Int) + 1) = (i : Int) + 1 := IntWalk.i64_in _ (by omega)
      obtain ⟨z, hz1, hz2⟩ := idx_in l (UInt8.ofNat i)
      have e1 : (UInt8.ofNat i).toNat = i := by rw [UInt8.toNat_ofNat']; omega
      rw [e1] at hz1
      have c0 := HR.out.1.cell hlt
      have f0 := HR.out.1.fr i
      have HZ := Lib.hid (show _ ∧ _ from ⟨hz1, hz2⟩)
      clear hz1 hz2 e1
      go_wp2_with (go_at_call 64; refine (HZ.out.1 _).mono ?_; rintro e w' ⟨rfl, rfl⟩)
      go_roundw
      case measure => simp [intOf]; omega
      case rel =>
        have hv : (!(decide (0 ≤ z) == no)) = RX.family l no i := by
          unfold RX.family
          have : decide (0 ≤ z) = l.contains (UInt8.ofNat i) := by
            cases hc : l.contains (UInt8.ofNat i) with
            | true => exact decide_eq_true (HZ.out.2.2 hc)
            | false => exact decide_eq_false (fun h => by have := HZ.out.2.1 h; rw [hc] at this; cases this)
          rw [this]
          rfl
        refine ⟨i + 1, hlt, by simp, Lib.hid ⟨?_, HR.out.2.setCell (Nat.le_refl _) _⟩⟩
        refine (HR.out.1.set hlt _).congr fun j hj => ?_
        by_cases e : j = i
        · rw [if_pos e, if_pos (by omega), e]
          exact hv
        · rw [if_neg e]
          by_cases e2 : j < i
          · rw [if_pos e2, if_pos (by omega)]
          · rw [if_neg e2, if_neg (by omega)]
    · obtain rfl : i = 256 := by omega
      have i1 : ¬ ((256 : Nat) : Int) < 256 := by omega
      have HF := Lib.hid (HR.out.1.congr (q := RX.family l no) (fun j hj => by simp [hj]))
      go_wp2_with (first
        | (refine wpList_load_set rfl _ rfl rfl HF.out ?_)
        | (refine wpList_store_set rfl _ _ rfl rfl rfl HF.out ?_; intro w2 hb2 hs2 hg2))
      refine bodyPost_ret (v := .agg (setV (RX.family l no))) ?_ rfl ⟨rfl, HR.out.2.trans (hg2.below (fun k e => by omega) (HR.out.2.size))⟩
      have hld := set_result hb2
      simp [results, Tryd.results76, asAddr, Result.andThen, hld]
end Go.Proofs.YtamlnkmcbbeicaaDoor
namespace Go.Proofs.YtamlnkmcbbeicaaDoor
open Go.RowKit Go.Lib
open RX (PS Tr Pr)

theorem opt_ne {a b : UInt8} (h : a ≠ b) : ((some a : Option UInt8) == some b) = false := by
  rw [beq_eq_false_iff_ne]; exact fun e => h (Option.some.inj e)
theorem byteI {a b : UInt8} (h : a ≠ b) : ((a.toNat : Int) == (b.toNat : Int)) = false := by
  rw [beq_eq_false_iff_ne]
  exact fun e => h (UInt8.toNat_inj.1 (by omega))
set_option maxHeartbeats 2000000 in
set_option maxRecDepth 100000 in
theorem dash_any (bk : Nat) (s : ByteArray) (st : PS) (w : World) (hS : Psr w bk s st) (hk : st.at_ ≤ s.size) (hbig : s.size ≤ 1000) :
    Calls Tryd.prog 74 #[.pointer (some ⟨bk, 0, none⟩)] w fun e w' => e = .returned (.bool (RX.dash s.data.toList st.at_)) ∧ ∃ q, w' = w.drewN q := by
  have c0 := hS.c0
  have c1 := hS.c1
  have hsz : s.data.toList.length = s.size := Array.length_toList
  have k1 : IntKind.i64.wrap ((st.at_ : Int) + 1) = (st.at_ : Int) + 1 := IntWalk.i64_in _ (by omega)
  cases hc : s.data.toList[st.at_]? with
  | none =>
    have hp := peek_none bk s st w hS hc
    have hr : RX.dash s.data.toList st.at_ = false := by unfold RX.dash; rw [hc]; rfl
    rw [hr]
    have HP := Lib.hid hp
    clear hp hr hS hc hsz
    go_enter Tryd.func74, Tryd.ntmps74
    go_wp2_with (first | (go_at_call 58; refine HP.out.mono ?_; rintro e w1 ⟨rfl, q, rfl⟩) | (go_quiet (fail)))
    go_ret
    exact ⟨rfl, _, by first | rfl | exact World.drewN_drewN _ _ _⟩
  | some d =>
    have hp := peek_some bk s st d w hS hc
    by_cases hd : d = 45
    · subst hd
      have HP := Lib.hid hp
      by_cases h1 : st.at_ + 1 = s.size
      · have hr : RX.dash s.data.toList st.at_ = true := by unfold RX.dash; rw [hc, hsz, h1]; simp
        have b1 : (((st.at_ : Int) + 1) == (s.size : Int)) = true := by simp; omega
        rw [hr]
        clear hp hr hS hc hsz h1
        go_enter Tryd.func74, Tryd.ntmps74
        go_wp2_with (first | (go_at_call 58; refine HP.out.mono ?_; rintro e w1 ⟨rfl, q, rfl⟩) | (go_quiet (fail)))
        go_ret
        exact ⟨rfl, _, by first | rfl | exact World.drewN_drewN _ _ _⟩
      · have hlt : st.at_ + 1 < s.size := by
          have := (List.getElem?_eq_some_iff.1 hc).1
          omega
        have b1 : (((st.at_ : Int) + 1) == (s.size : Int)) = false := by rw [beq_eq_false_iff_ne]; omega
        have i0 : (0 : Int) ≤ (st.at_ : Int) + 1 := by omega
        have i1 : (st.at_ : Int) + 1 < (s.size : Int) := by omega
        have ht : ((st.at_ : Int) + 1).toNat = st.at_ + 1 := by omega
        obtain ⟨c, hcc⟩ : ∃ c, s[st.at_ + 1]'hlt = c := ⟨_, rfl⟩
        have hl := byte_at hlt
        rw [hcc] at hl
        have hr : RX.dash s.data.toList st.at_ = decide (c ≠ 93) := by
          have hb : (st.at_ + 1 == s.size) = false := by simpa using h1
          unfold RX.dash
          rw [hc, hsz, hl, hb]
          by_cases h : c = 93
          · subst h; rfl
          · have e : ((some c : Option UInt8) != some 93) = true := by rw [bne, opt_ne h]; rfl
            rw [e, decide_eq_true h]; rfl
        rw [hr]
        by_cases h93 : c = 93
        · have b2 : ((c.toNat : Int) == 93) = true := by rw [h93]; rfl
          rw [decide_eq_false (fun h => h h93)]
          clear hp hr hS hc hsz h1 hl h93
          go_enter Tryd.func74, Tryd.ntmps74
          go_wp2_with (first | (go_at_call 58; refine HP.out.mono ?_; rintro e w1 ⟨rfl, q, rfl⟩) | (go_quiet (fail)))
          go_ret
          exact ⟨by simp [bne, b2], _, by first | rfl | exact World.drewN_drewN _ _ _⟩
        · have b2 : ((c.toNat : Int) == 93) = false := byteI h93
          rw [decide_eq_true h93]
          clear hp hr hS hc hsz h1 hl h93
          go_enter Tryd.func74, Tryd.ntmps74
          go_wp2_with (first | (go_at_call 58; refine HP.out.mono ?_; rintro e w1 ⟨rfl, q, rfl⟩) | (go_quiet (fail)))
          go_ret
          exact ⟨by simp [bne, b2], _, by first | rfl | exact World.drewN_drewN _ _ _⟩
    · have hr : RX.dash s.data.toList st.at_ = false := by unfold RX.dash; rw [hc, opt_ne hd]; rfl
      have b1 : ((d.toNat : Int) == 45) = false := byteI hd
      rw [hr]
      have HP := Lib.hid hp
      clear hp hr hS hc hsz hd
      go_enter Tryd.func74, Tryd.ntmps74
      go_wp2_with (first | (go_at_call 58; refine HP.out.mono ?_; rintro e w1 ⟨rfl, q, rfl⟩) | (go_quiet (fail)))
      go_ret
      exact ⟨rfl, _, by first | rfl | exact World.drewN_drewN _ _ _⟩
end Go.Proofs.YtamlnkmcbbeicaaDoor
