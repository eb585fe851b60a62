/- labels.Decode: the set that bytes begin with. -/
import Derived.Test.YtchggapclmdpaaaGreatDoorTake7
import Derived.Test.YtchggapclmdpaaaGreatDoorSets7
namespace Go.Proofs.YtchggapclmdpaaaGreatDoor
open Go.RowKit Go.Lib

/-- So many labels off bytes. -/
def decL : Nat → List UInt8 → List Lb → Option (List Lb × List UInt8)
  | 0, r, acc => some (acc, r)
  | k + 1, r, acc => match takeB r with
    | none => none
    | some (n, r1) => match takeB r1 with
      | none => none
      | some (v, r2) => decL k r2 (acc ++ [⟨⟨n.toArray⟩, ⟨v.toArray⟩⟩])
theorem decL_none1 {k : Nat} {r : List UInt8} {acc : List Lb} (h : takeB r = none) : decL (k + 1) r acc = none := by rw [decL, h]
theorem decL_none2 {k : Nat} {r n r1 : List UInt8} {acc : List Lb} (h : takeB r = some (n, r1)) (g : takeB r1 = none) : decL (k + 1) r acc = none := by rw [decL, h]; simp only [g]
theorem decL_some {k : Nat} {r n r1 v r2 : List UInt8} {acc : List Lb} (h : takeB r = some (n, r1)) (g : takeB r1 = some (v, r2)) : decL (k + 1) r acc = decL k r2 (acc ++ [⟨⟨n.toArray⟩, ⟨v.toArray⟩⟩]) := by rw [decL, h]; simp only [g]
/-- The row, how many bytes, what is wrong. -/
def decR (b : List UInt8) : List Lb × Nat × Int := match b with
  | [] => ([], 0, 70)
  | h :: r => match decL h.toNat r [] with
    | none => ([], 0, 70)
    | some (l, rest) => if checkE l = 0 then (l, (h :: r).length - rest.length, 0) else ([], 0, 70)
def DecPost (b : List UInt8) (w : World) (e : Ending) (w' : World) : Prop :=
  ∃ v, e = .returned (.tuple #[v, .int .i64 ((decR b).2.1 : Int), .int .u16 (decR b).2.2]) ∧ w'.ownsRow w.heap.size 94 2 v (decR b).1.length ((decR b).1.flatMap Lb.cells) ∧ Below w.heap.size w w'
theorem decPost_bad {b : List UInt8} {w w' : World} (h : decR b = ([], 0, 70)) (hb : Below w.heap.size w w') : DecPost b w (.returned (.tuple #[.slice none 0 0, .int .i64 0, .int .u16 70])) w' := by
  unfold DecPost
  rw [h]
  exact ⟨_, rfl, World.ownsRow_nil _ _ _ _, hb⟩
theorem takeB_le {l t r : List UInt8} (h : takeB l = some (t, r)) : r.length ≤ l.length := by
  match l, h with
  | b0 :: b1 :: s, h =>
    rw [takeB_two] at h
    split at h
    · cases h
    · simp only [Option.some.injEq, Prod.mk.injEq] at h
      rw [← h.2, List.length_drop]
      simp
      omega
set_option maxHeartbeats 4000000 in
set_option maxRecDepth 100000 in
theorem decode_any (A : Option Addr) (n c : Nat) (b : List UInt8) (w : World) (hL : Lst encBy 1 w w.heap.size A n b) (hnc : n ≤ c) (hc : c ≤ maxLen) (hbig : n ≤ 1000000) :
    Calls Tryz.prog 32 #[.slice A n c] w (DecPost b w) := by
  have hc' : c ≤ 9223372036854775807 := hc
  match b, hL with
  | [], hL =>
    have hn : n = 0 := by have := hL.1; simpa using this.symm
    subst hn
    clear hL
    go_enter Tryz.func32, Tryz.ntmps32
    go_wp2
    exact bodyPost_ret (v := .tuple #[.slice none 0 0, .int .i64 0, .int .u16 70]) (by simp [results, Tryz.results32, go_sem]) rfl (decPost_bad rfl (Below.refl _ _))
  | h :: r, hL =>
    have hn : r.length + 1 = n := by have := hL.1; simpa using this
    have h256 : h.toNat < 256 := h.toNat_lt
    obtain ⟨bb, off, x, rfl, hb, hx, hcl⟩ := hL.at (show 0 < n by omega)
    obtain rfl : h = x := by simpa using hx
    have c0 : w.cell? ⟨bb, off, none⟩ = some (.int .u8 h.toNat) := by simpa using hcl 0 _ rfl
    have i0 : ((n : Int) == 0) = false := by rw [beq_eq_false_iff_ne]; omega
    have i1 : (0 : Int) < (n : Int) := by omega
    have i2 : (1 : Int) ≤ (n : Int) := by omega
    have i3 : (n : Int) ≤ (c : Int) := by omega
    obtain ⟨H, hH⟩ : ∃ H, h.toNat = H := ⟨_, rfl⟩
    rw [hH] at c0 h256
    have hd := hL.drop_ (k := 1) (by omega)
    have h1 : ¬ c = 1 → Lst encBy 1 w w.heap.size (some ⟨bb, off + 1, none⟩) (n - 1) r := fun _ => by simpa using hd
    have h2 : c = 1 → Lst encBy 1 w w.heap.size (some ⟨bb, off, none⟩) (n - 1) r := fun k => ⟨by omega, fun h => absurd h (by omega)⟩
    have HR0 := Lib.hid (show _ ∧ _ ∧ _ ∧ _ from ⟨h1, h2, hn, hH⟩)
    clear hd h1 h2 hn hcl hx hL hH
    have hE : ∃ D, decL H r [] = D := ⟨_, rfl⟩
    obtain ⟨D, hD⟩ := hE
    have hbad : D = none → decR (h :: r) = ([], 0, 70) := fun e => by
      unfold decR
      simp only [HR0.out.2.2.2, hD, e]
    have hgood : ∀ l rest, D = some (l, rest) → decR (h :: r) = if checkE l = 0 then (l, (h :: r).length - rest.length, 0) else ([], 0, 70) := fun l rest e => by
      unfold decR
      simp only [HR0.out.2.2.2, hD, e]
    have HD := Lib.hid (show _ ∧ _ ∧ _ from ⟨hD, hbad, hgood⟩)
    clear hD hbad hgood
    obtain ⟨N1, hN1⟩ : ∃ N1, r.length = N1 := ⟨_, rfl⟩
    by_cases k1 : c = 1
    case' pos =>
      subst k1
      have HK := Lib.hid (Eq.refl 1)
      obtain rfl : n = 1 := by have := HR0.out.2.2.1; omega
    case' neg => have HK := Lib.hid k1
    all_goals
      go_enter Tryz.func32, Tryz.ntmps32
      go_wp2
      clear c0 i0 i1 i2 i3
      go_loopw [5, 6, 19] (fun lv rv iv wr => ∃ (k m c2 : Nat) (acc : List Lb) (rest : List UInt8) (A2 : Option Addr), k ≤ H ∧ iv = .int .u8 k ∧ rv = .slice A2 m c2 ∧ m ≤ c2 ∧ c2 ≤ maxLen ∧ m ≤ N1 ∧ Hid (rest.length = m ∧ Lst encBy 1 wr w.heap.size A2 m rest ∧ wr.ownsRow w.heap.size 94 2 lv k (acc.flatMap Lb.cells) ∧ Below w.heap.size w wr ∧ decL (H - k) rest acc = D ∧ acc.length = k)) (fun _ _ iv _ => H - (intOf iv).toNat)
      case atStart =>
        refine ⟨0, _, _, [], r, _, Nat.zero_le _, rfl, rfl, by omega, by omega, by have := HR0.out.2.2.1; omega, Lib.hid ⟨by have := HR0.out.2.2.1; omega, by first | exact HR0.out.1 HK.out | exact HR0.out.2.1 HK.out, World.ownsRow_nil _ _ _ _, Below.refl _ _, HD.out.1, rfl⟩⟩
      case round =>
        obtain ⟨k, m, c2, acc, rest, A2, hk, rfl, rfl, hm2, hc2, hmn, HR⟩ := hrel
        by_cases hlt : k < H
        · have j1 : (k : Int) < (H : Int) := by omega
          have hdec : H - k = (H - (k + 1)) + 1 := by omega
          cases ht1 : takeB rest with
          | none =>
            have HP := Lib.hid (HD.out.2.1 (by rw [← HR.out.2.2.2.2.1, hdec]; exact decL_none1 ht1))
            have HT := Lib.hid (take_bad w.heap.size A2 m c2 rest wr HR.out.2.1 hm2 hc2 ht1)
            clear ht1 hdec
            go_wp2_with (go_at_call 104; refine HT.out.mono ?_; rintro e w1 ⟨rfl, hb1⟩; have B1 := Lib.hid (HR.out.2.2.2.1.trans (hb1.mono HR.out.2.2.2.1.size)); clear hb1)
            exact bodyPost_ret (v := .tuple #[.slice none 0 0, .int .i64 0, .int .u16 70]) (by simp [results, Tryz.results32, go_sem]) rfl (decPost_bad HP.out B1.out)
          | some tr =>
            obtain ⟨t1, r1⟩ := tr
            have hle1 := takeB_le ht1
            obtain ⟨m1, hm1⟩ : ∃ m1, r1.length = m1 := ⟨_, rfl⟩
            have hmm1 : m1 ≤ N1 := by have := HR.out.1; omega
            have HT := Lib.hid (take_good w.heap.size A2 m c2 rest wr HR.out.2.1 hm2 hc2 ht1 hm1)
            cases ht2 : takeB r1 with
            | none =>
              have HP := Lib.hid (HD.out.2.1 (by rw [← HR.out.2.2.2.2.1, hdec]; exact decL_none2 ht1 ht2))
              have HT2 := Lib.hid ht2
              clear ht1 ht2 hdec hm1 hle1
              go_wp2_with (first
                | (go_at_call 104; refine (take_bad w.heap.size A3 m1 c3 r1 w1 H1.out.1 H1.out.2.1 H1.out.2.2.1 HT2.out).mono ?_; rintro e w2 ⟨rfl, hb2⟩; have B2 := Lib.hid (H1.out.2.2.2.trans (hb2.mono H1.out.2.2.2.size)); clear hb2)
                | (go_at_call 104; refine HT.out.mono ?_; rintro e w1 ⟨A3, c3, rfl, hL1, hmc1, hcc1, hb1⟩; have H1 := Lib.hid (show _ ∧ _ ∧ _ ∧ Below w.heap.size w w1 from ⟨hL1, hmc1, hcc1, HR.out.2.2.2.1.trans (hb1.mono HR.out.2.2.2.1.size)⟩); clear hL1 hmc1 hcc1 hb1))
              exact bodyPost_ret (v := .tuple #[.slice none 0 0, .int .i64 0, .int .u16 70]) (by simp [results, Tryz.results32, go_sem]) rfl (decPost_bad HP.out B2.out)
            | some tr2 =>
              obtain ⟨t2, r2⟩ := tr2
              have hle2 := takeB_le ht2
              obtain ⟨m2, hm2'⟩ : ∃ m2, r2.length = m2 := ⟨_, rfl⟩
              have hmm2 : m2 ≤ N1 := by omega
              have HP : Hid (decL (H - (k + 1)) r2 (acc ++ [⟨⟨t1.toArray⟩, ⟨t2.toArray⟩⟩]) = D) := Lib.hid (by rw [← HR.out.2.2.2.2.1, hdec]; exact (decL_some ht1 ht2).symm)
              have HT2 := Lib.hid (show _ ∧ _ from ⟨ht2, hm2'⟩)
              clear ht1 ht2 hdec hm1 hle1 hle2 hm2'
              obtain ⟨i0, hi, hz0, hz1, hz2⟩ := info_parts Tryz.infoLabel
              go_wp2_with (first
                | (at_builtin; refine wpList_append_own _ rfl _ _ 22 rfl w.heap.size 94 i0 _ 2 32 Tryz.underlying22 hi hz0 hz1 hz2 rfl (by omega) _ k (acc.flatMap Lb.cells) rfl (H2.out.2.2.2.2.alloc _) ⟨w2.heap.size, 0, none⟩ 1 1 [.string ⟨t1.toArray⟩, .string ⟨t2.toArray⟩] rfl rfl (cells_newL w2 [.string ⟨t1.toArray⟩, .string ⟨t2.toArray⟩] _) (by simp [Value.oneCell']) (by unfold maxLen; omega) (by omega) (by have := H2.out.2.2.2.1.size; simp; omega) ?_)
                | (go_at_call 104; refine (take_good w.heap.size A3 m1 c3 r1 w1 H1.out.1 H1.out.2.1 H1.out.2.2.1 HT2.out.1 HT2.out.2).mono ?_; rintro e w2 ⟨A4, c4, rfl, hL2, hmc2, hcc2, hb2⟩; have H2 := Lib.hid (show _ ∧ _ ∧ c4 ≤ maxLen ∧ Below w.heap.size w w2 ∧ w2.ownsRow w.heap.size 94 2 u5 k (acc.flatMap Lb.cells) from ⟨hL2, hmc2, hcc2, H1.out.2.2.2.1.trans (hb2.mono H1.out.2.2.2.1.size), owns_below H1.out.2.2.2.2 hb2⟩); clear hL2 hmc2 hcc2 hb2)
                | (go_at_call 104; refine HT.out.mono ?_; rintro e w1 ⟨A3, c3, rfl, hL1, hmc1, hcc1, hb1⟩; have H1 := Lib.hid (show _ ∧ _ ∧ _ ∧ Below w.heap.size w w1 ∧ w1.ownsRow w.heap.size 94 2 u5 k (acc.flatMap Lb.cells) from ⟨hL1, hmc1, hcc1, HR.out.2.2.2.1.trans (hb1.mono HR.out.2.2.2.1.size), owns_below HR.out.2.2.1 hb1⟩); clear hL1 hmc1 hcc1 hb1))
              intro v5 w5 ho5 hg5 _
              have hb5 := (H2.out.2.2.2.1.alloc H2.out.2.2.2.1.size (.cells #[.string ⟨t1.toArray⟩, .string ⟨t2.toArray⟩] 94)).grown hg5 (by have := H2.out.2.2.2.1.size; simp; omega) (fun j hj => (H2.out.2.2.2.2.lt j hj).1)
              have hb25 : Below w.heap.size w2 w5 := ((Below.refl _ w2).alloc H2.out.2.2.2.1.size (.cells #[.string ⟨t1.toArray⟩, .string ⟨t2.toArray⟩] 94)).grown hg5 (by have := H2.out.2.2.2.1.size; simp; omega) (fun j hj => (H2.out.2.2.2.2.lt j hj).1)
              have H5 := Lib.hid (show _ ∧ _ ∧ w5.ownsRow w.heap.size 94 2 v5 (k + 1) ((acc ++ [(⟨⟨t1.toArray⟩, ⟨t2.toArray⟩⟩ : Lb)]).flatMap Lb.cells) from ⟨H2.out.1.keep (fun p hp => hb25.cell hp), hb5, by rw [List.flatMap_append, List.flatMap_singleton]; exact ho5⟩)
              clear ho5 hg5 hb5 hb25
              go_wp2
              go_roundw
              case measure => simp [intOf]; omega
              case rel => exact ⟨k + 1, m2, c4, _, r2, A4, hlt, by simp, rfl, H2.out.2.1, H2.out.2.2.1, hmm2, Lib.hid ⟨HT2.out.2, H5.out.1, H5.out.2.2, H5.out.2.1, HP.out, by rw [List.length_append, HR.out.2.2.2.2.2]; rfl⟩⟩
        · obtain rfl : k = H := by omega
          have hDs : D = some (acc, rest) := by
            rw [← HR.out.2.2.2.2.1, Nat.sub_self]
            rfl
          have hdr := HD.out.2.2 acc rest hDs
          obtain ⟨A5, c5, rfl, hL5, _, _, _⟩ := own_arg HR.out.2.2.1 HR.out.2.2.2.2.2
          obtain ⟨CE, hCE⟩ : ∃ CE, checkE acc = CE := ⟨_, rfl⟩
          have hck := check_any A5 k c5 acc wr hL5 (by omega)
          rw [hCE] at hck hdr
          have j1 : ¬ (k : Int) < (k : Int) := by omega
          have HC := Lib.hid (show _ ∧ _ from ⟨hck, hdr⟩)
          clear hck hdr hCE hDs hL5
          by_cases h0 : CE = 0
          · subst h0
            have hm3 : m ≤ 1000000 := by have := HR0.out.2.2.1; omega
            go_wp2_with (go_at_call 20; refine HC.out.1.mono ?_; rintro e w5 ⟨rfl, hb5⟩; have H5 := Lib.hid (show _ ∧ _ from ⟨owns_below HR.out.2.2.1 hb5, HR.out.2.2.2.1.trans (hb5.mono HR.out.2.2.2.1.size)⟩); clear hb5)
            have hdr := by first | exact HC.out.2.trans (if_pos rfl) | exact HC.out.2.trans (if_pos trivial)
            have e1 : ((h :: r).length - rest.length : Nat) = N1 + 1 - m := by rw [List.length_cons, hN1, HR.out.1]
            rw [e1] at hdr
            have hN := HR0.out.2.2.1
            rw [hN1] at hN
            have hmr := HR.out.1
            refine bodyPost_ret (v := .tuple #[.slice A5 k c5, .int .i64 ((N1 + 1 - m : Nat) : Int), .int .u16 0]) ?_ rfl ?_
            · simp [results, Tryz.results32, go_sem]
              omega
            · unfold DecPost
              rw [hdr]
              exact ⟨_, rfl, by rw [HR.out.2.2.2.2.2]; exact H5.out.1, H5.out.2⟩
          · have hne : (CE != 0) = true := by rw [bne_iff_ne]; exact h0
            go_wp2_with (go_at_call 20; refine HC.out.1.mono ?_; rintro e w5 ⟨rfl, hb5⟩; have H5 := Lib.hid (HR.out.2.2.2.1.trans (hb5.mono HR.out.2.2.2.1.size)); clear hb5)
            have hdr := HC.out.2
            rw [if_neg h0] at hdr
            exact bodyPost_ret (v := .tuple #[.slice none 0 0, .int .i64 0, .int .u16 70]) (by simp [results, Tryz.results32, go_sem]) rfl (decPost_bad hdr H5.out)
end Go.Proofs.YtchggapclmdpaaaGreatDoor
