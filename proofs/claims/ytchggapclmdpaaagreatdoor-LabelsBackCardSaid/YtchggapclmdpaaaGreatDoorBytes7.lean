/- LabelsBytes' walk: Encode gives of any labels, and Decode takes of any bytes, what the chapter says; the bytes stay. -/
import Derived.Test.YtchggapclmdpaaaGreatDoorRefDec
import Derived.Test.YtchggapclmdpaaaGreatDoorRefEnc
import Derived.Test.YtchggapclmdpaaaGreatDoorGr
namespace Go.Proofs.YtchggapclmdpaaaGreatDoor
open Go.RowKit Go.Lib

theorem bytesV_flat (l : List UInt8) : bytesV l = l.flatMap encBy := by
  induction l with
  | nil => rfl
  | cons a l ih =>
    rw [List.flatMap_cons, ← ih]
    rfl
theorem sameBy_own {a b : Value} {B B' n : Nat} {l : List UInt8} {w : World} (ha : w.ownsRow B 5 1 a n (bytesV l)) (hb : w.ownsRow B' 5 1 b n (bytesV l)) (hn : n ≤ 1000000) :
    Calls Tryz.prog 36 #[a, b] w fun e w' => e = .returned (.bool true) ∧ Below w.heap.size w w' := by
  rw [bytesV_flat] at ha hb
  have hl := owns_len ha encBy_len (by omega)
  obtain ⟨A, c, rfl, _, h1⟩ := ownsRow_lst ha hl encBy_len
  obtain ⟨A', c', rfl, _, h2⟩ := ownsRow_lst hb hl encBy_len
  exact (sameBy_q A A' n c c' l w h1 h2 (by omega)).mono fun _ _ ⟨h1, h2⟩ => ⟨h1, below_drewBy h2⟩
/-- A lent row of bytes, as it lies. -/
theorem lentB_parts {w : World} {B g n c : Nat} {l : List UInt8} (h : w.ownsRow B 5 1 (.slice (some ⟨g, 0, none⟩) (n + 2) c) (n + 2) ((l ++ [mABy, mBBy]).flatMap encBy)) (hl : l.length = n) :
    Lst encBy 1 w w.heap.size (some ⟨g, 0, none⟩) (n + 2) (l ++ [mABy, mBBy]) ∧ Lst encBy 1 w w.heap.size (some ⟨g, 0, none⟩) n l ∧ n + 2 ≤ c ∧ c ≤ maxLen ∧ ∃ cur, w.heap[g]? = some (.cells cur 5 (0, 0)) ∧ cur.size = c * 1 := by
  obtain ⟨A', c', e', _, h1⟩ := ownsRow_lst h (by simp [hl]) encBy_len
  injection e' with e1 _ _
  subst e1
  have h2 := h1.take (k := n) (by omega)
  rw [List.take_append_of_le_length (by omega), List.take_of_length_le (by omega)] at h2
  have hc := owns_cap h
  refine ⟨h1, h2, hc.2, hc.1, ?_⟩
  rcases h.2 with ⟨h', _⟩ | ⟨_, _, cur, h', _, hh, _, _, hs, _⟩
  · cases h'
  · cases h'; exact ⟨cur, hh, hs⟩
/-- What Encode hands back, an error or no. -/
def encO (l : List Lb) : List UInt8 := if checkE l = 0 then encB l else []
theorem enc_row {l : List Lb} {w : World} {e : Ending} {w' : World} (h : EncPost l w e w') : ∃ v, e = .returned (.tuple #[v, .int .u16 (checkE l)]) ∧ w'.ownsRow w.heap.size 5 1 v (encO l).length (bytesV (encO l)) ∧ Below w.heap.size w w' := by
  obtain ⟨v, rfl, hb, h1, h2⟩ := h
  unfold encO
  by_cases h0 : checkE l = 0
  · rw [if_pos h0]
    exact ⟨v, rfl, h2 h0, hb⟩
  · rw [if_neg h0, h1 h0]
    exact ⟨_, rfl, World.ownsRow_nil _ _ _ _, hb⟩
theorem encO_length (l : List Lb) : (encO l).length ≤ 200000 := by
  unfold encO
  split
  · rename_i h
    obtain ⟨h1, h2⟩ := checkE_ok h
    have := flat_labB_le h2
    unfold encB
    rw [List.length_cons]
    omega
  · simp
theorem decL_length : ∀ (k : Nat) (r : List UInt8) (acc : List Lb) (l : List Lb) (rest : List UInt8), decL k r acc = some (l, rest) → l.length = acc.length + k
  | 0, r, acc, l, rest, h => by
    rw [decL] at h
    simp only [Option.some.injEq, Prod.mk.injEq] at h
    rw [← h.1]; omega
  | k + 1, r, acc, l, rest, h => by
    cases h1 : takeB r with
    | none => rw [decL_none1 h1] at h; cases h
    | some tr =>
      obtain ⟨t1, r1⟩ := tr
      cases h2 : takeB r1 with
      | none => rw [decL_none2 h1 h2] at h; cases h
      | some tr2 =>
        obtain ⟨t2, r2⟩ := tr2
        rw [decL_some h1 h2] at h
        have := decL_length k _ _ _ _ h
        rw [List.length_append] at this
        simp at this
        omega
theorem decR_length (b : List UInt8) : (decR b).1.length ≤ 255 := by
  match b with
  | [] => simp [decR]
  | h :: r =>
    have h256 : h.toNat < 256 := h.toNat_lt
    cases hd : decL h.toNat r [] with
    | none => simp [decR, hd]
    | some lr =>
      obtain ⟨l, rest⟩ := lr
      have := decL_length _ _ _ _ _ hd
      simp at this
      simp only [decR, hd]
      split
      · simp; omega
      · simp
set_option maxHeartbeats 4000000 in
set_option maxRecDepth 100000 in
theorem bytes_few (A A' : Option Addr) (n c n' c' : Nat) (l : List Lb) (b : List UInt8) (w : World) (hL : Lst Lb.cells 2 w w.heap.size A n l) (hM : Lst encBy 1 w w.heap.size A' n' b) (hnil : A' = none → n' = 0 ∧ c' = 0) (hnc : n' ≤ c') (hc : c' ≤ maxLen) (hl : muchB l = false) (hn' : n' ≤ 20000) :
    Calls Tryz.prog 6 #[.slice A n c, .slice A' n' c'] w fun e w' => e = .returned (.bool true) ∧ Below w.heap.size w w' := by
  have hn : n ≤ 300 := by rw [← hL.1]; exact muchB_len hl
  have hRl := decR_length b
  have hEl := encO_length l
  have q0 : ¬ (20000 : Int) < (n' : Int) := by omega
  have HL := Lib.hid hL
  have HM := Lib.hid (show _ ∧ _ from ⟨hM, hnil⟩)
  have HB := Lib.hid hl
  clear hL hnil hM hl
  go_enter Tryz.func6, Tryz.ntmps6
  go_wp2_with fail
  refine (much_any A n c l w HL.out (by omega)).mono ?_
  rw [HB.out]
  rintro e w0 ⟨rfl, q1, hq1⟩
  have B0 : Hid (Below w.heap.size w w0) := Lib.hid (hq1 ▸ below_drewN (Below.refl _ _) q1)
  clear hq1
  go_wp2_with fail
  refine (encode_any A n c l w0 (HL.out.on B0.out) (by omega)).mono ?_
  intro e w1 hp
  obtain ⟨vx, rfl, hx, hb1⟩ := enc_row hp
  have hs0 := B0.out.size
  have hs1 := hb1.size
  have H1 := Lib.hid (show _ ∧ _ from ⟨owns_base hx hs0, B0.out.trans (hb1.mono hs0)⟩)
  clear hp hx hb1
  go_wp2_with fail
  refine (refEncode_any A n c l w1 (HL.out.on H1.out.2) (by omega)).mono ?_
  intro e w2 hp
  obtain ⟨vw, rfl, hx, hb2⟩ := enc_row hp
  have hs2 := hb2.size
  obtain ⟨E, hE⟩ : ∃ E, checkE l = E := ⟨_, rfl⟩
  obtain ⟨X, hX⟩ : ∃ X, encO l = X := ⟨_, rfl⟩
  rw [hX] at H1 hx hEl
  rw [hE]
  have H2 := Lib.hid (show _ ∧ _ ∧ Below w.heap.size w w2 from ⟨owns_below H1.out.1 hb2, owns_base hx (by omega), H1.out.2.trans (hb2.mono H1.out.2.size)⟩)
  have HE := Lib.hid (show _ ∧ _ from ⟨hE, hX⟩)
  clear hp hx hb2 hE hX H1
  go_wp2_with fail
  refine (lentBy_any A' n' c' b w2 (HM.out.1.on H2.out.2.2) HM.out.2 (by omega)).mono ?_
  rintro e w3 ⟨g1, cg1, rfl, hr3, hb3⟩
  have hs3 := hb3.size
  have hg1 := hr3.lt g1 rfl
  have P1 := Lib.hid (lentB_parts hr3 HM.out.1.1)
  have hxa : ∀ k, vx.ownBlock = some k → k < w2.heap.size := fun k h => (H2.out.1.lt k h).2
  have hxb : ∀ k, vw.ownBlock = some k → k < w2.heap.size := fun k h => (H2.out.2.1.lt k h).2
  have H3 := Lib.hid (show _ ∧ _ ∧ Below w.heap.size w w3 from ⟨owns_below H2.out.1 hb3, owns_below H2.out.2.1 hb3, H2.out.2.2.trans (hb3.mono H2.out.2.2.size)⟩)
  have HX := Lib.hid (show _ ∧ _ from ⟨hxa, hxb⟩)
  clear hr3 hb3 H2 hxa hxb
  have hcg := P1.out.2.2.1
  have hcg2 := P1.out.2.2.2.1
  go_wp2_with fail
  refine (decode_any (some ⟨g1, 0, none⟩) n' cg1 b w3 P1.out.2.1 (by omega) hcg2 (by omega)).mono ?_
  rintro e w4 ⟨vy, rfl, hy, hb4⟩
  have hs4 := hb4.size
  obtain ⟨R, hR⟩ : ∃ R, (decR b).1 = R := ⟨_, rfl⟩
  obtain ⟨K, hK⟩ : ∃ K, (decR b).2.1 = K := ⟨_, rfl⟩
  obtain ⟨G, hG⟩ : ∃ G, (decR b).2.2 = G := ⟨_, rfl⟩
  rw [hR] at hy hRl
  rw [hK, hG]
  have hya : ∀ k, vy.ownBlock = some k → w3.heap.size ≤ k := fun k h => (hy.lt k h).1
  have H4 := Lib.hid (show _ ∧ _ ∧ _ ∧ Below w.heap.size w w4 ∧ Below w3.heap.size w3 w4 from ⟨owns_below H3.out.1 hb4, owns_below H3.out.2.1 hb4, owns_base hy H3.out.2.2.size, H3.out.2.2.trans (hb4.mono H3.out.2.2.size), hb4⟩)
  have HR := Lib.hid (show _ ∧ _ ∧ _ ∧ _ from ⟨hR, hK, hG, hya⟩)
  clear hy hb4 hR hK hG hya H3
  go_wp2_with fail
  refine (wholeBy_eq g1 cg1 A' n' c' b w4 (P1.out.1.on H4.out.2.2.2.2) hcg (HM.out.1.on H4.out.2.2.2.1) (by omega)).mono ?_
  rintro e w5 ⟨rfl, hb5⟩
  have hs5 := hb5.size
  obtain ⟨cur1, hc1, hz1⟩ := P1.out.2.2.2.2
  have hb35 : Below w3.heap.size w3 w5 := H4.out.2.2.2.2.trans (hb5.mono hs4)
  have h51 := (hb35.block g1 (by omega)).trans hc1
  have H5 := Lib.hid (show _ ∧ _ ∧ _ ∧ Below w.heap.size w w5 ∧ _ ∧ _ from ⟨owns_below H4.out.1 hb5, owns_below H4.out.2.1 hb5, owns_below H4.out.2.2.1 hb5, H4.out.2.2.2.1.trans (hb5.mono H4.out.2.2.2.1.size), h51, hz1⟩)
  clear hb5 hb35 hc1 hz1 h51 H4
  go_wp2_with fail
  refine (spoilBy_any g1 n' cg1 cur1 w5 H5.out.2.2.2.2.1 H5.out.2.2.2.2.2 (by omega) hcg2).mono ?_
  rintro e w6 ⟨rfl, hg6⟩
  have hs6 := hg6.size
  have hgi := GrownIn.of_grownBy hg6
  have H6 := Lib.hid (show _ ∧ _ ∧ _ ∧ Below w.heap.size w w6 from ⟨hgi.owns H5.out.1 (fun k hk e => by injection e with e; have := HX.out.1 k hk; omega), hgi.owns H5.out.2.1 (fun k hk e => by injection e with e; have := HX.out.2 k hk; omega), hgi.owns H5.out.2.2.1 (fun k hk e => by injection e with e; have := HR.out.2.2.2 k hk; omega), H5.out.2.2.2.1.trans (hgi.below (fun k e => by injection e with e; omega) H5.out.2.2.2.1.size)⟩)
  clear hg6 hgi H5
  go_wp2_with fail
  refine (refDecode_any A' n' c' b w6 (HM.out.1.on H6.out.2.2.2) hnc hc (by omega)).mono ?_
  rintro e w7 ⟨vv, rfl, hv, hb7⟩
  rw [HR.out.1] at hv
  rw [HR.out.2.1, HR.out.2.2.1]
  have hs7 := hb7.size
  have H7 := Lib.hid (show _ ∧ _ ∧ _ ∧ _ ∧ Below w.heap.size w w7 from ⟨owns_below H6.out.1 hb7, owns_below H6.out.2.1 hb7, owns_below H6.out.2.2.1 hb7, owns_base hv H6.out.2.2.2.size, H6.out.2.2.2.trans (hb7.mono H6.out.2.2.2.size)⟩)
  clear hv hb7 H6
  go_wp2_with fail
  refine (known7 _).mono ?_
  rintro e w8 ⟨rfl, hb8⟩
  have H8 := Lib.hid (show _ ∧ _ ∧ _ ∧ _ ∧ Below w.heap.size w w8 from ⟨owns_below H7.out.1 hb8, owns_below H7.out.2.1 hb8, owns_below H7.out.2.2.1 hb8, owns_below H7.out.2.2.2.1 hb8, H7.out.2.2.2.2.trans (hb8.mono H7.out.2.2.2.2.size)⟩)
  clear hb8 H7
  go_wp2_with fail
  refine (sameBy_own H8.out.1 H8.out.2.1 (by omega)).mono ?_
  rintro e w9 ⟨rfl, hb9⟩
  have H9 := Lib.hid (show _ ∧ _ ∧ Below w.heap.size w w9 from ⟨owns_below H8.out.2.2.1 hb9, owns_below H8.out.2.2.2.1 hb9, H8.out.2.2.2.2.trans (hb9.mono H8.out.2.2.2.2.size)⟩)
  clear hb9 H8
  go_wp2_with fail
  refine (sameL_own H9.out.1 H9.out.2.1 (by omega)).mono ?_
  rintro e w10 ⟨rfl, hb10⟩
  have H10 := Lib.hid (H9.out.2.2.trans (hb10.mono H9.out.2.2.size))
  clear hb10 H9
  go_wp2
  go_ret
  exact ⟨rfl, H10.out⟩
set_option maxHeartbeats 2000000 in
set_option maxRecDepth 100000 in
theorem bytes_any (A A' : Option Addr) (n c n' c' : Nat) (l : List Lb) (b : List UInt8) (w : World) (hL : Lst Lb.cells 2 w w.heap.size A n l) (hn : n ≤ 9223372036854775807) (hM : Lst encBy 1 w w.heap.size A' n' b) (hnil : A' = none → n' = 0 ∧ c' = 0) (hnc : n' ≤ c') (hc : c' ≤ maxLen) :
    Calls Tryz.prog 6 #[.slice A n c, .slice A' n' c'] w fun e w' => e = .returned (.bool true) ∧ Below w.heap.size w w' := by
  cases hl : muchB l with
  | true =>
    have hm := much_any A n c l w hL hn
    rw [hl] at hm
    have HM := Lib.hid hm
    clear hm hL hM hnil hl
    go_enter Tryz.func6, Tryz.ntmps6
    go_wp2_with (go_at_call 9; refine HM.out.mono ?_; rintro e w1 ⟨rfl, q, rfl⟩)
    go_ret
    exact ⟨rfl, below_drewN (Below.refl _ _) q⟩
  | false =>
    by_cases hb : 20000 < n'
    · have hm := much_any A n c l w hL hn
      rw [hl] at hm
      have HM := Lib.hid hm
      have q0 : (20000 : Int) < (n' : Int) := by omega
      clear hm hL hM hnil hl
      go_enter Tryz.func6, Tryz.ntmps6
      go_wp2_with (go_at_call 9; refine HM.out.mono ?_; rintro e w1 ⟨rfl, q, rfl⟩)
      go_ret
      exact ⟨rfl, below_drewN (Below.refl _ _) q⟩
    · exact bytes_few A A' n c n' c' l b w hL hM hnil hnc hc hl (by omega)
end Go.Proofs.YtchggapclmdpaaaGreatDoor
