/- Patterns' machine: again: a count without an end. -/
import Derived.Test.YtdpakjkldkddcaaG31
namespace Go.Proofs.Ytdpakjkldkddcaa
open Go.RowKit Go.Lib
open RX (PS Tr Pr Stp)

theorem copies_snoc {f : Nat → List Stp} {n : Nat} : ∀ (k b : Nat), RX.copies f n b (k + 1) = RX.copies f n b k ++ f (b + k * n)
  | 0, b => by simp [RX.copies]
  | k + 1, b => by
    rw [RX.copies, copies_snoc k (b + n), RX.copies, List.append_assoc, show b + n + k * n = b + (k + 1) * n by rw [Nat.succ_mul]; omega]
theorem set_mid {X Y J : List Stp} {z v : Stp} {q : Nat} (h : X.length = q) : (X ++ [z] ++ Y ++ J).set q v = X ++ v :: (Y ++ J) := by
  subst h
  simp
theorem len_copies (t : Tr) (l : List Stp) (k : Nat) : (l ++ RX.copies t.lay t.size l.length k).length = l.length + k * t.size := by rw [List.length_append, RX.copies_length t.lay_length]
set_option maxHeartbeats 8000000 in
set_option maxRecDepth 100000 in
theorem again_star (t : Tr) (hl : LayOk t) (least : Nat) (hle : least ≤ 1000) (lazy : Bool) : AgainOk t least none false lazy := by
  intro B rp many a l u w h htu hn
  obtain ⟨ty, x, rfl⟩ := htu.face
  have hs : (Tr.rep t least none false lazy).size = least * t.size + t.size + 2 := by simp [RX.Tr.size]
  have hla : (Tr.rep t least none false lazy).lay l.length = RX.copies t.lay t.size l.length least ++ .fork (l.length + least * t.size + 1) (l.length + least * t.size + t.size + 2) lazy :: (t.lay (l.length + least * t.size + 1) ++ [.jump (l.length + least * t.size)]) := by simp [RX.Tr.lay]
  rw [hs] at hn
  rw [hla]
  clear hs hla
  rw [show mostV none = -1 from rfl]
  have hb1 : Below w.heap.size w (w.alloc (.cells #[.iface ty x, .int .i64 least, .int .i64 (-1), .bool false, .bool lazy] 77)) := (Below.refl _ _).alloc (Nat.le_refl _) _
  have hx1 := Bx.new h #[.iface ty x, .int .i64 least, .int .i64 (-1), .bool false, .bool lazy] 77
  have HH := Lib.hid (show _ ∧ _ ∧ _ ∧ _ ∧ _ from ⟨h, hn, htu, hb1, hx1⟩)
  clear h hn htu hb1 hx1
  go_enter Try.func23, Try.ntmps23
  go_wp2_with fail
  go_loopw [34] (fun iv wr => ∃ (i : Nat) (ai : Value), i ≤ least ∧ iv = .int .i64 i ∧ Hid (Rgx B wr rp ai (l ++ RX.copies t.lay t.size l.length i) many ∧ Mch rp a w ai wr ∧ Bx rp ai wr w.heap.size (.cells #[.iface ty x, .int .i64 least, .int .i64 (-1), .bool false, .bool lazy] 77 (0, 0)))) (fun iv _ => least - (intOf iv).toNat)
  case atStart =>
    refine ⟨0, a, Nat.zero_le _, rfl, Lib.hid ⟨?_, Mch.post (Mch.refl _ _ _) HH.out.2.2.2.1, HH.out.2.2.2.2⟩⟩
    rw [RX.copies, List.append_nil]
    exact HH.out.1.below HH.out.2.2.2.1
  case round =>
    obtain ⟨i, ai, hi, rfl, HR⟩ := hrel
    have w2 : IntKind.i64.wrap ((i : Int) + 1) = (i : Int) + 1 := IntWalk.i64_in _ (by omega)
    have z0 : wr.cell? ⟨w.heap.size, 0, none⟩ = some (.iface ty x) := HR.out.2.2.cell 0
    have z2 : wr.cell? ⟨w.heap.size, 2, none⟩ = some (.int .i64 (-1)) := HR.out.2.2.cell 2
    have hmul : i * t.size ≤ least * t.size := Nat.mul_le_mul_right _ hi
    by_cases hlt : i < least
    · have i1 : (i : Int) < (least : Int) := by omega
      have hmul2 : (i + 1) * t.size ≤ least * t.size := Nat.mul_le_mul_right _ hlt
      have HM := Lib.hid hmul2
      clear hmul hmul2
      go_wp2_with fail
      refine (hl B rp many ai _ (.iface ty x) _ HR.out.1 (HH.out.1.tree HH.out.2.2.1 (HR.out.2.1.below HH.out.1)) (by have := HH.out.2.1; have := HM.out; rw [len_copies]; rw [Nat.succ_mul] at this; omega)).mono ?_
      rintro e w3 ⟨rfl, a3, h3, hm3⟩
      have hq3 := HR.out.2.2.step hm3
      have H3 := Lib.hid (show _ ∧ _ ∧ _ from ⟨h3, HR.out.2.1.trans hm3, hq3⟩)
      clear h3 hm3 hq3
      go_wp2_with fail
      go_roundw
      case measure => simp [intOf]; omega
      case rel =>
        refine ⟨i + 1, a3, hlt, by simp, Lib.hid ⟨?_, H3.out.2⟩⟩
        have := H3.out.1
        rw [len_copies, List.append_assoc, ← copies_snoc] at this
        exact this
    · obtain rfl : i = least := by omega
      have i1 : ¬ ((i : Nat) : Int) < (i : Int) := by omega
      clear hmul hi hlt
      go_wp2_with (first
        | (refine wpList_build_step rfl [] rfl [] rfl built_none ?_)
        | fail)
      refine (add_any B rp many ai _ zStp _ HR.out.1 (by have := HH.out.2.1; rw [len_copies]; omega)).mono ?_
      rintro e w4 ⟨rfl, a4, h4, hm4⟩
      have hq4 := HR.out.2.2.step hm4
      have y0 : w4.cell? ⟨w.heap.size, 0, none⟩ = some (.iface ty x) := hq4.cell 0
      have H4 := Lib.hid (show _ ∧ _ ∧ _ from ⟨h4, HR.out.2.1.trans hm4, hq4⟩)
      rw [len_copies]
      obtain ⟨q, hq⟩ : ∃ q, l.length + i * t.size = q := ⟨_, rfl⟩
      rw [hq]
      have HQ := Lib.hid hq
      have hqn : q ≤ 100000 := by have := HH.out.2.1; omega
      clear h4 hm4 hq4 z0 z2 hq
      go_wp2_with fail
      refine (hl B rp many a4 _ (.iface ty x) _ H4.out.1 (HH.out.1.tree HH.out.2.2.1 (H4.out.2.1.below HH.out.1)) (by have := HH.out.2.1; have := HQ.out; rw [List.length_append, len_copies, List.length_singleton]; omega)).mono ?_
      rintro e w5 ⟨rfl, a5, h5, hm5⟩
      have hq5 := H4.out.2.2.step hm5
      have y4 : w5.cell? ⟨w.heap.size, 4, none⟩ = some (.bool lazy) := hq5.cell 4
      have hlen4 : (l ++ RX.copies t.lay t.size l.length i ++ [zStp]).length = q + 1 := by rw [List.length_append, len_copies, HQ.out, List.length_singleton]
      rw [hlen4] at h5
      have H5 := Lib.hid (show _ ∧ _ ∧ _ ∧ _ from ⟨h5, H4.out.2.1.trans hm5, hq5, hlen4⟩)
      clear h5 hm5 hq5 y0 hlen4
      go_wp2_with (first
        | (refine wpList_build_step rfl _ rfl [(0, .int .i64 4), (2, .int .i64 q)] rfl (built_jump q) ?_)
        | fail)
      refine (add_any B rp many a5 _ (Stp.jump q) _ H5.out.1 (by have := HH.out.2.1; have := HQ.out; rw [List.length_append, H5.out.2.2.2, t.lay_length]; omega)).mono ?_
      rintro e w6 ⟨rfl, a6, h6, hm6⟩
      have hq6 := H5.out.2.2.1.step hm6
      have x4 : w6.cell? ⟨w.heap.size, 4, none⟩ = some (.bool lazy) := hq6.cell 4
      obtain ⟨A6, c6, rfl, _, _⟩ := owns_slice h6.row
      have x0 := h6.c0
      have k1 : IntKind.i64.wrap ((q : Int) + 1) = (q : Int) + 1 := IntWalk.i64_in _ (by omega)
      have hlen6 : (l ++ RX.copies t.lay t.size l.length i ++ [zStp] ++ t.lay (q + 1) ++ [Stp.jump q]).length = q + t.size + 2 := by rw [List.length_append, List.length_append, H5.out.2.2.2, t.lay_length, List.length_singleton]; omega
      rw [hlen6] at x0
      obtain ⟨n6, hn6⟩ : ∃ n6, q + t.size + 2 = n6 := ⟨_, rfl⟩
      rw [hn6] at x0 hlen6
      have hqn6 : q < n6 := by omega
      have HN := Lib.hid (show _ ∧ _ from ⟨hn6, hqn6⟩)
      clear hqn6
      clear hn6
      have H6 := Lib.hid (show _ ∧ _ ∧ _ ∧ _ from ⟨h6, H5.out.2.1.trans hm6, hlen6, hq6⟩)
      clear h6 hm6 hq6 y4 hlen6
      go_wp2_with fail
      go_region_held3 (fun w' => w'.cell? ⟨rp, 0, none⟩ = some (.slice A6 (n6) c6) ∧ w'.cell? ⟨w.heap.size, 4, none⟩ = some (.bool lazy)) (first | exact ⟨v0, v4⟩ | exact ⟨x0, x4⟩ | go_keep)
        ((go_at_call 28; refine (fork_at B rp many _ _ q (q + 1) (n6) lazy _ (H6.out.1.below (bdN _ 1)) (by rw [H6.out.2.2.1]; exact HN.out.2)).mono ?_; rintro e w7 ⟨rfl, h7, hm7⟩; have v0 := h7.c0; rw [H6.out.2.2.1] at v0; have v4 : w7.cell? ⟨w.heap.size, 4, none⟩ = some (.bool lazy) := ((H6.out.2.2.2.below (bdN _ 1)).step hm7).cell 4; have H7 := Lib.hid (show _ ∧ _ from ⟨h7, H6.out.2.1.trans (Mch.pre (bdN _ 1) hm7)⟩); clear h7 hm7))
      go_wp2_with fail
      refine bodyPost_end (v := .tuple #[]) (by simp [results, Try.results23, go_sem]) rfl ⟨rfl, _, ?_, H7.out.2⟩
      have := H7.out.1
      rw [set_mid (by rw [len_copies]; exact HQ.out)] at this
      rw [HQ.out, HN.out.1]
      simpa using this
end Go.Proofs.Ytdpakjkldkddcaa
