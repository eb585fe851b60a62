/- Patterns' machine: again: a count without an end. Patterns' machine: a row of numbers beside it; forks laid ahead and mended. -/
import Derived.Test.YtamlnkmcbbeicaaDoorG27
namespace Go.Proofs.YtamlnkmcbbeicaaDoor
open Go.RowKit Go.Lib
open RX (PS Tr Pr Stp)

theorem copies_snoc {f : Nat → List Stp} {n : Nat} : ∀ (k b : Nat), RX.copies f n b (k + 1) = RX.copies f n b k ++ f (b + k * n)
  | 0, b => by simp [RX.copies]
  | k + 1, b => by
    rw [RX.copies, copies_snoc k (b + n), RX.copies, List.append_assoc, show b + n + k * n = b + (k + 1) * n by rw [Nat.succ_mul]; omega]
theorem set_mid {X Y J : List Stp} {z v : Stp} {q : Nat} (h : X.length = q) : (X ++ [z] ++ Y ++ J).set q v = X ++ v :: (Y ++ J) := by
  subst h
  simp
theorem len_copies (t : Tr) (l : List Stp) (k : Nat) : (l ++ RX.copies t.lay t.size l.length k).length = l.length + k * t.size := by rw [List.length_append, RX.copies_length t.lay_length]
set_option maxHeartbeats 8000000 in
set_option maxRecDepth 100000 in
theorem again_star (t : Tr) (hl : LayOk t) (least : Nat) (hle : least ≤ 1000) (lazy : Bool) : AgainOk t least none false lazy := by
  intro B rp many a l u w h htu hn
  obtain ⟨ty, x, rfl⟩ := htu.face
  have hs : (Tr.rep t least none false lazy).size = least * t.size + t.size + 2 := by simp [RX.Tr.size]
  have hla : (Tr.rep t least none false lazy).lay l.length = RX.copies t.lay t.size l.length least ++ .fork (l.length + least * t.size + 1) (l.length + least * t.size + t.size + 2) lazy :: (t.lay (l.length + least * t.size + 1) ++ [.jump (l.length + least * t.size)]) := by simp [RX.Tr.lay]
  rw [hs] at hn
  rw [hla]
  clear hs hla
  rw [show mostV none = -1 from rfl]
  have hb1 : Below w.heap.size w (w.alloc (.cells #[.iface ty x, .int .i64 least, .int .i64 (-1), .bool false, .bool lazy] 96)) := (Below.refl _ _).alloc (Nat.le_refl _) _
  have hx1 := Bx.new h #[.iface ty x, .int .i64 least, .int .i64 (-1), .bool false, .bool lazy] 96
  have HH := Lib.hid (show _ ∧ _ ∧ _ ∧ _ ∧ _ from ⟨h, hn, htu, hb1, hx1⟩)
  clear h hn htu hb1 hx1
  go_enter Tryd.func39, Tryd.ntmps39
  go_wp2_with fail
  go_loopw [34] (fun iv wr => ∃ (i : Nat) (ai : Value), i ≤ least ∧ iv = .int .i64 i ∧ Hid (Rgx B wr rp ai (l ++ RX.copies t.lay t.size l.length i) many ∧ Mch rp a w ai wr ∧ Bx rp ai wr w.heap.size (.cells #[.iface ty x, .int .i64 least, .int .i64 (-1), .bool false, .bool lazy] 96 (0, 0)))) (fun iv _ => least - (intOf iv).toNat)
  case atStart =>
    refine ⟨0, a, Nat.zero_le _, rfl, Lib.hid ⟨?_, Mch.post (Mch.refl _ _ _) HH.out.2.2.2.1, HH.out.2.2.2.2⟩⟩
    rw [RX.copies, List.append_nil]
    exact HH.out.1.below HH.out.2.2.2.1
  case round =>
    obtain ⟨i, ai, hi, rfl, HR⟩ := hrel
    have w2 : IntKind.i64.wrap ((i : Int) + 1) = (i : Int) + 1 := IntWalk.i64_in _ (by omega)
    have z0 : wr.cell? ⟨w.heap.size, 0, none⟩ = some (.iface ty x) := HR.out.2.2.cell 0
    have z2 : wr.cell? ⟨w.heap.size, 2, none⟩ = some (.int .i64 (-1)) := HR.out.2.2.cell 2
    have hmul : i * t.size ≤ least * t.size := Nat.mul_le_mul_right _ hi
    by_cases hlt : i < least
    · have i1 : (i : Int) < (least : Int) := by omega
      have hmul2 : (i + 1) * t.size ≤ least * t.size := Nat.mul_le_mul_right _ hlt
      have HM := Lib.hid hmul2
      clear hmul hmul2
      go_wp2_with fail
      refine (hl B rp many ai _ (.iface ty x) _ HR.out.1 (HH.out.1.tree HH.out.2.2.1 (HR.out.2.1.below HH.out.1)) (by have := HH.out.2.1; have := HM.out; rw [len_copies]; rw [Nat.succ_mul] at this; omega)).mono ?_
      rintro e w3 ⟨rfl, a3, h3, hm3⟩
      have hq3 := HR.out.2.2.step hm3
      have H3 := Lib.hid (show _ ∧ _ ∧ _ from ⟨h3, HR.out.2.1.trans hm3, hq3⟩)
      clear h3 hm3 hq3
      go_wp2_with fail
      go_roundw
      case measure => simp [intOf]; omega
      case rel =>
        refine ⟨i + 1, a3, hlt, by simp, Lib.hid ⟨?_, H3.out.2⟩⟩
        have := H3.out.1
        rw [len_copies, List.append_assoc, ← copies_snoc] at this
        exact this
    · obtain rfl : i = least := by omega
      have i1 : ¬ ((i : Nat) : Int) < (i : Int) := by omega
      clear hmul hi hlt
      go_wp2_with (first
        | (refine wpList_build_step rfl [] rfl [] rfl built_none ?_)
        | fail)
      refine (add_any B rp many ai _ zStp _ HR.out.1 (by have := HH.out.2.1; rw [len_copies]; omega)).mono ?_
      rintro e w4 ⟨rfl, a4, h4, hm4⟩
      have hq4 := HR.out.2.2.step hm4
      have y0 : w4.cell? ⟨w.heap.size, 0, none⟩ = some (.iface ty x) := hq4.cell 0
      have H4 := Lib.hid (show _ ∧ _ ∧ _ from ⟨h4, HR.out.2.1.trans hm4, hq4⟩)
      rw [len_copies]
      obtain ⟨q, hq⟩ : ∃ q, l.length + i * t.size = q := ⟨_, rfl⟩
      rw [hq]
      have HQ := Lib.hid hq
      have hqn : q ≤ 100000 := by have := HH.out.2.1; omega
      clear h4 hm4 hq4 z0 z2 hq
      go_wp2_with fail
      refine (hl B rp many a4 _ (.iface ty x) _ H4.out.1 (HH.out.1.tree HH.out.2.2.1 (H4.out.2.1.below HH.out.1)) (by have := HH.out.2.1; have := HQ.out; rw [List.length_append, len_copies, List.length_singleton]; omega)).mono ?_
      rintro e w5 ⟨rfl, a5, h5, hm5⟩
      have hq5 := H4.out.2.2.step hm5
      have y4 : w5.cell? ⟨w.heap.size, 4, none⟩ = some (.bool lazy) := hq5.cell 4
      have hlen4 : (l ++ RX.copies t.lay t.size l.length i ++ [zStp]).length = q + 1 := by rw [List.length_append, len_copies, HQ.out, List.length_singleton]
      rw [hlen4] at h5
      have H5 := Lib.hid (show _ ∧ _ ∧ _ ∧ _ from ⟨h5, H4.out.2.1.trans hm5, hq5, hlen4⟩)
      clear h5 hm5 hq5 y0 hlen4
      go_wp2_with (first
        | (refine wpList_build_step rfl _ rfl [(0, .int .i64 4), (2, .int .i64 q)] rfl (built_jump q) ?_)
        | fail)
      refine (add_any B rp many a5 _ (Stp.jump q) _ H5.out.1 (by have := HH.out.2.1; have := HQ.out; rw [List.length_append, H5.out.2.2.2, t.lay_length]; omega)).mono ?_
      rintro e w6 ⟨rfl, a6, h6, hm6⟩
      have hq6 := H5.out.2.2.1.step hm6
      have x4 : w6.cell? ⟨w.heap.size, 4, none⟩ = some (.bool lazy) := hq6.cell 4
      obtain ⟨A6, c6, rfl, _, _⟩ := owns_slice h6.row
      have x0 := h6.c0
      have k1 : IntKind.i64.wrap ((q : Int) + 1) = (q : Int) + 1 := IntWalk.i64_in _ (by omega)
      have hlen6 : (l ++ RX.copies t.lay t.size l.length i ++ [zStp] ++ t.lay (q + 1) ++ [Stp.jump q]).length = q + t.size + 2 := by rw [List.length_append, List.length_append, H5.out.2.2.2, t.lay_length, List.length_singleton]; omega
      rw [hlen6] at x0
      obtain ⟨n6, hn6⟩ : ∃ n6, q + t.size + 2 = n6 := ⟨_, rfl⟩
      rw [hn6] at x0 hlen6
      have hqn6 : q < n6 := by omega
      have HN := Lib.hid (show _ ∧ _ from ⟨hn6, hqn6⟩)
      clear hqn6
      clear hn6
      have H6 := Lib.hid (show _ ∧ _ ∧ _ ∧ _ from ⟨h6, H5.out.2.1.trans hm6, hlen6, hq6⟩)
      clear h6 hm6 hq6 y4 hlen6
      go_wp2_with fail
      go_region_held3 (fun w' => w'.cell? ⟨rp, 0, none⟩ = some (.slice A6 (n6) c6) ∧ w'.cell? ⟨w.heap.size, 4, none⟩ = some (.bool lazy)) (first | exact ⟨v0, v4⟩ | exact ⟨x0, x4⟩ | go_keep)
        ((go_at_call 48; refine (fork_at B rp many _ _ q (q + 1) (n6) lazy _ (H6.out.1.below (bdN _ 1)) (by rw [H6.out.2.2.1]; exact HN.out.2)).mono ?_; rintro e w7 ⟨rfl, h7, hm7⟩; have v0 := h7.c0; rw [H6.out.2.2.1] at v0; have v4 : w7.cell? ⟨w.heap.size, 4, none⟩ = some (.bool lazy) := ((H6.out.2.2.2.below (bdN _ 1)).step hm7).cell 4; have H7 := Lib.hid (show _ ∧ _ from ⟨h7, H6.out.2.1.trans (Mch.pre (bdN _ 1) hm7)⟩); clear h7 hm7))
      go_wp2_with fail
      refine bodyPost_end (v := .tuple #[]) (by simp [results, Tryd.results39, go_sem]) rfl ⟨rfl, _, ?_, H7.out.2⟩
      have := H7.out.1
      rw [set_mid (by rw [len_copies]; exact HQ.out)] at this
      rw [HQ.out, HN.out.1]
      simpa using this
end Go.Proofs.YtamlnkmcbbeicaaDoor
namespace Go.Proofs.YtamlnkmcbbeicaaDoor
open Go.RowKit Go.Lib
open RX (PS Tr Pr Stp)

theorem Tryd.infoIntM : (Tryd.prog.info? 3).map (fun i => (i.zero, i.size, i.bytes)) = some (some (.int .i64 0), 1, 8) := by kernel_rfl
/-- A row of numbers that is not the machine's. -/
structure Sd (rp : Nat) (a : Value) (W : World) (base : Nat) (v : Value) (n : Nat) (xs : List Value) : Prop where
  own : W.ownsRow base 3 1 v n xs
  ne : v.ownBlock ≠ some rp
  off : ∀ k, v.ownBlock = some k → a.ownBlock ≠ some k
section
variable {B rp base n many : Nat} {a a1 v : Value} {W w0 w1 : World} {xs : List Value} {l : List Stp}
theorem Sd.step (h : Sd rp a W base v n xs) (hm : Mch rp a W a1 w1) : Sd rp a1 w1 base v n xs := by
  refine ⟨hm.grown.owns h.own fun k hk e => ?_, h.ne, fun k hk e => ?_⟩
  · rcases e with e | e
    · exact h.ne (by rw [hk, e])
    · exact h.off k hk e
  · rcases hm.own k e with e | e
    · exact h.off k hk e
    · have := (h.own.lt k hk).2; omega
theorem Sd.below (h : Sd rp a W base v n xs) (hb : Below W.heap.size W w1) : Sd rp a w1 base v n xs := ⟨owns_below h.own hb, h.ne, h.off⟩
theorem Sd.nil (rp : Nat) (a : Value) (W : World) (base : Nat) : Sd rp a W base (.slice none 0 0) 0 [] := ⟨⟨rfl, .inl ⟨rfl, rfl⟩⟩, by simp [Value.ownBlock], fun k h => by cases h⟩
/-- The machine, when that row has grown. -/
theorem Sd.keep (h : Sd rp a W base v n xs) (hr : Rgx B W rp a l many) (hg : W.grownBy w1 v.ownBlock) : Rgx B w1 rp a l many := by
  refine ⟨(hg.block rp hr.lt (fun e => h.ne e.symm)).trans hr.box, hr.row.kept hg ?_, hr.ne, hr.lo⟩
  cases ha : a.ownBlock with
  | none => exact .inl rfl
  | some k => exact .inr fun e => h.off k e.symm ha
theorem Mch.keep (h : Mch rp a w0 a1 W) (hg : W.grownBy w1 v.ownBlock) (hr : ∀ k, v.ownBlock = some k → w0.heap.size ≤ k) : Mch rp a w0 a1 w1 :=
  ⟨h.grown.trans (GrownIn.of_grownBy hg) fun k hk e => absurd hk (by have := hr k e; omega), h.own⟩
theorem Bx.keep {k : Nat} {o : Obj} (h : Bx rp a W k o) (hg : W.grownBy w1 v.ownBlock) (hr : v.ownBlock ≠ some k) : Bx rp a w1 k o :=
  ⟨(hg.block k (Array.getElem?_eq_some_iff.1 h.heap).1 (fun e => hr e.symm)).trans h.heap, h.ne, h.off⟩
/-- One number more. -/
theorem Sd.snoc {W1 : World} {g c : Nat} {u : Value} (h : Sd rp a W base v n xs) (hr : Rgx B W rp a l many) (hb : Below W.heap.size W W1) (hl : v.ownBlock = some g ∨ g = W1.heap.size)
    (ho : w1.ownsRow base 3 1 (.slice (some ⟨g, 0, none⟩) (n + 1) c) (n + 1) (xs ++ [u])) : Sd rp a w1 base (.slice (some ⟨g, 0, none⟩) (n + 1) c) (n + 1) (xs ++ [u]) := by
  have hs := hb.size
  have hlt := hr.lt
  refine ⟨ho, fun e => ?_, fun k hk e => ?_⟩
  · have e : g = rp := by simpa [Value.ownBlock] using e
    rcases hl with hl | hl
    · exact h.ne (by rw [hl, e])
    · omega
  · have hk : g = k := by simpa [Value.ownBlock] using hk
    subst hk
    rcases hl with hl | hl
    · exact h.off g hl e
    · have := (hr.row.lt g e).2; omega
end
/-- Copies, each behind a step that is not yet a fork. -/
def forksZ (f : Nat → List Stp) (n : Nat) : Nat → Nat → List Stp
  | _, 0 => []
  | b, k + 1 => zStp :: (f (b + 1) ++ forksZ f n (b + 1 + n) k)
theorem forksZ_snoc {f : Nat → List Stp} {n : Nat} : ∀ (k b : Nat), forksZ f n b (k + 1) = forksZ f n b k ++ zStp :: f (b + k * (n + 1) + 1)
  | 0, b => by simp [forksZ]
  | k + 1, b => by
    rw [forksZ, forksZ_snoc k (b + 1 + n), forksZ, show b + 1 + n + k * (n + 1) + 1 = b + (k + 1) * (n + 1) + 1 by rw [Nat.succ_mul]; omega]
    simp
theorem forks_snoc {f : Nat → List Stp} {n fin : Nat} {lazy : Bool} : ∀ (k b : Nat), RX.forks f n fin lazy b (k + 1) = RX.forks f n fin lazy b k ++ .fork (b + k * (n + 1) + 1) fin lazy :: f (b + k * (n + 1) + 1)
  | 0, b => by simp [RX.forks]
  | k + 1, b => by
    rw [RX.forks, forks_snoc k (b + 1 + n), RX.forks, show b + 1 + n + k * (n + 1) + 1 = b + (k + 1) * (n + 1) + 1 by rw [Nat.succ_mul]; omega]
    simp
theorem forksZ_length {f : Nat → List Stp} {n : Nat} (hf : ∀ b, (f b).length = n) : ∀ k b, (forksZ f n b k).length = k * (n + 1)
  | 0, _ => by simp [forksZ]
  | k + 1, b => by rw [forksZ, List.length_cons, List.length_append, hf, forksZ_length hf k, Nat.succ_mul]; omega
/-- The machine with its first j forks mended. -/
def mended (f : Nat → List Stp) (n fin : Nat) (lazy : Bool) (L : List Stp) (k j : Nat) : List Stp := L ++ RX.forks f n fin lazy L.length j ++ forksZ f n (L.length + j * (n + 1)) (k - j)
theorem mended_zero (f : Nat → List Stp) (n fin : Nat) (lazy : Bool) (L : List Stp) (k : Nat) : mended f n fin lazy L k 0 = L ++ forksZ f n L.length k := by simp [mended, RX.forks]
theorem mended_end (f : Nat → List Stp) (n fin : Nat) (lazy : Bool) (L : List Stp) (k : Nat) : mended f n fin lazy L k k = L ++ RX.forks f n fin lazy L.length k := by simp [mended, forksZ]
theorem mended_length {f : Nat → List Stp} {n fin : Nat} {lazy : Bool} {L : List Stp} {k j : Nat} (hf : ∀ b, (f b).length = n) (hj : j ≤ k) : (mended f n fin lazy L k j).length = L.length + k * (n + 1) := by
  rw [mended, List.length_append, List.length_append, RX.forks_length hf, forksZ_length hf, Nat.add_assoc, ← Nat.add_mul, show j + (k - j) = k by omega]
theorem mended_step {f : Nat → List Stp} {n fin : Nat} {lazy : Bool} {L : List Stp} {k j : Nat} (hf : ∀ b, (f b).length = n) (hj : j < k) :
    (mended f n fin lazy L k j).set (L.length + j * (n + 1)) (.fork (L.length + j * (n + 1) + 1) fin lazy) = mended f n fin lazy L k (j + 1) := by
  unfold mended
  have hl : (L ++ RX.forks f n fin lazy L.length j).length = L.length + j * (n + 1) := by rw [List.length_append, RX.forks_length hf]
  rw [List.set_append_right _ _ (by rw [hl]; exact Nat.le_refl _), hl, Nat.sub_self]
  obtain ⟨r, hr⟩ : ∃ r, k - j = r + 1 := ⟨k - j - 1, by omega⟩
  rw [hr, show k - (j + 1) = r by omega, forksZ, List.set_cons_zero, forks_snoc, show L.length + (j + 1) * (n + 1) = L.length + j * (n + 1) + 1 + n by rw [Nat.succ_mul]; omega]
  simp
/-- Where the forks stand. -/
def posV (q n : Nat) (k : Nat) : List Value := (List.range k).map fun (j : Nat) => Value.int .i64 ((q + j * (n + 1) : Nat) : Int)
theorem posV_snoc (q n k : Nat) : posV q n (k + 1) = posV q n k ++ [.int .i64 ((q + k * (n + 1) : Nat) : Int)] := by simp [posV, List.range_succ]
theorem posV_at (q n : Nat) {k j : Nat} (h : j < k) : (posV q n k)[j]? = some (.int .i64 ((q + j * (n + 1) : Nat) : Int)) := by
  unfold posV
  rw [List.getElem?_map, List.getElem?_range h]; rfl
end Go.Proofs.YtamlnkmcbbeicaaDoor
