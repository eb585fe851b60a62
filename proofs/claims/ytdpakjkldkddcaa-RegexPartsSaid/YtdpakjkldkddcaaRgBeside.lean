/- Patterns' machine: a row of numbers beside it; forks laid ahead and mended. -/
import Derived.Test.YtdpakjkldkddcaaRgAgain2
namespace Go.Proofs.Ytdpakjkldkddcaa
open Go.RowKit Go.Lib
open RX (PS Tr Pr Stp)

theorem Try.infoIntM : (Try.prog.info? 3).map (fun i => (i.zero, i.size, i.bytes)) = some (some (.int .i64 0), 1, 8) := by kernel_rfl
/-- A row of numbers that is not the machine's. -/
structure Sd (rp : Nat) (a : Value) (W : World) (base : Nat) (v : Value) (n : Nat) (xs : List Value) : Prop where
  own : W.ownsRow base 3 1 v n xs
  ne : v.ownBlock ≠ some rp
  off : ∀ k, v.ownBlock = some k → a.ownBlock ≠ some k
section
variable {B rp base n many : Nat} {a a1 v : Value} {W w0 w1 : World} {xs : List Value} {l : List Stp}
theorem Sd.step (h : Sd rp a W base v n xs) (hm : Mch rp a W a1 w1) : Sd rp a1 w1 base v n xs := by
  refine ⟨hm.grown.owns h.own fun k hk e => ?_, h.ne, fun k hk e => ?_⟩
  · rcases e with e | e
    · exact h.ne (by rw [hk, e])
    · exact h.off k hk e
  · rcases hm.own k e with e | e
    · exact h.off k hk e
    · have := (h.own.lt k hk).2; omega
theorem Sd.below (h : Sd rp a W base v n xs) (hb : Below W.heap.size W w1) : Sd rp a w1 base v n xs := ⟨owns_below h.own hb, h.ne, h.off⟩
theorem Sd.nil (rp : Nat) (a : Value) (W : World) (base : Nat) : Sd rp a W base (.slice none 0 0) 0 [] := ⟨⟨rfl, .inl ⟨rfl, rfl⟩⟩, by simp [Value.ownBlock], fun k h => by cases h⟩
/-- The machine, when that row has grown. -/
theorem Sd.keep (h : Sd rp a W base v n xs) (hr : Rgx B W rp a l many) (hg : W.grownBy w1 v.ownBlock) : Rgx B w1 rp a l many := by
  refine ⟨(hg.block rp hr.lt (fun e => h.ne e.symm)).trans hr.box, hr.row.kept hg ?_, hr.ne, hr.lo⟩
  cases ha : a.ownBlock with
  | none => exact .inl rfl
  | some k => exact .inr fun e => h.off k e.symm ha
theorem Mch.keep (h : Mch rp a w0 a1 W) (hg : W.grownBy w1 v.ownBlock) (hr : ∀ k, v.ownBlock = some k → w0.heap.size ≤ k) : Mch rp a w0 a1 w1 :=
  ⟨h.grown.trans (GrownIn.of_grownBy hg) fun k hk e => absurd hk (by have := hr k e; omega), h.own⟩
theorem Bx.keep {k : Nat} {o : Obj} (h : Bx rp a W k o) (hg : W.grownBy w1 v.ownBlock) (hr : v.ownBlock ≠ some k) : Bx rp a w1 k o :=
  ⟨(hg.block k (Array.getElem?_eq_some_iff.1 h.heap).1 (fun e => hr e.symm)).trans h.heap, h.ne, h.off⟩
/-- One number more. -/
theorem Sd.snoc {W1 : World} {g c : Nat} {u : Value} (h : Sd rp a W base v n xs) (hr : Rgx B W rp a l many) (hb : Below W.heap.size W W1) (hl : v.ownBlock = some g ∨ g = W1.heap.size)
    (ho : w1.ownsRow base 3 1 (.slice (some ⟨g, 0, none⟩) (n + 1) c) (n + 1) (xs ++ [u])) : Sd rp a w1 base (.slice (some ⟨g, 0, none⟩) (n + 1) c) (n + 1) (xs ++ [u]) := by
  have hs := hb.size
  have hlt := hr.lt
  refine ⟨ho, fun e => ?_, fun k hk e => ?_⟩
  · have e : g = rp := by simpa [Value.ownBlock] using e
    rcases hl with hl | hl
    · exact h.ne (by rw [hl, e])
    · omega
  · have hk : g = k := by simpa [Value.ownBlock] using hk
    subst hk
    rcases hl with hl | hl
    · exact h.off g hl e
    · have := (hr.row.lt g e).2; omega
end
/-- Copies, each behind a step that is not yet a fork. -/
def forksZ (f : Nat → List Stp) (n : Nat) : Nat → Nat → List Stp
  | _, 0 => []
  | b, k + 1 => zStp :: (f (b + 1) ++ forksZ f n (b + 1 + n) k)
theorem forksZ_snoc {f : Nat → List Stp} {n : Nat} : ∀ (k b : Nat), forksZ f n b (k + 1) = forksZ f n b k ++ zStp :: f (b + k * (n + 1) + 1)
  | 0, b => by simp [forksZ]
  | k + 1, b => by
    rw [forksZ, forksZ_snoc k (b + 1 + n), forksZ, show b + 1 + n + k * (n + 1) + 1 = b + (k + 1) * (n + 1) + 1 by rw [Nat.succ_mul]; omega]
    simp
theorem forks_snoc {f : Nat → List Stp} {n fin : Nat} {lazy : Bool} : ∀ (k b : Nat), RX.forks f n fin lazy b (k + 1) = RX.forks f n fin lazy b k ++ .fork (b + k * (n + 1) + 1) fin lazy :: f (b + k * (n + 1) + 1)
  | 0, b => by simp [RX.forks]
  | k + 1, b => by
    rw [RX.forks, forks_snoc k (b + 1 + n), RX.forks, show b + 1 + n + k * (n + 1) + 1 = b + (k + 1) * (n + 1) + 1 by rw [Nat.succ_mul]; omega]
    simp
theorem forksZ_length {f : Nat → List Stp} {n : Nat} (hf : ∀ b, (f b).length = n) : ∀ k b, (forksZ f n b k).length = k * (n + 1)
  | 0, _ => by simp [forksZ]
  | k + 1, b => by rw [forksZ, List.length_cons, List.length_append, hf, forksZ_length hf k, Nat.succ_mul]; omega
/-- The machine with its first j forks mended. -/
def mended (f : Nat → List Stp) (n fin : Nat) (lazy : Bool) (L : List Stp) (k j : Nat) : List Stp := L ++ RX.forks f n fin lazy L.length j ++ forksZ f n (L.length + j * (n + 1)) (k - j)
theorem mended_zero (f : Nat → List Stp) (n fin : Nat) (lazy : Bool) (L : List Stp) (k : Nat) : mended f n fin lazy L k 0 = L ++ forksZ f n L.length k := by simp [mended, RX.forks]
theorem mended_end (f : Nat → List Stp) (n fin : Nat) (lazy : Bool) (L : List Stp) (k : Nat) : mended f n fin lazy L k k = L ++ RX.forks f n fin lazy L.length k := by simp [mended, forksZ]
theorem mended_length {f : Nat → List Stp} {n fin : Nat} {lazy : Bool} {L : List Stp} {k j : Nat} (hf : ∀ b, (f b).length = n) (hj : j ≤ k) : (mended f n fin lazy L k j).length = L.length + k * (n + 1) := by
  rw [mended, List.length_append, List.length_append, RX.forks_length hf, forksZ_length hf, Nat.add_assoc, ← Nat.add_mul, show j + (k - j) = k by omega]
theorem mended_step {f : Nat → List Stp} {n fin : Nat} {lazy : Bool} {L : List Stp} {k j : Nat} (hf : ∀ b, (f b).length = n) (hj : j < k) :
    (mended f n fin lazy L k j).set (L.length + j * (n + 1)) (.fork (L.length + j * (n + 1) + 1) fin lazy) = mended f n fin lazy L k (j + 1) := by
  unfold mended
  have hl : (L ++ RX.forks f n fin lazy L.length j).length = L.length + j * (n + 1) := by rw [List.length_append, RX.forks_length hf]
  rw [List.set_append_right _ _ (by rw [hl]; exact Nat.le_refl _), hl, Nat.sub_self]
  obtain ⟨r, hr⟩ : ∃ r, k - j = r + 1 := ⟨k - j - 1, by omega⟩
  rw [hr, show k - (j + 1) = r by omega, forksZ, List.set_cons_zero, forks_snoc, show L.length + (j + 1) * (n + 1) = L.length + j * (n + 1) + 1 + n by rw [Nat.succ_mul]; omega]
  simp
/-- Where the forks stand. -/
def posV (q n : Nat) (k : Nat) : List Value := (List.range k).map fun (j : Nat) => Value.int .i64 ((q + j * (n + 1) : Nat) : Int)
theorem posV_snoc (q n k : Nat) : posV q n (k + 1) = posV q n k ++ [.int .i64 ((q + k * (n + 1) : Nat) : Int)] := by simp [posV, List.range_succ]
theorem posV_at (q n : Nat) {k j : Nat} (h : j < k) : (posV q n k)[j]? = some (.int .i64 ((q + j * (n + 1) : Nat) : Int)) := by
  unfold posV
  rw [List.getElem?_map, List.getElem?_range h]; rfl
end Go.Proofs.Ytdpakjkldkddcaa
