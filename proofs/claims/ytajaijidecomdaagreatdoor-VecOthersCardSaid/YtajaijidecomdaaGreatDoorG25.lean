/- The document's whole numbers: trim, Bits; Int at 2, 3, 6. Whole numbers as words of 32 bits: from 64 bits, compared, sums, differences. No program in sight. -/
import Derived.Test.YtajaijidecomdaaGreatDoorG07
import Derived.Deep.QuietTactic
import Derived.BigQuiet
import Derived.OwnWalk
import Derived.Laws.AppendOwnNone
import Derived.Lib.Hide
import Derived.Test.YtajaijidecomdaaGreatDoorG24
import Derived.Test.YtajaijidecomdaaGreatDoorG06
namespace Go.Proofs.YtajaijidecomdaaGreatDoor
open Go.RowKit Go.Lib

def encD (d : Nat) : List Value := [.int .u32 d]
theorem encD_len (d : Nat) : (encD d).length = 1 := rfl
theorem trim_take : ∀ (ds : List Nat) (k : Nat), k ≤ ds.length → (∀ j, k ≤ j → j < ds.length → ds[j]? = some 0) → (k = 0 ∨ ∃ d, ds[k - 1]? = some d ∧ d ≠ 0) → FL.trimD ds = ds.take k
  | [], k, _, _, _ => by simp [FL.trimD]
  | d :: ds, k, hk, h0, hl => by
    cases k with
    | zero =>
      have h1 : FL.trimD ds = [] := by
        have := trim_take ds 0 (Nat.zero_le _) (fun j _ hj => by have := h0 (j + 1) (Nat.zero_le _) (by simpa using hj); simpa using this) (.inl rfl)
        simpa using this
      have h2 : d = 0 := by have := h0 0 (Nat.le_refl _) (by simp); simpa using this
      simp [FL.trimD, h1, h2]
    | succ k =>
      have h1 : FL.trimD ds = ds.take k := trim_take ds k (by simpa using hk) (fun j hj hjl => by have := h0 (j + 1) (by omega) (by simpa using hjl); simpa using this) (by
        rcases hl with h | ⟨e, he, h⟩
        · omega
        · cases k with
          | zero => exact .inl rfl
          | succ k => exact .inr ⟨e, by simpa using he, h⟩)
      unfold FL.trimD
      rw [if_neg]
      · rw [h1]; rfl
      · rintro ⟨e1, e2⟩
        rcases hl with h | ⟨e, he, h⟩
        · omega
        · cases k with
          | zero => simp at he; exact h (he ▸ e1)
          | succ k =>
            have he' : ds[k]? = some e := by simpa using he
            rw [h1] at e2
            have hkl := (List.getElem?_eq_some_iff.1 he').1
            have := congrArg List.length e2
            rw [List.length_take, List.length_nil] at this
            omega
set_option maxHeartbeats 4000000 in
set_option maxRecDepth 100000 in
theorem trim_any (A : Option Addr) (n c : Nat) (ds : List Nat) (w : World) (hL : Lst encD 1 w w.heap.size A n ds) (hc : n ≤ c) (hcm : c ≤ maxLen) : Calls Tryz.prog 190 #[.slice A n c] w fun e w' => e = .returned (.slice A (FL.trimD ds).length c) ∧ Lst encD 1 w' w'.heap.size A (FL.trimD ds).length (FL.trimD ds) ∧ Below w.heap.size w w' := by
  have HL := Lib.hid hL
  have hln := hL.1
  unfold maxLen at hcm
  clear hL
  go_enter Tryz.func190, Tryz.ntmps190
  go_wp2
  go_loopw [0] (fun v wr => ∃ k : Nat, k ≤ n ∧ v = .slice A k c ∧ Hid ((∀ j, k ≤ j → j < ds.length → ds[j]? = some 0) ∧ Below w.heap.size w wr)) (fun v _ => match v with | .slice _ k _ => k | _ => 0)
  case atStart => exact ⟨n, Nat.le_refl _, rfl, Lib.hid ⟨fun j h1 h2 => absurd h2 (by omega), Below.refl _ _⟩⟩
  case round =>
    obtain ⟨k, hk, rfl, HR⟩ := hrel
    by_cases h0 : k = 0
    · subst h0
      have ht := trim_take ds 0 (Nat.zero_le _) HR.out.1 (.inl rfl)
      have HT := Lib.hid ht
      clear ht
      go_wp2_with (go_quiet (fail))
      go_ret
      refine ⟨by rw [HT.out]; rfl, ?_, by first | exact HR.out.2 | exact below_drewN HR.out.2 _⟩
      rw [HT.out]
      exact ⟨rfl, fun h => absurd h (by simp)⟩
    · obtain ⟨b, off, x, rfl, hb, hx, hcl⟩ := HL.out.at (k := k - 1) (by omega)
      have c0 := (HR.out.2.cell (p := ⟨b, off + (k - 1) * 1 + 0, none⟩) hb).trans (hcl 0 _ rfl)
      obtain ⟨m, hm⟩ : ∃ m, k - 1 = m := ⟨_, rfl⟩
      rw [hm] at c0 hx
      simp only [Nat.add_zero, Nat.mul_one] at c0
      have i0 : (0 : Int) < (k : Int) := by omega
      have hw1 : IntKind.i64.wrap ((k : Int) - 1) = (m : Int) := by rw [show (k : Int) - 1 = m by omega]; exact IntWalk.i64_in _ (by omega)
      have i3 : (0 : Int) ≤ (m : Int) := by omega
      have i4 : (m : Int) < (k : Int) := by omega
      have i5 : (m : Int) ≤ (c : Int) := by omega
      have HX := Lib.hid (show _ ∧ _ from ⟨hx, hm⟩)
      clear hcl hx hm
      by_cases hx0 : x = 0
      · subst hx0
        go_wp2_with (go_quiet (fail))
        go_roundw
        case measure => simp; omega
        case rel => exact ⟨m, by omega, by simp, Lib.hid ⟨fun j h1 h2 => by
          by_cases hj : j = m
          · subst hj; exact HX.out.1
          · exact HR.out.1 j (by have := HX.out.2; omega) h2, by first | exact HR.out.2 | exact below_drewN HR.out.2 _⟩⟩
      · have ht := trim_take ds k (by omega) HR.out.1 (.inr ⟨x, by rw [HX.out.2]; exact HX.out.1, hx0⟩)
        have z1 : ((x : Int) == 0) = false := beq_eq_false_iff_ne.2 (by omega)
        have HT := Lib.hid ht
        clear ht
        go_wp2_with (go_quiet (fail))
        go_ret
        have hlen : (ds.take k).length = k := by rw [List.length_take]; omega
        have hbl : Below w.heap.size w wr := HR.out.2
        refine ⟨by rw [HT.out, hlen]; rfl, ?_, by first | exact HR.out.2 | exact below_drewN HR.out.2 _⟩
        rw [HT.out, hlen]
        first
          | exact ((HL.out.below HR.out.2).more HR.out.2.size).take hk
          | exact ((HL.out.below (below_drewN HR.out.2 _)).more (below_drewN HR.out.2 _).size).take hk
/-- A whole number in memory. -/
def NatAt (w : World) (v : Value) (N : Nat) : Prop := ∃ A c, v = .slice A (FL.digs N).length c ∧ Lst encD 1 w w.heap.size A (FL.digs N).length (FL.digs N)
set_option maxHeartbeats 4000000 in
set_option maxRecDepth 100000 in
theorem nbits_any (A : Option Addr) (c N : Nat) (w : World) (hL : Lst encD 1 w w.heap.size A (FL.digs N).length (FL.digs N)) (hbig : (FL.digs N).length ≤ 1000000) : Calls Tryz.prog 186 #[.slice A (FL.digs N).length c] w fun e w' => e = .returned (.int .i64 (FL.bitsN N)) ∧ Below w.heap.size w w' := by
  by_cases h0 : N = 0
  · subst h0
    rw [FL.digs_zero] at *
    rw [FL.bitsN_zero]
    go_enter Tryz.func186, Tryz.ntmps186
    go_wp2
    go_ret
    exact ⟨rfl, Below.refl _ _⟩
  · obtain ⟨d, hd, hd0, hd32, hlp, hbn⟩ := FL.bits_digs h0
    obtain ⟨m, hm⟩ : ∃ m, (FL.digs N).length - 1 = m := ⟨_, rfl⟩
    obtain ⟨n, hn⟩ : ∃ n, (FL.digs N).length = n := ⟨_, rfl⟩
    rw [hm] at hd hbn
    rw [hn] at hL hm hlp hbig ⊢
    obtain ⟨b, off, x, rfl, hb, hx, hcl⟩ := hL.at (k := m) (by omega)
    obtain rfl : d = x := by rw [hd] at hx; injection hx
    have c0 := hcl 0 _ rfl
    simp only [Nat.add_zero, Nat.mul_one] at c0
    rw [hbn]
    have hw1 : IntKind.i64.wrap ((n : Int) - 1) = (m : Int) := by rw [show (n : Int) - 1 = m by omega]; exact IntWalk.i64_in _ (by omega)
    have hw2 : IntKind.i64.wrap (32 * (m : Int)) = (32 * m : Nat) := by rw [show (32 : Int) * m = ((32 * m : Nat) : Int) by simp]; exact IntWalk.i64_in _ (by omega)
    have i3 : (0 : Int) ≤ (m : Int) := by omega
    have i4 : (m : Int) < (n : Int) := by omega
    have i5 : ¬ (n : Int) = 0 := by omega
    have i6 : ((n : Int) == 0) = false := beq_eq_false_iff_ne.2 i5
    have hbd : FL.bitsN d ≤ 32 := (FL.bitsN_le_iff).2 hd32
    clear hL hd hx hcl hbn hn
    go_enter Tryz.func186, Tryz.ntmps186
    go_wp2
    go_loopw [3, 4] (fun kv xv wr => ∃ k y : Nat, kv = .int .i64 k ∧ xv = .int .u32 y ∧ Hid (k + FL.bitsN y = 32 * m + FL.bitsN d) ∧ y < 2 ^ 32 ∧ k ≤ 40000000 ∧ Below w.heap.size w wr) (fun _ xv _ => (intOf xv).toNat)
    case atStart => exact ⟨32 * m, d, rfl, rfl, Lib.hid rfl, hd32, by omega, Below.refl _ _⟩
    case round =>
      obtain ⟨k, y, rfl, rfl, HR, hy, hk, hbl⟩ := hrel
      by_cases hy0 : y = 0
      · subst hy0
        have hke : k = 32 * m + FL.bitsN d := by have := HR.out; rw [FL.bitsN_zero] at this; omega
        go_wp2
        go_ret
        exact ⟨by first | rfl | (rw [hke]; rfl), hbl⟩
      · have y0 : (0 : Int) < (y : Int) := by omega
        have hh := FL.bitsN_half hy0
        have HN := Lib.hid (show (k + 1) + FL.bitsN (y / 2) = 32 * m + FL.bitsN d by have := HR.out; omega)
        have hk2 : k + 1 ≤ 32 * m + FL.bitsN d := by have := HR.out; omega
        clear hh
        go_wp2
        go_roundw
        case measure => simp [intOf]; omega
        case rel => exact ⟨k + 1, y / 2, by simp, by simp, HN, by omega, by omega, hbl⟩
theorem Tryz.infoWord : (Tryz.prog.info? 182).map (fun i => (i.zero, i.size, i.bytes)) = some (some (.int .u32 0), 1, 4) := by kernel_rfl
theorem natAt_own {w : World} {B n : Nat} {v : Value} {ds : List Nat} (h : w.ownsRow B 182 1 v n (ds.flatMap encD)) : ∃ A c, v = .slice A n c ∧ Lst encD 1 w w.heap.size A n ds ∧ n ≤ c ∧ c ≤ maxLen := by
  obtain ⟨A, c, rfl, h1, h2⟩ := owns_slice h
  exact ⟨A, c, rfl, (owns_lst h encD_len (by omega)).1, h1, h2⟩
set_option maxHeartbeats 4000000 in
set_option maxRecDepth 100000 in
/-- From at a number below 2^32. -/
theorem from_lit (d : Nat) (hd0 : d ≠ 0) (hd : d < 2 ^ 32) (w : World) (h1 : bits .and .u64 (d : Int) 4294967295 = (d : Int)) : Calls Tryz.prog 132 #[.int .u64 d] w fun e w' => ∃ A c, e = .returned (.slice A 1 c) ∧ Lst encD 1 w' w'.heap.size A 1 [d] ∧ Below w.heap.size w w' := by
  obtain ⟨i0, hi, hz0, hz1, hz2⟩ := info_parts Tryz.infoWord
  have hdd : (d : Int) / 4294967296 = 0 := by omega
  go_enter Tryz.func132, Tryz.ntmps132
  go_wp2_with (first
    | (at_builtin; refine wpList_append_own _ rfl _ _ 155 rfl w.heap.size 182 i0 _ 1 4 Tryz.underlying155 hi hz0 hz1 hz2 rfl (by omega) _ 0 [] rfl (World.ownsRow_nil _ _ _ _) ⟨w.heap.size, 0, none⟩ 2 2 [.int .u32 d, .int .u32 0] rfl rfl (cells_newL w [.int .u32 d, .int .u32 0] _) (by simp [Value.oneCell']) (by unfold maxLen; omega) (by omega) (by simp) ?_)
    | fail)
  intro v5 w5 hown5 hg5 _
  obtain ⟨A5, c5, rfl, hl5, hc1, hc2⟩ := natAt_own (ds := [d, 0]) hown5
  have hold5 : Below w.heap.size w w5 := ((Below.refl _ w).alloc (Nat.le_refl _) _).grown hg5 (by simp) (fun j hj => by simp [Value.ownBlock] at hj)
  have ht := trim_any A5 2 c5 [d, 0] w5 hl5 hc1 hc2
  have htr : FL.trimD [d, 0] = [d] := by simp [FL.trimD, hd0]
  rw [htr] at ht
  have HT := Lib.hid (show _ ∧ _ from ⟨ht, hold5⟩)
  clear hown5 hg5 hl5 hc1 hc2 hold5 ht htr hi hz0 hz1 hz2
  go_wp2_with (first | (go_at_call 190; refine HT.out.1.mono ?_; rintro e w6 ⟨rfl, hl6, hb6⟩; have H6 := Lib.hid (show _ ∧ _ from ⟨hl6, HT.out.2.trans (hb6.mono HT.out.2.size)⟩); clear hl6 hb6))
  go_ret
  exact ⟨A5, c5, rfl, H6.out.1, H6.out.2⟩
end Go.Proofs.YtajaijidecomdaaGreatDoor
namespace Go.Proofs.YtajaijidecomdaaGreatDoor.FL

/-- The word at a place. -/
def dig (N i : Nat) : Nat := N / 2 ^ (32 * i) % 2 ^ 32
theorem dig_lt (N i : Nat) : dig N i < 2 ^ 32 := Nat.mod_lt _ (by decide)
theorem digs_get {N i : Nat} (h : i < (digs N).length) : (digs N)[i]? = some (dig N i) := by
  have := digs_at N i
  rw [List.getElem?_eq_getElem h] at this ⊢
  exact congrArg some this
theorem digs_dig {N i d : Nat} (h : (digs N)[i]? = some d) : d = dig N i := by
  have := digs_get (List.getElem?_eq_some_iff.1 h).1
  rw [h] at this
  exact Option.some.inj this
theorem digs_top (N : Nat) {i : Nat} (h : (digs N).length ≤ i) : N < 2 ^ (32 * i) := by
  by_cases h0 : N = 0
  · subst h0; exact Nat.pow_pos (by omega)
  · exact Nat.lt_of_lt_of_le (digs_len N h0).2 (Nat.pow_le_pow_right (by omega) (by omega))
theorem dig_top {N i : Nat} (h : (digs N).length ≤ i) : dig N i = 0 := by
  unfold dig
  rw [Nat.div_eq_of_lt (digs_top N h)]
theorem pow_next (i : Nat) : 2 ^ (32 * (i + 1)) = 2 ^ (32 * i) * 2 ^ 32 := by rw [Nat.mul_add, Nat.pow_add]
theorem mod_next (N i : Nat) : N % 2 ^ (32 * (i + 1)) = N % 2 ^ (32 * i) + 2 ^ (32 * i) * dig N i := by
  rw [pow_next, Nat.mod_mul]; rfl
theorem natOf_two (a b : Nat) : natOf [a, b] = a + 2 ^ 32 * b := by simp [natOf]
theorem natOf_one (a : Nat) : natOf [a] = a := by simp [natOf]
theorem from_words (n : Nat) (h : n < 2 ^ 64) : Words [n % 2 ^ 32, n / 2 ^ 32] := by
  intro d hd
  simp only [List.mem_cons, List.not_mem_nil, or_false] at hd
  rcases hd with rfl | rfl <;> omega
theorem from_digs (n : Nat) (h : n < 2 ^ 64) : trimD [n % 2 ^ 32, n / 2 ^ 32] = digs n := by
  rw [trim_digs _ (from_words n h), natOf_two]
  congr 1
  omega
theorem low_digs (N : Nat) : dig N 0 + 2 ^ 32 * dig N 1 = N % 2 ^ 64 := by
  unfold dig
  simp only [Nat.mul_zero, Nat.pow_zero, Nat.div_one, Nat.mul_one]
  have : (2 : Nat) ^ 64 = 2 ^ 32 * 2 ^ 32 := by decide
  rw [this, Nat.mod_mul]
/-- Which one is less, word by word from the top. -/
theorem less_len {N M : Nat} (h : (digs N).length < (digs M).length) : N < M := by
  have h1 := digs_top N (Nat.le_refl _)
  have hM : M ≠ 0 := by rintro rfl; rw [digs_zero] at h; simp at h
  have h2 := (digs_len M hM).1
  have h3 : 2 ^ (32 * (digs N).length) ≤ 2 ^ (32 * ((digs M).length - 1)) := Nat.pow_le_pow_right (by omega) (by omega)
  omega
theorem split_top (N i : Nat) : N / 2 ^ (32 * i) = 2 ^ 32 * (N / 2 ^ (32 * (i + 1))) + dig N i := by
  unfold dig
  rw [pow_next, ← Nat.div_div_eq_div_mul]
  exact (Nat.div_add_mod _ _).symm
theorem less_step {N M i : Nat} (h : N / 2 ^ (32 * (i + 1)) = M / 2 ^ (32 * (i + 1))) (hd : dig N i < dig M i) : N < M := by
  have h1 := split_top N i
  have h2 := split_top M i
  rw [h] at h1
  refine Nat.lt_of_not_le fun hle => ?_
  have := Nat.div_le_div_right (c := 2 ^ (32 * i)) hle
  omega
theorem less_same {N M i : Nat} (h : N / 2 ^ (32 * (i + 1)) = M / 2 ^ (32 * (i + 1))) (hd : dig N i = dig M i) : N / 2 ^ (32 * i) = M / 2 ^ (32 * i) := by
  rw [split_top N i, split_top M i, h, hd]
theorem less_start {N M : Nat} (h : (digs N).length = (digs M).length) : N / 2 ^ (32 * (digs N).length) = M / 2 ^ (32 * (digs N).length) := by
  rw [Nat.div_eq_of_lt (digs_top N (Nat.le_refl _)), Nat.div_eq_of_lt (digs_top M (by omega))]
theorem less_end {N M : Nat} (h : N / 2 ^ (32 * 0) = M / 2 ^ (32 * 0)) : N = M := by simpa using h
/-- The sum so far. -/
def PlusInv (N M i : Nat) (out : List Nat) (c : Nat) : Prop := out.length = i ∧ Words out ∧ c ≤ 1 ∧ natOf out + 2 ^ (32 * i) * c = N % 2 ^ (32 * i) + M % 2 ^ (32 * i)
theorem PlusInv.start (N M : Nat) : PlusInv N M 0 [] 0 := ⟨rfl, fun d hd => by simp at hd, by omega, by simp [natOf, Nat.mod_one]⟩
theorem words_snoc {l : List Nat} {d : Nat} (h : Words l) (hd : d < 2 ^ 32) : Words (l ++ [d]) := fun x hx => by
  rcases List.mem_append.1 hx with hx | hx
  · exact h x hx
  · rw [List.mem_singleton.1 hx]; exact hd
theorem add_arith (o P s B : Nat) : o + P * (s % B) + P * B * (s / B) = o + P * s := by
  have h := Nat.div_add_mod s B
  have h2 : P * (B * (s / B) + s % B) = P * s := congrArg _ h
  rw [Nat.mul_add, ← Nat.mul_assoc] at h2
  omega
theorem PlusInv.step {N M i c : Nat} {out : List Nat} (h : PlusInv N M i out c) : PlusInv N M (i + 1) (out ++ [(c + dig N i + dig M i) % 2 ^ 32]) ((c + dig N i + dig M i) / 2 ^ 32) := by
  obtain ⟨h1, h2, h3, h4⟩ := h
  have hn := dig_lt N i
  have hm := dig_lt M i
  refine ⟨by simp [h1], words_snoc h2 (Nat.mod_lt _ (by decide)), by omega, ?_⟩
  rw [natOf_append, natOf_one, h1, mod_next, mod_next, pow_next, add_arith, Nat.mul_add, Nat.mul_add]
  omega
theorem PlusInv.end_ {N M i : Nat} {out : List Nat} (h : PlusInv N M i out 0) (hn : (digs N).length ≤ i) (hm : (digs M).length ≤ i) : trimD out = digs (N + M) := by
  obtain ⟨h1, h2, h3, h4⟩ := h
  rw [Nat.mod_eq_of_lt (digs_top N hn), Nat.mod_eq_of_lt (digs_top M hm)] at h4
  rw [trim_digs _ h2]
  congr 1
/-- The difference so far. -/
def MinusInv (N M i : Nat) (out : List Nat) (b : Nat) : Prop := out.length = i ∧ Words out ∧ b ≤ 1 ∧ natOf out + M % 2 ^ (32 * i) = N % 2 ^ (32 * i) + 2 ^ (32 * i) * b
theorem MinusInv.start (N M : Nat) : MinusInv N M 0 [] 0 := ⟨rfl, fun d hd => by simp at hd, by omega, by simp [natOf, Nat.mod_one]⟩
theorem MinusInv.step {N M i b d b' : Nat} {out : List Nat} (h : MinusInv N M i out b) (hd : d < 2 ^ 32) (hb : b' ≤ 1) (he : d + (b + dig M i) = dig N i + 2 ^ 32 * b') : MinusInv N M (i + 1) (out ++ [d]) b' := by
  obtain ⟨h1, h2, h3, h4⟩ := h
  refine ⟨by simp [h1], words_snoc h2 hd, hb, ?_⟩
  rw [natOf_append, natOf_one, h1, mod_next, mod_next, pow_next]
  have h5 : 2 ^ (32 * i) * (d + (b + dig M i)) = 2 ^ (32 * i) * (dig N i + 2 ^ 32 * b') := congrArg _ he
  rw [Nat.mul_add, Nat.mul_add, Nat.mul_add, ← Nat.mul_assoc] at h5
  omega
theorem MinusInv.less {N M i b : Nat} {out : List Nat} (h : MinusInv N M i out b) (hx : dig N i < b + dig M i) : MinusInv N M (i + 1) (out ++ [dig N i + 2 ^ 32 - (b + dig M i)]) 1 := by
  have hm := dig_lt M i
  have hb := h.2.2.1
  exact h.step (by omega) (Nat.le_refl _) (by omega)
theorem MinusInv.more {N M i b : Nat} {out : List Nat} (h : MinusInv N M i out b) (hx : ¬ dig N i < b + dig M i) : MinusInv N M (i + 1) (out ++ [dig N i - (b + dig M i)]) 0 := by
  have hn := dig_lt N i
  exact h.step (by omega) (Nat.zero_le _) (by omega)
theorem MinusInv.end_ {N M b : Nat} {out : List Nat} (h : MinusInv N M (digs N).length out b) (hle : M ≤ N) : trimD out = digs (N - M) := by
  obtain ⟨h1, h2, h3, h4⟩ := h
  have hN := digs_top N (Nat.le_refl _)
  rw [Nat.mod_eq_of_lt hN, Nat.mod_eq_of_lt (by omega : M < _)] at h4
  have h5 := natOf_lt out h2
  rw [h1] at h5
  have hb : b = 0 := by
    rcases (show b = 0 ∨ b = 1 by omega) with h | h
    · exact h
    · subst h; omega
  subst hb
  rw [trim_digs _ h2]
  congr 1
  omega
end Go.Proofs.YtajaijidecomdaaGreatDoor.FL
