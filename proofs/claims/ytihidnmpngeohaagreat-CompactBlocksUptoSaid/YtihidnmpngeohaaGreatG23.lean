/- The document's Tombs. The document's Series: what is known at its loops' heads. -/
import Derived.Test.YtihidnmpngeohaaGreatG21
import Derived.Test.YtihidnmpngeohaaGreatTombsW
import Derived.Laws.AppendOwnNone
import Derived.Deep.QuietTactic
import Derived.Test.YtihidnmpngeohaaGreatG20
namespace Go.Proofs.YtihidnmpngeohaaGreat
open Go.RowKit Go.Lib

def encV (z : Tv) : List Value := [.slice z.A z.n z.c]
theorem encV_len (z : Tv) : (encV z).length = 1 := rfl
theorem oneV (ys : List Tv) : ∀ u ∈ ys.flatMap encV, u.oneCell' = true := by
  intro u hu
  obtain ⟨m, _, h⟩ := List.mem_flatMap.1 hu
  simp only [encV, List.mem_cons, List.not_mem_nil, or_false] at h
  rcases h with rfl
  rfl
theorem Lst.dropV {w : World} {B n k b off : Nat} {ss : List Tv} (h : Lst encV 1 w B (some ⟨b, off, none⟩) n ss) (hk : k ≤ n) : Lst encV 1 w B (some ⟨b, off + k, none⟩) (n - k) (ss.drop k) := by
  refine ⟨by rw [List.length_drop, h.1], fun h0 => ?_⟩
  obtain ⟨b', off', e, hb, hc⟩ := h.2 (by omega)
  cases e
  refine ⟨b, off + k, rfl, hb, fun j x hx i u hu => ?_⟩
  rw [List.getElem?_drop] at hx
  have := hc (k + j) x hx i u hu
  rwa [show off + (k + j) * 1 + i = off + k + j * 1 + i by omega] at this
theorem wpList_append_sets {wc : World} {B n : Nat} {A' : Option Addr} {n' c' : Nat} {src : List Tv} {xs : List Value} {v : Value} {i0 : TypeInfo} (hM : Lst encV 1 wc wc.heap.size A' n' src) (hnil : A' = none → n' = 0 ∧ c' = 0)
    (hi : Tryz.prog.info? 23 = some i0) (hz0 : i0.zero = some (.slice none 0 0)) (hz1 : i0.size = 1) (hz2 : i0.bytes = 24) (ho : wc.ownsRow B 23 1 v n xs) (hB : B ≤ wc.heap.size) (hn : n ≤ 10000) (hn' : n' ≤ 10000)
    {ops : Array Oper} {rest : List Oper} {o : Oper} {ac : Act} {Q : Exit → Act → World → Prop} (s x : Operand) (hgd : o.guard = none) (hop : o.op = .call { callee := .builtin .append, args := #[s, x], argTypes := #[43, 43] }) (hs : ac.eval s = v) (hx : ac.eval x = .slice A' n' c')
    (h : ∀ v4 w4, w4.ownsRow B 23 1 v4 (n + n') (xs ++ src.flatMap encV) → wc.grownBy w4 v.ownBlock → wpList Tryz.prog ops Q rest (ac.put o.dst v4) w4) : wpList Tryz.prog ops Q (o :: rest) ac wc := by
  have hsl := hM.1
  cases A' with
  | none =>
    obtain ⟨rfl, rfl⟩ := hnil rfl
    obtain rfl : src = [] := List.length_eq_zero_iff.1 hsl
    refine wpList_append_own_none hgd s x 43 hop B 23 i0 1 Tryz.underlying43 hi v n xs hs ho hx ?_
    exact h v wc (by simpa using ho) (grownBy_refl _ _)
  | some ad =>
    have hfl := hM.flat encV_len
    refine wpList_append_own wc hgd s x 43 hop B 23 i0 _ 1 24 Tryz.underlying43 hi hz0 hz1 hz2 rfl (by omega) v n xs hs ho ad n' c' (src.flatMap encV) hx (by rw [flatMap_length encV_len, hsl]) hfl (oneV _) (by unfold maxLen; omega) (by omega) hB ?_
    intro v4 w4 ho4 hg4 _
    exact h v4 w4 ho4 hg4
theorem wpList_append_labs {wc : World} {B n : Nat} {A' : Option Addr} {n' c' : Nat} {src : List Lb} {xs : List Value} {v : Value} {i0 : TypeInfo} (hM : Lst Lb.cells 2 wc wc.heap.size A' n' src) (hnil : A' = none → n' = 0 ∧ c' = 0)
    (hi : Tryz.prog.info? 29 = some i0) (hz0 : i0.zero = some (.agg #[.string ByteArray.empty, .string ByteArray.empty])) (hz1 : i0.size = 2) (hz2 : i0.bytes = 32) (ho : wc.ownsRow B 29 2 v n xs) (hB : B ≤ wc.heap.size) (hn : n ≤ 200000) (hn' : n' ≤ 200000)
    {ops : Array Oper} {rest : List Oper} {o : Oper} {ac : Act} {Q : Exit → Act → World → Prop} (s x : Operand) (hgd : o.guard = none) (hop : o.op = .call { callee := .builtin .append, args := #[s, x], argTypes := #[23, 23] }) (hs : ac.eval s = v) (hx : ac.eval x = .slice A' n' c')
    (h : ∀ v4 w4, w4.ownsRow B 29 2 v4 (n + n') (xs ++ src.flatMap Lb.cells) → wc.grownBy w4 v.ownBlock → wpList Tryz.prog ops Q rest (ac.put o.dst v4) w4) : wpList Tryz.prog ops Q (o :: rest) ac wc := by
  have hsl := hM.1
  cases A' with
  | none =>
    obtain ⟨rfl, rfl⟩ := hnil rfl
    obtain rfl : src = [] := List.length_eq_zero_iff.1 hsl
    refine wpList_append_own_none hgd s x 23 hop B 29 i0 2 Tryz.underlying23 hi v n xs hs ho hx ?_
    exact h v wc (by simpa using ho) (grownBy_refl _ _)
  | some ad =>
    have hfl := hM.flat Lb.len
    refine wpList_append_own wc hgd s x 23 hop B 29 i0 _ 2 32 Tryz.underlying23 hi hz0 hz1 hz2 rfl (by omega) v n xs hs ho ad n' c' (src.flatMap Lb.cells) hx (by rw [flatMap_length Lb.len, hsl]) hfl (oneLabel _) (by unfold maxLen; omega) (by omega) hB ?_
    intro v4 w4 ho4 hg4 _
    exact h v4 w4 ho4 hg4
/-- The sets of labels of the first tombs, rising. -/
structure TSets (w wr : World) (ys : List Tv) (i : Nat) (v : Value) (ss : List Tv) : Prop where
  row : wr.ownsRow w.heap.size 23 1 v ss.length (ss.flatMap encV)
  keys : ss.map (·.l) = keysOf labelsC ((ys.take i).map Tv.tb)
  mem : ∀ z ∈ ss, z ∈ ys
  old : Below w.heap.size w wr
  len : ss.length ≤ i
theorem keysOf_snoc {K : Type} (c : K → K → Int) (l : List (K × (Int × Int))) (x : K × (Int × Int)) : keysOf c (l ++ [x]) = insK c (keysOf c l) x.1 := by
  unfold keysOf
  rw [List.foldl_append]
  rfl
theorem TSets.next {w wr w' : World} {ys ss : List Tv} {i k : Nat} {v v' : Value} {y : Tv} (h : TSets w wr ys i v ss) (hy : ys[i]? = some y) (hk : k ≤ ss.length) (hlo : ∀ j z, j < k → ss[j]? = some z → labelsC z.l y.l < 0) (hhi : ∀ z, ss[k]? = some z → 0 < labelsC z.l y.l)
    (hrow : w'.ownsRow w.heap.size 23 1 v' (ss.length + 1) (((ss.take k).flatMap encV ++ encV y) ++ (ss.drop k).flatMap encV)) (hb : Below w.heap.size w w') : TSets w w' ys (i + 1) v' (ss.take k ++ y :: ss.drop k) := by
  have hlen : (ss.take k ++ y :: ss.drop k).length = ss.length + 1 := by simp; omega
  obtain ⟨q1, q2⟩ := List.getElem?_eq_some_iff.1 hy
  refine ⟨?_, ?_, fun z hz => ?_, hb, by rw [hlen]; have := h.len; omega⟩
  · rw [hlen, List.flatMap_append, List.flatMap_cons]
    simpa [List.append_assoc] using hrow
  · have hk' : keysOf labelsC ((ys.take (i + 1)).map Tv.tb) = insK labelsC (ss.map (·.l)) y.l := by
      rw [List.take_succ_eq_append_getElem q1, q2, List.map_append, List.map_singleton, keysOf_snoc, ← h.keys]
      rfl
    rw [hk', insK_at k (by rw [List.length_map]; exact hk) (fun j s hj hs => by
      rw [List.getElem?_map] at hs
      obtain ⟨z, hz, rfl⟩ := Option.map_eq_some_iff.1 hs
      exact hlo j z hj hz) (fun s hs => by
      rw [List.getElem?_map] at hs
      obtain ⟨z, hz, rfl⟩ := Option.map_eq_some_iff.1 hs
      have := hhi z hz
      show ¬ labelsC z.l y.l < 0
      omega), if_neg (by
      rintro ⟨s, hs, e⟩
      rw [List.getElem?_map] at hs
      obtain ⟨z, hz, rfl⟩ := Option.map_eq_some_iff.1 hs
      have := hhi z hz
      have e' : labelsC z.l y.l = 0 := e
      omega)]
    simp [Tv.tb]
  · rcases List.mem_append.1 hz with hz | hz
    · exact h.mem z (List.mem_of_mem_take hz)
    · rcases List.mem_cons.1 hz with rfl | hz
      · exact List.mem_of_getElem? hy
      · exact h.mem z (List.mem_of_mem_drop hz)
theorem TSets.stay {w wr w' : World} {ys ss : List Tv} {i k : Nat} {v : Value} {y z : Tv} (h : TSets w wr ys i v ss) (hy : ys[i]? = some y) (hk : k ≤ ss.length) (hlo : ∀ j z, j < k → ss[j]? = some z → labelsC z.l y.l < 0) (hz : ss[k]? = some z) (h0 : labelsC z.l y.l = 0)
    (hb : Below wr.heap.size wr w') : TSets w w' ys (i + 1) v ss := by
  obtain ⟨q1, q2⟩ := List.getElem?_eq_some_iff.1 hy
  refine ⟨owns_below h.row hb, ?_, h.mem, h.old.trans (hb.mono h.old.size), by have := h.len; omega⟩
  have hk' : keysOf labelsC ((ys.take (i + 1)).map Tv.tb) = insK labelsC (ss.map (·.l)) y.l := by
    rw [List.take_succ_eq_append_getElem q1, q2, List.map_append, List.map_singleton, keysOf_snoc, ← h.keys]
    rfl
  rw [hk', insK_at k (by rw [List.length_map]; exact hk) (fun j s hj hs => by
      rw [List.getElem?_map] at hs
      obtain ⟨z, hz, rfl⟩ := Option.map_eq_some_iff.1 hs
      exact hlo j z hj hz) (fun s hs => by
      rw [List.getElem?_map, hz] at hs
      obtain rfl := Option.some.inj hs
      show ¬ labelsC z.l y.l < 0
      omega), if_pos ⟨z.l, by rw [List.getElem?_map, hz]; rfl, h0⟩]
end Go.Proofs.YtihidnmpngeohaaGreat
namespace Go.Proofs.YtihidnmpngeohaaGreat
open Go.RowKit Go.Lib

theorem Tryz.sizeOfSer : ∀ w, (Go.sizeOf 132).run Tryz.prog w = .ok 2 w := fun w => by kernel_rfl
section
variable {α : Type}
/-- What lies ahead of place k of list i. -/
def aheadA (ls : List (List α)) (i k : Nat) : List α := (ls.take i).flatten ++ ((ls[i]?).getD []).take k
theorem aheadA_succ {ls : List (List α)} {i k : Nat} {xs : List α} {x : α} (hxs : ls[i]? = some xs) (hx : xs[k]? = some x) : aheadA ls i (k + 1) = aheadA ls i k ++ [x] := by
  obtain ⟨h1, h2⟩ := List.getElem?_eq_some_iff.1 hx
  unfold aheadA
  rw [hxs, Option.getD_some, List.take_succ_eq_append_getElem h1, h2, List.append_assoc]
theorem aheadA_next {ls : List (List α)} {i : Nat} {xs : List α} (hxs : ls[i]? = some xs) : aheadA ls i xs.length = aheadA ls (i + 1) 0 := by
  obtain ⟨h1, h2⟩ := List.getElem?_eq_some_iff.1 hxs
  unfold aheadA
  rw [hxs, Option.getD_some, List.take_length, List.take_succ_eq_append_getElem h1, h2, List.flatten_append]
  simp
theorem aheadA_all (ls : List (List α)) : aheadA ls ls.length 0 = ls.flatten := by unfold aheadA; simp
theorem aheadA_zero (ls : List (List α)) : aheadA ls 0 0 = [] := by unfold aheadA; simp
theorem aheadA_prefix (ls : List (List α)) (i k : Nat) : ∃ r, ls.flatten = aheadA ls i k ++ r := by
  have h0 : ls.flatten = (ls.take i).flatten ++ (ls.drop i).flatten := by rw [← List.flatten_append, List.take_append_drop]
  unfold aheadA
  cases h : ls[i]? with
  | none => exact ⟨(ls.drop i).flatten, by rw [h0]; simp⟩
  | some xs =>
    obtain ⟨h1, h2⟩ := List.getElem?_eq_some_iff.1 h
    refine ⟨xs.drop k ++ (ls.drop (i + 1)).flatten, ?_⟩
    rw [h0, List.drop_eq_getElem_cons h1, h2, List.flatten_cons, Option.getD_some, List.append_assoc]
    congr 1
    rw [← List.append_assoc, List.take_append_drop]
end
/-- Series that may share what lies within them: the row is of the call's own. -/
structure RSer (w : World) (B : Nat) (v : Value) (os : List Sv) : Prop where
  row : w.ownsRow B 132 2 v os.length (os.flatMap encSv)
  each : ∀ z ∈ os, Sat w w.heap.size z
theorem RSer.below {w w' : World} {B : Nat} {v : Value} {os : List Sv} (h : RSer w B v os) (hb : Below w.heap.size w w') : RSer w' B v os := ⟨owns_below h.row hb, fun z hz => (h.each z hz).on hb⟩
theorem RSer.base {w : World} {B B' : Nat} {v : Value} {os : List Sv} (h : RSer w B v os) (hB : B' ≤ B) : RSer w B' v os := ⟨owns_base h.row hB, h.each⟩
def PlacePost (w : World) (r : List (List Lb × List (Int × Int))) (e : Ending) (w' : World) : Prop := ∃ v os, e = .returned v ∧ RSer w' w.heap.size v os ∧ os.map Sv.sr = r ∧ Below w.heap.size w w'
theorem wpList_append_ser {wc : World} {B n : Nat} {A' : Option Addr} {n' c' : Nat} {src : List Sv} {xs : List Value} {v : Value} {i0 : TypeInfo} (hM : Lst encSv 2 wc wc.heap.size A' n' src) (hnil : A' = none → n' = 0 ∧ c' = 0)
    (hi : Tryz.prog.info? 132 = some i0) (hz0 : i0.zero = some (.agg #[.slice none 0 0, .slice none 0 0])) (hz1 : i0.size = 2) (hz2 : i0.bytes = 48) (ho : wc.ownsRow B 132 2 v n xs) (hB : B ≤ wc.heap.size) (hn : n ≤ 200000) (hn' : n' ≤ 200000)
    {ops : Array Oper} {rest : List Oper} {o : Oper} {ac : Act} {Q : Exit → Act → World → Prop} (s x : Operand) (hgd : o.guard = none) (hop : o.op = .call { callee := .builtin .append, args := #[s, x], argTypes := #[70, 70] }) (hs : ac.eval s = v) (hx : ac.eval x = .slice A' n' c')
    (h : ∀ v4 w4, w4.ownsRow B 132 2 v4 (n + n') (xs ++ src.flatMap encSv) → wc.grownBy w4 v.ownBlock → wpList Tryz.prog ops Q rest (ac.put o.dst v4) w4) : wpList Tryz.prog ops Q (o :: rest) ac wc := by
  have hsl := hM.1
  cases A' with
  | none =>
    obtain ⟨rfl, rfl⟩ := hnil rfl
    obtain rfl : src = [] := List.length_eq_zero_iff.1 hsl
    refine wpList_append_own_none hgd s x 70 hop B 132 i0 2 Tryz.underlying70 hi v n xs hs ho hx ?_
    exact h v wc (by simpa using ho) (grownBy_refl _ _)
  | some ad =>
    have hfl := hM.flat encSv_len
    refine wpList_append_own wc hgd s x 70 hop B 132 i0 _ 2 48 Tryz.underlying70 hi hz0 hz1 hz2 rfl (by omega) v n xs hs ho ad n' c' (src.flatMap encSv) hx (by rw [flatMap_length encSv_len, hsl]) hfl (oneSv _) (by unfold maxLen; omega) (by omega) hB ?_
    intro v4 w4 ho4 hg4 _
    exact h v4 w4 ho4 hg4
theorem Lst.dropS {w : World} {B n k b off : Nat} {ss : List Sv} (h : Lst encSv 2 w B (some ⟨b, off, none⟩) n ss) (hk : k ≤ n) : Lst encSv 2 w B (some ⟨b, off + k * 2, none⟩) (n - k) (ss.drop k) := by
  refine ⟨by rw [List.length_drop, h.1], fun h0 => ?_⟩
  obtain ⟨b', off', e, hb, hc⟩ := h.2 (by omega)
  cases e
  refine ⟨b, off + k * 2, rfl, hb, fun j x hx i u hu => ?_⟩
  rw [List.getElem?_drop] at hx
  have := hc (k + j) x hx i u hu
  rwa [show off + (k + j) * 2 + i = off + k * 2 + j * 2 + i by omega] at this
end Go.Proofs.YtihidnmpngeohaaGreat
