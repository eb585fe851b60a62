/- The document's answer for samples of all lists. Plain law of merge.Series: of each set of labels the samples that its series have, put together. No program but for the kit's samples. -/
import Derived.Test.YtihidnmpngeohaaGreatRefSam
import Derived.Test.YtihidnmpngeohaaGreatG05
namespace Go.Proofs.YtihidnmpngeohaaGreat
open Go.RowKit Go.Lib

theorem into_own (v : Value) (n B : Nat) (l : List (Int × Int)) (s : Int × Int) (w : World) (ho : w.ownsRow B 95 2 v n (l.flatMap encS)) (hn : n ≤ 1000000) :
    Calls Tryz.prog 146 #[v, .agg #[.int .i64 s.1, .int .u64 s.2]] w (RowPost (putIn l s) w) := by
  have hll := owns_len ho encS_len (by omega)
  rcases ho.2 with ⟨rfl, h0⟩ | ⟨g, cap, cur, rfl, _⟩
  · subst h0
    obtain rfl : l = [] := List.length_eq_zero_iff.1 hll
    exact into_nil s w
  · exact into_some g n cap B l s w ho hn
theorem putIns_len (q : List (Int × Int)) : (q.foldl putIn []).length ≤ q.length := by
  suffices H : ∀ (q o : List (Int × Int)), (q.foldl putIn o).length ≤ o.length + q.length by simpa using H q []
  intro q
  induction q with
  | nil => intro o; simp
  | cons x q ih =>
    intro o
    have h1 := ih (putIn o x)
    have h2 := putIn_len o x
    simp only [List.foldl_cons, List.length_cons]
    omega
/-- All samples ahead of the k-th of list i. -/
def ahead (ls : List (List (Int × Int))) (i k : Nat) : List (Int × Int) := (ls.take i).flatten ++ ((ls[i]?).getD []).take k
theorem ahead_succ {ls : List (List (Int × Int))} {i k : Nat} {xs : List (Int × Int)} {x : Int × Int} (hxs : ls[i]? = some xs) (hx : xs[k]? = some x) : ahead ls i (k + 1) = ahead ls i k ++ [x] := by
  obtain ⟨hk, e⟩ := List.getElem?_eq_some_iff.1 hx
  unfold ahead
  rw [hxs]
  simp only [Option.getD_some]
  rw [List.take_succ_eq_append_getElem hk, e, List.append_assoc]
theorem ahead_next {ls : List (List (Int × Int))} {i : Nat} {xs : List (Int × Int)} (hxs : ls[i]? = some xs) : ahead ls i xs.length = ahead ls (i + 1) 0 := by
  obtain ⟨hi, e⟩ := List.getElem?_eq_some_iff.1 hxs
  unfold ahead
  rw [hxs]
  simp only [Option.getD_some, List.take_zero, List.append_nil, List.take_length]
  rw [List.take_succ_eq_append_getElem hi, e]
  simp
theorem flatten_take_le {α : Type} : ∀ (ls : List (List α)) (i : Nat), (ls.take i).flatten.length ≤ ls.flatten.length
  | _, 0 => by simp
  | [], _ + 1 => by simp
  | x :: ls, i + 1 => by
    have := flatten_take_le ls i
    simp only [List.take_succ_cons, List.flatten_cons, List.length_append]
    omega
theorem ahead_len (ls : List (List (Int × Int))) (i k : Nat) : (ahead ls i k).length ≤ ls.flatten.length := by
  have h : (ahead ls i k).length ≤ (ls.take (i + 1)).flatten.length := by
    unfold ahead
    cases hx : ls[i]? with
    | none =>
      have hle : ls.length ≤ i := by simpa using hx
      have e1 : ls.take i = ls := List.take_of_length_le hle
      have e2 : ls.take (i + 1) = ls := List.take_of_length_le (by omega)
      rw [e1, e2]
      simp
    | some xs =>
      obtain ⟨hi, e⟩ := List.getElem?_eq_some_iff.1 hx
      rw [List.take_succ_eq_append_getElem hi, e]
      simp only [Option.getD_some, List.flatten_append, List.length_append, List.length_take, List.flatten_cons, List.flatten_nil, List.append_nil]
      omega
  exact Nat.le_trans h (flatten_take_le _ _)
theorem ahead_all (ls : List (List (Int × Int))) : ahead ls ls.length 0 = ls.flatten := by
  unfold ahead; simp
set_option maxHeartbeats 2000000 in
set_option maxRecDepth 100000 in
theorem refSamples_any (A : Option Addr) (n c : Nat) (ls : List (List (Int × Int))) (w : World) (hls : Lls w w.heap.size A n ls) (hn : n ≤ 100000) (hall : ls.flatten.length ≤ 100000) :
    Calls Tryz.prog 113 #[.slice A n c] w (RowPost (ls.flatten.foldl putIn []) w) := by
  have HL := Lib.hid hls
  clear hls
  go_enter Tryz.func113, Tryz.ntmps113
  go_wp2
  go_loopw [3, 4, 5] (fun v iv _ wr => ∃ i : Nat, i ≤ n ∧ iv = .int .i64 i ∧ Hid (wr.ownsRow w.heap.size 95 2 v ((ahead ls i 0).foldl putIn []).length (((ahead ls i 0).foldl putIn []).flatMap encS) ∧ Below w.heap.size w wr)) (fun _ iv _ _ => n - (intOf iv).toNat)
  case atStart => exact ⟨0, Nat.zero_le _, rfl, Lib.hid ⟨World.ownsRow_nil _ _ _ _, Below.refl _ _⟩⟩
  case round =>
    obtain ⟨i, hi, rfl, HR⟩ := hrel
    by_cases hlt : i < n
    · obtain ⟨xs, hxs⟩ : ∃ xs, ls[i]? = some xs := ⟨_, List.getElem?_eq_getElem (by have := HL.out.1; omega)⟩
      obtain ⟨b, off, rfl, hb, hc⟩ := HL.out.2 (by omega)
      obtain ⟨Ai, ci, h1, h2, _⟩ := hc i xs hxs
      obtain ⟨m, hm⟩ : ∃ m, xs.length = m := ⟨_, rfl⟩
      rw [hm] at h1 h2
      have hm63 : m ≤ 100000 := by
        have := ahead_len ls i xs.length
        unfold ahead at this
        rw [hxs] at this
        simp only [Option.getD_some, List.take_length, List.length_append] at this
        omega
      have HX := Lib.hid (show _ ∧ _ ∧ _ ∧ _ from ⟨hxs, h1, h2, hm⟩)
      clear hc hxs h1 h2 hm
      obtain ⟨wo, rfl⟩ : ∃ wo : World, wo = wr := ⟨_, rfl⟩
      go_wp2
      go_loopw [3, 5] (fun v kv wz => ∃ k : Nat, k ≤ m ∧ kv = .int .i64 k ∧ Hid (wz.ownsRow w.heap.size 95 2 v ((ahead ls i k).foldl putIn []).length (((ahead ls i k).foldl putIn []).flatMap encS) ∧ Below w.heap.size w wz)) (fun _ kv _ => m - (intOf kv).toNat)
      case atStart => exact ⟨0, Nat.zero_le _, rfl, HR⟩
      case round =>
        clear HR
        obtain ⟨k, hk, rfl, HR⟩ := hrel
        have c0 := (HR.out.2.cell (p := ⟨b, off + i, none⟩) hb).trans HX.out.2.1
        by_cases hkm : k < m
        · obtain ⟨bx, ox, x, rfl, hbx, hx, hcx⟩ := HX.out.2.2.1.at hkm
          have e0 := (HR.out.2.cell (p := ⟨bx, ox + k * 2 + 0, none⟩) hbx).trans (hcx 0 _ rfl)
          have e1 := (HR.out.2.cell (p := ⟨bx, ox + k * 2 + 1, none⟩) hbx).trans (hcx 1 _ rfl)
          simp only [Nat.add_zero] at e0
          have hsucc := ahead_succ HX.out.1 hx
          have hlen := putIns_len (ahead ls i k)
          have hle := ahead_len ls i k
          have hcall := into_own _ _ _ _ x wr HR.out.1 (by omega)
          have HC := Lib.hid (show _ ∧ _ from ⟨hcall, hsucc⟩)
          clear hcall hsucc hlen hle hcx hx
          go_wp2_with fail
          refine HC.out.1.mono ?_
          rintro e w2 ⟨v2, rfl, ho2, hb2⟩
          have hr2 : w2.ownsRow w.heap.size 95 2 v2 ((ahead ls i (k + 1)).foldl putIn []).length (((ahead ls i (k + 1)).foldl putIn []).flatMap encS) ∧ Below w.heap.size w w2 := by
            rw [HC.out.2, List.foldl_append]
            exact ⟨owns_base ho2 HR.out.2.size, HR.out.2.trans (hb2.mono HR.out.2.size)⟩
          have H2 := Lib.hid hr2
          clear hr2 ho2 hb2 HC
          go_wp2
          go_roundw
          case measure => simp [intOf]; omega
          case rel => exact ⟨k + 1, hkm, by simp, H2⟩
        · obtain rfl : k = m := by omega
          have hr := HR.out
          rw [← HX.out.2.2.2, ahead_next HX.out.1] at hr
          have HR2 := Lib.hid hr
          clear hr HR
          go_wp2
          go_roundw
          case measure => simp [intOf]; omega
          case rel => exact ⟨i + 1, hlt, by simp, HR2⟩
    · obtain rfl : i = n := by omega
      have hr := HR.out
      rw [← HL.out.1, ahead_all] at hr
      have HR2 := Lib.hid hr
      clear hr HR
      go_wp2
      go_ret
      exact ⟨_, rfl, HR2.out.1, HR2.out.2⟩
end Go.Proofs.YtihidnmpngeohaaGreat
namespace Go.Proofs.YtihidnmpngeohaaGreat

/-- Samples put together. -/
def samU (l : List (Int × Int)) : List (Int × Int) := l.foldl putIn []
theorem foldl_strict : ∀ (r a : List (Int × Int)), Strict (a ++ r) → r.foldl putIn a = a ++ r
  | [], a, _ => by simp
  | x :: r, a, h => by
    have hc : cut a x.1 a.length = a.length := by
      rcases List.eq_nil_or_concat a with rfl | ⟨b, y, rfl⟩
      · rfl
      · rw [List.concat_eq_append] at h ⊢
        rw [List.length_append, List.length_singleton]
        refine cut_stop (x := y) (by simp) ?_
        have h1 := (List.pairwise_append.1 h).2.2 y (by simp) x (by simp)
        omega
    rw [List.foldl_cons, putIn_last hc, foldl_strict r (a ++ [x]) (by rw [List.append_assoc]; exact h), List.append_assoc]
    rfl
theorem samU_strict (l : List (Int × Int)) : Strict (samU l) := (puts_of l).1
theorem samU_add (g b : List (Int × Int)) : samU (samU g ++ b) = samU (g ++ b) := by
  unfold samU
  rw [List.foldl_append, List.foldl_append]
  congr 1
  exact foldl_strict _ [] (puts_of g).1
theorem samU_nil : samU [] = [] := rfl
theorem samU_len (l : List (Int × Int)) : (samU l).length ≤ l.length := putIns_len l
section
variable {K : Type} {c : K → K → Int}
abbrev Ser (K : Type) := K × List (Int × Int)
/-- The samples that series have for some labels. -/
def gath (c : K → K → Int) (l : List (Ser K)) (s : K) : List (Int × Int) := (l.filter fun x => decide (c x.1 s = 0)).flatMap (·.2)
structure IsSer (c : K → K → Int) (l r : List (Ser K)) : Prop where
  up : r.Pairwise fun x y => c x.1 y.1 < 0
  mem : ∀ p, p ∈ r ↔ (∃ x ∈ l, x.1 = p.1) ∧ p.2 = samU (gath c l p.1) ∧ p.2 ≠ []
theorem ser_nodup (h : Cmp3 c) {a : List (Ser K)} (ha : a.Pairwise fun x y => c x.1 y.1 < 0) : a.Nodup := ha.imp fun {x y} hxy e => by rw [e, h.self] at hxy; omega
theorem IsSer.unique (h : Cmp3 c) {l a b : List (Ser K)} (ha : IsSer c l a) (hb : IsSer c l b) : a = b := by
  have hp : a.Perm b := (List.perm_ext_iff_of_nodup (ser_nodup h ha.up) (ser_nodup h hb.up)).2 fun p => (ha.mem p).trans (hb.mem p).symm
  exact hp.eq_of_pairwise (fun x y _ _ h1 h2 => by rw [h.swap] at h2; omega) ha.up hb.up
theorem gath_append (a b : List (Ser K)) (s : K) : gath c (a ++ b) s = gath c a s ++ gath c b s := by unfold gath; rw [List.filter_append, List.flatMap_append]
theorem gath_none {a : List (Ser K)} {s : K} (h : ∀ y ∈ a, ¬ c y.1 s = 0) : gath c a s = [] := by
  unfold gath
  rw [List.filter_eq_nil_iff.2 fun y hy => by simpa using h y hy]
  rfl
theorem gath_one (x : Ser K) (s : K) : gath c [x] s = if c x.1 s = 0 then x.2 else [] := by
  unfold gath
  by_cases h : c x.1 s = 0 <;> simp [h]
/-- As Go's text goes: the keys in some order, those without samples left out, then sorted. -/
def outOf (c : K → K → Int) (l : List (Ser K)) (vis : List K) : List (Ser K) := (vis.map fun s => (s, samU (gath c l s))).filter fun p => !p.2.isEmpty
theorem outOf_snoc (l : List (Ser K)) (vis : List K) (s : K) : outOf c l (vis ++ [s]) = if (samU (gath c l s)).length = 0 then outOf c l vis else outOf c l vis ++ [(s, samU (gath c l s))] := by
  unfold outOf
  rw [List.map_append, List.filter_append]
  by_cases h : (samU (gath c l s)).length = 0
  · rw [if_pos h]
    have := List.length_eq_zero_iff.1 h
    simp [this]
  · rw [if_neg h]
    have : (samU (gath c l s)).isEmpty = false := by
      cases he : samU (gath c l s) with
      | nil => rw [he] at h; exact absurd rfl h
      | cons a t => rfl
    simp [this]
theorem outOf_is (h : Cmp3 c) {l r : List (Ser K)} {vis : List K} (hn : vis.Nodup) (hm : ∀ s, s ∈ vis ↔ ∃ x ∈ l, x.1 = s) (hp : r.Perm (outOf c l vis)) (hs : r.Pairwise fun x y => c x.1 y.1 ≤ 0) : IsSer c l r := by
  have hk : (r.map (·.1)).Nodup := by
    have h1 : ((outOf c l vis).map (·.1)).Sublist vis := by
      unfold outOf
      have := (List.filter_sublist (p := fun p : Ser K => !p.2.isEmpty) (l := vis.map fun s => (s, samU (gath c l s)))).map (·.1)
      rw [List.map_map] at this
      simpa [Function.comp_def] using this
    exact (hp.map (·.1)).nodup_iff.2 (h1.nodup hn)
  refine ⟨?_, fun p => ?_⟩
  · have h2 : r.Pairwise fun x y => x.1 ≠ y.1 := List.pairwise_map.1 hk
    refine (hs.and h2).imp fun {x y} ⟨h3, h4⟩ => ?_
    have := mt (h.zero x.1 y.1).1 h4
    omega
  · rw [hp.mem_iff]
    unfold outOf
    rw [List.mem_filter, List.mem_map]
    constructor
    · rintro ⟨⟨s, hs, rfl⟩, h2⟩
      exact ⟨(hm s).1 hs, rfl, by simpa using h2⟩
    · rintro ⟨h1, h2, h3⟩
      exact ⟨⟨p.1, (hm p.1).2 h1, by rw [← h2]⟩, by simpa using h3⟩
/-- A series laid among rising ones. -/
def placeU (c : K → K → Int) : List (Ser K) → Ser K → List (Ser K)
  | [], s => [(s.1, samU s.2)]
  | p :: a, s => if c p.1 s.1 < 0 then p :: placeU c a s else if c p.1 s.1 = 0 then (s.1, samU (p.2 ++ s.2)) :: a else (s.1, samU s.2) :: p :: a
theorem placeU_same : ∀ {a : List (Ser K)} {s : Ser K} {k : Nat} {p : Ser K}, (∀ q ∈ a.take k, c q.1 s.1 < 0) → a[k]? = some p → c p.1 s.1 = 0 → placeU c a s = a.take k ++ (s.1, samU (p.2 ++ s.2)) :: a.drop (k + 1)
  | [], s, k, p, _, h, _ => by simp at h
  | q :: a, s, 0, p, _, h, hz => by
    obtain rfl : q = p := by simpa using h
    rw [placeU, if_neg (by omega), if_pos hz]; rfl
  | q :: a, s, k + 1, p, hb, h, hz => by
    rw [placeU, if_pos (hb q (by simp)), placeU_same (k := k) (fun y hy => hb y (by simp [hy])) (by simpa using h) hz]; rfl
theorem placeU_other : ∀ {a : List (Ser K)} {s : Ser K} {k : Nat}, (∀ q ∈ a.take k, c q.1 s.1 < 0) → (∀ p, a[k]? = some p → 0 < c p.1 s.1) → k ≤ a.length → placeU c a s = a.take k ++ (s.1, samU s.2) :: a.drop k
  | [], s, k, _, _, hk => by
    obtain rfl : k = 0 := by simpa using hk
    rfl
  | q :: a, s, 0, _, h, _ => by
    have := h q rfl
    rw [placeU, if_neg (by omega), if_neg (by omega)]; rfl
  | q :: a, s, k + 1, hb, h, hk => by
    rw [placeU, if_pos (hb q (by simp)), placeU_other (k := k) (fun y hy => hb y (by simp [hy])) (fun p hp => h p (by simpa using hp)) (by simpa using hk)]; rfl
/-- What stands at some labels. -/
def getS (c : K → K → Int) (a : List (Ser K)) (s : K) : List (Int × Int) := match a.find? fun p => decide (c p.1 s = 0) with | some p => p.2 | none => []
theorem placeU_mem (h : Cmp3 c) : ∀ {a : List (Ser K)} {s : Ser K}, (a.Pairwise fun x y => c x.1 y.1 < 0) → ∀ p, p ∈ placeU c a s ↔ (p ∈ a ∧ p.1 ≠ s.1) ∨ p = (s.1, samU (getS c a s.1 ++ s.2))
  | [], s, _, p => by simp [placeU, getS]
  | q :: a, s, hp, p => by
    have hq := (List.pairwise_cons.1 hp).1
    rw [placeU]
    by_cases h1 : c q.1 s.1 < 0
    · have h2 : getS c (q :: a) s.1 = getS c a s.1 := by unfold getS; rw [List.find?_cons_of_neg (by simp; omega)]
      rw [if_pos h1, List.mem_cons, placeU_mem h (List.pairwise_cons.1 hp).2, h2, List.mem_cons]
      have hne : q.1 ≠ s.1 := fun e => by rw [e, h.self] at h1; omega
      constructor
      · rintro (rfl | h3 | h3)
        · exact .inl ⟨.inl rfl, hne⟩
        · exact .inl ⟨.inr h3.1, h3.2⟩
        · exact .inr h3
      · rintro (⟨rfl | h3, h4⟩ | h3)
        · exact .inl rfl
        · exact .inr (.inl ⟨h3, h4⟩)
        · exact .inr (.inr h3)
    · rw [if_neg h1]
      by_cases h2 : c q.1 s.1 = 0
      · have h3 : getS c (q :: a) s.1 = q.2 := by unfold getS; rw [List.find?_cons_of_pos (by simpa using h2)]
        have he : q.1 = s.1 := (h.zero _ _).1 h2
        rw [if_pos h2, h3, List.mem_cons, List.mem_cons]
        constructor
        · rintro (rfl | h4)
          · exact .inr rfl
          · refine .inl ⟨.inr h4, fun e => ?_⟩
            have := hq p h4
            rw [e, he, h.self] at this
            omega
        · rintro (⟨rfl | h4, h5⟩ | h4)
          · exact absurd he h5
          · exact .inr h4
          · exact .inl h4
      · have h0 : ∀ y ∈ q :: a, ¬ c y.1 s.1 = 0 := fun y hy e => by
          rcases List.mem_cons.1 hy with rfl | hy
          · exact h2 e
          · have h3 := hq y hy
            rw [(h.zero _ _).1 e] at h3
            exact h1 h3
        have h3 : getS c (q :: a) s.1 = [] := by
          unfold getS
          rw [List.find?_eq_none.2 fun y hy => by simpa using h0 y hy]
        rw [if_neg h2, h3, List.nil_append, List.mem_cons]
        constructor
        · rintro (rfl | h4)
          · exact .inr rfl
          · exact .inl ⟨h4, fun e => h0 p h4 ((h.zero _ _).2 e)⟩
        · rintro (⟨h4, _⟩ | h4)
          · exact .inr h4
          · exact .inl h4
theorem placeU_up (h : Cmp3 c) : ∀ {a : List (Ser K)} {s : Ser K}, (a.Pairwise fun x y => c x.1 y.1 < 0) → (placeU c a s).Pairwise fun x y => c x.1 y.1 < 0
  | [], s, _ => by simp [placeU]
  | q :: a, s, hp => by
    have hq := (List.pairwise_cons.1 hp).1
    have ha := (List.pairwise_cons.1 hp).2
    rw [placeU]
    by_cases h1 : c q.1 s.1 < 0
    · rw [if_pos h1]
      refine List.pairwise_cons.2 ⟨fun y hy => ?_, placeU_up h ha⟩
      rcases (placeU_mem h ha y).1 hy with ⟨h2, _⟩ | rfl
      · exact hq y h2
      · exact h1
    · rw [if_neg h1]
      by_cases h2 : c q.1 s.1 = 0
      · have he : q.1 = s.1 := (h.zero _ _).1 h2
        rw [if_pos h2]
        exact List.pairwise_cons.2 ⟨fun y hy => by rw [← he]; exact hq y hy, ha⟩
      · rw [if_neg h2]
        have h3 : c s.1 q.1 < 0 := by have := h.swap q.1 s.1; omega
        refine List.pairwise_cons.2 ⟨fun y hy => ?_, hp⟩
        rcases List.mem_cons.1 hy with rfl | hy
        · exact h3
        · exact h.trans _ _ _ h3 (hq y hy)
structure IsAll (c : K → K → Int) (l r : List (Ser K)) : Prop where
  up : r.Pairwise fun x y => c x.1 y.1 < 0
  mem : ∀ p, p ∈ r ↔ (∃ x ∈ l, x.1 = p.1) ∧ p.2 = samU (gath c l p.1)
theorem IsAll.nil : IsAll c [] [] := ⟨List.Pairwise.nil, by simp⟩
theorem IsAll.place (h : Cmp3 c) {l a : List (Ser K)} (ha : IsAll c l a) (s : Ser K) : IsAll c (l ++ [s]) (placeU c a s) := by
  refine ⟨placeU_up h ha.up, fun p => ?_⟩
  rw [placeU_mem h ha.up, gath_append, gath_one]
  have hg : samU (getS c a s.1 ++ s.2) = samU (gath c l s.1 ++ s.2) := by
    unfold getS
    cases hf : a.find? fun p => decide (c p.1 s.1 = 0) with
    | some q =>
      have h1 := List.mem_of_find?_eq_some hf
      have h2 : c q.1 s.1 = 0 := by simpa using List.find?_some hf
      have he : q.1 = s.1 := (h.zero _ _).1 h2
      have h3 := ((ha.mem q).1 h1).2
      rw [he] at h3
      simp only
      rw [h3, samU_add]
    | none =>
      have h1 := List.find?_eq_none.1 hf
      rw [gath_none fun y hy e => ?_]
      have he : y.1 = s.1 := (h.zero _ _).1 e
      have h2 := (ha.mem (s.1, samU (gath c l s.1))).2 ⟨⟨y, hy, he⟩, rfl⟩
      exact h1 _ h2 (by simp [h.self])
  rw [hg]
  by_cases hs : p.1 = s.1
  · rw [hs, if_pos (h.self _)]
    constructor
    · rintro (⟨_, h1⟩ | rfl)
      · exact absurd rfl h1
      · exact ⟨⟨s, by simp, rfl⟩, rfl⟩
    · rintro ⟨_, h1⟩
      exact .inr (Prod.ext hs h1)
  · rw [if_neg (fun e => hs ((h.zero _ _).1 e).symm), List.append_nil]
    constructor
    · rintro (⟨h1, _⟩ | rfl)
      · obtain ⟨⟨x, hx, e⟩, h2⟩ := (ha.mem p).1 h1
        exact ⟨⟨x, by simp [hx], e⟩, h2⟩
      · exact absurd rfl hs
    · rintro ⟨⟨x, hx, e⟩, h2⟩
      refine .inl ⟨(ha.mem p).2 ⟨⟨x, ?_, e⟩, h2⟩, hs⟩
      rcases List.mem_append.1 hx with hx | hx
      · exact hx
      · rw [List.mem_singleton.1 hx] at e; exact absurd e.symm hs
def allU (c : K → K → Int) (l : List (Ser K)) : List (Ser K) := l.foldl (placeU c) []
theorem allU_snoc (l : List (Ser K)) (s : Ser K) : allU c (l ++ [s]) = placeU c (allU c l) s := by unfold allU; rw [List.foldl_append]; rfl
theorem allU_is (h : Cmp3 c) (l : List (Ser K)) : IsAll c l (allU c l) := by
  have : ∀ (m d a : List (Ser K)), IsAll c d a → IsAll c (d ++ m) (m.foldl (placeU c) a) := by
    intro m
    induction m with
    | nil => intro d a ha; simpa using ha
    | cons s m ih =>
      intro d a ha
      have := ih (d ++ [s]) _ (ha.place h s)
      rw [List.append_assoc] at this
      exact this
  exact this l [] [] IsAll.nil
/-- Series put together. -/
def serU (c : K → K → Int) (l : List (Ser K)) : List (Ser K) := (allU c l).filter fun p => !p.2.isEmpty
theorem serU_is (h : Cmp3 c) (l : List (Ser K)) : IsSer c l (serU c l) := by
  refine ⟨(allU_is h l).up.filter _, fun p => ?_⟩
  unfold serU
  rw [List.mem_filter, (allU_is h l).mem, and_assoc]
  simp
theorem placeU_len (a : List (Ser K)) (s : Ser K) : (placeU c a s).length ≤ a.length + 1 := by
  induction a with
  | nil => simp [placeU]
  | cons q a ih =>
    rw [placeU]
    split
    · simpa using ih
    · split <;> simp
theorem allU_len (l : List (Ser K)) : (allU c l).length ≤ l.length := by
  have : ∀ (m a : List (Ser K)), (m.foldl (placeU c) a).length ≤ a.length + m.length := by
    intro m
    induction m with
    | nil => intro a; simp
    | cons s m ih =>
      intro a
      have h1 := ih (placeU c a s)
      have h2 := placeU_len (c := c) a s
      rw [List.foldl_cons, List.length_cons]
      omega
  unfold allU
  simpa using this l []
theorem serU_len (l : List (Ser K)) : (serU c l).length ≤ l.length := Nat.le_trans (List.length_filter_le _ _) (allU_len l)
theorem gath_len (s : K) : ∀ l : List (Ser K), (gath c l s).length ≤ (l.flatMap (·.2)).length
  | [] => by simp [gath]
  | x :: l => by
    have h1 := gath_len s l
    rw [show x :: l = [x] ++ l from rfl, gath_append, gath_one, List.length_append, List.flatMap_append, List.length_append, List.flatMap_singleton]
    split
    · omega
    · rw [List.length_nil]; omega
theorem allU_mem (h : Cmp3 c) {l : List (Ser K)} {p : Ser K} (hp : p ∈ allU c l) : (∃ x ∈ l, x.1 = p.1) ∧ p.2.length ≤ (l.flatMap (·.2)).length := by
  obtain ⟨h1, h2⟩ := ((allU_is h l).mem p).1 hp
  exact ⟨h1, by rw [h2]; exact Nat.le_trans (samU_len _) (gath_len _ _)⟩
theorem serU_mem (h : Cmp3 c) {l : List (Ser K)} {p : Ser K} (hp : p ∈ serU c l) : (∃ x ∈ l, x.1 = p.1) ∧ p.2.length ≤ (l.flatMap (·.2)).length := allU_mem h (List.mem_filter.1 hp).1
end
end Go.Proofs.YtihidnmpngeohaaGreat
