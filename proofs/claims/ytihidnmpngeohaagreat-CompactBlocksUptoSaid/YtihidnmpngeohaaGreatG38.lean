/- Two lists in the checker's book, and what stands when all is asked. What stands when all is asked of series: the book owns what was handed back. much of chapter 17: whether lists of series are more than is looked at. -/
import Derived.Test.YtihidnmpngeohaaGreatG34
import Derived.Test.YtihidnmpngeohaaGreatG18
import Derived.Test.YtihidnmpngeohaaGreatG35
import Derived.Test.YtihidnmpngeohaaGreatOwnSer
import Derived.Test.YtihidnmpngeohaaGreatG37
import Derived.Test.YtihidnmpngeohaaGreatG32
import Derived.Test.YtihidnmpngeohaaGreatG20
import Derived.Test.YtihidnmpngeohaaGreatG25
import Derived.Deep.QuietTactic
import Derived.BigQuiet
namespace Go.Proofs.YtihidnmpngeohaaGreat
open Go.RowKit Go.Lib

def nils : Array Value := (List.replicate 32 (Value.slice none 0 0)).toArray
theorem nils_at {k : Nat} (hk : k < 32) : nils[k]? = some (.slice none 0 0) := by unfold nils; rw [List.getElem?_toArray, List.getElem?_replicate, if_pos hk]
/-- Two lists in the book. -/
def two (a b : Value) (j : Nat) : Value := if j = 0 then a else b
theorem lists_two {w : World} {B : Nat} {e : TypeId} {sz BL n m : Nat} {a b : Value} {xs ys : List Value} (ha : w.ownsRow B e sz a n xs) (hb : w.ownsRow B e sz b m ys)
    (hne : ∀ g, a.ownBlock = some g → b.ownBlock ≠ some g) (h0 : w.cell? ⟨BL, 0, none⟩ = some a) (h1 : w.cell? ⟨BL, 1, none⟩ = some b) (oa : a.ownBlock ≠ some BL) (ob : b.ownBlock ≠ some BL) :
    Lists w B e sz BL 2 (two a b) (fun j => if j = 0 then n else m) where
  row j hj := by
    rcases (show j = 0 ∨ j = 1 by omega) with rfl | rfl
    · exact h0
    · exact h1
  own j hj := by
    rcases (show j = 0 ∨ j = 1 by omega) with rfl | rfl
    · exact ⟨xs, ha⟩
    · exact ⟨ys, hb⟩
  apart i j hi hj hij g := by
    rcases (show i = 0 ∨ i = 1 by omega) with rfl | rfl <;> rcases (show j = 0 ∨ j = 1 by omega) with rfl | rfl
    · exact absurd rfl hij
    · exact hne g
    · intro h1 h2; exact hne g h2 h1
    · exact absurd rfl hij
  off j hj := by
    rcases (show j = 0 ∨ j = 1 by omega) with rfl | rfl
    · exact oa
    · exact ob
/-- What stands when all is asked: the book, the two lists, the reference's. -/
structure Last (w wi : World) (bk : Nat) (cs : Array Value) (a b lv r : Value) (R : List (Int × Int)) : Prop where
  book : Bk wi bk cs
  old : Below w.heap.size w wi
  one : wi.ownsRow w.heap.size 95 2 a R.length (R.flatMap encS)
  two : wi.ownsRow w.heap.size 95 2 b R.length (R.flatMap encS)
  ref : wi.ownsRow w.heap.size 95 2 r R.length (R.flatMap encS)
  list : wi.ownsRow w.heap.size 90 1 lv 2 [a, b]
theorem Last.step {w wi wj : World} {bk : Nat} {cs : Array Value} {a b lv r : Value} {R : List (Int × Int)} (h : Last w wi bk cs a b lv r R) (hb : Below wi.heap.size wi wj) : Last w wj bk cs a b lv r R where
  book := h.book.kept (GrownIn.of_below hb) (by have := h.book.lt; omega)
  old := h.old.trans (hb.mono h.old.size)
  one := owns_below h.one hb
  two := owns_below h.two hb
  ref := owns_below h.ref hb
  list := owns_below h.list hb
theorem Last.drewN {w wi : World} {bk : Nat} {cs : Array Value} {a b lv r : Value} {R : List (Int × Int)} (h : Last w wi bk cs a b lv r R) (q : Nat) : Last w (wi.drewN q) bk cs a b lv r R := h.step (below_drewN (Below.refl _ _) q)
/-- SameSamples of two rows that hold the same. -/
theorem same_own {a b : Value} {B B' n m : Nat} {l : List (Int × Int)} {w : World} (ha : w.ownsRow B 95 2 a n (l.flatMap encS)) (hb : w.ownsRow B' 95 2 b n (l.flatMap encS)) (hn : n ≤ 1000000000) (_hm : m = n) :
    Calls Tryz.prog 40 #[a, b] w fun e w' => e = .returned (.bool true) ∧ Below w.heap.size w w' := by
  have hl := owns_len ha encS_len (by omega)
  obtain ⟨A, c, rfl, _, h1⟩ := ownsRow_lst ha hl encS_len
  obtain ⟨A', c', rfl, _, h2⟩ := ownsRow_lst hb hl encS_len
  exact sameSample_eq A A' n c c' l w h1 h2 hn
end Go.Proofs.YtihidnmpngeohaaGreat
namespace Go.Proofs.YtihidnmpngeohaaGreat
open Go.RowKit Go.Lib

structure LastS (w wi : World) (bk : Nat) (cs : Array Value) (va vb : Value) (os1 os2 : List Sv) (g22 c22 : Nat) (u9 u10 : Value) : Prop where
  book : Bk wi bk cs
  cells : ∀ k, k < 32 → cs[k]? = some (if k = 22 then .slice (some ⟨g22, 0, none⟩) 2 c22 else if k = 9 then u9 else if k = 10 then u10 else .slice none 0 0)
  old : Below w.heap.size w wi
  one : OutSv wi w.heap.size va os1
  twin : OutSv wi w.heap.size vb os2
  apart : (os1 ++ os2).Pairwise fun a b => ∀ g, (valL a).ownBlock = some g → (valL b).ownBlock ≠ some g
  sapart : (os1 ++ os2).Pairwise fun a b => ∀ g, (valD a).ownBlock = some g → (valD b).ownBlock ≠ some g
  dis : ∀ b, va.ownBlock = some b → vb.ownBlock ≠ some b
  l22 : wi.ownsRow w.heap.size 70 1 (.slice (some ⟨g22, 0, none⟩) 2 c22) 2 [va, vb]
  l9 : wi.ownsRow w.heap.size 23 1 u9 (os1.length + os2.length) ((os1 ++ os2).map valL)
  l10 : wi.ownsRow w.heap.size 90 1 u10 (os1.length + os2.length) ((os1 ++ os2).map valD)
theorem LastS.step {w wi wj : World} {bk : Nat} {cs : Array Value} {va vb u9 u10 : Value} {os1 os2 : List Sv} {g22 c22 : Nat} (h : LastS w wi bk cs va vb os1 os2 g22 c22 u9 u10) (hb : Below wi.heap.size wi wj) : LastS w wj bk cs va vb os1 os2 g22 c22 u9 u10 where
  book := h.book.kept (GrownIn.of_below hb) (by have := h.book.lt; omega)
  cells := h.cells
  old := h.old.trans (hb.mono h.old.size)
  one := h.one.below hb
  twin := h.twin.below hb
  apart := h.apart
  sapart := h.sapart
  dis := h.dis
  l22 := owns_below h.l22 hb
  l9 := owns_below h.l9 hb
  l10 := owns_below h.l10 hb
/-- Lists of one kind, one cell each, that lie in a row: as the checker's functions take them. -/
theorem lists_of {α : Type} {val : α → Value} {num : α → Nat} {w : World} {B m c g sz : Nat} {e eS : TypeId} {os : List α} (hrow : w.ownsRow B eS 1 (.slice (some ⟨g, 0, none⟩) m c) m (os.map val)) (hlen : os.length = m) (hown : ∀ z ∈ os, ∃ xs, w.ownsRow B e sz (val z) (num z) xs)
    (hap : os.Pairwise fun a b => ∀ g, (val a).ownBlock = some g → (val b).ownBlock ≠ some g) (hne : e ≠ eS) : Lists w B e sz g m (fun j => ((os.map val)[j]?).getD (.slice none 0 0)) (fun j => ((os.map num)[j]?).getD 0) := by
  have hat : ∀ j, j < m → ∃ z, os[j]? = some z := fun j hj => ⟨_, List.getElem?_eq_getElem (by omega)⟩
  refine ⟨fun j hj => ?_, fun j hj => ?_, fun i j hi hj hij q h1 h2 => ?_, fun j hj hk => ?_⟩
  · obtain ⟨z, e⟩ := hat j hj
    simp only [List.getElem?_map, e, Option.map_some, Option.getD_some]
    exact owns_cell hrow rfl (by rw [List.getElem?_map, e]; rfl)
  · obtain ⟨z, e⟩ := hat j hj
    simp only [List.getElem?_map, e, Option.map_some, Option.getD_some]
    exact hown z (List.mem_of_getElem? e)
  · obtain ⟨y, ey⟩ := hat i hi
    obtain ⟨z, ez⟩ := hat j hj
    simp only [List.getElem?_map, ey, ez, Option.map_some, Option.getD_some] at h1 h2
    rcases Nat.lt_or_gt_of_ne hij with hlt | hlt
    · exact pairwise_at hap hlt ey ez q h1 h2
    · exact pairwise_at hap hlt ez ey q h2 h1
  · obtain ⟨z, ez⟩ := hat j hj
    simp only [List.getElem?_map, ez, Option.map_some, Option.getD_some] at hk
    obtain ⟨xs, hx⟩ := hown z (List.mem_of_getElem? ez)
    exact owns_other hx hrow hne hk rfl
theorem among_of {α : Type} {val : α → Value} {os : List α} {m k : Nat} (hlen : os.length = m) (h : Among m (fun j => ((os.map val)[j]?).getD (.slice none 0 0)) k) : ∃ z ∈ os, (val z).ownBlock = some k := by
  obtain ⟨j, hj, hk⟩ := h
  have ez : os[j]? = some (os[j]'(by omega)) := List.getElem?_eq_getElem _
  simp only [List.getElem?_map, ez, Option.map_some, Option.getD_some] at hk
  exact ⟨_, List.getElem_mem _, hk⟩
/-- What each of the book's fields may turn. -/
def turnS (va vb : Value) (os : List Sv) (m k b : Nat) : Prop :=
  if k = 9 then Among m (fun j => ((os.map valL)[j]?).getD (.slice none 0 0)) b else if k = 10 then Among m (fun j => ((os.map valD)[j]?).getD (.slice none 0 0)) b else if k = 22 then Among 2 (two va vb) b else False
theorem LastS.own {w wi : World} {bk : Nat} {cs : Array Value} {va vb u9 u10 : Value} {os1 os2 : List Sv} {g22 c22 : Nat} (h : LastS w wi bk cs va vb os1 os2 g22 c22 u9 u10) (hn1 : os1.length ≤ 400) (hn2 : os2.length ≤ 400) (hz : ∀ z ∈ os1 ++ os2, z.n ≤ 1000000 ∧ z.m ≤ 1000000) :
    Calls Tryz.prog 14 #[.pointer (some ⟨bk, 0, none⟩)] wi fun e w' => e = .returned (.bool true) ∧ Below w.heap.size w w' := by
  obtain ⟨m, hm⟩ : ∃ m, os1.length + os2.length = m := ⟨_, rfl⟩
  have hl9 := h.l9
  have hl10 := h.l10
  rw [hm] at hl9 hl10
  obtain ⟨os, hos⟩ : ∃ os, os1 ++ os2 = os := ⟨_, rfl⟩
  have hap := h.apart
  have hsap := h.sapart
  have hea : ∀ z ∈ os1 ++ os2, wi.ownsRow w.heap.size 29 2 (valL z) z.n (z.l.flatMap Lb.cells) ∧ wi.ownsRow w.heap.size 95 2 (valD z) z.m (z.s.flatMap encS) := fun z hz => by
    rcases List.mem_append.1 hz with hz | hz
    · exact h.one.each z hz
    · exact h.twin.each z hz
  rw [hos] at hl9 hl10 hz hap hsap hea
  have hlen : os.length = m := by rw [← hos, List.length_append, hm]
  have hAm2 : ∀ k, Among 2 (two va vb) k → va.ownBlock = some k ∨ vb.ownBlock = some k := fun k ⟨j, hj, hk⟩ => by
    rcases (show j = 0 ∨ j = 1 by omega) with rfl | rfl
    · exact .inl hk
    · exact .inr hk
  have hturn : ∀ k b, turnS va vb os m k b → (k = 9 ∧ ∃ z ∈ os, (valL z).ownBlock = some b) ∨ (k = 10 ∧ ∃ z ∈ os, (valD z).ownBlock = some b) ∨ (k = 22 ∧ (va.ownBlock = some b ∨ vb.ownBlock = some b)) := fun k b hs => by
    unfold turnS at hs
    by_cases h9 : k = 9
    · rw [if_pos h9] at hs
      exact .inl ⟨h9, among_of hlen hs⟩
    · rw [if_neg h9] at hs
      by_cases h10 : k = 10
      · rw [if_pos h10] at hs
        exact .inr (.inl ⟨h10, among_of hlen hs⟩)
      · rw [if_neg h10] at hs
        by_cases h22 : k = 22
        · rw [if_pos h22] at hs
          exact .inr (.inr ⟨h22, hAm2 b hs⟩)
        · rw [if_neg h22] at hs
          exact hs.elim
  have keep : ∀ k w1, GrownIn (SoFar (turnS va vb os m) k) wi w1 → ∀ {e : TypeId} {sz n : Nat} {v : Value} {xs : List Value}, wi.ownsRow w.heap.size e sz v n xs → (9 < k → e ≠ 29) → (10 < k → e ≠ 95) → (22 < k → e ≠ 132) → w1.ownsRow w.heap.size e sz v n xs := fun k w1 hg _ _ _ _ _ ho e1 e2 e3 =>
    hg.owns ho fun b hb ⟨j, hj, hs⟩ => by
      rcases hturn j b hs with ⟨rfl, z, hz', e⟩ | ⟨rfl, z, hz', e⟩ | ⟨rfl, e⟩
      · exact owns_other ho (hea z hz').1 (e1 hj) hb e
      · exact owns_other ho (hea z hz').2 (e2 hj) hb e
      · rcases e with e | e
        · exact owns_other ho h.one.row (e3 hj) hb e
        · exact owns_other ho h.twin.row (e3 hj) hb e
  have h22 := h.l22.lt g22 rfl
  refine (bookOwn_any bk (turnS va vb os m) (fun k => if k = 22 then .slice (some ⟨g22, 0, none⟩) 2 c22 else if k = 9 then u9 else if k = 10 then u10 else .slice none 0 0) wi cs h.book h.cells (fun k hk hs => ?_) (fun k hk w1 hg => ?_)).mono ?_
  · rcases hturn k bk hs with ⟨_, z, hz', e⟩ | ⟨_, z, hz', e⟩ | ⟨_, e⟩
    · exact owns_not_bk h.book (hea z hz').1 (by decide) e
    · exact owns_not_bk h.book (hea z hz').2 (by decide) e
    · rcases e with e | e
      · exact owns_not_bk h.book h.one.row (by decide) e
      · exact owns_not_bk h.book h.twin.row (by decide) e
  · have hsz := hg.size
    have hold := h.old.size
    by_cases h9 : k = 9
    · subst h9
      simp only [show ¬ (9 : Nat) = 22 by omega, if_false, if_true]
      obtain ⟨A9, c9, rfl, _, _⟩ := owns_slice hl9
      rcases hl9.2 with ⟨e, h0⟩ | ⟨g9, cap, cur, e, _⟩
      · rw [e]
        exact ownAt_nil 9 (by omega) _ _
      · injection e with e1 _ e3
        subst e1
        have hk9 := keep 9 w1 hg hl9 (fun _ => by decide) (fun h => absurd h (by omega)) (fun h => absurd h (by omega))
        have hL := lists_of (e := 29) (sz := 2) (num := (·.n)) hk9 hlen (fun z hz' => ⟨_, keep 9 w1 hg (hea z hz').1 (fun h => absurd h (by omega)) (fun h => absurd h (by omega)) (fun h => absurd h (by omega))⟩) hap (by decide)
        intro f hf
        obtain rfl := Option.some.inj hf
        refine (ownLabels_any w.heap.size g9 m c9 _ _ w1 hL (by omega) (hk9.lt g9 rfl).2 (by omega) (fun j hj => ?_)).mono fun e w' ⟨h1, h2⟩ => ⟨h1, h2.mono fun b _ hb => by unfold turnS; rw [if_pos rfl]; exact hb⟩
        have ez : os[j]? = some (os[j]'(by omega)) := List.getElem?_eq_getElem _
        simp only [List.getElem?_map, ez, Option.map_some, Option.getD_some]
        exact (hz _ (List.getElem_mem _)).1
    · by_cases h10 : k = 10
      · subst h10
        simp only [show ¬ (10 : Nat) = 22 by omega, show ¬ (10 : Nat) = 9 by omega, if_false, if_true]
        obtain ⟨A10, c10, rfl, _, _⟩ := owns_slice hl10
        rcases hl10.2 with ⟨e, h0⟩ | ⟨g10, cap, cur, e, _⟩
        · rw [e]
          exact ownAt_nil 10 (by omega) _ _
        · injection e with e1 _ e3
          subst e1
          have hk10 := keep 10 w1 hg hl10 (fun _ => by decide) (fun h => absurd h (by omega)) (fun h => absurd h (by omega))
          have hL := lists_of (e := 95) (sz := 2) (num := (·.m)) hk10 hlen (fun z hz' => ⟨_, keep 10 w1 hg (hea z hz').2 (fun _ => by decide) (fun h => absurd h (by omega)) (fun h => absurd h (by omega))⟩) hsap (by decide)
          intro f hf
          obtain rfl := Option.some.inj hf
          refine (ownSamples_any w.heap.size g10 m c10 _ _ w1 hL (by omega) (hk10.lt g10 rfl).2 (by omega) (fun j hj => ?_)).mono fun e w' ⟨h1, h2⟩ => ⟨h1, h2.mono fun b _ hb => by unfold turnS; rw [if_neg (by omega), if_pos rfl]; exact hb⟩
          have ez : os[j]? = some (os[j]'(by omega)) := List.getElem?_eq_getElem _
          simp only [List.getElem?_map, ez, Option.map_some, Option.getD_some]
          exact (hz _ (List.getElem_mem _)).2
      · by_cases h22' : k = 22
        · subst h22'
          simp only [if_true]
          have k1 := keep 22 w1 hg h.one.row (fun _ => by decide) (fun _ => by decide) (fun h => absurd h (by omega))
          have k2 := keep 22 w1 hg h.twin.row (fun _ => by decide) (fun _ => by decide) (fun h => absurd h (by omega))
          have k3 := keep 22 w1 hg h.l22 (fun _ => by decide) (fun _ => by decide) (fun h => absurd h (by omega))
          intro f hf
          obtain rfl := Option.some.inj hf
          exact (ownSeries_any w.heap.size g22 2 c22 (two va vb) (fun j => if j = 0 then os1.length else os2.length) w1 (lists_two k1 k2 h.dis (owns_cell k3 rfl rfl) (owns_cell k3 rfl rfl) (fun e => owns_other k1 k3 (by decide) e rfl) (fun e => owns_other k2 k3 (by decide) e rfl)) (by omega) (by omega) (by omega) (fun j _ => by split <;> omega)).mono fun e w' ⟨h1, h2⟩ => ⟨h1, h2.mono fun b _ hb => by unfold turnS; rw [if_neg (by omega), if_neg (by omega), if_pos rfl]; exact hb⟩
        · simp only [h22', h9, h10, if_false]
          exact ownAt_nil k hk _ _
  · rintro e w' ⟨rfl, hg⟩
    refine ⟨rfl, h.old.trans (hg.below (fun b ⟨j, hj, hs⟩ => ?_) h.old.size)⟩
    rcases hturn j b hs with ⟨_, z, hz', e⟩ | ⟨_, z, hz', e⟩ | ⟨_, e⟩
    · exact ((hea z hz').1.lt b e).1
    · exact ((hea z hz').2.lt b e).1
    · rcases e with e | e
      · exact (h.one.row.lt b e).1
      · exact (h.twin.row.lt b e).1
end Go.Proofs.YtihidnmpngeohaaGreat
namespace Go.Proofs.YtihidnmpngeohaaGreat
open Go.RowKit Go.Lib

/-- A series that came in, of any size. -/
structure SBig (w : World) (y : Sv) : Prop where
  lst : Lst Lb.cells 2 w w.heap.size y.A y.n y.l
  nil : y.A = none → y.n = 0 ∧ y.c = 0
  few : y.n ≤ 140737488355328
  sst : Lst encS 2 w w.heap.size y.D y.m y.s
  snil : y.D = none → y.m = 0 ∧ y.d = 0
  sfew : y.m ≤ 140737488355328
  txt : ∀ x ∈ y.l, x.nm.size ≤ 140737488351232 ∧ x.vl.size ≤ 140737488351232
def labW : List Lb → Nat
  | [] => 0
  | x :: l => x.nm.size + x.vl.size + labW l
theorem labW_append (a b : List Lb) : labW (a ++ b) = labW a + labW b := by
  induction a with
  | nil => simp [labW]
  | cons x a ih => simp only [List.cons_append, labW, ih]; omega
def serW : List Sv → Nat
  | [] => 0
  | y :: l => y.m + y.n + labW y.l + serW l
theorem serW_append (a b : List Sv) : serW (a ++ b) = serW a + serW b := by
  induction a with
  | nil => simp [serW]
  | cons x a ih => simp only [List.cons_append, serW, ih]; omega
theorem keyL_len : ∀ l : List Lb, (keyL l).length ≤ 2 * labW l + 2 * l.length
  | [] => by simp [keyL, labW]
  | x :: l => by
    have h := keyL_len l
    have h1 := putK_len x.nm.data.toList
    have h2 := putK_len x.vl.data.toList
    have e : (keyL (x :: l)).length = (putK x.nm.data.toList).length + (putK x.vl.data.toList).length + (keyL l).length := by
      show (labK x ++ keyL l).length = _
      rw [List.length_append]
      unfold labK
      rw [List.length_append]
    have e1 : x.nm.data.toList.length = x.nm.size := by rw [Array.length_toList]; rfl
    have e2 : x.vl.data.toList.length = x.vl.size := by rw [Array.length_toList]; rfl
    rw [e, labW, List.length_cons]
    omega
/-- No more than is looked at. -/
structure SFew (n : Nat) (ys : List Sv) : Prop where
  len : n ≤ 60
  all : n + serW ys ≤ 3000
theorem serW_mem {ys : List Sv} {y : Sv} (h : y ∈ ys) : y.m + y.n + labW y.l ≤ serW ys := by
  induction ys with
  | nil => cases h
  | cons x ys ih =>
    simp only [serW]
    rcases List.mem_cons.1 h with rfl | h
    · omega
    · have := ih h; omega
theorem serW_flat {ys : List Sv} (h : ∀ y ∈ ys, y.s.length = y.m) : (ys.flatMap (·.s)).length ≤ serW ys := by
  induction ys with
  | nil => simp [serW]
  | cons x ys ih =>
    have := ih fun y hy => h y (by simp [hy])
    have hx := h x (by simp)
    simp only [List.flatMap_cons, List.length_append, serW]
    omega
def muchB (n : Nat) (ys : List Sv) : Bool := decide (3000 < n + serW ys) || decide (60 < n)
theorem muchB_false {n : Nat} {ys : List Sv} (h : muchB n ys = false) : SFew n ys := by
  unfold muchB at h
  rw [Bool.or_eq_false_iff] at h
  have h1 := of_decide_eq_false h.1
  have h2 := of_decide_eq_false h.2
  exact ⟨by omega, by omega⟩
theorem muchB_of {n : Nat} {ys : List Sv} (h : 3000 < n + serW ys ∨ 60 < n) : muchB n ys = true := by
  unfold muchB
  rcases h with h | h
  · rw [decide_eq_true h]; rfl
  · rw [decide_eq_true h, Bool.or_true]
theorem muchB_few {n : Nat} {ys : List Sv} (h : SFew n ys) : muchB n ys = false := by
  have h1 := h.len
  have h2 := h.all
  unfold muchB
  rw [decide_eq_false (by omega), decide_eq_false (by omega)]; rfl
theorem serW_take {ys : List Sv} (i : Nat) : serW (ys.take i) ≤ serW ys := by
  have h : serW ys = serW (ys.take i) + serW (ys.drop i) := by rw [← serW_append, List.take_append_drop]
  omega
/-- How the count stands behind the first i. -/
def CountS (n : Nat) (ys : List Sv) (i s : Nat) : Prop := (s ≤ 3000 → s = n + serW (ys.take i)) ∧ (3000 < s → 3000 < n + serW ys)
def MuchPost (w : World) (n : Nat) (ys : List Sv) (e : Ending) (w' : World) : Prop := e = .returned (.bool (muchB n ys)) ∧ ∃ q, w' = w.drewN q
set_option maxHeartbeats 4000000 in
set_option maxRecDepth 100000 in
theorem much_any (A : Option Addr) (n c : Nat) (ys : List Sv) (w : World) (hL : Lst encSv 2 w w.heap.size A n ys) (hn : n ≤ 140737488355328) (hT : ∀ y ∈ ys, SBig w y) :
    Calls Tryz.prog 15 #[.slice A n c] w (MuchPost w n ys) := by
  have HL := Lib.hid (show _ ∧ _ from ⟨hL, hT⟩)
  have hln := hL.1
  clear hL hT
  go_enter Tryz.func15, Tryz.ntmps15
  go_wp2
  go_loopw [3, 4, 5] (fun nv iv _ wr => ∃ (i s q : Nat), i ≤ n ∧ iv = .int .i64 i ∧ nv = .int .i64 s ∧ wr = w.drewN q ∧ Hid (CountS n ys i s) ∧ s ≤ 1125899906842624) (fun _ iv _ _ => n - (intOf iv).toNat)
  case atStart => exact ⟨0, n, 0, Nat.zero_le _, rfl, rfl, rfl, Lib.hid ⟨fun _ => by simp [serW], fun h => by omega⟩, by omega⟩
  case round =>
    obtain ⟨i, s, q, hi, rfl, rfl, rfl, HS, hs63⟩ := hrel
    by_cases hlt : i < n
    · by_cases hs3 : s ≤ 3000
      · obtain ⟨b, off, y, rfl, hb, hy, hc⟩ := HL.out.1.at hlt
        have hyT := HL.out.2 y (List.mem_of_getElem? hy)
        have c0 := hc 0 _ rfl
        have c1 := hc 1 _ rfl
        simp only [Nat.add_zero] at c0
        have hyn := hyT.few
        have hym := hyT.sfew
        have htk : serW (ys.take (i + 1)) = serW (ys.take i) + (y.m + y.n + labW y.l) := by
          obtain ⟨g1, g2⟩ := List.getElem?_eq_some_iff.1 hy
          rw [List.take_succ_eq_append_getElem g1, g2, serW_append]
          simp only [serW]
          omega
        have hnext : ∀ t, (t ≤ 3000 → t = s + y.m + y.n + labW y.l) → (3000 < t → t ≤ s + y.m + y.n + labW y.l) → CountS n ys (i + 1) t := fun t ht ht2 => by
          have h5 := HS.out.1 hs3
          have h6 := serW_take (ys := ys) (i + 1)
          refine ⟨fun h3 => ?_, fun h3 => ?_⟩
          · have h4 := ht h3; omega
          · have h4 := ht2 h3; omega
        have HY := Lib.hid (show _ ∧ _ ∧ _ ∧ _ from ⟨hy, hyT, hb, hnext⟩)
        have C0 := Lib.hid (show _ ∧ _ from ⟨c0, c1⟩)
        have ii : (i : Int) < (n : Int) := by omega
        have ss : (s : Int) ≤ 3000 := by omega
        clear hy hyT hc hb hnext htk
        go_wp2_with (go_quiet (fail))
        go_loopw [3, 5] (fun nv jv wr => ∃ (j s2 q2 : Nat), j ≤ y.n ∧ jv = .int .i64 j ∧ nv = .int .i64 s2 ∧ wr = w.drewN q2 ∧ Hid ((s2 ≤ 3000 → s2 = s + y.m + y.n + labW (y.l.take j)) ∧ s2 ≤ s + y.m + y.n + labW y.l) ∧ s2 ≤ 1125899906842624) (fun _ jv _ => y.n - (intOf jv).toNat)
        case atStart => exact ⟨0, s + (y.m + y.n), _, Nat.zero_le _, rfl, by simp, (by first | rfl | exact World.drewN_drewN _ _ _), Lib.hid ⟨fun _ => by simp [labW]; omega, by omega⟩, by omega⟩
        case round =>
          obtain ⟨j, s2, q2, hj, rfl, rfl, rfl, h1, h3⟩ := hrel
          have c0 := C0.out.1
          by_cases hjl : j < y.n
          · by_cases hs4 : s2 ≤ 3000
            · obtain ⟨b2, off2, x, hA2, hb2, hx, hc2⟩ := HY.out.2.1.lst.at hjl
              rw [hA2] at c0
              have e0 := hc2 0 _ rfl
              have e1 := hc2 1 _ rfl
              simp only [Nat.add_zero] at e0
              obtain ⟨t0, t1⟩ := HY.out.2.1.txt x (List.mem_of_getElem? hx)
              have hlk : labW (y.l.take (j + 1)) = labW (y.l.take j) + (x.nm.size + x.vl.size) := by
                obtain ⟨g1, g2⟩ := List.getElem?_eq_some_iff.1 hx
                rw [List.take_succ_eq_append_getElem g1, g2, labW_append]
                simp only [labW]
                omega
              have hll : labW (y.l.take (j + 1)) ≤ labW y.l := by
                have h : labW y.l = labW (y.l.take (j + 1)) + labW (y.l.drop (j + 1)) := by rw [← labW_append, List.take_append_drop]
                omega
              have hnx : (s2 + (x.nm.size + x.vl.size) ≤ 3000 → s2 + (x.nm.size + x.vl.size) = s + y.m + y.n + labW (y.l.take (j + 1))) ∧ s2 + (x.nm.size + x.vl.size) ≤ s + y.m + y.n + labW y.l := by
                have := h1.out.1 hs4
                exact ⟨fun _ => by omega, by omega⟩
              have HN := Lib.hid hnx
              have jj : (j : Int) < (y.n : Int) := by omega
              have jj0 : (0 : Int) ≤ (j : Int) := by omega
              have ss2 : (s2 : Int) ≤ 3000 := by omega
              clear hx hc2 hnx hlk hll
              go_wp2_with (go_quiet (fail))
              go_roundw
              case measure => simp [intOf]; omega
              case rel => exact ⟨j + 1, s2 + (x.nm.size + x.vl.size), _, hjl, by simp, by simp, by first | rfl | exact World.drewN_drewN _ _ _, HN, by omega⟩
            · have ss2 : (3000 : Int) < (s2 : Int) := by omega
              have hbn : Hid (CountS n ys (i + 1) s2) := Lib.hid (HY.out.2.2.2 s2 (fun h => absurd h hs4) (fun _ => h1.out.2))
              go_wp2_with (go_quiet (fail))
              go_roundw
              case measure => simp [intOf]; omega
              case rel => exact ⟨i + 1, s2, _, hlt, by simp, rfl, by first | rfl | exact World.drewN_drewN _ _ _, hbn, h3⟩
          · have jj : ¬ (j : Int) < (y.n : Int) := by omega
            have hbn : Hid (CountS n ys (i + 1) s2) := Lib.hid (HY.out.2.2.2 s2 (fun h => by
              have := h1.out.1 h
              rwa [List.take_of_length_le (by rw [HY.out.2.1.lst.1]; omega)] at this) (fun _ => h1.out.2))
            go_wp2_with (go_quiet (fail))
            go_roundw
            case measure => simp [intOf]; omega
            case rel => exact ⟨i + 1, s2, _, hlt, by simp, rfl, by first | rfl | exact World.drewN_drewN _ _ _, hbn, h3⟩
      · have ss : (3000 : Int) < (s : Int) := by omega
        have HM := Lib.hid (muchB_of (.inl (HS.out.2 (by omega)))).symm
        go_wp2_with (go_quiet (fail))
        go_ret
        exact ⟨by rw [← HM.out]; first | rfl | (show Ending.returned (.bool (decide (3000 < (s : Int)) || decide (60 < (i : Int)))) = _; first | (rw [decide_eq_false (by omega), decide_eq_false (by omega)]; rfl) | (rw [decide_eq_true (show (60 : Int) < (i : Int) by omega), Bool.or_true])), _, (by first | rfl | exact World.drewN_drewN _ _ _)⟩
    · obtain rfl : i = n := by omega
      by_cases hs3 : s ≤ 3000
      · by_cases hn1 : i ≤ 60
        · have hF : SFew i ys := ⟨hn1, by
            have := HS.out.1 hs3
            rw [List.take_of_length_le (by omega)] at this
            omega⟩
          have HF := Lib.hid (muchB_few hF).symm
          have ss : (s : Int) ≤ 3000 := by omega
          have nn : (i : Int) ≤ 60 := by omega
          clear hF HS
          go_wp2_with (go_quiet (fail))
          go_ret
          exact ⟨by rw [← HF.out]; first | rfl | (show Ending.returned (.bool (decide (3000 < (s : Int)) || decide (60 < (i : Int)))) = _; first | (rw [decide_eq_false (by omega), decide_eq_false (by omega)]; rfl) | (rw [decide_eq_true (show (60 : Int) < (i : Int) by omega), Bool.or_true])), _, (by first | rfl | exact World.drewN_drewN _ _ _)⟩
        · have nn : (60 : Int) < (i : Int) := by omega
          have ss : (s : Int) ≤ 3000 := by omega
          have HM := Lib.hid (muchB_of (n := i) (ys := ys) (.inr (by omega))).symm
          go_wp2_with (go_quiet (fail))
          go_ret
          exact ⟨by rw [← HM.out]; first | rfl | (show Ending.returned (.bool (decide (3000 < (s : Int)) || decide (60 < (i : Int)))) = _; first | (rw [decide_eq_false (by omega), decide_eq_false (by omega)]; rfl) | (rw [decide_eq_true (show (60 : Int) < (i : Int) by omega), Bool.or_true])), _, (by first | rfl | exact World.drewN_drewN _ _ _)⟩
      · have ss : (3000 : Int) < (s : Int) := by omega
        have HM := Lib.hid (muchB_of (.inl (HS.out.2 (by omega)))).symm
        go_wp2_with (go_quiet (fail))
        go_ret
        exact ⟨by rw [← HM.out]; first | rfl | (show Ending.returned (.bool (decide (3000 < (s : Int)) || decide (60 < (i : Int)))) = _; first | (rw [decide_eq_false (by omega), decide_eq_false (by omega)]; rfl) | (rw [decide_eq_true (show (60 : Int) < (i : Int) by omega), Bool.or_true])), _, (by first | rfl | exact World.drewN_drewN _ _ _)⟩
end Go.Proofs.YtihidnmpngeohaaGreat
