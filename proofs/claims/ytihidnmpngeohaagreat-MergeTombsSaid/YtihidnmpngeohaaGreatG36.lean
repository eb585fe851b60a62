/- Book.Samples: a list is laid behind in the book. Written off a master by mk2.py. SameSamples at two lists that are one. Written off a master by mk2.py. Two lists in the checker's book, and what stands when all is asked. What stands when all is asked of tombs: the book owns what was handed back. -/
import Derived.Test.YtihidnmpngeohaaGreatOwnSample
import Derived.Test.YtihidnmpngeohaaGreatG22
import Derived.BigQuiet
import Derived.Test.YtihidnmpngeohaaGreatG32
import Derived.Test.YtihidnmpngeohaaGreatOwnBookLT
import Derived.Test.YtihidnmpngeohaaGreatOwnNil
namespace Go.Proofs.YtihidnmpngeohaaGreat
open Go.RowKit Go.Lib

set_option maxHeartbeats 4000000 in
set_option maxRecDepth 100000 in
theorem bookSamples (bk B m : Nat) (cs : Array Value) (v : Value) (A : Option Addr) (n c : Nat) (Ls : List Value) (w : World) (hb : Bk w bk cs) (hv : cs[10]? = some v) (ho : w.ownsRow B 90 1 v m Ls) (hne : v.ownBlock ≠ some bk) (hB : B ≤ w.heap.size) (hm : m ≤ 1000000) :
    Calls Tryz.prog 84 #[.pointer (some ⟨bk, 0, none⟩), .slice A n c] w (PutPost w bk B m 10 90 cs v (.slice A n c) Ls) := by
  obtain ⟨i1, hi, hz0, hz1, hz2⟩ := info_parts Tryz.infoSamples
  have HJ := Lib.hid (show _ ∧ _ ∧ _ ∧ _ from ⟨hi, hz0, hz1, hz2⟩)
  have c2 := (hb.cell 10).trans hv
  have f2 := hb.free 10
  have HB := Lib.hid (show _ ∧ _ from ⟨hb, ho⟩)
  have HNE := Lib.hid hne
  clear hi hz0 hz1 hz2 hb hv ho hne
  go_enter Tryz.func84, Tryz.ntmps84
  obtain ⟨hi, hz0, hz1, hz2⟩ := HJ.out
  go_wp2_with (at_builtin; refine wpList_append_full _ rfl _ _ 44 rfl B 90 i1 _ 1 24 Tryz.underlying44 hi hz0 hz1 hz2 rfl (by omega) _ m Ls rfl (HB.out.2.alloc _) ⟨w.heap.size, 0, none⟩ 1 1 [.slice A n c] rfl rfl (cells_one w _ _) (by simp [Value.oneCell']) (by omega) (by unfold maxLen; omega) (by omega) (by simp; omega) ?_)
  intro g cap w5 hown5 hg5 hl5 ho5
  have hb1 : Bk (w.alloc (.cells #[.slice A n c] 90)) bk cs := HB.out.1.kept (GrownIn.alloc (GrownIn.refl (fun _ => False) w) _) (fun h => h)
  have hb5 := hb1.kept (GrownIn.of_grownBy hg5) HNE.out
  have hgr : GrownIn (fun k => k = bk ∨ v.ownBlock = some k) w w5 := ((GrownIn.refl _ w).alloc _).trans (GrownIn.of_grownBy hg5) (fun k _ h => .inr h)
  have hgb : g ≠ bk := by
    rcases hl5 with h | h
    · intro e; exact HNE.out (by rw [h, e])
    · have := HB.out.1.lt; intro e; omega
  have hbs := hb5.set 10 (.slice (some ⟨g, 0, none⟩) (m + 1) cap)
  have hos := owns_set_other hown5 (p := ⟨bk, 10, none⟩) (by simp [Value.ownBlock]; exact hgb) (.slice (some ⟨g, 0, none⟩) (m + 1) cap)
  have hgs := grownIn_set hgr (p := ⟨bk, 10, none⟩) (.inl rfl) (.slice (some ⟨g, 0, none⟩) (m + 1) cap)
  have hlies : v.ownBlock = some g ∨ w.heap.size ≤ g := hl5.imp_right fun h => by omega
  have HF := Lib.hid (show _ ∧ _ ∧ _ ∧ _ from ⟨hos, hbs, hgs, hlies⟩)
  have c5 : w5.cell? ⟨bk, 10, none⟩ = some v := (hb5.cell 10).trans ((hb1.cell 10).symm.trans (by rw [World.cell?_alloc_lt _ _ _ HB.out.1.lt]; exact c2))
  have f5 := hb5.free 10
  clear c2 f2 hi hz0 hz1 hz2 hown5 hg5 hl5 ho5 hb1 hb5 hgr hgb hbs hos hgs hlies
  go_wp2
  go_end0
  exact ⟨rfl, g, cap, HF.out.1, HF.out.2.1, HF.out.2.2.1, HF.out.2.2.2⟩
end Go.Proofs.YtihidnmpngeohaaGreat
namespace Go.Proofs.YtihidnmpngeohaaGreat
open Go.RowKit Go.Lib

theorem below_drewSample {w w' : World} (h : ∃ q, w' = w.drewN q) : Below w.heap.size w w' := by
  obtain ⟨q, rfl⟩ := h
  exact below_drewN (Below.refl _ _) q
set_option maxHeartbeats 2000000 in
theorem sameSample_q (A B : Option Addr) (n ca cb : Nat) (l : List (Int × Int)) (w : World) (ha : Lst encS 2 w w.heap.size A n l) (hb : Lst encS 2 w w.heap.size B n l) (hbig : n ≤ 1000000000) :
    Calls Tryz.prog 40 #[.slice A n ca, .slice B n cb] w fun e w' => e = .returned (.bool true) ∧ ∃ q, w' = w.drewN q := by
  have HA := Lib.hid ha
  have HB := Lib.hid hb
  clear ha hb
  go_enter Tryz.func40, Tryz.ntmps40
  go_wp2
  go_loopw [5] (fun i wr => ∃ k q : Nat, k ≤ n ∧ i = .int .i64 k ∧ wr = w.drewN q) (fun i _ => n - (intOf i).toNat)
  case atStart => exact ⟨0, 0, Nat.zero_le _, rfl, rfl⟩
  case round =>
    obtain ⟨k, q, hk, rfl, rfl⟩ := hrel
    by_cases hlt : k < n
    · obtain ⟨b, off, m, rfl, hbb, hm, hc⟩ := HA.out.at hlt
      obtain ⟨b2, off2, m2, rfl, hbb2, hm2, hc2⟩ := HB.out.at hlt
      obtain rfl : m = m2 := by rw [hm] at hm2; exact Option.some.inj hm2
      have c0 := hc 0 _ rfl
      have c1 := hc 1 _ rfl
      have d0 := hc2 0 _ rfl
      have d1 := hc2 1 _ rfl
      simp only [Nat.add_zero] at c0 d0
      clear hm hm2 hc hc2
      go_wp2_with (go_quiet (fail))
      go_roundw
      case measure => simp [intOf]; omega
      case rel => exact ⟨k + 1, _, hlt, by simp, by first | rfl | exact World.drewN_drewN _ _ _⟩
    · go_wp2
      go_ret
      exact ⟨rfl, q, rfl⟩
theorem sameSample_eq (A B : Option Addr) (n ca cb : Nat) (l : List (Int × Int)) (w : World) (ha : Lst encS 2 w w.heap.size A n l) (hb : Lst encS 2 w w.heap.size B n l) (hbig : n ≤ 1000000000) :
    Calls Tryz.prog 40 #[.slice A n ca, .slice B n cb] w fun e w' => e = .returned (.bool true) ∧ Below w.heap.size w w' :=
  (sameSample_q A B n ca cb l w ha hb hbig).mono fun _ _ ⟨h1, h2⟩ => ⟨h1, below_drewSample h2⟩
end Go.Proofs.YtihidnmpngeohaaGreat
namespace Go.Proofs.YtihidnmpngeohaaGreat
open Go.RowKit Go.Lib

def nils : Array Value := (List.replicate 32 (Value.slice none 0 0)).toArray
theorem nils_at {k : Nat} (hk : k < 32) : nils[k]? = some (.slice none 0 0) := by unfold nils; rw [List.getElem?_toArray, List.getElem?_replicate, if_pos hk]
/-- Two lists in the book. -/
def two (a b : Value) (j : Nat) : Value := if j = 0 then a else b
theorem lists_two {w : World} {B : Nat} {e : TypeId} {sz BL n m : Nat} {a b : Value} {xs ys : List Value} (ha : w.ownsRow B e sz a n xs) (hb : w.ownsRow B e sz b m ys)
    (hne : ∀ g, a.ownBlock = some g → b.ownBlock ≠ some g) (h0 : w.cell? ⟨BL, 0, none⟩ = some a) (h1 : w.cell? ⟨BL, 1, none⟩ = some b) (oa : a.ownBlock ≠ some BL) (ob : b.ownBlock ≠ some BL) :
    Lists w B e sz BL 2 (two a b) (fun j => if j = 0 then n else m) where
  row j hj := by
    rcases (show j = 0 ∨ j = 1 by omega) with rfl | rfl
    · exact h0
    · exact h1
  own j hj := by
    rcases (show j = 0 ∨ j = 1 by omega) with rfl | rfl
    · exact ⟨xs, ha⟩
    · exact ⟨ys, hb⟩
  apart i j hi hj hij g := by
    rcases (show i = 0 ∨ i = 1 by omega) with rfl | rfl <;> rcases (show j = 0 ∨ j = 1 by omega) with rfl | rfl
    · exact absurd rfl hij
    · exact hne g
    · intro h1 h2; exact hne g h2 h1
    · exact absurd rfl hij
  off j hj := by
    rcases (show j = 0 ∨ j = 1 by omega) with rfl | rfl
    · exact oa
    · exact ob
/-- What stands when all is asked: the book, the two lists, the reference's. -/
structure Last (w wi : World) (bk : Nat) (cs : Array Value) (a b lv r : Value) (R : List (Int × Int)) : Prop where
  book : Bk wi bk cs
  old : Below w.heap.size w wi
  one : wi.ownsRow w.heap.size 95 2 a R.length (R.flatMap encS)
  two : wi.ownsRow w.heap.size 95 2 b R.length (R.flatMap encS)
  ref : wi.ownsRow w.heap.size 95 2 r R.length (R.flatMap encS)
  list : wi.ownsRow w.heap.size 90 1 lv 2 [a, b]
theorem Last.step {w wi wj : World} {bk : Nat} {cs : Array Value} {a b lv r : Value} {R : List (Int × Int)} (h : Last w wi bk cs a b lv r R) (hb : Below wi.heap.size wi wj) : Last w wj bk cs a b lv r R where
  book := h.book.kept (GrownIn.of_below hb) (by have := h.book.lt; omega)
  old := h.old.trans (hb.mono h.old.size)
  one := owns_below h.one hb
  two := owns_below h.two hb
  ref := owns_below h.ref hb
  list := owns_below h.list hb
theorem Last.drewN {w wi : World} {bk : Nat} {cs : Array Value} {a b lv r : Value} {R : List (Int × Int)} (h : Last w wi bk cs a b lv r R) (q : Nat) : Last w (wi.drewN q) bk cs a b lv r R := h.step (below_drewN (Below.refl _ _) q)
/-- SameSamples of two rows that hold the same. -/
theorem same_own {a b : Value} {B B' n m : Nat} {l : List (Int × Int)} {w : World} (ha : w.ownsRow B 95 2 a n (l.flatMap encS)) (hb : w.ownsRow B' 95 2 b n (l.flatMap encS)) (hn : n ≤ 1000000000) (_hm : m = n) :
    Calls Tryz.prog 40 #[a, b] w fun e w' => e = .returned (.bool true) ∧ Below w.heap.size w w' := by
  have hl := owns_len ha encS_len (by omega)
  obtain ⟨A, c, rfl, _, h1⟩ := ownsRow_lst ha hl encS_len
  obtain ⟨A', c', rfl, _, h2⟩ := ownsRow_lst hb hl encS_len
  exact sameSample_eq A A' n c c' l w h1 h2 hn
end Go.Proofs.YtihidnmpngeohaaGreat
namespace Go.Proofs.YtihidnmpngeohaaGreat
open Go.RowKit Go.Lib

structure LastT (w wi : World) (bk : Nat) (cs : Array Value) (va vb : Value) (os1 os2 : List Tv) (g25 c25 : Nat) (v9 : Value) : Prop where
  book : Bk wi bk cs
  cells : ∀ k, k < 32 → cs[k]? = some (if k = 9 then v9 else if k = 25 then .slice (some ⟨g25, 0, none⟩) 2 c25 else .slice none 0 0)
  old : Below w.heap.size w wi
  one : OutTb wi w.heap.size va os1
  twin : OutTb wi w.heap.size vb os2
  apart : (os1 ++ os2).Pairwise fun a b => ∀ g, (Value.slice a.A a.n a.c).ownBlock = some g → (Value.slice b.A b.n b.c).ownBlock ≠ some g
  dis : ∀ b, va.ownBlock = some b → vb.ownBlock ≠ some b
  l25 : wi.ownsRow w.heap.size 22 1 (.slice (some ⟨g25, 0, none⟩) 2 c25) 2 [va, vb]
  l9 : wi.ownsRow w.heap.size 23 1 v9 (os1.length + os2.length) ((os1 ++ os2).map valT)
theorem LastT.step {w wi wj : World} {bk : Nat} {cs : Array Value} {va vb v9 : Value} {os1 os2 : List Tv} {g25 c25 : Nat} (h : LastT w wi bk cs va vb os1 os2 g25 c25 v9) (hb : Below wi.heap.size wi wj) : LastT w wj bk cs va vb os1 os2 g25 c25 v9 where
  book := h.book.kept (GrownIn.of_below hb) (by have := h.book.lt; omega)
  cells := h.cells
  old := h.old.trans (hb.mono h.old.size)
  one := h.one.below hb
  twin := h.twin.below hb
  apart := h.apart
  dis := h.dis
  l25 := owns_below h.l25 hb
  l9 := owns_below h.l9 hb
theorem LastT.each {w wi : World} {bk : Nat} {cs : Array Value} {va vb v9 : Value} {os1 os2 : List Tv} {g25 c25 : Nat} (h : LastT w wi bk cs va vb os1 os2 g25 c25 v9) : ∀ z ∈ os1 ++ os2, wi.ownsRow w.heap.size 29 2 (valT z) z.n (z.l.flatMap Lb.cells) := fun z hz => by
  rcases List.mem_append.1 hz with hz | hz
  · exact h.one.each z hz
  · exact h.twin.each z hz
theorem LastT.own {w wi : World} {bk : Nat} {cs : Array Value} {va vb v9 : Value} {os1 os2 : List Tv} {g25 c25 : Nat} (h : LastT w wi bk cs va vb os1 os2 g25 c25 v9) (hn1 : os1.length ≤ 1000) (hn2 : os2.length ≤ 1000) (hz : ∀ z ∈ os1 ++ os2, z.n ≤ 1000000) :
    Calls Tryz.prog 14 #[.pointer (some ⟨bk, 0, none⟩)] wi fun e w' => e = .returned (.bool true) ∧ Below w.heap.size w w' := by
  obtain ⟨A9, c9, rfl, _, _⟩ := owns_slice h.l9
  obtain ⟨m, hm⟩ : ∃ m, os1.length + os2.length = m := ⟨_, rfl⟩
  have hl9 := h.l9
  have hcells := h.cells
  rw [hm] at hl9 hcells
  obtain ⟨os, hos⟩ : ∃ os, os1 ++ os2 = os := ⟨_, rfl⟩
  have hap := h.apart
  have hea := h.each
  rw [hos] at hl9 hz hap hea
  have hlen : os.length = m := by rw [← hos, List.length_append, hm]
  have hat : ∀ j, j < m → ∃ z, os[j]? = some z := fun j hj => ⟨_, List.getElem?_eq_getElem (by omega)⟩
  let V : Nat → Value := fun j => ((os.map valT)[j]?).getD (.slice none 0 0)
  let N : Nat → Nat := fun j => ((os.map (·.n))[j]?).getD 0
  have hV : ∀ j z, os[j]? = some z → V j = valT z := fun j z hj => by simp [V, hj]
  have hN : ∀ j z, os[j]? = some z → N j = z.n := fun j z hj => by simp [N, hj]
  have hAm : ∀ k, Among m V k → ∃ z ∈ os, (valT z).ownBlock = some k := fun k ⟨j, hj, hk⟩ => by
    obtain ⟨z, e⟩ := hat j hj
    rw [hV j z e] at hk
    exact ⟨z, List.mem_of_getElem? e, hk⟩
  have hAm2 : ∀ k, Among 2 (two va vb) k → va.ownBlock = some k ∨ vb.ownBlock = some k := fun k ⟨j, hj, hk⟩ => by
    rcases (show j = 0 ∨ j = 1 by omega) with rfl | rfl
    · exact .inl hk
    · exact .inr hk
  have hbt : ∀ {e : TypeId} {sz n : Nat} {v : Value} {xs : List Value}, wi.ownsRow w.heap.size e sz v n xs → e ≠ 67 → v.ownBlock ≠ some bk := fun ho hne hk => by
    obtain ⟨cs', fz, h1⟩ := owns_typed ho hk
    have h2 := h.book.1
    rw [h1] at h2
    injection h2 with h2
    injection h2 with _ h2
    exact hne h2
  have h25 := h.l25.lt g25 rfl
  refine (bookOwn_LabelsTombs bk m c9 g25 2 c25 A9 (Among m V) (Among 2 (two va vb)) wi cs h.book hcells ?_ ?_ ?_ ?_).mono ?_
  · intro hk
    obtain ⟨z, hz', e⟩ := hAm _ hk
    exact hbt (hea z hz') (by decide) e
  · intro hk
    rcases hAm2 _ hk with e | e
    · exact hbt h.one.row (by decide) e
    · exact hbt h.twin.row (by decide) e
  · rcases hl9.2 with ⟨e, h0⟩ | ⟨g9, cap, cur, e, _⟩
    · injection e with e1 _ e3
      subst e1 h0 e3
      refine (ownLabels_nil wi).mono ?_
      rintro e w' ⟨rfl, rfl⟩
      exact ⟨rfl, GrownIn.refl _ _⟩
    · injection e with e1 _ e3
      subst e1
      have hg9 := (hl9.lt g9 rfl)
      refine ownLabels_any w.heap.size g9 m c9 V N wi ⟨fun j hj => ?_, fun j hj => ?_, fun i j hi hj hij g h1 h2 => ?_, fun j hj hk => ?_⟩ h.old.size hg9.2 (by omega) (fun j hj => ?_)
      · obtain ⟨z, e⟩ := hat j hj
        rw [hV j z e]
        exact owns_cell hl9 rfl (by rw [List.getElem?_map, e]; rfl)
      · obtain ⟨z, e⟩ := hat j hj
        rw [hV j z e, hN j z e]
        exact ⟨_, hea z (List.mem_of_getElem? e)⟩
      · obtain ⟨y, ey⟩ := hat i hi
        obtain ⟨z, ez⟩ := hat j hj
        rw [hV i y ey] at h1
        rw [hV j z ez] at h2
        obtain ⟨i1, ei⟩ := List.getElem?_eq_some_iff.1 ey
        obtain ⟨j1, ej⟩ := List.getElem?_eq_some_iff.1 ez
        rcases Nat.lt_or_gt_of_ne hij with hlt | hlt
        · have := List.pairwise_iff_getElem.1 hap i j i1 j1 hlt g
          rw [ei, ej] at this
          exact this h1 h2
        · have := List.pairwise_iff_getElem.1 hap j i j1 i1 hlt g
          rw [ei, ej] at this
          exact this h2 h1
      · obtain ⟨z, e⟩ := hat j hj
        rw [hV j z e] at hk
        exact owns_other (hea z (List.mem_of_getElem? e)) hl9 (by decide) hk rfl
      · obtain ⟨z, e⟩ := hat j hj
        rw [hN j z e]
        exact hz z (List.mem_of_getElem? e)
  · intro w1 hg1
    have keep : ∀ {e : TypeId} {sz n : Nat} {v : Value} {xs : List Value}, wi.ownsRow w.heap.size e sz v n xs → e ≠ 29 → w1.ownsRow w.heap.size e sz v n xs := fun ho hne => hg1.owns ho fun k hk hs => by
      obtain ⟨z, hz', e⟩ := hAm _ hs
      exact owns_other ho (hea z hz') hne hk e
    have k1 := keep h.one.row (by decide)
    have k2 := keep h.twin.row (by decide)
    have k3 := keep h.l25 (by decide)
    exact ownTombs_any w.heap.size g25 2 c25 (two va vb) (fun j => if j = 0 then os1.length else os2.length) w1 (lists_two k1 k2 h.dis (owns_cell k3 rfl rfl) (owns_cell k3 rfl rfl) (fun e => owns_other k1 k3 (by decide) e rfl) (fun e => owns_other k2 k3 (by decide) e rfl)) (Nat.le_trans h.old.size hg1.size) (Nat.lt_of_lt_of_le h25.2 hg1.size) (by omega) (fun j _ => by split <;> omega)
  · rintro e w' ⟨rfl, hg⟩
    refine ⟨rfl, h.old.trans (hg.below (fun k hk => ?_) h.old.size)⟩
    rcases hk with hk | hk
    · obtain ⟨z, hz', e⟩ := hAm _ hk
      exact ((hea z hz').lt k e).1
    · rcases hAm2 _ hk with e | e
      · exact (h.one.row.lt k e).1
      · exact (h.twin.row.lt k e).1
/-- How long a row of tombs is that were put together, and what labels they bear. -/
theorem tombsU_mem {K : Type} {c : K → K → Int} (h : Cmp3 c) {l : List (K × (Int × Int))} {p : K × (Int × Int)} (hp : p ∈ tombsU c l) : ∃ x ∈ l, x.1 = p.1 := by
  unfold tombsU tombsOf at hp
  obtain ⟨s, hs, hp⟩ := List.mem_flatMap.1 hp
  obtain ⟨g, _, rfl⟩ := List.mem_map.1 hp
  exact ((keysOf_keys h l).mem s).1 hs
theorem tombsU_len {K : Type} {c : K → K → Int} (h : Cmp3 c) (l : List (K × (Int × Int))) : (tombsU c l).length ≤ l.length := by
  have hp := List.mergeSort_perm l (fun a b => decide (c a.1 b.1 ≤ 0))
  have hs : (l.mergeSort (fun a b => decide (c a.1 b.1 ≤ 0))).Pairwise (fun a b => c a.1 b.1 ≤ 0) := by
    have := List.pairwise_mergeSort (le := fun a b : K × (Int × Int) => decide (c a.1 b.1 ≤ 0)) (fun a b d h1 h2 => by
      have h1' := of_decide_eq_true h1
      have h2' := of_decide_eq_true h2
      exact decide_eq_true (h.le_trans h1' h2')) (fun a b => by
      have := h.swap a.1 b.1
      by_cases h1 : c a.1 b.1 ≤ 0
      · simp [h1]
      · have : c b.1 a.1 ≤ 0 := by omega
        simp [this]) l
    exact this.imp fun h => of_decide_eq_true h
  rw [← runsT_is h (Nat.le_refl _) hs hp, ← hp.length_eq]
  exact runsT_len _ _
end Go.Proofs.YtihidnmpngeohaaGreat
