/- CompactPlans' walk. -/
import Derived.Test.YtglafbfbgjihbaaRefPlan
import Derived.Test.YtglafbfbgjihbaaSpoil
import Derived.Test.YtglafbfbgjihbaaOwnBook
namespace Go.Proofs.Ytglafbfbgjihbaa
open Go.RowKit Go.Lib

theorem owns_mono {w : World} {B B' : Nat} {e : TypeId} {sz n : Nat} {v : Value} {xs : List Value} (h : w.ownsRow B e sz v n xs) (hB : B' ≤ B) : w.ownsRow B' e sz v n xs := by
  refine ⟨h.1, ?_⟩
  rcases h.2 with h2 | ⟨g, cap, cur, hv, hb, r⟩
  · exact .inl h2
  · exact .inr ⟨g, cap, cur, hv, by omega, r⟩
theorem PlanIs.ref {l : List Mt} {p : List Int} (h : PlanIs l p) : RefIs l p := h.cases
theorem ownsRow_at {w : World} {base : Nat} {t : TypeId} {A : Option Addr} {n c : Nat} {l : List Int} (h : w.ownsRow base t 1 (.slice A n c) l.length (l.map (Value.int .i64))) : Ints w w.heap.size A l.length l := by
  obtain ⟨A', c', e, _, h'⟩ := ownsRow_ints h rfl
  injection e with e1 e2 e3
  rw [e1]
  exact h'
theorem PlanIs.len {l : List Mt} {p : List Int} (h : PlanIs l p) : p.length ≤ 3 := by
  rcases h.three with ⟨rfl, _⟩ | ⟨_, i, j, k, _, rfl, _⟩ <;> simp
theorem PlanIs.eq_ref {l : List Mt} {p q : List Int} (h : PlanIs l p) (hq : RefIs l q) : p = q := RefIs.one h.cases hq
theorem below_of_only {B g : Nat} {a w w' : World} (h : Below B a w) (hg : w.grownBy w' (some g)) (hB : B ≤ w.heap.size) (hBg : B ≤ g) : Below B a w' := h.grown hg hB (fun k e => by injection e with e; omega)
def nils : Array Value := (List.replicate 32 (Value.slice none 0 0)).toArray
theorem nils_at {k : Nat} (hk : k < 32) : nils[k]? = some (.slice none 0 0) := by unfold nils; rw [List.getElem?_toArray, List.getElem?_replicate, if_pos hk]
/-- Two lists in the book. -/
def two (a b : Value) (j : Nat) : Value := if j = 0 then a else b
theorem lists_two {w : World} {B : Nat} {e : TypeId} {sz BL n m : Nat} {a b : Value} {xs ys : List Value} (ha : w.ownsRow B e sz a n xs) (hb : w.ownsRow B e sz b m ys)
    (hne : ∀ g, a.ownBlock = some g → b.ownBlock ≠ some g) (h0 : w.cell? ⟨BL, 0, none⟩ = some a) (h1 : w.cell? ⟨BL, 1, none⟩ = some b) (oa : a.ownBlock ≠ some BL) (ob : b.ownBlock ≠ some BL) :
    Lists w B e sz BL 2 (two a b) (fun j => if j = 0 then n else m) where
  row j hj := by
    rcases (show j = 0 ∨ j = 1 by omega) with rfl | rfl
    · exact h0
    · exact h1
  own j hj := by
    rcases (show j = 0 ∨ j = 1 by omega) with rfl | rfl
    · exact ⟨xs, ha⟩
    · exact ⟨ys, hb⟩
  apart i j hi hj hij g := by
    rcases (show i = 0 ∨ i = 1 by omega) with rfl | rfl <;> rcases (show j = 0 ∨ j = 1 by omega) with rfl | rfl
    · exact absurd rfl hij
    · exact hne g
    · intro h1 h2; exact hne g h2 h1
    · exact absurd rfl hij
  off j hj := by
    rcases (show j = 0 ∨ j = 1 by omega) with rfl | rfl
    · exact oa
    · exact ob
/-- What stands when all is asked: the book, the two plans, the reference's. -/
structure Last (w wi : World) (bk B7 g : Nat) (cs : Array Value) (a b lv : Value) (A3 : Option Addr) (n : Nat) (p : List Int) (m : List Mt) (A : Option Addr) (na : Nat) : Prop where
  book : Bk wi bk cs
  old : Below w.heap.size w wi
  one : wi.ownsRow w.heap.size 3 1 a n (p.map (Value.int .i64))
  two : wi.ownsRow w.heap.size 3 1 b n (p.map (Value.int .i64))
  ref : Ints wi B7 A3 n p
  list : wi.ownsRow w.heap.size 24 1 lv 2 [a, b]
  metas : Lst Mt.cells 5 wi w.heap.size A na m
  size : B7 ≤ wi.heap.size
theorem Last.step {w wi wj : World} {bk B7 g : Nat} {cs : Array Value} {a b lv : Value} {A3 : Option Addr} {n : Nat} {p : List Int} {m : List Mt} {A : Option Addr} {na : Nat} (h : Last w wi bk B7 g cs a b lv A3 n p m A na) (hb : Below wi.heap.size wi wj) : Last w wj bk B7 g cs a b lv A3 n p m A na where
  book := h.book.kept (GrownIn.of_below hb) (by have := h.book.lt; omega)
  old := h.old.trans (hb.mono h.old.size)
  one := owns_below h.one hb
  two := owns_below h.two hb
  ref := h.ref.below (hb.mono h.size)
  list := owns_below h.list hb
  metas := h.metas.below (hb.mono h.old.size)
  size := Nat.le_trans h.size hb.size
set_option maxHeartbeats 4000000 in
set_option maxRecDepth 100000 in
theorem plans_any (A : Option Addr) (n c : Nat) (l : List Mt) (w : World) (hr : Lst Mt.cells 5 w w.heap.size A n l) (hnil : A = none → n = 0 ∧ c = 0) (hok : ∀ m ∈ l, m.ok) (hbig : n ≤ 200) :
    Calls Try.prog 3 #[.slice A n c] w fun e w' => e = .returned (.bool true) ∧ Below w.heap.size w w' := by
  have HL := Lib.hid hr
  have HK := Lib.hid hok
  have HN := Lib.hid hnil
  clear hr hok hnil
  go_enter Try.func3, Try.ntmps3
  go_wp2_with fail
  refine (lent_any A n c l w HL.out HN.out (by omega)).mono ?_
  rintro e w1 ⟨g, cg, rfl, hown1, hb1⟩
  have hL1 : Lst Mt.cells 5 w1 w1.heap.size (some ⟨g, 0, none⟩) (n + 2) (l ++ [mA, mB]) := by
    obtain ⟨A', c', e, _, h⟩ := ownsRow_lst hown1 (by have := HL.out.1; simp; omega) (fun _ => rfl)
    injection e with e1 e2 e3
    subst e1
    exact h
  have hL2 : Lst Mt.cells 5 w1 w1.heap.size (some ⟨g, 0, none⟩) n l := by
    have := hL1.take (k := n) (by omega)
    rwa [List.take_append_of_le_length (by have := HL.out.1; omega), List.take_of_length_le (by have := HL.out.1; omega)] at this
  have hcg : n + 2 ≤ cg := by
    rcases hown1.2 with ⟨h, _⟩ | ⟨_, _, _, h, _, _, h1, _⟩
    · cases h
    · cases h; exact h1
  have hgl := hown1.lt g rfl
  have H1 := Lib.hid (show _ ∧ _ ∧ _ ∧ _ ∧ _ from ⟨hown1, hb1, hL1, hL2, (HL.out.below hb1).more hb1.size⟩)
  clear hown1 hb1 hL1 hL2
  go_wp2_with fail
  refine (plan_any (some ⟨g, 0, none⟩) n cg l w1 H1.out.2.2.2.1 HK.out (by omega)).mono ?_
  rintro e w2 ⟨v1, p1, rfl, hp1, hown2, hb2⟩
  obtain ⟨A1, c1, rfl, _, _⟩ := ownsRow_ints hown2 rfl
  have hl1 := hp1.len
  have H2 := Lib.hid (show _ ∧ _ ∧ _ from ⟨hp1, hown2, hb2⟩)
  clear hp1 hown2 hb2
  go_wp2_with fail
  refine (plan_any (some ⟨g, 0, none⟩) n cg l w2 ((H1.out.2.2.2.1.below H2.out.2.2).more H2.out.2.2.size) HK.out (by omega)).mono ?_
  rintro e w3 ⟨v2, p2, rfl, hp2, hown3, hb3⟩
  obtain ⟨A2, c2, rfl, _, _⟩ := ownsRow_ints hown3 rfl
  have hl2 := hp2.len
  have hb13 : Below w1.heap.size w1 w3 := H2.out.2.2.trans (hb3.mono H2.out.2.2.size)
  have H3 := Lib.hid (show _ ∧ _ ∧ _ ∧ _ from ⟨hp2, hown3, owns_below H2.out.2.1 hb3, hb13⟩)
  have hsz23 := hb3.size
  clear hp2 hown3 hb3 hb13
  go_wp2_with fail
  refine (next_any (some ⟨g, 0, none⟩) n cg l w3 ((H1.out.2.2.2.1.below H3.out.2.2.2).more H3.out.2.2.2.size) (by omega)).mono ?_
  rintro e w4 ⟨rfl, hb4⟩
  obtain ⟨nx, hnx⟩ : ∃ nx, (maxId l + 1) % 4294967296 = nx := ⟨_, rfl⟩
  rw [hnx]
  have HX := Lib.hid hnx
  have hb14 : Below w1.heap.size w1 w4 := H3.out.2.2.2.trans (hb4.mono H3.out.2.2.2.size)
  have H4 := Lib.hid (show _ ∧ _ ∧ _ from ⟨owns_below H3.out.2.1 hb4, owns_below H3.out.2.2.1 hb4, hb14⟩)
  have hsz34 := hb4.size
  clear hb4 hb14 hnx
  go_wp2_with fail
  refine (whole_eq g cg A n c l w4 ((H1.out.2.2.1.below H4.out.2.2).more H4.out.2.2.size) hcg ((H1.out.2.2.2.2.below H4.out.2.2).more H4.out.2.2.size) (by omega)).mono ?_
  rintro e w5 ⟨rfl, hb5⟩
  have hb15 : Below w1.heap.size w1 w5 := H4.out.2.2.trans (hb5.mono H4.out.2.2.size)
  have hsz45 := hb5.size
  have hown5 := owns_below H1.out.1 hb15
  obtain ⟨cur, hcur, hcsz⟩ : ∃ cur, w5.heap[g]? = some (.cells cur 71 (0, 0)) ∧ cur.size = cg * 5 := by
    rcases hown5.2 with ⟨h, _⟩ | ⟨_, _, cur, h, _, hh, _, _, hs, _⟩
    · cases h
    · cases h; exact ⟨cur, hh, hs⟩
  have hcm : cg ≤ maxLen := by
    rcases hown5.2 with ⟨h, _⟩ | ⟨_, _, cur, h, _, hh, _, hm, hs, _⟩
    · cases h
    · cases h; exact hm
  have H5 := Lib.hid (show _ ∧ _ ∧ _ ∧ _ ∧ _ from ⟨owns_below H4.out.1 hb5, owns_below H4.out.2.1 hb5, hb15, hcur, hcsz⟩)
  clear hb5 hb15 hown5 hcur hcsz
  go_wp2_with fail
  refine (spoil_any g n cg cur w5 H5.out.2.2.2.1 H5.out.2.2.2.2 (by omega) hcm).mono ?_
  rintro e w6 ⟨rfl, hg6⟩
  have hsz12 := H2.out.2.2.size
  have hsz01 := H1.out.2.1.size
  have hb6 : Below w.heap.size w w6 := below_of_only (H1.out.2.1.trans (H5.out.2.2.1.mono hsz01)) hg6 (by omega) hgl.1
  have ho2 := H5.out.1.kept hg6 (apart_of fun b hb e => by have := H5.out.1.lt b hb; injection e with e; omega)
  have ho1 := H5.out.2.1.kept hg6 (apart_of fun b hb e => by have := H5.out.2.1.lt b hb; injection e with e; omega)
  have hsz56 := hg6.size
  have hd12 : ∀ b, (Value.slice A1 p1.length c1).ownBlock = some b → (Value.slice A2 p2.length c2).ownBlock ≠ some b := fun b h1 h2 => by
    have h3 := (H2.out.2.1.lt b h1).2
    have h4 := (H3.out.2.1.lt b h2).1
    omega
  have H6 := Lib.hid (show _ ∧ _ ∧ _ ∧ _ from ⟨hb6, owns_mono ho1 (B' := w.heap.size) (by omega), owns_mono ho2 (B' := w.heap.size) (by omega), hd12⟩)
  clear hg6 hb6 ho1 ho2 hd12 hgl hcm
  go_wp2_with fail
  refine (refPlan_any A n c l w6 ((HL.out.below H6.out.1).more H6.out.1.size) (by omega)).mono ?_
  rintro e w7 ⟨v3, p3, rfl, hp3, hown7, hb7⟩
  have e13 : p1 = p3 := H2.out.1.eq_ref hp3
  have e23 : p3 = p2 := (H3.out.1.eq_ref hp3).symm
  subst e13
  subst e23
  obtain ⟨A3, c3, rfl, _, hI3⟩ := ownsRow_ints hown7 rfl
  have H7 := Lib.hid (show _ ∧ _ ∧ _ ∧ _ from ⟨H6.out.1.trans (hb7.mono H6.out.1.size), owns_below H6.out.2.1 hb7, owns_below H6.out.2.2.1 hb7, hI3⟩)
  have hsz67 := hb7.size
  clear hp3 hown7 hb7 hI3
  go_wp2_with fail
  have hbk : Bk (w7.alloc (.cells nils 64)) w7.heap.size nils := ⟨heap_alloc_new _ _, rfl⟩
  have hb8 : Below w7.heap.size w7 (w7.alloc (.cells nils 64)) := (Below.refl _ _).alloc (Nat.le_refl _) _
  change Calls _ _ _ (w7.alloc (.cells nils 64)) _
  generalize w7.alloc (.cells nils 64) = w8 at hbk hb8 ⊢
  have hsz78 := hb8.size
  have hsz07 := H7.out.1.size
  have H8 := Lib.hid (show _ ∧ _ ∧ _ ∧ _ ∧ _ from ⟨hbk, H7.out.1.trans (hb8.mono hsz07), owns_below H7.out.2.1 hb8, owns_below H7.out.2.2.1 hb8, H7.out.2.2.2.below hb8⟩)
  clear hbk hb8
  refine (bookInts w7.heap.size w.heap.size 0 nils (.slice none 0 0) A1 p1.length c1 [] w8 H8.out.1 rfl (World.ownsRow_nil _ _ _ _) (by simp [Value.ownBlock]) (by omega) (by omega)).mono ?_
  rintro e w9 ⟨rfl, g9, c9, ho9, hk9, hgr9, hli9⟩
  have hbk8 := H8.out.1.lt
  have hg9 : w8.heap.size ≤ g9 := by
    rcases hli9 with h | h
    · cases h
    · exact h
  have hg9l := (ho9.lt g9 rfl).2
  have hsz89 := hgr9.size
  have hS9 : ∀ k, (k = w7.heap.size ∨ (Value.slice none 0 0).ownBlock = some k) → k = w7.heap.size := fun k h => h.elim id (fun h => by cases h)
  have ha9 := hgr9.owns H8.out.2.2.1 (fun k hk h => by have h1 := hS9 k h; have h2 := (H7.out.2.1.lt k hk).2; omega)
  have hb9 := hgr9.owns H8.out.2.2.2.1 (fun k hk h => by have h1 := hS9 k h; have h2 := (H7.out.2.2.1.lt k hk).2; omega)
  have hI9 := H8.out.2.2.2.2.keep (w' := w9) (fun p hp => World.cell?_of_block (hgr9.block p.block (by omega) (fun h => by have := hS9 _ h; omega)))
  have hne9 : g9 ≠ w7.heap.size := by omega
  have hB9 : Below w.heap.size w w9 := H8.out.2.1.trans (hgr9.below (fun k h => by have := hS9 k h; omega) (by omega))
  have H9 := Lib.hid (show _ ∧ _ ∧ _ ∧ _ ∧ _ ∧ _ from ⟨hk9, hB9, ha9, hb9, hI9, ho9⟩)
  clear ha9 hb9 hI9 hgr9 hli9 hk9 ho9 hS9 hB9
  go_wp2_with fail
  refine (bookInts w7.heap.size w.heap.size 1 _ (.slice (some ⟨g9, 0, none⟩) (0 + 1) c9) A2 p1.length c2 _ w9 H9.out.1 rfl H9.out.2.2.2.2.2 (by simp [Value.ownBlock]; exact hne9) (by omega) (by omega)).mono ?_
  rintro e w10 ⟨rfl, g10, c10, ho10, hk10, hgr10, hli10⟩
  have hsz910 := hgr10.size
  have hg10l := (ho10.lt g10 rfl).2
  have hg10 : w8.heap.size ≤ g10 := by
    rcases hli10 with h | h
    · simp [Value.ownBlock] at h; omega
    · omega
  have hS10 : ∀ k, (k = w7.heap.size ∨ (Value.slice (some ⟨g9, 0, none⟩) (0 + 1) c9).ownBlock = some k) → w7.heap.size ≤ k := fun k h => h.elim (fun h => by omega) (fun h => by simp [Value.ownBlock] at h; omega)
  have ha10 := hgr10.owns H9.out.2.2.1 (fun k hk h => by have h1 := hS10 k h; have h2 := (H7.out.2.1.lt k hk).2; omega)
  have hb10 := hgr10.owns H9.out.2.2.2.1 (fun k hk h => by have h1 := hS10 k h; have h2 := (H7.out.2.2.1.lt k hk).2; omega)
  have hI10 := H9.out.2.2.2.2.1.keep (w' := w10) (fun p hp => World.cell?_of_block (hgr10.block p.block (by omega) (fun h => by have := hS10 _ h; omega)))
  have hne10 : g10 ≠ w7.heap.size := by omega
  have hB10 : Below w.heap.size w w10 := H9.out.2.1.trans (hgr10.below (fun k h => by have := hS10 k h; omega) (by omega))
  have HL10 : Last w w10 w7.heap.size w7.heap.size g10 _ (.slice A1 p1.length c1) (.slice A2 p1.length c2) (.slice (some ⟨g10, 0, none⟩) 2 c10) A3 p1.length p1 l A n := ⟨hk10, hB10, ha10, hb10, hI10, ho10, HL.out.below hB10, by omega⟩
  have H10 := Lib.hid HL10
  clear ha10 hb10 hI10 hgr10 hli10 hk10 ho10 hS10 hB10 HL10
  go_wp2_with fail
  refine (known19 _).mono ?_
  rintro e w11 ⟨rfl, hb11⟩
  have H11 := Lib.hid (H10.out.step hb11)
  have hsz1011 := hb11.size
  clear hb11
  go_wp2_with fail
  refine (same_any _ _ _ _ _ _ p1 p1 w11 (ownsRow_at H11.out.one) (H11.out.ref.more H11.out.size) (by omega) (by omega)).mono ?_
  rintro e w12 ⟨rfl, hb12⟩
  rw [decide_eq_true (rfl : p1 = p1)]
  have H12 := Lib.hid (H11.out.step hb12)
  clear hb12
  go_wp2_with fail
  refine (same_any _ _ _ _ _ _ p1 p1 w12 (ownsRow_at H12.out.two) (H12.out.ref.more H12.out.size) (by omega) (by omega)).mono ?_
  rintro e w13 ⟨rfl, hb13⟩
  rw [decide_eq_true (rfl : p1 = p1)]
  have H13 := Lib.hid (H12.out.step hb13)
  clear hb13
  go_wp2_with fail
  refine (refNext_any A n c l w13 (H13.out.metas.more H13.out.old.size) (by omega)).mono ?_
  rintro e w14 ⟨rfl, hb14⟩
  rw [HX.out]
  have H14 := Lib.hid (H13.out.step hb14)
  clear hb14
  go_wp2_with fail
  have hla := fun b (h : (Value.slice A1 p1.length c1).ownBlock = some b) => (H7.out.2.1.lt b h)
  have hlb := fun b (h : (Value.slice A2 p1.length c2).ownBlock = some b) => (H7.out.2.2.1.lt b h)
  have hLs : Lists w14 w.heap.size 3 1 g10 2 (two (.slice A1 p1.length c1) (.slice A2 p1.length c2)) (fun j => if j = 0 then p1.length else p1.length) :=
    lists_two H14.out.one H14.out.two H6.out.2.2.2 (owns_cell H14.out.list (g := g10) rfl rfl) (owns_cell H14.out.list (g := g10) rfl rfl) (fun h => by have := hla _ h; omega) (fun h => by have := hlb _ h; omega)
  have hsz14 := H14.out.size
  have hg10' := (H14.out.list.lt g10 rfl).2
  have hw14 := H14.out.old.size
  refine (bookOwn_Ints w7.heap.size g10 2 c10 (Among 2 (two (.slice A1 p1.length c1) (.slice A2 p1.length c2))) w14 _ H14.out.book ?_ ?_ (ownInts_any w.heap.size g10 2 c10 _ _ w14 hLs hw14 hg10' (by omega) (fun j hj => by split <;> omega))).mono ?_
  · intro k hk
    by_cases h2 : k = 2
    · subst h2
      simp [nils]
    · rw [if_neg h2, Array.getElem?_setIfInBounds, if_neg (fun h => h2 h.symm), Array.getElem?_setIfInBounds, if_neg (fun h => h2 h.symm)]
      exact nils_at hk
  · rintro ⟨j, hj, h⟩
    rcases (show j = 0 ∨ j = 1 by omega) with rfl | rfl
    · have := hla _ h; omega
    · have := hlb _ h; omega
  · rintro e w15 ⟨rfl, hg15⟩
    have hB15 : Below w.heap.size w w15 := H14.out.old.trans (hg15.below (by
      rintro k ⟨j, hj, h⟩
      rcases (show j = 0 ∨ j = 1 by omega) with rfl | rfl
      · have := hla _ h; omega
      · have := hlb _ h; omega) hw14)
    have HE := Lib.hid hB15
    clear hg15 hB15 hLs hla hlb
    go_wp2
    go_ret
    exact ⟨rfl, HE.out⟩
end Go.Proofs.Ytglafbfbgjihbaa
