/- Chapter 19's lists, lent out: what holds of one. Chapter 19's lists, lent out, in a row of their own. Chapter 19's lists, lent out: as the functions that take them want them. Chapter 19's lists, lent out: as they are looked at and spoilt, one behind the other. -/
import Derived.Test.YtihidnmpngeohaaGreatG43
import Derived.Test.YtihidnmpngeohaaGreatG32
namespace Go.Proofs.YtihidnmpngeohaaGreat
open Go.RowKit Go.Lib

/-- A list of series that came in, no more than is looked at. -/
structure FewB (w : World) (A : Option Addr) (n : Nat) (ys : List Sv) : Prop where
  lst : Lst encSv 2 w w.heap.size A n ys
  few : n ≤ 3000
  sat : ∀ y ∈ ys, SerIn w y ∧ y.n ≤ 3000 ∧ y.m ≤ 3000
theorem SerIn.on {w W : World} {y : Sv} (h : SerIn w y) (hb : Below w.heap.size w W) : SerIn W y := ⟨h.sat.on hb, h.key⟩
theorem FewB.on {w W : World} {A : Option Addr} {n : Nat} {ys : List Sv} (h : FewB w A n ys) (hb : Below w.heap.size w W) : FewB W A n ys :=
  ⟨(h.lst.below hb).more hb.size, h.few, fun y hy => ⟨(h.sat y hy).1.on hb, (h.sat y hy).2⟩⟩
theorem FewB.lend {w W : World} {A : Option Addr} {n c : Nat} {ys : List Sv} (h : FewB w A n ys) (hb : Below w.heap.size w W) : Calls Tryz.prog 16 #[.slice A n c] W fun e w' =>
    ∃ g cg zs bo co, e = .returned (.slice (some ⟨g, 0, none⟩) n cg) ∧ LentL w' W.heap.size g n cg ys zs bo co ∧ Below W.heap.size W w' ∧ Below w.heap.size w w' :=
  (lentSer_any A n c ys W (h.on hb).lst (by have := h.few; omega) (fun y hy => ((h.on hb).sat y hy).1.sat)).mono fun e w' ⟨g, cg, zs, bo, co, h1, h2, h3, h4, h5⟩ => ⟨g, cg, zs, bo, co, h1, ⟨h2, h3, h4⟩, h5, hb.trans (h5.mono hb.size)⟩
theorem LentL.factsB {w w0 : World} {A : Option Addr} {B g n c bo co : Nat} {ys zs : List Sv} (h : LentL w B g n c ys zs bo co) (hF : FewB w0 A n ys) :
    (∀ z ∈ zs, SerIn w z) ∧ zs.map Sv.sr = ys.map Sv.sr ∧ Lst encSv 2 w w.heap.size (some ⟨g, 0, none⟩) n zs := by
  have hl := hF.lst.1
  have hp : ∀ (j : Nat) z, zs[j]? = some z → ∃ y, ys[j]? = some y ∧ LentSv w B y z := fun j z hz => by
    obtain ⟨hj, _⟩ := List.getElem?_eq_some_iff.1 hz
    have hy : ys[j]? = some (ys[j]'(by have := h.lent.len; omega)) := List.getElem?_eq_getElem _
    exact ⟨_, hy, h.lent.each j _ z hy hz⟩
  refine ⟨fun z hz => ?_, ?_, ?_⟩
  · obtain ⟨j, hj, e⟩ := List.getElem_of_mem hz
    obtain ⟨y, hy, hl⟩ := hp j z (by rw [← e]; exact List.getElem?_eq_getElem hj)
    obtain ⟨h1, h2, h3⟩ := hF.sat y (List.mem_of_getElem? hy)
    exact ⟨hl.sat h1.sat.lst.1 h1.sat.sst.1 (by omega) (by omega), by rw [hl.lab]; exact h1.key⟩
  · apply List.ext_getElem?
    intro j
    rw [List.getElem?_map, List.getElem?_map]
    cases hz : zs[j]? with
    | none =>
      have := List.getElem?_eq_none_iff.1 hz
      rw [List.getElem?_eq_none (by have := h.lent.len; omega)]
    | some z =>
      obtain ⟨y, hy, hl⟩ := hp j z hz
      rw [hy]
      show some (z.l, z.s) = some (y.l, y.s)
      rw [hl.lab, hl.sam]
  · exact (owns_lst h.lent.row encSv_len (by omega)).1
theorem LentL.wholeB {w w0 : World} {A : Option Addr} {B g n c ca bo co : Nat} {ys zs : List Sv} (h : LentL w B g n c ys zs bo co) (hF : FewB w0 A n ys) (hb : Below w0.heap.size w0 w) :
    Calls Tryz.prog 18 #[.slice (some ⟨g, 0, none⟩) n c, .slice A n ca] w fun e w' => e = .returned (.bool true) ∧ ∃ q, w' = w.drewN q :=
  wholeSer_q g c A n ca bo co ys zs w B (owns_lst h.row encSv_len (by omega)).1 h.lent.len (by have := owns_cap h.row; omega) (hF.on hb).lst (fun y hy => ((hF.on hb).sat y hy).1.sat) h.lent.each h.mark (by have := hF.few; omega)
/-- All its blocks lie below a number. -/
structure LentIn (w : World) (B H g n c : Nat) (ys zs : List Sv) (bo co : Nat) : Prop where
  lent : LentL w B g n c ys zs bo co
  lists : ∀ (j : Nat) z b, zs[j]? = some z → ((valL z).ownBlock = some b ∨ (valD z).ownBlock = some b) → b < H
  row : g < H
  mark : bo < H
  base : B ≤ H
theorem LentL.inH {w : World} {B g n c bo co : Nat} {ys zs : List Sv} (h : LentL w B g n c ys zs bo co) (hl : ys.length = n) (hB : B ≤ w.heap.size) : LentIn w B w.heap.size g n c ys zs bo co :=
  ⟨h, (h.lt hl).1, (h.lt hl).2, (h.mark.lt bo rfl).2, hB⟩
/-- What changes only other blocks leaves it. -/
theorem LentIn.kept {S : Nat → Prop} {w w' : World} {B H g n c bo co : Nat} {ys zs : List Sv} (h : LentIn w B H g n c ys zs bo co) (hl : ys.length = n) (hg : GrownIn S w w') (hS : ∀ b, S b → b < B ∨ H ≤ b) : LentIn w' B H g n c ys zs bo co := by
  have hrow := h.row
  have hmark := h.mark
  refine ⟨⟨⟨hg.owns h.lent.lent.row (fun b hb hs => ?_), h.lent.lent.len, fun j y z h1 h2 => ?_, h.lent.lent.apart, h.lent.lent.sapart⟩, hg.owns h.lent.row (fun b hb hs => ?_), hg.owns h.lent.mark (fun b hb hs => ?_)⟩, h.lists, h.row, h.mark, h.base⟩
  · have h1 := (h.lent.lent.row.lt b hb).1
    have h2 := hS b hs
    have h3 : g = b := Option.some.inj (show some g = some b from hb)
    omega
  · have hz := h.lent.lent.each j y z h1 h2
    refine hz.kept hg (fun b hb hs => ?_) (fun b hb hs => ?_)
    · obtain ⟨b2, q1, q2, _⟩ := hz.blk
      have h3 := h.lists j z b h2 (.inl hb)
      rw [q1] at hb; injection hb with hb
      have := hS b hs; omega
    · obtain ⟨b2, q1, q2, _⟩ := hz.sblk
      have h3 := h.lists j z b h2 (.inr hb)
      rw [q1] at hb; injection hb with hb
      have := hS b hs; omega
  · have h1 := (h.lent.row.lt b hb).1
    have h2 := hS b hs
    have h3 : g = b := Option.some.inj (show some g = some b from hb)
    omega
  · have h1 := (h.lent.mark.lt b hb).1
    have h2 := hS b hs
    have h3 : bo = b := Option.some.inj (show some bo = some b from hb)
    omega
theorem LentIn.below {w w' : World} {B H g n c bo co : Nat} {ys zs : List Sv} (h : LentIn w B H g n c ys zs bo co) (hb : Below w.heap.size w w') : LentIn w' B H g n c ys zs bo co := ⟨h.lent.below hb, h.lists, h.row, h.mark, h.base⟩
theorem LentIn.spoil {w : World} {B H g n c bo co : Nat} {ys zs : List Sv} {w0 : World} {A : Option Addr} (h : LentIn w B H g n c ys zs bo co) (hF : FewB w0 A n ys) (hB : B ≤ w.heap.size) :
    Calls Tryz.prog 19 #[.slice (some ⟨g, 0, none⟩) n c] w fun e w' => e = .returned (.tuple #[]) ∧ GrownIn (fun b => B ≤ b ∧ b < H) w w' :=
  spoilSer_any g n c bo co ys zs w B h.lent.lent h.lent.row hF.lst.1 (fun y hy => by have := (hF.sat y hy).1.sat; exact ⟨this.lst.1, this.sst.1⟩) (by have := hF.few; omega) hB H h.lists h.row
/-- A list of tombs that came in. -/
structure FewT (w : World) (A : Option Addr) (n : Nat) (ys : List Tv) : Prop where
  lst : Lst encTb 3 w w.heap.size A n ys
  few : n ≤ 3000
  tat : ∀ y ∈ ys, Tat w w.heap.size y ∧ y.n ≤ 3000
theorem FewT.on {w W : World} {A : Option Addr} {n : Nat} {ys : List Tv} (h : FewT w A n ys) (hb : Below w.heap.size w W) : FewT W A n ys :=
  ⟨(h.lst.below hb).more hb.size, h.few, fun y hy => ⟨(h.tat y hy).1.on hb, (h.tat y hy).2⟩⟩
/-- Tombs lent out; all their blocks lie below a number. -/
structure LentTi (w : World) (B H g n c : Nat) (ys zs : List Tv) : Prop where
  lent : LentTs w B ys (.slice (some ⟨g, 0, none⟩) n c) n zs
  row : w.ownsRow B 27 3 (.slice (some ⟨g, 0, none⟩) (n + 1) c) (n + 1) ((zs ++ [mT]).flatMap encTb)
  lists : ∀ (j : Nat) z b, zs[j]? = some z → (Value.slice z.A z.n z.c).ownBlock = some b → b < H
  gH : g < H
  base : B ≤ H
theorem LentTi.below {w w' : World} {B H g n c : Nat} {ys zs : List Tv} (h : LentTi w B H g n c ys zs) (hb : Below w.heap.size w w') : LentTi w' B H g n c ys zs := ⟨h.lent.below hb, owns_below h.row hb, h.lists, h.gH, h.base⟩
theorem LentTi.kept {S : Nat → Prop} {w w' : World} {B H g n c : Nat} {ys zs : List Tv} (h : LentTi w B H g n c ys zs) (hl : ys.length = n) (hg : GrownIn S w w') (hS : ∀ b, S b → b < B ∨ H ≤ b) : LentTi w' B H g n c ys zs := by
  have hgH := h.gH
  refine ⟨⟨hg.owns h.lent.row (fun b hb hs => ?_), h.lent.len, fun j y z h1 h2 => ?_, h.lent.apart⟩, hg.owns h.row (fun b hb hs => ?_), h.lists, h.gH, h.base⟩
  · have h1 := (h.lent.row.lt b hb).1
    have h2 := hS b hs
    have h3 : g = b := Option.some.inj (show some g = some b from hb)
    omega
  · have hz := h.lent.each j y z h1 h2
    refine hz.kept hg (fun b hb hs => ?_)
    obtain ⟨b2, q1, q2, _⟩ := hz.blk
    have h3 := h.lists j z b h2 hb
    rw [q1] at hb; injection hb with hb
    have := hS b hs; omega
  · have h1 := (h.row.lt b hb).1
    have h2 := hS b hs
    have h3 : g = b := Option.some.inj (show some g = some b from hb)
    omega
theorem FewT.lend {w W : World} {A : Option Addr} {n c : Nat} {ys : List Tv} (h : FewT w A n ys) (hb : Below w.heap.size w W) : Calls Tryz.prog 6 #[.slice A n c] W fun e w' =>
    ∃ g cg zs, e = .returned (.slice (some ⟨g, 0, none⟩) n cg) ∧ LentTi w' W.heap.size w'.heap.size g n cg ys zs ∧ Below W.heap.size W w' ∧ Below w.heap.size w w' :=
  (lentTombs_any A n c ys W (h.on hb).lst (by have := h.few; omega) (fun y hy => ((h.on hb).tat y hy).1)).mono fun e w' ⟨g, cg, zs, h1, h2, h3, h4⟩ => ⟨g, cg, zs, h1, ⟨h2, h3, fun j z b hz hb => by
    obtain ⟨hj, _⟩ := List.getElem?_eq_some_iff.1 hz
    have hy : ys[j]? = some (ys[j]'(by have := h2.len; have := h.lst.1; omega)) := List.getElem?_eq_getElem _
    obtain ⟨b2, q1, _, q3⟩ := (h2.each j _ z hy hz).blk
    rw [q1] at hb; injection hb with hb; omega, (h3.lt g rfl).2, h4.size⟩, h4, hb.trans (h4.mono hb.size)⟩
theorem LentTi.whole {w w0 : World} {A : Option Addr} {B H g n c ca : Nat} {ys zs : List Tv} (h : LentTi w B H g n c ys zs) (hF : FewT w0 A n ys) (hb : Below w0.heap.size w0 w) :
    Calls Tryz.prog 8 #[.slice (some ⟨g, 0, none⟩) n c, .slice A n ca] w fun e w' => e = .returned (.bool true) ∧ ∃ q, w' = w.drewN q :=
  wholeTomb_q g c A n ca ys zs w B (owns_lst h.row encTb_len (by omega)).1 h.lent.len (by have := owns_cap h.row; omega) (hF.on hb).lst (fun y hy => ((hF.on hb).tat y hy).1) h.lent.each (by have := hF.few; omega)
theorem LentTi.spoil {w w0 : World} {A : Option Addr} {B H g n c : Nat} {ys zs : List Tv} (h : LentTi w B H g n c ys zs) (hF : FewT w0 A n ys) (hB : B ≤ w.heap.size) :
    Calls Tryz.prog 9 #[.slice (some ⟨g, 0, none⟩) n c] w fun e w' => e = .returned (.tuple #[]) ∧ GrownIn (fun b => B ≤ b ∧ b < H) w w' :=
  spoilTombs_any g n c ys zs w B h.lent h.row hF.lst.1 (fun y hy => (hF.tat y hy).1.lst.1) (by have := hF.few; omega) hB H h.lists h.gH
theorem LentTi.facts {w w0 : World} {A : Option Addr} {B H g n c : Nat} {ys zs : List Tv} (h : LentTi w B H g n c ys zs) (hF : FewT w0 A n ys) : (∀ z ∈ zs, Tat w w.heap.size z) ∧ zs.map Tv.tb = ys.map Tv.tb ∧ Lst encTb 3 w w.heap.size (some ⟨g, 0, none⟩) n zs := by
  have hp : ∀ (j : Nat) z, zs[j]? = some z → ∃ y, ys[j]? = some y ∧ LentTb w B y z := fun j z hz => by
    obtain ⟨hj, _⟩ := List.getElem?_eq_some_iff.1 hz
    have hy : ys[j]? = some (ys[j]'(by have := h.lent.len; have := hF.lst.1; omega)) := List.getElem?_eq_getElem _
    exact ⟨_, hy, h.lent.each j _ z hy hz⟩
  refine ⟨fun z hz => ?_, ?_, (owns_lst h.lent.row encTb_len (by omega)).1⟩
  · obtain ⟨j, hj, e⟩ := List.getElem_of_mem hz
    obtain ⟨y, hy, hl⟩ := hp j z (by rw [← e]; exact List.getElem?_eq_getElem hj)
    obtain ⟨h1, h2⟩ := hF.tat y (List.mem_of_getElem? hy)
    exact hl.tat h1.lst.1 (by omega) h1.fits
  · apply List.ext_getElem?
    intro j
    rw [List.getElem?_map, List.getElem?_map]
    cases hz : zs[j]? with
    | none =>
      have := List.getElem?_eq_none_iff.1 hz
      rw [List.getElem?_eq_none (by have := h.lent.len; have := hF.lst.1; omega)]
    | some z =>
      obtain ⟨y, hy, hl⟩ := hp j z hz
      rw [hy]
      show some (z.l, z.g) = some (y.l, y.g)
      rw [hl.lab, hl.gone]
end Go.Proofs.YtihidnmpngeohaaGreat
namespace Go.Proofs.YtihidnmpngeohaaGreat
open Go.RowKit Go.Lib

/-- One list that is lent out: its blocks lie from b0 up to b1. -/
structure LI where
  b0 : Nat
  b1 : Nat
  g : Nat
  n : Nat
  c : Nat
  bo : Nat
  co : Nat
  zs : List Sv
def LI.val (x : LI) : Value := .slice (some ⟨x.g, 0, none⟩) x.n x.c
/-- The lists that are lent out so far. -/
structure LendRow (w : World) (B : Nat) (ls : List (List Sv)) (v : Value) (xs : List LI) : Prop where
  row : w.ownsRow B 70 1 v xs.length (xs.map LI.val)
  each : ∀ (j : Nat) x l, xs[j]? = some x → ls[j]? = some l → l.length = x.n ∧ LentIn w x.b0 x.b1 x.g x.n x.c l x.zs x.bo x.co
  up : xs.Pairwise fun a b => a.b1 ≤ b.b0
  base : ∀ x ∈ xs, B ≤ x.b0 ∧ x.b1 ≤ w.heap.size
  out : ∀ g, v.ownBlock = some g → ∀ x ∈ xs, g < x.b0 ∨ x.b1 ≤ g
theorem LendRow.nil (w : World) (B : Nat) (ls : List (List Sv)) : LendRow w B ls (.slice none 0 0) [] := ⟨World.ownsRow_nil _ _ _ _, by simp, List.Pairwise.nil, by simp, by simp⟩
theorem LendRow.below {w w' : World} {B : Nat} {ls : List (List Sv)} {v : Value} {xs : List LI} (h : LendRow w B ls v xs) (hb : Below w.heap.size w w') : LendRow w' B ls v xs :=
  ⟨owns_below h.row hb, fun j x l h1 h2 => ⟨(h.each j x l h1 h2).1, (h.each j x l h1 h2).2.below hb⟩, h.up, fun x hx => ⟨(h.base x hx).1, Nat.le_trans (h.base x hx).2 hb.size⟩, h.out⟩
/-- One more. -/
theorem LendRow.snoc {w w1 wa w2 : World} {B : Nat} {ls : List (List Sv)} {v : Value} {xs : List LI} (h : LendRow w B ls v xs) (hB : B ≤ w.heap.size) {l : List Sv} (hl : ls[xs.length]? = some l) {g n c bo co : Nat} {zs : List Sv} (hn : l.length = n) (h1 : Below w.heap.size w w1) (hL : LentL w1 w.heap.size g n c l zs bo co)
    (ha : Below w1.heap.size w1 wa) {g' c' : Nat} (hr : w2.ownsRow B 70 1 (.slice (some ⟨g', 0, none⟩) (xs.length + 1) c') (xs.length + 1) (xs.map LI.val ++ [.slice (some ⟨g, 0, none⟩) n c])) (hg : wa.grownBy w2 v.ownBlock) (hgg : v.ownBlock = some g' ∨ g' = wa.heap.size) :
    LendRow w2 B ls (.slice (some ⟨g', 0, none⟩) (xs.length + 1) c') (xs ++ [⟨w.heap.size, w1.heap.size, g, n, c, bo, co, zs⟩]) := by
  have hS := GrownIn.of_grownBy hg
  have s1 := h1.size
  have sa := ha.size
  have s2 := hS.size
  have hv : ∀ b, v.ownBlock = some b → b < w.heap.size := fun b hb => (h.row.lt b hb).2
  refine ⟨by rw [List.length_append, List.length_singleton, List.map_append]; exact hr, fun j x l' hx hl' => ?_, ?_, fun x hx => ?_, fun b hb x hx => ?_⟩
  · by_cases hj : j < xs.length
    · rw [List.getElem?_append_left hj] at hx
      obtain ⟨e1, e2⟩ := h.each j x l' hx hl'
      exact ⟨e1, ((e2.below h1).below ha).kept e1 hS (fun b hb => h.out b hb x (List.mem_of_getElem? hx))⟩
    · rw [List.getElem?_append_right (by omega)] at hx
      obtain ⟨k, hk⟩ : ∃ k, j - xs.length = k := ⟨_, rfl⟩
      rw [hk] at hx
      cases k with
      | succ k => simp at hx
      | zero =>
        obtain rfl : j = xs.length := by omega
        rw [hl] at hl'
        obtain rfl := Option.some.inj hl'
        obtain rfl := Option.some.inj hx
        exact ⟨hn, ((hL.inH hn s1).below ha).kept hn hS (fun b hb => .inl (hv b hb))⟩
  · refine List.pairwise_append.2 ⟨h.up, List.pairwise_singleton _ _, fun a ha' b hb => ?_⟩
    rw [List.mem_singleton.1 hb]
    exact (h.base a ha').2
  · rcases List.mem_append.1 hx with hx | hx
    · have := h.base x hx; exact ⟨this.1, by omega⟩
    · rw [List.mem_singleton.1 hx]; exact ⟨hB, by show w1.heap.size ≤ _; omega⟩
  · have hb' : g' = b := Option.some.inj (show some g' = some b from hb)
    subst hb'
    rcases List.mem_append.1 hx with hx | hx
    · rcases hgg with e | e
      · exact h.out _ e x hx
      · have := (h.base x hx).2
        exact .inr (by omega)
    · rw [List.mem_singleton.1 hx]
      rcases hgg with e | e
      · exact .inl (hv _ e)
      · exact .inr (by show w1.heap.size ≤ _; omega)
/-- The k-th list is spoilt: those behind it stay. -/
theorem LendRow.behind {w w' : World} {B : Nat} {ls : List (List Sv)} {v : Value} {xs : List LI} {k : Nat} {x : LI} (hx : xs[k]? = some x) (hu : xs.Pairwise fun a b => a.b1 ≤ b.b0) (hg : GrownIn (fun b => x.b0 ≤ b ∧ b < x.b1) w w')
    (h : ∀ (j : Nat) y l, k ≤ j → xs[j]? = some y → ls[j]? = some l → l.length = y.n ∧ LentIn w y.b0 y.b1 y.g y.n y.c l y.zs y.bo y.co) :
    ∀ (j : Nat) y l, k + 1 ≤ j → xs[j]? = some y → ls[j]? = some l → l.length = y.n ∧ LentIn w' y.b0 y.b1 y.g y.n y.c l y.zs y.bo y.co := fun j y l hj hy hl => by
  obtain ⟨e1, e2⟩ := h j y l (by omega) hy hl
  have h3 : x.b1 ≤ y.b0 := pairwise_at (R := fun a b : LI => a.b1 ≤ b.b0) hu (by omega) hx hy
  exact ⟨e1, e2.kept e1 hg (fun b hb => .inl (by omega))⟩
/-- One list that is lent out: its blocks lie from b0 up to b1. -/
structure LTi where
  b0 : Nat
  b1 : Nat
  g : Nat
  n : Nat
  c : Nat
  zs : List Tv
def LTi.val (x : LTi) : Value := .slice (some ⟨x.g, 0, none⟩) x.n x.c
/-- The lists that are lent out so far. -/
structure LendRowT (w : World) (B : Nat) (ls : List (List Tv)) (v : Value) (xs : List LTi) : Prop where
  row : w.ownsRow B 22 1 v xs.length (xs.map LTi.val)
  each : ∀ (j : Nat) x l, xs[j]? = some x → ls[j]? = some l → l.length = x.n ∧ LentTi w x.b0 x.b1 x.g x.n x.c l x.zs
  up : xs.Pairwise fun a b => a.b1 ≤ b.b0
  base : ∀ x ∈ xs, B ≤ x.b0 ∧ x.b1 ≤ w.heap.size
  out : ∀ g, v.ownBlock = some g → ∀ x ∈ xs, g < x.b0 ∨ x.b1 ≤ g
theorem LendRowT.nil (w : World) (B : Nat) (ls : List (List Tv)) : LendRowT w B ls (.slice none 0 0) [] := ⟨World.ownsRow_nil _ _ _ _, by simp, List.Pairwise.nil, by simp, by simp⟩
theorem LendRowT.below {w w' : World} {B : Nat} {ls : List (List Tv)} {v : Value} {xs : List LTi} (h : LendRowT w B ls v xs) (hb : Below w.heap.size w w') : LendRowT w' B ls v xs :=
  ⟨owns_below h.row hb, fun j x l h1 h2 => ⟨(h.each j x l h1 h2).1, (h.each j x l h1 h2).2.below hb⟩, h.up, fun x hx => ⟨(h.base x hx).1, Nat.le_trans (h.base x hx).2 hb.size⟩, h.out⟩
/-- One more. -/
theorem LendRowT.snoc {w w1 wa w2 : World} {B : Nat} {ls : List (List Tv)} {v : Value} {xs : List LTi} (h : LendRowT w B ls v xs) (hB : B ≤ w.heap.size) {l : List Tv} (hl : ls[xs.length]? = some l) {g n c : Nat} {zs : List Tv} (hn : l.length = n) (h1 : Below w.heap.size w w1) (hL : LentTi w1 w.heap.size w1.heap.size g n c l zs)
    (ha : Below w1.heap.size w1 wa) {g' c' : Nat} (hr : w2.ownsRow B 22 1 (.slice (some ⟨g', 0, none⟩) (xs.length + 1) c') (xs.length + 1) (xs.map LTi.val ++ [.slice (some ⟨g, 0, none⟩) n c])) (hg : wa.grownBy w2 v.ownBlock) (hgg : v.ownBlock = some g' ∨ g' = wa.heap.size) :
    LendRowT w2 B ls (.slice (some ⟨g', 0, none⟩) (xs.length + 1) c') (xs ++ [⟨w.heap.size, w1.heap.size, g, n, c, zs⟩]) := by
  have hS := GrownIn.of_grownBy hg
  have s1 := h1.size
  have sa := ha.size
  have s2 := hS.size
  have hv : ∀ b, v.ownBlock = some b → b < w.heap.size := fun b hb => (h.row.lt b hb).2
  refine ⟨by rw [List.length_append, List.length_singleton, List.map_append]; exact hr, fun j x l' hx hl' => ?_, ?_, fun x hx => ?_, fun b hb x hx => ?_⟩
  · by_cases hj : j < xs.length
    · rw [List.getElem?_append_left hj] at hx
      obtain ⟨e1, e2⟩ := h.each j x l' hx hl'
      exact ⟨e1, ((e2.below h1).below ha).kept e1 hS (fun b hb => h.out b hb x (List.mem_of_getElem? hx))⟩
    · rw [List.getElem?_append_right (by omega)] at hx
      obtain ⟨k, hk⟩ : ∃ k, j - xs.length = k := ⟨_, rfl⟩
      rw [hk] at hx
      cases k with
      | succ k => simp at hx
      | zero =>
        obtain rfl : j = xs.length := by omega
        rw [hl] at hl'
        obtain rfl := Option.some.inj hl'
        obtain rfl := Option.some.inj hx
        exact ⟨hn, (hL.below ha).kept hn hS (fun b hb => .inl (hv b hb))⟩
  · refine List.pairwise_append.2 ⟨h.up, List.pairwise_singleton _ _, fun a ha' b hb => ?_⟩
    rw [List.mem_singleton.1 hb]
    exact (h.base a ha').2
  · rcases List.mem_append.1 hx with hx | hx
    · have := h.base x hx; exact ⟨this.1, by omega⟩
    · rw [List.mem_singleton.1 hx]; exact ⟨hB, by show w1.heap.size ≤ _; omega⟩
  · have hb' : g' = b := Option.some.inj (show some g' = some b from hb)
    subst hb'
    rcases List.mem_append.1 hx with hx | hx
    · rcases hgg with e | e
      · exact h.out _ e x hx
      · have := (h.base x hx).2
        exact .inr (by omega)
    · rw [List.mem_singleton.1 hx]
      rcases hgg with e | e
      · exact .inl (hv _ e)
      · exact .inr (by show w1.heap.size ≤ _; omega)
/-- The k-th list is spoilt: those behind it stay. -/
theorem LendRowT.behind {w w' : World} {B : Nat} {ls : List (List Tv)} {v : Value} {xs : List LTi} {k : Nat} {x : LTi} (hx : xs[k]? = some x) (hu : xs.Pairwise fun a b => a.b1 ≤ b.b0) (hg : GrownIn (fun b => x.b0 ≤ b ∧ b < x.b1) w w')
    (h : ∀ (j : Nat) y l, k ≤ j → xs[j]? = some y → ls[j]? = some l → l.length = y.n ∧ LentTi w y.b0 y.b1 y.g y.n y.c l y.zs) :
    ∀ (j : Nat) y l, k + 1 ≤ j → xs[j]? = some y → ls[j]? = some l → l.length = y.n ∧ LentTi w' y.b0 y.b1 y.g y.n y.c l y.zs := fun j y l hj hy hl => by
  obtain ⟨e1, e2⟩ := h j y l (by omega) hy hl
  have h3 : x.b1 ≤ y.b0 := pairwise_at (R := fun a b : LTi => a.b1 ≤ b.b0) hu (by omega) hx hy
  exact ⟨e1, e2.kept e1 hg (fun b hb => .inl (by omega))⟩
end Go.Proofs.YtihidnmpngeohaaGreat
namespace Go.Proofs.YtihidnmpngeohaaGreat
open Go.RowKit Go.Lib

theorem LendRow.sls {w w0 : World} {B : Nat} {ls : List (List Sv)} {A : Option Addr} {n c : Nat} {xs : List LI} (h : LendRow w B ls (.slice A n c) xs) (hn : xs.length = n) (hln : ls.length = n) (hF : ∀ (i : Nat) l, ls[i]? = some l → ∃ A', FewB w0 A' l.length l) :
    Sls w w.heap.size A n (xs.map LI.zs) ∧ (∀ y ∈ (xs.map LI.zs).flatten, SerIn w y) ∧ lsOf (xs.map LI.zs) = lsOf ls := by
  have hp : ∀ (k : Nat) zs, (xs.map LI.zs)[k]? = some zs → ∃ x l, xs[k]? = some x ∧ x.zs = zs ∧ ls[k]? = some l ∧ l.length = x.n ∧ (∀ z ∈ zs, SerIn w z) ∧ zs.map Sv.sr = l.map Sv.sr ∧ Lst encSv 2 w w.heap.size (some ⟨x.g, 0, none⟩) x.n zs := fun k zs hz => by
    rw [List.getElem?_map] at hz
    obtain ⟨x, hx, rfl⟩ := Option.map_eq_some_iff.1 hz
    obtain ⟨hk, _⟩ := List.getElem?_eq_some_iff.1 hx
    have hl : ls[k]? = some (ls[k]'(by omega)) := List.getElem?_eq_getElem _
    obtain ⟨e1, e2⟩ := h.each k x _ hx hl
    obtain ⟨A', hf⟩ := hF k _ hl
    rw [e1] at hf
    obtain ⟨f1, f2, f3⟩ := e2.lent.factsB hf
    exact ⟨x, _, hx, rfl, hl, e1, f1, f2, f3⟩
  refine ⟨⟨by rw [List.length_map]; exact hn, fun h0 => ?_⟩, fun y hy => ?_, ?_⟩
  · rcases h.row.2 with ⟨_, h1⟩ | ⟨g, cap, cur, e, _, hg, _⟩
    · omega
    · injection e with e1 _ e3
      subst e1
      refine ⟨g, 0, rfl, (Array.getElem?_eq_some_iff.1 hg).1, fun k zs hz => ?_⟩
      obtain ⟨x, l, hx, e1, hl, e2, f1, f2, f3⟩ := hp k zs hz
      have hlen : zs.length = x.n := f3.1
      exact ⟨some ⟨x.g, 0, none⟩, x.c, by rw [Nat.zero_add, hlen]; exact owns_cell h.row rfl (by rw [List.getElem?_map, hx]; rfl), by rw [hlen]; exact f3⟩
  · obtain ⟨zs, hzs, hy⟩ := List.mem_flatten.1 hy
    obtain ⟨k, hk, e⟩ := List.getElem_of_mem hzs
    obtain ⟨x, l, hx, e1, hl, e2, f1, f2, f3⟩ := hp k zs (by rw [← e]; exact List.getElem?_eq_getElem hk)
    exact f1 y hy
  · apply List.ext_getElem?
    intro k
    have q : ∀ l : List (List Sv), (lsOf l)[k]? = (l[k]?).map (·.map Sv.sr) := fun l => by unfold lsOf; rw [List.getElem?_map]
    rw [q, q]
    cases hz : (xs.map LI.zs)[k]? with
    | none =>
      have := List.getElem?_eq_none_iff.1 hz
      rw [List.length_map] at this
      rw [List.getElem?_eq_none (by omega)]
    | some zs =>
      obtain ⟨x, l, hx, e1, hl, e2, f1, f2, f3⟩ := hp k zs hz
      rw [hl]
      show some (zs.map Sv.sr) = some (l.map Sv.sr)
      rw [f2]
theorem LendRowT.tls {w w0 : World} {B : Nat} {ls : List (List Tv)} {A : Option Addr} {n c : Nat} {xs : List LTi} (h : LendRowT w B ls (.slice A n c) xs) (hn : xs.length = n) (hln : ls.length = n) (hF : ∀ (i : Nat) l, ls[i]? = some l → ∃ A', FewT w0 A' l.length l) :
    Tls w w.heap.size A n (xs.map LTi.zs) ∧ (∀ y ∈ (xs.map LTi.zs).flatten, Tat w w.heap.size y) ∧ tbsOf (xs.map LTi.zs) = tbsOf ls := by
  have hp : ∀ (k : Nat) zs, (xs.map LTi.zs)[k]? = some zs → ∃ x l, xs[k]? = some x ∧ x.zs = zs ∧ ls[k]? = some l ∧ l.length = x.n ∧ (∀ z ∈ zs, Tat w w.heap.size z) ∧ zs.map Tv.tb = l.map Tv.tb ∧ Lst encTb 3 w w.heap.size (some ⟨x.g, 0, none⟩) x.n zs := fun k zs hz => by
    rw [List.getElem?_map] at hz
    obtain ⟨x, hx, rfl⟩ := Option.map_eq_some_iff.1 hz
    obtain ⟨hk, _⟩ := List.getElem?_eq_some_iff.1 hx
    have hl : ls[k]? = some (ls[k]'(by omega)) := List.getElem?_eq_getElem _
    obtain ⟨e1, e2⟩ := h.each k x _ hx hl
    obtain ⟨A', hf⟩ := hF k _ hl
    rw [e1] at hf
    obtain ⟨f1, f2, f3⟩ := e2.facts hf
    exact ⟨x, _, hx, rfl, hl, e1, f1, f2, f3⟩
  refine ⟨⟨by rw [List.length_map]; exact hn, fun h0 => ?_⟩, fun y hy => ?_, ?_⟩
  · rcases h.row.2 with ⟨_, h1⟩ | ⟨g, cap, cur, e, _, hg, _⟩
    · omega
    · injection e with e1 _ e3
      subst e1
      refine ⟨g, 0, rfl, (Array.getElem?_eq_some_iff.1 hg).1, fun k zs hz => ?_⟩
      obtain ⟨x, l, hx, e1, hl, e2, f1, f2, f3⟩ := hp k zs hz
      have hlen : zs.length = x.n := f3.1
      exact ⟨some ⟨x.g, 0, none⟩, x.c, by rw [Nat.zero_add, hlen]; exact owns_cell h.row rfl (by rw [List.getElem?_map, hx]; rfl), by rw [hlen]; exact f3⟩
  · obtain ⟨zs, hzs, hy⟩ := List.mem_flatten.1 hy
    obtain ⟨k, hk, e⟩ := List.getElem_of_mem hzs
    obtain ⟨x, l, hx, e1, hl, e2, f1, f2, f3⟩ := hp k zs (by rw [← e]; exact List.getElem?_eq_getElem hk)
    exact f1 y hy
  · apply List.ext_getElem?
    intro k
    have q : ∀ l : List (List Tv), (tbsOf l)[k]? = (l[k]?).map (·.map Tv.tb) := fun l => by unfold tbsOf; rw [List.getElem?_map]
    rw [q, q]
    cases hz : (xs.map LTi.zs)[k]? with
    | none =>
      have := List.getElem?_eq_none_iff.1 hz
      rw [List.length_map] at this
      rw [List.getElem?_eq_none (by omega)]
    | some zs =>
      obtain ⟨x, l, hx, e1, hl, e2, f1, f2, f3⟩ := hp k zs hz
      rw [hl]
      show some (zs.map Tv.tb) = some (l.map Tv.tb)
      rw [f2]
end Go.Proofs.YtihidnmpngeohaaGreat
namespace Go.Proofs.YtihidnmpngeohaaGreat
open Go.RowKit Go.Lib

/-- The first k are spoilt. -/
structure SpoilS (w4 wz : World) (ls : List (List Sv)) (xs : List LI) (k : Nat) : Prop where
  ahead : ∀ (j : Nat) y l, k ≤ j → xs[j]? = some y → ls[j]? = some l → l.length = y.n ∧ LentIn wz y.b0 y.b1 y.g y.n y.c l y.zs y.bo y.co
  grown : GrownIn (fun b => ∃ x ∈ xs, x.b0 ≤ b ∧ b < x.b1) w4 wz
theorem SpoilS.start {w : World} {B : Nat} {ls : List (List Sv)} {v : Value} {xs : List LI} (h : LendRow w B ls v xs) : SpoilS w w ls xs 0 := ⟨fun j y l _ h1 h2 => h.each j y l h1 h2, GrownIn.refl _ _⟩
theorem SpoilS.below {w4 wz w' : World} {ls : List (List Sv)} {xs : List LI} {k : Nat} (h : SpoilS w4 wz ls xs k) (hb : Below wz.heap.size wz w') : SpoilS w4 w' ls xs k :=
  ⟨fun j y l h0 h1 h2 => ⟨(h.ahead j y l h0 h1 h2).1, (h.ahead j y l h0 h1 h2).2.below hb⟩, h.grown.trans (GrownIn.of_below hb) (fun b hb hs => absurd hs (by have := h.grown.size; omega))⟩
theorem SpoilS.step {w4 wz w' : World} {ls : List (List Sv)} {xs : List LI} {k : Nat} {x : LI} (h : SpoilS w4 wz ls xs k) (hx : xs[k]? = some x) (hu : xs.Pairwise fun a b => a.b1 ≤ b.b0) (hg : GrownIn (fun b => x.b0 ≤ b ∧ b < x.b1) wz w') : SpoilS w4 w' ls xs (k + 1) :=
  ⟨fun j y l h0 h1 h2 => by
    obtain ⟨e1, e2⟩ := h.ahead j y l (by omega) h1 h2
    have h3 : x.b1 ≤ y.b0 := pairwise_at (R := fun a b : LI => a.b1 ≤ b.b0) hu (by omega) hx h1
    exact ⟨e1, e2.kept e1 hg (fun b hb => .inl (by omega))⟩, h.grown.trans hg (fun b _ hb => ⟨x, List.mem_of_getElem? hx, hb⟩)⟩
theorem SpoilS.all {w4 wz : World} {B : Nat} {ls : List (List Sv)} {xs : List LI} {k : Nat} (h : SpoilS w4 wz ls xs k) (hB : ∀ x ∈ xs, B ≤ x.b0) (hs : B ≤ w4.heap.size) : Below B w4 wz := h.grown.below (fun b ⟨x, hx, h1⟩ => by have := hB x hx; omega) hs
/-- The first k are spoilt. -/
structure SpoilT (w4 wz : World) (ls : List (List Tv)) (xs : List LTi) (k : Nat) : Prop where
  ahead : ∀ (j : Nat) y l, k ≤ j → xs[j]? = some y → ls[j]? = some l → l.length = y.n ∧ LentTi wz y.b0 y.b1 y.g y.n y.c l y.zs
  grown : GrownIn (fun b => ∃ x ∈ xs, x.b0 ≤ b ∧ b < x.b1) w4 wz
theorem SpoilT.start {w : World} {B : Nat} {ls : List (List Tv)} {v : Value} {xs : List LTi} (h : LendRowT w B ls v xs) : SpoilT w w ls xs 0 := ⟨fun j y l _ h1 h2 => h.each j y l h1 h2, GrownIn.refl _ _⟩
theorem SpoilT.below {w4 wz w' : World} {ls : List (List Tv)} {xs : List LTi} {k : Nat} (h : SpoilT w4 wz ls xs k) (hb : Below wz.heap.size wz w') : SpoilT w4 w' ls xs k :=
  ⟨fun j y l h0 h1 h2 => ⟨(h.ahead j y l h0 h1 h2).1, (h.ahead j y l h0 h1 h2).2.below hb⟩, h.grown.trans (GrownIn.of_below hb) (fun b hb hs => absurd hs (by have := h.grown.size; omega))⟩
theorem SpoilT.step {w4 wz w' : World} {ls : List (List Tv)} {xs : List LTi} {k : Nat} {x : LTi} (h : SpoilT w4 wz ls xs k) (hx : xs[k]? = some x) (hu : xs.Pairwise fun a b => a.b1 ≤ b.b0) (hg : GrownIn (fun b => x.b0 ≤ b ∧ b < x.b1) wz w') : SpoilT w4 w' ls xs (k + 1) :=
  ⟨fun j y l h0 h1 h2 => by
    obtain ⟨e1, e2⟩ := h.ahead j y l (by omega) h1 h2
    have h3 : x.b1 ≤ y.b0 := pairwise_at (R := fun a b : LTi => a.b1 ≤ b.b0) hu (by omega) hx h1
    exact ⟨e1, e2.kept e1 hg (fun b hb => .inl (by omega))⟩, h.grown.trans hg (fun b _ hb => ⟨x, List.mem_of_getElem? hx, hb⟩)⟩
theorem SpoilT.all {w4 wz : World} {B : Nat} {ls : List (List Tv)} {xs : List LTi} {k : Nat} (h : SpoilT w4 wz ls xs k) (hB : ∀ x ∈ xs, B ≤ x.b0) (hs : B ≤ w4.heap.size) : Below B w4 wz := h.grown.below (fun b ⟨x, hx, h1⟩ => by have := hB x hx; omega) hs
/-- The tombs' lists stay when only blocks below them change. -/
theorem LendRowT.keptS {S : Nat → Prop} {w w' : World} {B : Nat} {ts : List (List Tv)} {v : Value} {ys : List LTi} (h : LendRowT w B ts v ys) (hg : GrownIn S w w') (hS : ∀ b, S b → b < B) : LendRowT w' B ts v ys :=
  ⟨hg.owns h.row (fun b hb hs => by have := (h.row.lt b hb).1; have := hS b hs; omega), fun j x l h1 h2 => ⟨(h.each j x l h1 h2).1, (h.each j x l h1 h2).2.kept (h.each j x l h1 h2).1 hg (fun b hb => .inl (by have := hS b hb; have := (h.base x (List.mem_of_getElem? h1)).1; omega))⟩, h.up, fun x hx => ⟨(h.base x hx).1, Nat.le_trans (h.base x hx).2 hg.size⟩, h.out⟩
end Go.Proofs.YtihidnmpngeohaaGreat
