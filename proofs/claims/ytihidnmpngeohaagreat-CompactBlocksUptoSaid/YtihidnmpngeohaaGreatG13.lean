/- Plain laws for the walk of the document's Intervals: lengths, bounds, the state of the sweep. No program. Tombs in memory: a slice of labels and an interval. Laws at one operation, in the form that a region which draws its order asks: a look-up in a map of slices of the call's own, the append to what it gave, the store by the way back. And words for slices that came in. The checker's book: its block, what a call that lays a list behind in it leaves. The book's marks as texts: mark. -/
import Derived.Test.YtihidnmpngeohaaGreatG05
import Derived.Test.YtihidnmpngeohaaGreatG12
import Derived.Test.YtihidnmpngeohaaGreatG00
import Derived.Maps.OwnRows
import Derived.Maps.GroupsBeside
import Derived.Maps.Views
import Derived.Maps.Ext
import Derived.Deep.AppendLies
import Derived.Deep.RegionHeld3
import Derived.Test.YtihidnmpngeohaaGreatRowset
import Derived.LoopN
import Derived.OwnWalk
import Derived.Deep.DeepCutAuto
import Derived.Laws.BytesArg
namespace Go.Proofs.YtihidnmpngeohaaGreat

theorem sweep_len : ∀ (o : List (Int × Int)) (st : (Int × Int) × List (Int × Int)), (o.foldl sweep st).2.length ≤ st.2.length + o.length
  | [], st => by simp
  | y :: o, st => by
    rw [List.foldl_cons]
    have h := sweep_len o (sweep st y)
    have h2 : (sweep st y).2.length ≤ st.2.length + 1 := by
      unfold sweep
      split
      · simp
      · simp
    rw [List.length_cons]
    omega
theorem laid_len (x : Int × Int) (r : List (Int × Int)) : (laid x r).length = r.length + 1 := by
  unfold laid
  have h := congrArg List.length (List.takeWhile_append_dropWhile (p := fun z : Int × Int => decide (z.1 < x.1)) (l := r))
  rw [List.length_append] at h
  rw [List.length_append, List.length_cons]
  omega
theorem refIv_len (o : List (Int × Int)) (x : Int × Int) : (refIv o x).length ≤ o.length + 1 := by
  unfold refIv
  split
  · omega
  · have h := sweep_len o (x, [])
    simp only [laid_len]
    simp only [List.length_nil] at h
    omega
theorem refIvs_length (l : List (Int × Int)) : (l.foldl refIv []).length ≤ l.length := by
  suffices H : ∀ (l o : List (Int × Int)), (l.foldl refIv o).length ≤ o.length + l.length by simpa using H l []
  intro l
  induction l with
  | nil => intro o; simp
  | cons x l ih =>
    intro o
    have h1 := ih (refIv o x)
    have h2 := refIv_len o x
    simp only [List.foldl_cons, List.length_cons]
    omega
/-- An interval whose ends an int64 holds. -/
def Fits (x : Int × Int) : Prop := -9223372036854775808 ≤ x.1 ∧ x.1 ≤ 9223372036854775807 ∧ -9223372036854775808 ≤ x.2 ∧ x.2 ≤ 9223372036854775807
theorem cov_fits {l : List (Int × Int)} (h : ∀ x ∈ l, Fits x) {t : Int} (ht : Cov l t) : -9223372036854775808 ≤ t ∧ t ≤ 9223372036854775807 := by
  obtain ⟨x, hx, h1, h2⟩ := ht
  have := h x hx
  unfold Fits at this
  omega
theorem refIvs_fits {l : List (Int × Int)} (h : ∀ x ∈ l, Fits x) : ∀ x ∈ l.foldl refIv [], Fits x := by
  intro x hx
  obtain ⟨h1, h2⟩ := refIvs_law l
  have hne := h1.1 x hx
  have c1 := cov_fits h ((h2 x.1).1 ⟨x, hx, Int.le_refl _, hne⟩)
  have c2 := cov_fits h ((h2 x.2).1 ⟨x, hx, hne, Int.le_refl _⟩)
  exact ⟨c1.1, c1.2, c2.1, c2.2⟩
/-- The state of the sweep behind k elements. -/
def swept (o : List (Int × Int)) (x : Int × Int) (k : Nat) : (Int × Int) × List (Int × Int) := (o.take k).foldl sweep (x, [])
theorem swept_zero (o : List (Int × Int)) (x : Int × Int) : swept o x 0 = (x, []) := rfl
theorem swept_succ {o : List (Int × Int)} {x y : Int × Int} {k : Nat} (hy : o[k]? = some y) : swept o x (k + 1) = sweep (swept o x k) y := by
  obtain ⟨hk, e⟩ := List.getElem?_eq_some_iff.1 hy
  unfold swept
  rw [List.take_succ_eq_append_getElem hk, e, List.foldl_append]
  rfl
theorem Apart.take {o : List (Int × Int)} (h : Apart o) (k : Nat) : Apart (o.take k) := ⟨fun x hx => h.1 x (List.mem_of_mem_take hx), h.2.sublist (List.take_sublist k o)⟩
theorem swept_ok {o : List (Int × Int)} {x : Int × Int} (ho : Apart o) (hof : ∀ z ∈ o, Fits z) (hx : x.1 ≤ x.2) (hxf : Fits x) (k : Nat) :
    (swept o x k).1.1 ≤ (swept o x k).1.2 ∧ Fits (swept o x k).1 ∧ (swept o x k).2.length ≤ k := by
  obtain ⟨h1, _, _, h4⟩ := sweep_law x (o.take k) [] x [] (by simpa using ho.take k) hx ⟨fun z hz => (by cases hz), List.Pairwise.nil⟩ (fun z hz => by cases hz) (fun z hz => by cases hz) (fun t => Iff.rfl)
  have hlen := sweep_len (o.take k) (x, [])
  have hf : ∀ z ∈ x :: o.take k, Fits z := fun z hz => by
    rcases List.mem_cons.1 hz with rfl | hz
    · exact hxf
    · exact hof z (List.mem_of_mem_take hz)
  have c1 := cov_fits hf ((cov_cons _ _ _).2 ((h4 (swept o x k).1.1).1 (.inl ⟨Int.le_refl _, h1⟩)))
  have c2 := cov_fits hf ((cov_cons _ _ _).2 ((h4 (swept o x k).1.2).1 (.inl ⟨h1, Int.le_refl _⟩)))
  refine ⟨h1, ⟨c1.1, c1.2, c2.1, c2.2⟩, ?_⟩
  have h5 : (swept o x k).2.length ≤ (o.take k).length := by unfold swept; simp only [List.length_nil, Nat.zero_add] at hlen; exact hlen
  rw [List.length_take] at h5
  omega
theorem sweep_in {X y : Int × Int} {r : List (Int × Int)} (h : meets X y = true) : sweep (X, r) y = (joinIv X y, r) := if_pos h
theorem sweep_out {X y : Int × Int} {r : List (Int × Int)} (h : meets X y = false) : sweep (X, r) y = (X, r ++ [y]) := if_neg (by simp [h])
/-- How many of r begin ahead of x. -/
def aheadOf (x : Int × Int) (r : List (Int × Int)) : Nat := (r.takeWhile fun z => decide (z.1 < x.1)).length
theorem takeWhile_take {p : Int × Int → Bool} : ∀ (r : List (Int × Int)), r.take (r.takeWhile p).length = r.takeWhile p ∧ r.drop (r.takeWhile p).length = r.dropWhile p
  | [] => ⟨rfl, rfl⟩
  | x :: r => by
    by_cases h : p x = true
    · rw [List.takeWhile_cons_of_pos h, List.dropWhile_cons_of_pos h]
      obtain ⟨h1, h2⟩ := takeWhile_take (p := p) r
      exact ⟨by rw [List.length_cons, List.take_succ_cons, h1], by rw [List.length_cons, List.drop_succ_cons, h2]⟩
    · rw [List.takeWhile_cons_of_neg h, List.dropWhile_cons_of_neg h]
      exact ⟨rfl, rfl⟩
theorem laid_at (x : Int × Int) (r : List (Int × Int)) : laid x r = r.take (aheadOf x r) ++ [x] ++ r.drop (aheadOf x r) := by
  unfold laid aheadOf
  rw [(takeWhile_take r).1, (takeWhile_take r).2]
  simp
theorem ahead_stop {x : Int × Int} : ∀ {r : List (Int × Int)} {k : Nat}, (∀ j z, j < k → r[j]? = some z → z.1 < x.1) → k ≤ r.length → (∀ z, r[k]? = some z → ¬ z.1 < x.1) → aheadOf x r = k
  | [], k, _, h2, _ => by simp at h2; subst h2; rfl
  | z :: r, 0, _, _, h3 => by
    have := h3 z (by simp)
    unfold aheadOf
    rw [List.takeWhile_cons_of_neg (by simpa using this)]
    rfl
  | z :: r, k + 1, h1, h2, h3 => by
    have hz := h1 0 z (by omega) (by simp)
    unfold aheadOf
    rw [List.takeWhile_cons_of_pos (by simpa using hz), List.length_cons]
    congr 1
    exact ahead_stop (r := r) (k := k) (fun j y hj hy => h1 (j + 1) y (by omega) (by simpa using hy)) (by simpa using h2) (fun y hy => h3 y (by simpa using hy))
theorem refIv_none {o : List (Int × Int)} {x : Int × Int} (h : x.2 < x.1) : refIv o x = o := if_pos h
theorem refIv_some {o : List (Int × Int)} {x : Int × Int} (h : ¬ x.2 < x.1) : refIv o x = laid (swept o x o.length).1 (swept o x o.length).2 := by
  unfold refIv swept
  rw [if_neg h, List.take_length]
theorem refIvs_succ {l : List (Int × Int)} {i : Nat} {x : Int × Int} (hx : l[i]? = some x) : (l.take (i + 1)).foldl refIv [] = refIv ((l.take i).foldl refIv []) x := by
  obtain ⟨hk, e⟩ := List.getElem?_eq_some_iff.1 hx
  rw [List.take_succ_eq_append_getElem hk, e, List.foldl_append]
  rfl
end Go.Proofs.YtihidnmpngeohaaGreat
namespace Go.Proofs.YtihidnmpngeohaaGreat
open Go.RowKit Go.Lib Go.Sort

/-- A tomb, as the program has it: where its labels lie, what they are; its interval. -/
structure Tv where
  A : Option Addr
  n : Nat
  c : Nat
  l : List Lb
  g : Int × Int
def encTb (y : Tv) : List Value := [.slice y.A y.n y.c, .int .i64 y.g.1, .int .i64 y.g.2]
theorem encTb_len (y : Tv) : (encTb y).length = 3 := rfl
/-- What it says. -/
def Tv.tb (y : Tv) : List Lb × (Int × Int) := (y.l, y.g)
theorem oneTomb (ys : List Tv) : ∀ u ∈ ys.flatMap encTb, u.oneCell' = true := by
  intro u hu
  obtain ⟨m, _, h⟩ := List.mem_flatMap.1 hu
  simp only [encTb, List.mem_cons, List.not_mem_nil, or_false] at h
  rcases h with rfl | rfl | rfl <;> rfl
/-- What is known of a tomb that lies below a block. -/
structure Tat (w : World) (B : Nat) (y : Tv) : Prop where
  lst : Lst Lb.cells 2 w B y.A y.n y.l
  nil : y.A = none → y.n = 0 ∧ y.c = 0
  few : y.n ≤ 100000
  fits : Fits y.g
theorem Tat.below {w w' : World} {B : Nat} {y : Tv} (h : Tat w B y) (hb : Below B w w') : Tat w' B y := ⟨h.lst.below hb, h.nil, h.few, h.fits⟩
theorem Tat.more {w : World} {B B' : Nat} {y : Tv} (h : Tat w B y) (hB : B ≤ B') : Tat w B' y := ⟨h.lst.more hB, h.nil, h.few, h.fits⟩
theorem Tat.keep {w w' : World} {B : Nat} {y : Tv} (h : Tat w B y) (hk : ∀ p : Addr, p.block < B → w'.cell? p = w.cell? p) : Tat w' B y := ⟨h.lst.keep hk, h.nil, h.few, h.fits⟩
theorem Tat.on {w w' : World} {y : Tv} (h : Tat w w.heap.size y) (hb : Below w.heap.size w w') : Tat w' w'.heap.size y := (h.below hb).more hb.size
theorem Tryz.infoTomb : (Tryz.prog.info? 27).map (fun i => (i.zero, i.size, i.bytes)) = some (some (.agg #[.slice none 0 0, .int .i64 0, .int .i64 0]), 3, 40) := by kernel_rfl
/-- Tombs' labels compared. -/
def tombC (x y : Tv) : Int := labelsC x.l y.l
end Go.Proofs.YtihidnmpngeohaaGreat
namespace Go.Proofs.YtihidnmpngeohaaGreat
open Go.RowKit Go.Maps Go.WideElems Go.MapKept

theorem step_of_wp {P : Program} {ops : Array Oper} {o : Oper} {a : Act} {w : World} {K : Act → World → Prop} {Q : Exit → Act → World → Prop} {E : Prop} (hgd : o.guard = none) (h : Oper.wp P o a w K Q) :
    if Region.wanted o (yielded ops a.tmps) = true then Oper.wp P o a w K Q else E := by
  have hw : Region.wanted o (yielded ops a.tmps) = true := by simp [Region.wanted, hgd]
  rw [if_pos hw]
  exact h

theorem step_lookup_groups {H : Type} {P : Program} (w : World) {ops : Array Oper} {o : Oper} {a : Act} {K : Act → World → Prop} {Q : Exit → Act → World → Prop} {E : Prop}
    (hg : o.guard = none) (m x : Operand) (t : TypeId) (hop : o.op = Op.lookup t m x false)
    (k E' e : TypeId) (q : IntKind) (KK : Keyed P k) (ht : P.underlying t = some (.map k E')) (hz : (zeroValue E').run P w = .ok (.slice none 0 0) w) (base b n : Nat) (D : DataW H)
    (hm : a.eval m = .map (some b)) (hown : w.ownsGroups P k base e q b n D) (hn : n < maxLen) (key : Value) (kl : Lit) (hx : a.eval x = key) (hkey : keyOf P k key = some kl)
    (hK : ∀ v zs, D.atKey kl .nil = rowDatum q v zs → w.ownsInts base e q v zs → zs.length ≤ n → w.groupBack P t k base e q b n D key kl v → K (a.put o.dst v) w) :
    if Region.wanted o (yielded ops a.tmps) = true then Oper.wp P o a w K Q else E := by
  refine step_of_wp hg ?_
  obtain ⟨v, zs, hrun, hat, hoi, hzl, hback⟩ := hown.at KK ht hz hn hkey
  unfold Oper.wp
  simp [execOp, hop, hm, hx, hrun, Result.andThen]
  exact hK v zs hat hoi hzl hback

theorem nodup_map_inj {α β : Type} (f : α → β) : ∀ (l : List α), (l.map f).Nodup → ∀ x ∈ l, ∀ y ∈ l, f x = f y → x = y
  | [], _, x, hx, _, _, _ => by cases hx
  | a :: l, h, x, hx, y, hy, e => by
    rw [List.map_cons, List.nodup_cons] at h
    rcases List.mem_cons.1 hx with hx | hx <;> rcases List.mem_cons.1 hy with hy | hy
    · rw [hx, hy]
    · rw [hx] at e
      exact absurd (List.mem_map.2 ⟨y, hy, e.symm⟩) h.1
    · rw [hy] at e
      exact absurd (List.mem_map.2 ⟨x, hx, e⟩) h.1
    · exact nodup_map_inj f l h.2 x hx y hy e
/-- 'm[k]' on such a map, in whatever world whose map is as it was. -/
theorem groups_look {H : Type} {P : Program} {w : World} {t k E e : TypeId} {q : IntKind} {base b n : Nat} {D : DataW H} {key : Value} {kl : Lit} (h : w.ownsGroups P k base e q b n D) (K : Keyed P k) (ht : P.underlying t = some (.map k E)) (hz : ∀ W, (zeroValue E).run P W = .ok (.slice none 0 0) W) (hn : n < maxLen) (hkey : keyOf P k key = some kl) :
    ∃ v zs, (∀ W : World, W.heap[b]? = w.heap[b]? → (Instr.lookup t (.map (some b)) key false).run P W = .ok v W) ∧ D.atKey kl .nil = rowDatum q v zs ∧ w.ownsInts base e q v zs ∧ zs.length ≤ n ∧ w.groupBack P t k base e q b n D key kl v := by
  have h0 := h
  obtain ⟨es, clock, hb, F, hs, rfl, hbb, hlen, hap⟩ := h0
  obtain ⟨v, zs, hrun, h1, h2, h3, h4⟩ := h.at K ht (hz w) hn hkey
  refine ⟨v, zs, fun W hW => ?_, h1, h2, h3, h4⟩
  have hbW := hW.trans hb
  rcases Maps.fit_look false K ht (hz w) hb F hkey with ⟨r1, n1, _⟩ | ⟨e0, y, m0, k0, r1, _⟩ <;> rcases Maps.fit_look false K ht (hz W) hbW F hkey with ⟨r2, n2, _⟩ | ⟨e1, y1, m1, k1, r2, _⟩
  · rw [r1] at hrun
    injection hrun with hv _
    rw [r2, ← hv]
  · exact absurd k1 (n1 e1 m1)
  · exact absurd k0 (n2 e0 m0)
  · have ee : e0 = e1 := nodup_map_inj _ _ F.stamped.2.2 e0 m0 e1 m1 (k0.trans k1.symm)
    rw [r1] at hrun
    injection hrun with hv _
    rw [r2, ← hv, ee]

theorem step_mapUpdate_back {H : Type} {P : Program} (w : World) {ops : Array Oper} {o : Oper} {a : Act} {K : Act → World → Prop} {Q : Exit → Act → World → Prop} {E : Prop}
    (hg : o.guard = none) (m x v : Operand) (t : TypeId) (hop : o.op = Op.mapUpdate t m x v)
    {w0 : World} {k : TypeId} {base : Nat} {e : TypeId} {q : IntKind} {b n : Nat} {D : DataW H} {key : Value} {kl : Lit} {u v' : Value} {zs' : List Int}
    (hback : w0.groupBack P t k base e q b n D key kl u) (hm : a.eval m = .map (some b)) (hx : a.eval x = key) (hv : a.eval v = v')
    (hgr : w0.grownBy w u.ownBlock) (hown' : w.ownsInts base e q v' zs') (hl' : zs'.length ≤ n + 1) (hloc : v'.ownBlock = u.ownBlock ∨ ∃ g, v'.ownBlock = some g ∧ w0.heap.size ≤ g)
    (hK : ∀ w2, w2.ownsGroups P k base e q b (n + 1) (D.put kl (rowDatum q v' zs')) → w.grownBy w2 (some b) → K (a.put o.dst undef) w2) :
    if Region.wanted o (yielded ops a.tmps) = true then Oper.wp P o a w K Q else E := by
  refine step_of_wp hg ?_
  obtain ⟨w2, hrun, r1, r2⟩ := hback w v' zs' hgr hown' hl' hloc
  unfold Oper.wp
  simp [execOp, hop, hm, hx, hv, hrun, Result.andThen]
  exact hK w2 r1 r2
end Go.Proofs.YtihidnmpngeohaaGreat
namespace Go.Proofs.YtihidnmpngeohaaGreat
open Go.RowKit Go.Lib

theorem cells_one (w : World) (v : Value) (t : TypeId) : ∀ j u, [v][j]? = some u → (w.alloc (.cells #[v] t)).cell? ((⟨w.heap.size, 0, none⟩ : Addr).add j) = some u := by
  intro j u h
  rw [show ((⟨w.heap.size, 0, none⟩ : Addr).add j) = ⟨w.heap.size, j, none⟩ by simp only [Addr.add, Nat.zero_add]; cases j <;> rfl, cell_of_row _ _ _ _ _ _ (heap_alloc_new w _)]
  simpa using h
theorem apart_of {v : Value} {r : Option Nat} (h : ∀ b, v.ownBlock = some b → r ≠ some b) : v.ownBlock = none ∨ v.ownBlock ≠ r := by
  cases hv : v.ownBlock with
  | none => exact .inl rfl
  | some b => exact .inr fun e => h b hv e.symm
/-- A list of the row that has an element lies in a block of its own. -/
theorem owns_some {w : World} {B : Nat} {e : TypeId} {sz n : Nat} {A : Option Addr} {c : Nat} {xs : List Value} (h : w.ownsRow B e sz (.slice A n c) n xs) (hn : 0 < n) : ∃ g, A = some ⟨g, 0, none⟩ ∧ g < w.heap.size := by
  obtain ⟨g, cap, hv, _, hlt⟩ := h.form hn
  injection hv with hA _ _
  exact ⟨g, hA, hlt⟩

/-- The book: a block of 32 slices. -/
def Bk (w : World) (bk : Nat) (cs : Array Value) : Prop := w.heap[bk]? = some (.cells cs 67 (0, 0)) ∧ cs.size = 32
theorem Bk.lt {w : World} {bk : Nat} {cs : Array Value} (h : Bk w bk cs) : bk < w.heap.size := (Array.getElem?_eq_some_iff.1 h.1).1
theorem Bk.cell {w : World} {bk : Nat} {cs : Array Value} (h : Bk w bk cs) (i : Nat) : w.cell? ⟨bk, i, none⟩ = cs[i]? := cell_of_row w bk i cs _ (0, 0) h.1
theorem Bk.free {w : World} {bk : Nat} {cs : Array Value} (h : Bk w bk cs) (i : Nat) : w.frozen? ⟨bk, i, none⟩ = false := by simp [World.frozen?, h.1]
theorem Bk.kept {S : Nat → Prop} {w w' : World} {bk : Nat} {cs : Array Value} (h : Bk w bk cs) (g : GrownIn S w w') (hn : ¬ S bk) : Bk w' bk cs := ⟨(g.block bk h.lt hn).trans h.1, h.2⟩
/-- Behind a call that lays a list behind in field i of the book. -/
def PutPost (w : World) (bk B m i : Nat) (eS : TypeId) (cs : Array Value) (v l : Value) (Ls : List Value) (e : Ending) (w' : World) : Prop :=
  e = .returned (.tuple #[]) ∧ ∃ g c, w'.ownsRow B eS 1 (.slice (some ⟨g, 0, none⟩) (m + 1) c) (m + 1) (Ls ++ [l]) ∧ Bk w' bk (cs.setIfInBounds i (.slice (some ⟨g, 0, none⟩) (m + 1) c)) ∧
    GrownIn (fun k => k = bk ∨ v.ownBlock = some k) w w' ∧ (v.ownBlock = some g ∨ w.heap.size ≤ g)
theorem grownIn_set {S : Nat → Prop} {a w : World} (h : GrownIn S a w) {p : Addr} (hp : S p.block) (u : Value) : GrownIn S a (w.setCell p u) :=
  h.trans ⟨rfl, rfl, rfl, by simp [World.setCell], fun k _ hk => Below.heap_setCell _ _ _ _ (fun e => hk (e ▸ hp))⟩ (fun _ _ h => h)
theorem Bk.set {w : World} {bk : Nat} {cs : Array Value} (h : Bk w bk cs) (i : Nat) (v : Value) : Bk (w.setCell ⟨bk, i, none⟩ v) bk (cs.setIfInBounds i v) := ⟨heap_setCell_same w bk i cs _ v h.1, by simpa using h.2⟩
theorem owns_set_other {w : World} {B : Nat} {e : TypeId} {sz n : Nat} {v : Value} {xs : List Value} (h : w.ownsRow B e sz v n xs) {p : Addr} (hp : v.ownBlock ≠ some p.block) (u : Value) : (w.setCell p u).ownsRow B e sz v n xs :=
  (grownIn_set (S := fun k => k = p.block) (GrownIn.refl _ w) rfl u).owns h (fun k hk e => hp (by rw [hk, e]))
end Go.Proofs.YtihidnmpngeohaaGreat
namespace Go.Proofs.YtihidnmpngeohaaGreat
open Go.RowKit Go.Lib

/-- The text of list a and place b. -/
def markP (a b : Int) : ByteArray := strOfNums [97 + a % 26, 97 + a / 26 % 26, 97 + a / 676 % 26, 97 + b % 26, 97 + b / 26 % 26]
set_option maxRecDepth 100000 in
theorem five_text (x0 x1 x2 x3 x4 : Int) (t : TypeId) (w : World) : (convert 175 9 (.slice (some ⟨w.heap.size, 0, none⟩) 5 5)).run Tryz.prog (w.alloc (.cells #[.int .u8 x0, .int .u8 x1, .int .u8 x2, .int .u8 x3, .int .u8 x4] t)) = .ok (.string (strOfNums [x0, x1, x2, x3, x4])) (w.alloc (.cells #[.int .u8 x0, .int .u8 x1, .int .u8 x2, .int .u8 x3, .int .u8 x4] t)) :=
  run_convert_bytes_arg (P := Tryz.prog) _ 175 5 (by kernel_rfl) (by kernel_rfl) w.heap.size 0 5 5 [x0, x1, x2, x3, x4] rfl (by
      intro i hi
      have : i = 0 ∨ i = 1 ∨ i = 2 ∨ i = 3 ∨ i = 4 := by omega
      have hcl := cells_newL w [.int .u8 x0, .int .u8 x1, .int .u8 x2, .int .u8 x3, .int .u8 x4] t i
      rcases this with rfl | rfl | rfl | rfl | rfl <;> exact hcl _ rfl) 9 (by kernel_rfl)
set_option maxHeartbeats 1000000 in
set_option maxRecDepth 100000 in
theorem mark_pos (a b : Nat) (ha : a ≤ 1000000) (hb : b ≤ 1000000) (w : World) : Calls Tryz.prog 109 #[.int .i64 a, .int .i64 b] w fun e w' => e = .returned (.string (markP a b)) ∧ Below w.heap.size w w' := by
  have h0 : ¬ (a : Int) < 0 := by omega
  have hc := five_text (97 + (a : Int) % 26) (97 + (a : Int) / 26 % 26) (97 + (a : Int) / 676 % 26) (97 + (b : Int) % 26) (97 + (b : Int) / 26 % 26) 5 w
  go_enter Tryz.func109, Tryz.ntmps109
  go_wp2
  go_ret
  exact ⟨rfl, (Below.refl _ _).alloc (Nat.le_refl _) _⟩

/-- The text of list a and place b, below zero too. -/
def markB (a : Int) (b : Nat) : ByteArray := if a < 0 then ⟨#[45]⟩ ++ markP (-(a + 1)) b else markP a b
set_option maxHeartbeats 1000000 in
set_option maxRecDepth 100000 in
theorem mark_any (a : Int) (b : Nat) (ha : -1000000 ≤ a) (ha' : a ≤ 1000000) (hb : b ≤ 1000000) (w : World) : Calls Tryz.prog 109 #[.int .i64 a, .int .i64 b] w fun e w' => e = .returned (.string (markB a b)) ∧ Below w.heap.size w w' := by
  by_cases h0 : a < 0
  · obtain ⟨k, hk⟩ : ∃ k : Nat, (k : Int) = -(a + 1) := ⟨(-(a + 1)).toNat, by omega⟩
    have hm : markB a b = ⟨#[45]⟩ ++ markP k b := by unfold markB; rw [if_pos h0, hk]
    have HM := Lib.hid hm
    clear hm
    obtain ⟨y, rfl⟩ : ∃ y : Int, y = a := ⟨_, rfl⟩
    go_enter Tryz.func109, Tryz.ntmps109
    go_wp2_with (go_at_call 109; rw [← hk]; refine (mark_pos k b (by omega) hb _).mono ?_; rintro e w' ⟨rfl, hbw⟩)
    have hbw' := Lib.hid hbw
    clear hbw
    go_wp2
    go_ret
    all_goals exact ⟨by rw [HM.out, hk]; rfl, hbw'.out⟩
  · obtain ⟨k, rfl⟩ : ∃ k : Nat, a = k := ⟨a.toNat, by omega⟩
    have hm : markB (k : Int) b = markP k b := if_neg h0
    rw [hm]
    exact mark_pos k b (by omega) hb w
end Go.Proofs.YtihidnmpngeohaaGreat
