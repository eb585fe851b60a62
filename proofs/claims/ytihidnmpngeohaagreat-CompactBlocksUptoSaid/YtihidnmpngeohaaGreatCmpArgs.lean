/- CompactBlocks' arguments, lists of lists, read with their bulk. -/
import Derived.Test.YtihidnmpngeohaaGreatRows
import Derived.Test.YtihidnmpngeohaaGreatG50
import Derived.Test.YtihidnmpngeohaaGreatG38
import Derived.Test.YtihidnmpngeohaaGreatG45
namespace Go.Proofs.YtihidnmpngeohaaGreat
open Go.RowKit Go.Lib Go.ChangeShapes Go.WideShapes

section
variable {H : Type} {en : TypeId × Value → H} {P : Program} {w : World} {base : Nat} {spare : Nat → Bool} {held : Bool}
theorem bulk_one (d : DataW H) : 1 ≤ Rows.uptoBulk d := by
  cases d with
  | lit l => cases l <;> simp [Rows.uptoBulk]
  | nil => simp [Rows.uptoBulk]
  | ptr d => simp [Rows.uptoBulk]
  | slice elems spare => simp [Rows.uptoBulk]
  | agg parts => simp [Rows.uptoBulk]
  | iface t d => simp [Rows.uptoBulk]
  | map entries => simp [Rows.uptoBulk]
  | held h => simp [Rows.uptoBulk]
theorem bulk_part {d : DataW H} {l : List (DataW H)} (h : d ∈ l) : Rows.uptoBulk d ≤ Rows.uptoBulkAll l := by
  induction l with
  | nil => cases h
  | cons x r ih =>
    simp only [Rows.uptoBulkAll]
    rcases List.mem_cons.1 h with e | e
    · subst e; omega
    · have := ih e; omega
theorem bulk_len (l : List (DataW H)) : l.length ≤ Rows.uptoBulkAll l := by
  induction l with
  | nil => simp [Rows.uptoBulkAll]
  | cons x r ih => have := bulk_one x; simp only [Rows.uptoBulkAll, List.length_cons]; omega
theorem bulk_elems (elems rest : List (DataW H)) : Rows.uptoBulkAll elems + 1 ≤ Rows.uptoBulk (.slice elems rest) := by
  simp only [Rows.uptoBulk]; omega
/-- A slice that came in is a list, its data in the same order. -/
theorem arg_listI {α : Type} {enc : α → List Value} {size : Nat} {Q : α → DataW H → Prop} {t e : TypeId} {fuel : Nat} {A : Option Addr} {n c : Nat} {x : DataW H × List MemPlace} (ht : P.underlying t = some (.slice e)) (hC : P.cellsOf e = size) (hs : 0 < size)
    (hdec : ∀ (k : Nat) (cs : List Value) (y : DataW H × List MemPlace), cs.length = size → DataW.trod en P w base spare held k e cs = some y → ∃ a : α, cs = enc a ∧ Q a y.1) (h : DataW.trod en P w base spare held fuel t [.slice A n c] = some x) :
    ∃ (l : List α) (elems rest : List (DataW H)), Lst enc size w w.heap.size A n l ∧ elems.length = l.length ∧ (∀ (i : Nat) a d, l[i]? = some a → elems[i]? = some d → Q a d) ∧ (A = none → n = 0 ∧ c = 0) ∧ (l = [] ∨ x.1 = .slice elems rest) := by
  rcases Go.Deep.open_slice ht h with ⟨hcs, _⟩ | ⟨a, len, cap, m, k, D, Pl, hcs, hb, hl, hm, hmm, hx, hi⟩
  · obtain ⟨rfl, rfl, rfl⟩ : A = none ∧ n = 0 ∧ c = 0 := by simpa using hcs
    exact ⟨[], [], [], ⟨rfl, fun h => absurd h (by omega)⟩, rfl, by simp, fun _ => ⟨rfl, rfl⟩, .inl rfl⟩
  · obtain ⟨rfl, rfl, rfl⟩ : A = some a ∧ n = len ∧ c = cap := by simpa using hcs
    have hnm : n ≤ m := by rw [hmm]; split <;> omega
    rw [hC] at hi
    have hone : ∀ i, i < n → ∃ y : α, Q y (D i) ∧ ∀ j u, (enc y)[j]? = some u → w.cell? (a.add (i * size + j)) = some u := by
      intro i hin
      obtain ⟨cs', hc, ht'⟩ := hi i (by omega)
      obtain ⟨_, hcl, hat⟩ := World.cells?_some hc
      obtain ⟨y, rfl, hq⟩ := hdec k cs' _ hcl ht'
      refine ⟨y, hq, fun j u hu => ?_⟩
      have hj := (List.getElem?_eq_some_iff.1 hu).1
      rw [hcl] at hj
      rw [← Go.Deep.add_add, hat j hj, hu]
    have hlist : ∀ q, q ≤ n → ∃ l : List α, l.length = q ∧ (∀ (i : Nat) y, l[i]? = some y → Q y (D i)) ∧ ∀ i y, l[i]? = some y → ∀ j u, (enc y)[j]? = some u → w.cell? (a.add (i * size + j)) = some u := by
      intro q
      induction q with
      | zero => intro _; exact ⟨[], rfl, by simp, fun i y h => by simp at h⟩
      | succ q ih =>
        intro hq
        obtain ⟨l, h1, h2, h3⟩ := ih (by omega)
        obtain ⟨y, hy1, hy2⟩ := hone q (by omega)
        refine ⟨l ++ [y], by simp [h1], fun i z hz => ?_, fun i z hz => ?_⟩
        · by_cases hiq : i < q
          · rw [List.getElem?_append_left (by omega)] at hz
            exact h2 i z hz
          · have hi2 := (List.getElem?_eq_some_iff.1 hz).1
            rw [List.length_append, h1, List.length_singleton] at hi2
            obtain rfl : i = q := by omega
            rw [List.getElem?_append_right (by omega), h1, Nat.sub_self] at hz
            obtain rfl : y = z := by simpa using hz
            exact hy1
        · by_cases hiq : i < q
          · rw [List.getElem?_append_left (by omega)] at hz
            exact h3 i z hz
          · have hi2 := (List.getElem?_eq_some_iff.1 hz).1
            rw [List.length_append, h1, List.length_singleton] at hi2
            obtain rfl : i = q := by omega
            rw [List.getElem?_append_right (by omega), h1, Nat.sub_self] at hz
            obtain rfl : y = z := by simpa using hz
            exact hy2
    obtain ⟨l, h1, h2, h3⟩ := hlist n (Nat.le_refl _)
    refine ⟨l, (List.range n).map D, (List.range (m - n)).map fun j => D (n + j), ⟨h1, fun h0 => ?_⟩, by rw [List.length_map, List.length_range, h1], fun i y d hy hd => ?_, fun h => by simp at h, .inr (by rw [hx])⟩
    · obtain ⟨cs', hc, ht'⟩ := hi 0 (by omega)
      obtain ⟨_, hcl, hat⟩ := World.cells?_some hc
      have hc0 : w.cell? a = some (cs'[0]'(by omega)) := by
        have := hat 0 hs
        rw [Nat.zero_mul] at this
        rw [show a = (a.add 0).add 0 by simp [Addr.add], this]
        exact List.getElem?_eq_getElem _
      have hsp := World.cell?_spot hc0
      obtain ⟨b, off, spot⟩ := a
      subst hsp
      refine ⟨b, off, rfl, World.block_lt_of_cell? w _ hc0, fun i y hy j u hu => ?_⟩
      have := h3 i y hy j u hu
      rw [show (⟨b, off, none⟩ : Addr).add (i * size + j) = ⟨b, off + i * size + j, none⟩ by
        simp only [Addr.add]
        split
        · simp; try omega
        · simp; try omega] at this
      exact this
    · have hq := h2 i y hy
      have hin := (List.getElem?_eq_some_iff.1 hy).1
      rw [List.getElem?_map, List.getElem?_range (by omega)] at hd
      obtain rfl := Option.some.inj hd
      exact hq
theorem lab_bulk : ∀ l : List Lb, labW l + l.length ≤ Rows.uptoBulkAll (l.map (labD (H := H)))
  | [] => by simp [labW]
  | x :: l => by
    have h := lab_bulk l
    have e : Rows.uptoBulk (labD (H := H) x) = x.nm.size + x.vl.size + 3 := by
      unfold labD
      simp only [Rows.uptoBulk, Rows.uptoBulkAll]
      have e1 : x.nm.data.toList.length = x.nm.size := by rw [Array.length_toList]; rfl
      have e2 : x.vl.data.toList.length = x.vl.size := by rw [Array.length_toList]; rfl
      omega
    simp only [List.map_cons, Rows.uptoBulkAll, labW, List.length_cons]
    omega
theorem map_of {α β : Type} {f : α → β} {l : List α} {es : List β} (hl : es.length = l.length) (h : ∀ (i : Nat) a d, l[i]? = some a → es[i]? = some d → d = f a) : es = l.map f := by
  apply List.ext_getElem?
  intro i
  rw [List.getElem?_map]
  cases ha : l[i]? with
  | none =>
    have := List.getElem?_eq_none_iff.1 ha
    rw [List.getElem?_eq_none (by omega)]; rfl
  | some a =>
    obtain ⟨hi, _⟩ := List.getElem?_eq_some_iff.1 ha
    have hd : es[i]? = some (es[i]'(by omega)) := List.getElem?_eq_getElem _
    rw [hd, h i a _ ha hd]; rfl
/-- Labels that came in, with their bulk. -/
theorem labs_bulk {l : List Lb} {d : DataW H} {elems rest : List (DataW H)} (hl : elems.length = l.length) (h : ∀ (i : Nat) a e, l[i]? = some a → elems[i]? = some e → e = labD a) (hd : l = [] ∨ d = .slice elems rest) : labW l + l.length ≤ Rows.uptoBulk d := by
  rcases hd with hd | hd
  · rw [hd]; simp [labW]
  · have h1 := lab_bulk (H := H) l
    have h2 := bulk_elems elems rest
    rw [hd]
    rw [map_of hl h] at h2 ⊢
    omega
structure BArgN (w : World) (N : Nat) (y : Sv) : Prop where
  lst : Lst Lb.cells 2 w w.heap.size y.A y.n y.l
  nil : y.A = none → y.n = 0 ∧ y.c = 0
  lab : labW y.l + y.l.length ≤ N
  sst : Lst encS 2 w w.heap.size y.D y.m y.s
  snil : y.D = none → y.m = 0 ∧ y.d = 0
  sam : y.m ≤ N
theorem BArgN.le {N M : Nat} {y : Sv} (h : BArgN w N y) (hN : N ≤ M) : BArgN w M y := ⟨h.lst, h.nil, Nat.le_trans h.lab hN, h.sst, h.snil, Nat.le_trans h.sam hN⟩
theorem BArgN.big {N : Nat} {y : Sv} (h : BArgN w N y) (hN : N ≤ 1048576) : BArg w y := by
  have h1 := h.lst.1
  have h2 := h.lab
  have h3 := h.sam
  have h4 := keyL_len y.l
  exact ⟨h.lst, h.nil, by omega, h.sst, h.snil, by omega, by omega⟩
structure TArgN (w : World) (N : Nat) (y : Tv) : Prop where
  lst : Lst Lb.cells 2 w w.heap.size y.A y.n y.l
  nil : y.A = none → y.n = 0 ∧ y.c = 0
  few : y.n ≤ N
  fits : Fits y.g
theorem TArgN.le {N M : Nat} {y : Tv} (h : TArgN w N y) (hN : N ≤ M) : TArgN w M y := ⟨h.lst, h.nil, Nat.le_trans h.few hN, h.fits⟩
theorem TArgN.big {N : Nat} {y : Tv} (h : TArgN w N y) (hN : N ≤ 1048576) : TArg w y := ⟨h.lst, h.nil, by have := h.few; omega, h.fits⟩
set_option maxRecDepth 100000 in
theorem dec_serB (k : Nat) (cs : List Value) (y : DataW H × List MemPlace) (hl : cs.length = 2) (h : DataW.trod en Tryz.prog w base spare held k 132 cs = some y) : ∃ z : Sv, cs = encSv z ∧ BArgN w (Rows.uptoBulk y.1) z := by
  obtain ⟨xs, n, _, hy, _, hxl, hf⟩ := DataW.trod_struct Tryz.underlying132 h
  have hxl' : xs.length = 2 := hxl
  match cs, hl, xs, hxl' with
  | [c0, c1], _, [y0, y1], _ =>
    have f0 := hf 0 _ rfl
    have f1 := hf 1 _ rfl
    have g0 : DataW.trod en Tryz.prog w base spare held n 23 [c0] = some y0 := f0
    have g1 : DataW.trod en Tryz.prog w base spare held n 90 [c1] = some y1 := f1
    subst hy
    obtain ⟨A, ln, cp, rfl⟩ : ∃ A ln cp, c0 = .slice A ln cp := by
      rcases Go.Deep.open_slice Tryz.underlying23 g0 with ⟨hcs, _⟩ | ⟨a, len, cap, m', k', D, Pl, hcs, _, _, _, _, hx, _⟩
      · exact ⟨none, 0, 0, by simpa using hcs⟩
      · exact ⟨some a, len, cap, by simpa using hcs⟩
    obtain ⟨A', ln', cp', rfl⟩ : ∃ A ln cp, c1 = .slice A ln cp := by
      rcases Go.Deep.open_slice Tryz.underlying90 g1 with ⟨hcs, _⟩ | ⟨a, len, cap, m', k', D, Pl, hcs, _, _, _, _, hx, _⟩
      · exact ⟨none, 0, 0, by simpa using hcs⟩
      · exact ⟨some a, len, cap, by simpa using hcs⟩
    obtain ⟨l, elems, rest, h1, h2, h3, h4, h5⟩ := arg_listI (enc := Lb.cells) (size := 2) (Q := fun x d => d = labD x) Tryz.underlying23 (by kernel_rfl) (by omega) dec_labelD g0
    obtain ⟨s, elems2, rest2, k1, k2, k3, k4, k5⟩ := arg_listI (enc := encS) (size := 2) (Q := fun _ _ => True) Tryz.underlying90 (by kernel_rfl) (by omega) (fun k cs y hl h => by
      obtain ⟨m, hm, _⟩ := dec_samS k cs y hl h
      exact ⟨m, hm, trivial⟩) g1
    have hb : Rows.uptoBulk (DataW.agg [y0.1, y1.1]) = Rows.uptoBulk y0.1 + (Rows.uptoBulk y1.1 + 0) + 1 := by simp only [Rows.uptoBulk, Rows.uptoBulkAll]
    have hlb := labs_bulk h2 h3 h5
    have hsb : ln' ≤ Rows.uptoBulk y1.1 := by
      have := k1.1
      rcases k5 with k5 | k5
      · rw [k5] at this
        have e : ln' = 0 := this.symm
        omega
      · rw [k5]
        have q1 := bulk_elems elems2 rest2
        have q2 := bulk_len elems2
        omega
    refine ⟨⟨A, ln, cp, l, A', ln', cp', s⟩, rfl, ?_⟩
    show BArgN w (Rows.uptoBulk (DataW.agg [y0.1, y1.1])) _
    exact ⟨h1, h4, by rw [hb]; show labW l + l.length ≤ _; omega, k1, k4, by rw [hb]; show ln' ≤ _; omega⟩
set_option maxRecDepth 100000 in
theorem dec_tombB (k : Nat) (cs : List Value) (y : DataW H × List MemPlace) (hl : cs.length = 3) (h : DataW.trod en Tryz.prog w base spare held k 27 cs = some y) : ∃ z : Tv, cs = encTb z ∧ TArgN w (Rows.uptoBulk y.1) z := by
  obtain ⟨xs, n, _, hy, _, hxl, hf⟩ := DataW.trod_struct Tryz.underlying27 h
  have hxl' : xs.length = 2 := hxl
  match cs, hl, xs, hxl' with
  | [c0, c1, c2], _, [y0, y1], _ =>
    have f0 := hf 0 _ rfl
    have f1 := hf 1 _ rfl
    have g0 : DataW.trod en Tryz.prog w base spare held n 23 [c0] = some y0 := f0
    have g1 : DataW.trod en Tryz.prog w base spare held n 25 [c1, c2] = some y1 := f1
    obtain ⟨m, hm, hmf⟩ := dec_ivT n [c1, c2] y1 rfl g1
    obtain ⟨rfl, rfl⟩ : c1 = .int .i64 m.1 ∧ c2 = .int .i64 m.2 := by simpa [encI] using hm
    subst hy
    obtain ⟨A, ln, cp, rfl⟩ : ∃ A ln cp, c0 = .slice A ln cp := by
      rcases Go.Deep.open_slice Tryz.underlying23 g0 with ⟨hcs, _⟩ | ⟨a, len, cap, m', k', D, Pl, hcs, _, _, _, _, hx, _⟩
      · exact ⟨none, 0, 0, by simpa using hcs⟩
      · exact ⟨some a, len, cap, by simpa using hcs⟩
    obtain ⟨l, elems, rest, h1, h2, h3, h4, h5⟩ := arg_listI (enc := Lb.cells) (size := 2) (Q := fun x d => d = labD x) Tryz.underlying23 (by kernel_rfl) (by omega) dec_labelD g0
    have hb : Rows.uptoBulk (DataW.agg [y0.1, y1.1]) = Rows.uptoBulk y0.1 + (Rows.uptoBulk y1.1 + 0) + 1 := by simp only [Rows.uptoBulk, Rows.uptoBulkAll]
    have hlb := labs_bulk h2 h3 h5
    have hll := h1.1
    refine ⟨⟨A, ln, cp, l, m⟩, rfl, ?_⟩
    show TArgN w (Rows.uptoBulk (DataW.agg [y0.1, y1.1])) _
    exact ⟨h1, h4, by rw [hb]; show ln ≤ _; omega, hmf⟩
/-- A list within a list of lists. -/
structure In4 {α : Type} (w : World) (enc : α → List Value) (size : Nat) (R : Nat → α → Prop) (y : Option Addr × Nat × Nat × List α) (d : DataW H) : Prop where
  lst : Lst enc size w w.heap.size y.1 y.2.1 y.2.2.2
  all : ∀ a ∈ y.2.2.2, R (Rows.uptoBulk d) a
  few : y.2.2.2.length ≤ Rows.uptoBulk d
theorem dec_in4 {α : Type} {enc : α → List Value} {size : Nat} {R : Nat → α → Prop} (hR : ∀ N M a, N ≤ M → R N a → R M a) {e q : TypeId} (hu : P.underlying e = some (.slice q)) (hC : P.cellsOf q = size) (hs : 0 < size)
    (hdec : ∀ (k : Nat) (cs : List Value) (y : DataW H × List MemPlace), cs.length = size → DataW.trod en P w base spare held k q cs = some y → ∃ a : α, cs = enc a ∧ R (Rows.uptoBulk y.1) a)
    (k : Nat) (cs : List Value) (y : DataW H × List MemPlace) (_hl : cs.length = 1) (h : DataW.trod en P w base spare held k e cs = some y) : ∃ z : Option Addr × Nat × Nat × List α, cs = [Value.slice z.1 z.2.1 z.2.2.1] ∧ In4 w enc size R z y.1 := by
  obtain ⟨A, ln, cp, rfl⟩ : ∃ A ln cp, cs = [.slice A ln cp] := by
    rcases Go.Deep.open_slice hu h with ⟨hcs, _⟩ | ⟨a, len, cap, m', k', D, Pl, hcs, _, _, _, _, hx, _⟩
    · exact ⟨none, 0, 0, hcs⟩
    · exact ⟨some a, len, cap, hcs⟩
  obtain ⟨l, elems, rest, h1, h2, h3, h4, h5⟩ := arg_listI (Q := fun a d => R (Rows.uptoBulk d) a) hu hC hs hdec h
  refine ⟨(A, ln, cp, l), rfl, h1, fun a ha => ?_, ?_⟩
  · rcases h5 with h5 | h5
    · rw [show ((A, ln, cp, l) : Option Addr × Nat × Nat × List α).2.2.2 = l from rfl, h5] at ha; cases ha
    · obtain ⟨i, hi, e⟩ := List.getElem_of_mem ha
      have e1 : l[i]? = some a := by rw [← e]; exact List.getElem?_eq_getElem hi
      have e2 : elems[i]? = some (elems[i]'(by have : l.length = ((A, ln, cp, l) : Option Addr × Nat × Nat × List α).2.2.2.length := rfl; omega)) := List.getElem?_eq_getElem _
      refine hR _ _ a ?_ (h3 i a _ e1 e2)
      rw [h5]
      have q1 := bulk_elems elems rest
      have q2 := bulk_part (List.mem_of_getElem? e2)
      omega
  · show l.length ≤ _
    rcases h5 with h5 | h5
    · rw [h5]; exact Nat.zero_le _
    · rw [h5]
      have q1 := bulk_elems elems rest
      have q2 := bulk_len elems
      omega
theorem flat_bulk {α β : Type} {f : β → List α} : ∀ {l : List β} {es : List (DataW H)}, es.length = l.length → (∀ (i : Nat) a d, l[i]? = some a → es[i]? = some d → (f a).length ≤ Rows.uptoBulk d) → (l.map f).flatten.length ≤ Rows.uptoBulkAll es
  | [], _, _, _ => by simp
  | a :: l, [], h, _ => by simp at h
  | a :: l, d :: es, h, hq => by
    have h1 := flat_bulk (f := f) (l := l) (es := es) (by simpa using h) (fun i a' d' h1 h2 => hq (i + 1) a' d' h1 h2)
    have h0 := hq 0 a d rfl rfl
    simp only [List.map_cons, List.flatten_cons, List.length_append, Rows.uptoBulkAll]
    omega
/-- A list of lists that came in. -/
theorem arg_lists {α : Type} {enc : α → List Value} {size : Nat} {R : Nat → α → Prop} (hR : ∀ N M a, N ≤ M → R N a → R M a) {t e q : TypeId} {fuel : Nat} {A : Option Addr} {n c : Nat} {x : DataW H × List MemPlace} (ht : P.underlying t = some (.slice e)) (hCe : P.cellsOf e = 1) (hu : P.underlying e = some (.slice q)) (hC : P.cellsOf q = size) (hs : 0 < size)
    (hdec : ∀ (k : Nat) (cs : List Value) (y : DataW H × List MemPlace), cs.length = size → DataW.trod en P w base spare held k q cs = some y → ∃ a : α, cs = enc a ∧ R (Rows.uptoBulk y.1) a) (h : DataW.trod en P w base spare held fuel t [.slice A n c] = some x) :
    ∃ ls : List (List α), (ls.length = n ∧ (0 < n → ∃ b off, A = some ⟨b, off, none⟩ ∧ b < w.heap.size ∧ ∀ (k : Nat) xs, ls[k]? = some xs → ∃ A' c', w.cell? ⟨b, off + k, none⟩ = some (.slice A' xs.length c') ∧ Lst enc size w w.heap.size A' xs.length xs)) ∧
      (∀ a ∈ ls.flatten, R (Rows.uptoBulk x.1) a) ∧ n ≤ Rows.uptoBulk x.1 ∧ ls.flatten.length ≤ Rows.uptoBulk x.1 := by
  obtain ⟨l, elems, rest, h1, h2, h3, h4, h5⟩ := arg_listI (enc := fun z : Option Addr × Nat × Nat × List α => [Value.slice z.1 z.2.1 z.2.2.1]) (size := 1) (Q := In4 w enc size R) ht hCe (by omega) (dec_in4 hR hu hC hs hdec) h
  have hb : l = [] ∨ Rows.uptoBulkAll elems + 1 ≤ Rows.uptoBulk x.1 := h5.imp id fun e => by rw [e]; exact bulk_elems _ _
  have hln := h1.1
  have hat : ∀ (i : Nat) y, l[i]? = some y → ∃ d, elems[i]? = some d ∧ In4 w enc size R y d := fun i y hy => by
    obtain ⟨hi, _⟩ := List.getElem?_eq_some_iff.1 hy
    have hd : elems[i]? = some (elems[i]'(by omega)) := List.getElem?_eq_getElem _
    exact ⟨_, hd, h3 i y _ hy hd⟩
  refine ⟨l.map (·.2.2.2), ⟨by rw [List.length_map]; exact hln, fun h0 => ?_⟩, fun a ha => ?_, ?_, ?_⟩
  · obtain ⟨b, off, e, hlt, hc⟩ := h1.2 h0
    refine ⟨b, off, e, hlt, fun k xs hxs => ?_⟩
    rw [List.getElem?_map] at hxs
    obtain ⟨y, hy, rfl⟩ := Option.map_eq_some_iff.1 hxs
    obtain ⟨d, _, hin⟩ := hat k y hy
    have e1 := hc k y hy 0 _ rfl
    have e2 := hin.lst.1
    rw [Nat.mul_one, Nat.add_zero] at e1
    refine ⟨y.1, y.2.2.1, by rw [e2]; exact e1, by rw [e2]; exact hin.lst⟩
  · obtain ⟨xs, hxs, ha⟩ := List.mem_flatten.1 ha
    obtain ⟨y, hy, rfl⟩ := List.mem_map.1 hxs
    obtain ⟨i, hi, e⟩ := List.getElem_of_mem hy
    have e1 : l[i]? = some y := by rw [← e]; exact List.getElem?_eq_getElem hi
    obtain ⟨d, hd, hin⟩ := hat i y e1
    refine hR _ _ a ?_ (hin.all a ha)
    have q2 := bulk_part (List.mem_of_getElem? hd)
    rcases hb with hb | hb
    · rw [hb] at hi; simp at hi
    · omega
  · rcases hb with hb | hb
    · rw [hb] at hln
      have e : n = 0 := hln.symm
      omega
    · have := bulk_len elems; omega
  · have h6 := flat_bulk (f := fun y : Option Addr × Nat × Nat × List α => y.2.2.2) h2 (fun i a d q1 q2 => (h3 i a d q1 q2).few)
    rcases hb with hb | hb
    · rw [hb]; exact Nat.zero_le _
    · omega
theorem blkArg_of {fuel fuel' : Nat} {A A' : Option Addr} {n c n' c' : Nat} {x x' : DataW H × List MemPlace} (h : DataW.trod en Tryz.prog w base spare held fuel 56 [.slice A n c] = some x) (h' : DataW.trod en Tryz.prog w base spare held fuel' 59 [.slice A' n' c'] = some x')
    (hk : Rows.uptoBulkAll [x.1, x'.1] ≤ 1048576) : ∃ (ls : List (List Sv)) (ts : List (List Tv)), BlkArg w A A' n n' ls ts := by
  simp only [Rows.uptoBulkAll] at hk
  obtain ⟨ls, a1, a2, a3, a4⟩ := arg_lists (enc := encSv) (size := 2) (R := fun N y => BArgN w N y) (fun N M a hN h => h.le hN) Tryz.underlying56 (by kernel_rfl) Tryz.underlying70 (by kernel_rfl) (by omega) dec_serB h
  obtain ⟨ts, b1, b2, b3, b4⟩ := arg_lists (enc := encTb) (size := 3) (R := fun N y => TArgN w N y) (fun N M a hN h => h.le hN) Tryz.underlying59 (by kernel_rfl) Tryz.underlying22 (by kernel_rfl) (by omega) dec_tombB h'
  exact ⟨ls, ts, a1, b1, fun y hy => (a2 y hy).big (by omega), fun y hy => (b2 y hy).big (by omega), ⟨by omega, by omega⟩, ⟨by omega, by omega⟩⟩
end
end Go.Proofs.YtihidnmpngeohaaGreat
