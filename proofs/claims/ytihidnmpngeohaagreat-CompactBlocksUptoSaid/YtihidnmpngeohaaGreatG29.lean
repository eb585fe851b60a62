/- The two maps of merge.Series: what stands under each set of labels. slices.SortFunc of series by their labels. -/
import Derived.Test.YtihidnmpngeohaaGreatG20
import Derived.Test.YtihidnmpngeohaaGreatG25
import Derived.Test.YtihidnmpngeohaaGreatG28
import Derived.Maps.RangeWalk
import Derived.Maps.OwnOps
import Derived.StringKeys
import Derived.Test.YtihidnmpngeohaaGreatG18
import Derived.Test.YtihidnmpngeohaaGreatG04
namespace Go.Proofs.YtihidnmpngeohaaGreat
open Go.RowKit Go.Lib
open Go.Maps (Keyed)

def kLit (L : List Lb) : Lit := .string (keyL L)
/-- What stands under a key is the value itself. -/
def RV (v : Value) : Option (DataW Value × List MemPlace) := some (.held v, [])
theorem Tryz.keyedStr : Keyed Tryz.prog 9 := Maps.string_keyed Tryz.underlying9
theorem keyS_list (L : List Lb) : (keyS L).data.toList = keyL L := by simp [keyS]
theorem key_of (L : List Lb) (h : (keyL L).length ≤ maxLen) : keyOf Tryz.prog 9 (.string (keyS L)) = some (kLit L) := by
  have := Go.WideMaps.keyOf_string_mk (P := Tryz.prog) (k := 9) Tryz.underlying9 (s := keyS L) (by rw [← ByteArray.size_data]; simp [keyS]; exact h)
  rw [keyS_list] at this
  exact this
theorem kLit_inj {L M : List Lb} (h : kLit L = kLit M) : L = M := by
  unfold kLit at h
  injection h with h
  exact keyL_inj h
theorem kLit_key (L : List Lb) : WideAt.IsKeyLit (kLit L) := by unfold kLit; trivial
theorem key_back {x : ByteArray} {L : List Lb} (h : keyOf Tryz.prog 9 (.string x) = some (kLit L)) : x = keyS L := by
  rw [keyOf_string Tryz.underlying9] at h
  simp only [mapKey, Tryz.underlying9] at h
  split at h
  · unfold kLit at h
    injection h with h
    injection h with h
    exact bytes_ext (h.trans (keyS_list L).symm)
  · cases h
section
variable {w w' w0 : World} {B b bL bN n : Nat} {D DL DN : DataW Value} {V : List Lb → Value} {done : List Sv}
theorem ownsMap_below {R : Value → Option (DataW Value × List MemPlace)} {k : TypeId} (h : w.ownsMap Tryz.prog k R b n D) (hb : Below w.heap.size w w') : w'.ownsMap Tryz.prog k R b n D :=
  h.kept (row := none) ⟨hb.os, hb.tape, hb.output, hb.size, fun j hj _ => hb.block j hj⟩ (by simp)
theorem map_off {R : Value → Option (DataW Value × List MemPlace)} {k e : TypeId} {s m : Nat} {v : Value} {xs : List Value} (h : w.ownsMap Tryz.prog k R b n D) (hr : w.ownsRow B e s v m xs) : some b ≠ v.ownBlock := fun e' => by
  obtain ⟨es, clock, hb, _⟩ := h
  obtain ⟨cs, fz, h1⟩ := owns_typed hr e'.symm
  rw [hb] at h1
  injection h1 with h1
  cases h1
/-- The series of some labels. -/
def grp (L : List Lb) (done : List Sv) : List Sv := done.filter fun y => decide (labelsC y.l L = 0)
theorem grp_gath (L : List Lb) (done : List Sv) : ((grp L done).map (·.s)).flatten = gath labelsC (done.map Sv.sr) L := by
  unfold grp gath
  rw [List.filter_map, List.flatMap_map]
  rw [← List.flatMap_def]
  rfl
theorem grp_snoc (L : List Lb) (done : List Sv) (y : Sv) : grp L (done ++ [y]) = grp L done ++ (if labelsC y.l L = 0 then [y] else []) := by
  unfold grp
  rw [List.filter_append]
  by_cases h : labelsC y.l L = 0 <;> simp [h]
theorem grp_mem {L : List Lb} {y : Sv} (h : y ∈ grp L done) : y ∈ done := (List.mem_filter.1 h).1
structure Groups (w : World) (B bL bN n : Nat) (DL DN : DataW Value) (V : List Lb → Value) (done : List Sv) : Prop where
  lists : w.ownsMap Tryz.prog 9 RV bL n DL
  names : w.ownsMap Tryz.prog 9 RV bN n DN
  ne : bL ≠ bN
  lo : B ≤ bL ∧ B ≤ bN
  hasL : ∀ kl, Maps.has DL kl = true ↔ ∃ y ∈ done, kl = kLit y.l
  atL : ∀ L, DL.atKey (kLit L) (.held (.slice none 0 0)) = .held (V L)
  rows : ∀ L, w.ownsRow B 90 1 (V L) (grp L done).length ((grp L done).map valD)
  apart : ∀ L L' g, L ≠ L' → (V L).ownBlock = some g → (V L').ownBlock ≠ some g
  atN : ∀ y ∈ done, ∃ z ∈ done, z.l = y.l ∧ DN.atKey (kLit y.l) (.held (.slice none 0 0)) = .held (valL z)
theorem Groups.below (h : Groups w B bL bN n DL DN V done) (hb : Below w.heap.size w w') : Groups w' B bL bN n DL DN V done :=
  ⟨ownsMap_below h.lists hb, ownsMap_below h.names hb, h.ne, h.lo, h.hasL, h.atL, fun L => owns_below (h.rows L) hb, h.apart, h.atN⟩
theorem Groups.start {bL bN : Nat} (hL : w.ownsMap Tryz.prog 9 RV bL 0 (.map [])) (hN : w.ownsMap Tryz.prog 9 RV bN 0 (.map [])) (hne : bL ≠ bN) (hlo : B ≤ bL ∧ B ≤ bN) : Groups w B bL bN 0 (.map []) (.map []) (fun _ => .slice none 0 0) [] :=
  ⟨hL, hN, hne, hlo, fun kl => by simp [Maps.has], fun L => rfl, fun L => World.ownsRow_nil _ _ _ _, fun L L' g _ h => by simp [Value.ownBlock] at h, by simp⟩
theorem isMap_owns {k : TypeId} {R : Value → Option (DataW Value × List MemPlace)} (h : w.ownsMap Tryz.prog k R b n D) : Maps.IsMap D := by
  obtain ⟨es, clock, _, _, _, rfl⟩ := h
  exact ⟨_, rfl⟩
/-- One series more. -/
theorem Groups.step {wa w1 w2 w3 : World} {y : Sv} {g cap : Nat} (h : Groups wa B bL bN n DL DN V done)
    (hown : w1.ownsRow B 90 1 (.slice (some ⟨g, 0, none⟩) ((grp y.l done).length + 1) cap) ((grp y.l done).length + 1) ((grp y.l done).map valD ++ [valD y])) (hg : wa.grownBy w1 (V y.l).ownBlock) (hlies : (V y.l).ownBlock = some g ∨ g = wa.heap.size)
    (hm2 : w2.ownsMap Tryz.prog 9 RV bL (n + 1) (DL.put (kLit y.l) (.held (.slice (some ⟨g, 0, none⟩) ((grp y.l done).length + 1) cap)))) (hg2 : w1.grownBy w2 (some bL))
    (hm3 : w3.ownsMap Tryz.prog 9 RV bN (n + 1) (DN.put (kLit y.l) (.held (valL y)))) (hg3 : w2.grownBy w3 (some bN)) :
    Groups w3 B bL bN (n + 1) (DL.put (kLit y.l) (.held (.slice (some ⟨g, 0, none⟩) ((grp y.l done).length + 1) cap))) (DN.put (kLit y.l) (.held (valL y)))
      (fun L => if labelsC y.l L = 0 then .slice (some ⟨g, 0, none⟩) ((grp y.l done).length + 1) cap else V L) (done ++ [y]) := by
  have hz : ∀ L, labelsC y.l L = 0 ↔ y.l = L := fun L => labelsC_cmp3.zero _ _
  have hL1 : w1.ownsMap Tryz.prog 9 RV bL n DL := h.lists.kept hg (map_off h.lists (h.rows y.l))
  have hmt : ∀ {e : TypeId} {s m : Nat} {v : Value} {xs : List Value}, w1.ownsRow B e s v m xs → w3.ownsRow B e s v m xs := fun hr => by
    have h2 := hr.kept hg2 (by
      cases hv : Value.ownBlock _ with
      | none => exact .inl rfl
      | some b => exact .inr fun e => map_off hL1 hr (hv.trans e).symm)
    refine h2.kept hg3 ?_
    have hN2 : w2.ownsMap Tryz.prog 9 RV bN n DN := (h.names.kept hg (map_off h.names (h.rows y.l))).kept hg2 (fun e => h.ne (by injection e with e; exact e.symm))
    cases hv : Value.ownBlock _ with
    | none => exact .inl rfl
    | some b => exact .inr fun e => map_off hN2 h2 (hv.trans e).symm
  refine ⟨hm2.kept hg3 (fun e => h.ne (by injection e)), hm3, h.ne, h.lo, fun kl => ?_, fun L => ?_, fun L => ?_, fun L L' q hne h1 h2 => ?_, fun y' hy' => ?_⟩
  · by_cases hk : kl = kLit y.l
    · subst hk
      rw [Maps.has_put_same (isMap_owns h.lists) (kLit_key _)]
      exact ⟨fun _ => ⟨y, by simp, rfl⟩, fun _ => rfl⟩
    · rw [Maps.has_put_other hk, h.hasL]
      constructor
      · rintro ⟨z, hz', e⟩; exact ⟨z, by simp [hz'], e⟩
      · rintro ⟨z, hz', e⟩
        rcases List.mem_append.1 hz' with hz' | hz'
        · exact ⟨z, hz', e⟩
        · rw [List.mem_singleton.1 hz'] at e; exact absurd e hk
  · by_cases hl : y.l = L
    · subst hl
      rw [if_pos ((hz _).2 rfl), Maps.atKey_put_same (isMap_owns h.lists) (kLit_key _)]
    · rw [if_neg (mt (hz L).1 hl), Maps.atKey_put_other (fun e => hl (kLit_inj e).symm), h.atL]
  · rw [grp_snoc]
    by_cases hl : y.l = L
    · subst hl
      rw [if_pos ((hz _).2 rfl), if_pos ((hz _).2 rfl), List.length_append, List.map_append]
      exact hmt hown
    · rw [if_neg (mt (hz L).1 hl), if_neg (mt (hz L).1 hl), List.append_nil]
      refine hmt ((h.rows L).kept hg ?_)
      cases hv : (V L).ownBlock with
      | none => exact .inl rfl
      | some b => exact .inr fun e => h.apart L y.l b (fun e => hl e.symm) hv e.symm
  · have hnew : ∀ L, y.l ≠ L → (V L).ownBlock ≠ some g := fun L hl e => by
      rcases hlies with h3 | h3
      · exact h.apart y.l L g hl h3 e
      · have := ((h.rows L).lt g e).2; omega
    by_cases hl : y.l = L
    · have hl' : y.l ≠ L' := fun e => hne (hl.symm.trans e)
      rw [if_pos ((hz L).2 hl)] at h1
      rw [if_neg (mt (hz L').1 hl')] at h2
      obtain rfl : g = q := by simpa [Value.ownBlock] using h1
      exact hnew L' hl' h2
    · rw [if_neg (mt (hz L).1 hl)] at h1
      by_cases hl' : y.l = L'
      · rw [if_pos ((hz L').2 hl')] at h2
        obtain rfl : g = q := by simpa [Value.ownBlock] using h2
        exact hnew L hl h1
      · rw [if_neg (mt (hz L').1 hl')] at h2
        exact h.apart L L' q hne h1 h2
  · by_cases hl : y.l = y'.l
    · refine ⟨y, by simp, hl, ?_⟩
      rw [← hl, Maps.atKey_put_same (isMap_owns h.names) (kLit_key _)]
    · have hy2 : y' ∈ done := by
        rcases List.mem_append.1 hy' with h1 | h1
        · exact h1
        · rw [List.mem_singleton.1 h1] at hl; exact absurd rfl hl
      obtain ⟨z, h1, h2, h3⟩ := h.atN y' hy2
      exact ⟨z, by simp [h1], h2, by rw [Maps.atKey_put_other (fun e => hl (kLit_inj e).symm)]; exact h3⟩
/-- The samples under a key, as merge.Samples takes them. -/
theorem lls_of {ys : List Sv} {v : Value} (hr : w.ownsRow B 90 1 v ys.length (ys.map valD)) (hy : ∀ y ∈ ys, Lst encS 2 w w.heap.size y.D y.m y.s ∧ (y.D = none → y.m = 0 ∧ y.d = 0)) :
    ∃ A c, v = .slice A ys.length c ∧ Lls w w.heap.size A ys.length (ys.map (·.s)) := by
  obtain ⟨A, c, rfl, _, _⟩ := owns_slice hr
  refine ⟨A, c, rfl, by rw [List.length_map], fun h0 => ?_⟩
  obtain ⟨g, rfl, hg⟩ := owns_some' hr h0
  refine ⟨g, 0, rfl, hg, fun k xs hxs => ?_⟩
  rw [List.getElem?_map] at hxs
  obtain ⟨y, hyk, rfl⟩ := Option.map_eq_some_iff.1 hxs
  obtain ⟨h1, h2⟩ := hy y (List.mem_of_getElem? hyk)
  have hc := owns_cell hr (g := g) rfl (t := k) (u := valD y) (by rw [List.getElem?_map, hyk]; rfl)
  have hm := h1.1
  refine ⟨y.D, y.d, ?_, ?_, fun e => ?_⟩
  · rw [Nat.zero_add, hc, hm]; rfl
  · rw [hm]; exact h1
  · rw [hm]; exact h2 e
/-- While the lists are ranged over. -/
structure Rng (w0 wr : World) (B bL bN r n : Nat) (DL DN : DataW Value) (V : List Lb → Value) (done : List Sv) (left : Lit → Bool) (cnt : Nat) (vis : List (List Lb)) (v : Value) (os : List Sv) : Prop where
  rng : wr.ranges Tryz.prog 9 RV bL r n DL left cnt
  names : wr.ownsMap Tryz.prog 9 RV bN n DN
  rb : r ≠ bN
  rows : ∀ L, wr.ownsRow B 90 1 (V L) (grp L done).length ((grp L done).map valD)
  out : OutSv wr B v os
  law : os.map Sv.sr = outOf labelsC (done.map Sv.sr) vis
  nd : vis.Nodup
  some_ : ∀ L ∈ vis, ∃ y ∈ done, y.l = L
  all : ∀ y ∈ done, left (kLit y.l) = true ∨ y.l ∈ vis
  fresh : ∀ kl, left kl = true → ∃ y ∈ done, kl = kLit y.l ∧ y.l ∉ vis
  old : Below w0.heap.size w0 wr
section
variable {wr : World} {r cnt : Nat} {left : Lit → Bool} {vis : List (List Lb)} {v : Value} {os : List Sv}
theorem iter_off {k e : TypeId} {R : Value → Option (DataW Value × List MemPlace)} {s m : Nat} {xs : List Value} (h : w.ranges Tryz.prog k R b r n D left cnt) (hr : w.ownsRow B e s v m xs) : some r ≠ v.ownBlock := fun e' => by
  obtain ⟨es, clock, since, seen, c0, _, _, _, _, hb, _⟩ := h
  obtain ⟨cs, fz, h1⟩ := owns_typed hr e'.symm
  rw [hb] at h1
  injection h1 with h1
  cases h1
theorem iter_ne {k k' : TypeId} {R R' : Value → Option (DataW Value × List MemPlace)} {b' n' : Nat} {D' : DataW Value} (h : w.ranges Tryz.prog k R b r n D left cnt) (hm : w.ownsMap Tryz.prog k' R' b' n' D') : r ≠ b' := fun e' => by
  obtain ⟨es, clock, since, seen, c0, _, _, _, _, hb, _⟩ := h
  obtain ⟨es', clock', hm', _⟩ := hm
  rw [e', hm'] at hb
  injection hb with hb
  cases hb
theorem ranges_below (h : w.ranges Tryz.prog 9 RV b r n D left cnt) (hb : Below w.heap.size w w') : w'.ranges Tryz.prog 9 RV b r n D left cnt :=
  h.kept (row := none) ⟨hb.os, hb.tape, hb.output, hb.size, fun j hj _ => hb.block j hj⟩ (by simp) (by simp)
theorem Rng.below (h : Rng w0 wr B bL bN r n DL DN V done left cnt vis v os) (hs : w0.heap.size ≤ wr.heap.size) (hb : Below wr.heap.size wr w') : Rng w0 w' B bL bN r n DL DN V done left cnt vis v os :=
  ⟨ranges_below h.rng hb, ownsMap_below h.names hb, h.rb, fun L => owns_below (h.rows L) hb, h.out.below hb, h.law, h.nd, h.some_, h.all, h.fresh, h.old.trans (hb.mono hs)⟩
/-- The range begins. -/
theorem Groups.range {w1 : World} (h : Groups w B bL bN n DL DN V done) (hrg : w1.ranges Tryz.prog 9 RV bL w.heap.size n DL (Maps.has DL) cnt) (hg : w.grownBy w1 none) (h0 : Below w0.heap.size w0 w1) :
    Rng w0 w1 B bL bN w.heap.size n DL DN V done (Maps.has DL) cnt [] (.slice none 0 0) [] := by
  have hN := h.names.kept hg (by simp)
  exact ⟨hrg, hN, iter_ne hrg hN, fun L => (h.rows L).kept hg (by cases (V L).ownBlock <;> simp), OutSv.nil _ _, rfl, List.nodup_nil, by simp, fun y hy => .inl ((h.hasL _).2 ⟨y, hy, rfl⟩), fun kl hk => by
    obtain ⟨y, hy, e⟩ := (h.hasL kl).1 hk
    exact ⟨y, hy, e, by simp⟩, h0⟩
/-- A key has come; w1 is the world behind the step. -/
theorem Rng.took {w1 : World} {L : List Lb} {cnt' : Nat} (h : Rng w0 wr B bL bN r n DL DN V done left cnt vis v os) (hk : left (kLit L) = true) (hrg : w1.ranges Tryz.prog 9 RV bL r n DL (fun z => left z && !z.sameKey (kLit L)) cnt') (hg : wr.grownBy w1 (some r)) (hr0 : w0.heap.size ≤ r) :
    (∃ y ∈ done, y.l = L) ∧ L ∉ vis ∧ w1.ownsMap Tryz.prog 9 RV bN n DN ∧ (∀ L, w1.ownsRow B 90 1 (V L) (grp L done).length ((grp L done).map valD)) ∧ OutSv w1 B v os ∧ Below w0.heap.size w0 w1 := by
  obtain ⟨y, hy, e, hv⟩ := h.fresh _ hk
  have e := kLit_inj e
  rw [← e] at hv
  have hoff : ∀ {e : TypeId} {s m : Nat} {u : Value} {xs : List Value}, wr.ownsRow B e s u m xs → w1.ownsRow B e s u m xs := fun ho => ho.kept hg (by
    cases hv : Value.ownBlock _ with
    | none => exact .inl rfl
    | some b => exact .inr fun e => iter_off h.rng ho (hv.trans e).symm)
  exact ⟨⟨y, hy, e.symm⟩, hv, h.names.kept hg (fun e => h.rb (by injection e with e; exact e.symm)), fun L => hoff (h.rows L), ⟨hoff h.out.row, fun z hz => ⟨hoff (h.out.each z hz).1, hoff (h.out.each z hz).2⟩, h.out.apart, h.out.sapart⟩,
    ⟨hg.os.trans h.old.os, hg.tape.trans h.old.tape, hg.output.trans h.old.output, Nat.le_trans h.old.size hg.size, fun k hk => (hg.block k (Nat.lt_of_lt_of_le hk h.old.size) (fun e => by injection e with e; omega)).trans (h.old.block k hk)⟩⟩
/-- The key's series has been laid behind, or left out. -/
theorem Rng.done_ {wz : World} {L : List Lb} {cnt' : Nat} {v' : Value} {os' : List Sv} (h : Rng w0 wr B bL bN r n DL DN V done left cnt vis v os) (hd : ∃ y ∈ done, y.l = L) (hv : L ∉ vis)
    (hrg : wz.ranges Tryz.prog 9 RV bL r n DL (fun z => left z && !z.sameKey (kLit L)) cnt') (hN : wz.ownsMap Tryz.prog 9 RV bN n DN) (hro : ∀ L, wz.ownsRow B 90 1 (V L) (grp L done).length ((grp L done).map valD))
    (ho : OutSv wz B v' os') (hlaw : os'.map Sv.sr = outOf labelsC (done.map Sv.sr) (vis ++ [L])) (hold : Below w0.heap.size w0 wz) :
    Rng w0 wz B bL bN r n DL DN V done (fun z => left z && !z.sameKey (kLit L)) cnt' (vis ++ [L]) v' os' := by
  refine ⟨hrg, hN, h.rb, hro, ho, hlaw, ?_, fun M hM => ?_, fun y hy => ?_, fun kl hk => ?_, hold⟩
  · exact List.nodup_append.2 ⟨h.nd, by simp, fun a ha b hb e => by rw [List.mem_singleton.1 hb] at e; exact hv (e ▸ ha)⟩
  · rcases List.mem_append.1 hM with hM | hM
    · exact h.some_ M hM
    · rw [List.mem_singleton.1 hM]; exact hd
  · by_cases hl : y.l = L
    · exact .inr (by simp [hl])
    · rcases h.all y hy with h1 | h1
      · exact .inl (by rw [h1, Maps.sameKey_ne (fun e => hl (kLit_inj e))]; rfl)
      · exact .inr (by simp [h1])
  · simp only [Bool.and_eq_true, Bool.not_eq_true'] at hk
    obtain ⟨y, hy, e, h1⟩ := h.fresh kl hk.1
    refine ⟨y, hy, e, fun h2 => ?_⟩
    rcases List.mem_append.1 h2 with h2 | h2
    · exact h1 h2
    · have h3 := List.mem_singleton.1 h2
      rw [e, h3, WideAt.sameKey_self (kLit_key L)] at hk
      cases hk.2
/-- The range has ended. -/
theorem Rng.end_ (h : Rng w0 wr B bL bN r n DL DN V done left cnt vis v os) (hl : ∀ kl, left kl = false) : ∀ s, s ∈ vis ↔ ∃ x ∈ done.map Sv.sr, x.1 = s := fun s => by
  constructor
  · intro hs
    obtain ⟨y, hy, e⟩ := h.some_ s hs
    exact ⟨y.sr, List.mem_map.2 ⟨y, hy, rfl⟩, e⟩
  · rintro ⟨x, hx, e⟩
    obtain ⟨y, hy, rfl⟩ := List.mem_map.1 hx
    rcases h.all y hy with h1 | h1
    · rw [hl] at h1; cases h1
    · rw [← e]; exact h1
end
end
end Go.Proofs.YtihidnmpngeohaaGreat
namespace Go.Proofs.YtihidnmpngeohaaGreat
open Go.RowKit Go.Lib Go.Sort

set_option maxHeartbeats 1000000 in
theorem serCmp (x y : Sv) (W : World) (hx : Lst Lb.cells 2 W W.heap.size x.A x.n x.l) (hy : Lst Lb.cells 2 W W.heap.size y.A y.n y.l) (hxn : x.n ≤ 100000) (hyn : y.n ≤ 100000) :
    Calls Tryz.prog 81 #[.agg #[.slice x.A x.n x.c, .slice x.D x.m x.d], .agg #[.slice y.A y.n y.c, .slice y.D y.m y.d]] W fun e w' => e = .returned (.int .i64 (labelsC x.l y.l)) ∧ Grw W.heap.size W w' := by
  have HX := Lib.hid (show _ ∧ _ from ⟨hx, hy⟩)
  have hcon := fun w1 (hb : Below W.heap.size W w1) => labelsCmp_g x.A y.A x.n x.c y.n y.c x.l y.l w1 ((HX.out.1.below hb).more hb.size) ((HX.out.2.below hb).more hb.size) (by omega) (by omega)
  have HC := Lib.hid hcon
  clear hx hy hcon
  go_enter Tryz.func81, Tryz.ntmps81
  go_wp2_with fail
  refine (HC.out _ (((Below.refl _ _).alloc (Nat.le_refl _) _).alloc (by simp) _)).mono ?_
  rintro e w1 ⟨rfl, hb1⟩
  have H1 : Grw W.heap.size W w1 := ((Grw.refl _ W).alloc (Nat.le_refl _) _).alloc (by simp) _ |>.trans (hb1.mono (by simp; omega))
  clear hb1
  go_wp2
  go_ret
  exact ⟨rfl, H1⟩
/-- Its labels can be read while block g is turned. -/
structure SortAt (w : World) (g : Nat) (y : Sv) : Prop where
  lst : ∀ w', w.grownBy w' (some g) → Lst Lb.cells 2 w' w'.heap.size y.A y.n y.l
  few : y.n ≤ 100000
abbrev Sz (w : World) (g : Nat) := {y : Sv // SortAt w g y}
instance (w : World) (g : Nat) : Inhabited (Sz w g) := ⟨⟨⟨none, 0, 0, [], none, 0, 0, []⟩, fun _ _ => Lst.nil, Nat.zero_le _⟩⟩
def encSz {w : World} {g : Nat} (x : Sz w g) : List Value := encSv x.1
theorem encSz_len {w : World} {g : Nat} (x : Sz w g) : (encSz x).length = 2 := rfl
def cmpSz {w : World} {g : Nat} (x y : Sz w g) : Int := labelsC x.1.l y.1.l
theorem Tryz.isAggSeries : ∀ w, (isAgg 132).run Tryz.prog w = .ok true w := fun w => by kernel_rfl
theorem Tryz.sizeOfSeries : ∀ w, (Go.sizeOf 132).run Tryz.prog w = .ok 2 w := fun w => by kernel_rfl
theorem serSort (A : Option Addr) (n c : Nat) (os : List Sv) (w : World) (B : Nat) (ho : OutSv w B (.slice A n c) os) (hl : os.length = n) (hn : n ≤ 1000000) (hm : ∀ z ∈ os, z.n ≤ 100000) :
    Calls Tryz.prog 80 #[.slice A n c, .func (.func 81) #[] #[]] w fun e w' => e = .returned (.tuple #[]) ∧ ∃ os' : List Sv, os'.Perm os ∧ (os'.Pairwise fun x y => labelsC x.l y.l ≤ 0) ∧
      OutSv w' B (.slice A n c) os' ∧ w.grownBy w' (Value.slice A n c).ownBlock := by
  have eg : ∀ args w, (callFunc 81 args).run Tryz.prog w = .ok (.enter 81 args) w := enters_of Tryz.func81 (by kernel_rfl) rfl
  have hrow := ho.row
  rw [hl] at hrow
  by_cases h0 : n = 0
  · subst h0
    refine (AnyF.slices_SortFunc_none { Tryz.sortSeries with } A c _ w).mono ?_
    rintro e w' ⟨rfl, rfl⟩
    have hl0 : os = [] := List.length_eq_zero_iff.1 hl
    subst hl0
    exact ⟨rfl, [], List.Perm.refl _, List.Pairwise.nil, ho, grownBy_refl _ _⟩
  · obtain ⟨g, rfl, hg⟩ := owns_some' hrow (by omega)
    have hS : ∀ z ∈ os, SortAt w g z := fun z hz => ⟨fun w' hgr => by
      have h1 := (ho.each z hz).1.kept hgr (owns_apart (ho.each z hz).1 hrow (by decide))
      exact (owns_lst h1 Lb.len (by omega)).1, hm z hz⟩
    obtain ⟨zs, hzs⟩ : ∃ zs : List (Sz w g), zs = os.attachWith _ hS := ⟨_, rfl⟩
    have hval : zs.map (·.1) = os := by rw [hzs]; simp
    have hidx : ∀ q : List (Sz w g), q.flatMap encSz = (q.map (·.1)).flatMap encSv := fun q => by rw [List.flatMap_map]; rfl
    have hoT : w.ownsRow B 132 2 (.slice (some ⟨g, 0, none⟩) n c) n (zs.flatMap encSz) := by rw [hidx, hval]; exact hrow
    have hlz : zs.length = n := by rw [← hl, ← hval, List.length_map]
    have hcmp : CmpLays Tryz.prog 81 #[] encSz 2 (cmpSz (w := w) (g := g)) g 0 zs.toArray.size w := by
      intro m os dk hdk x y
      have hgr := (ownsK_sorted encSz_len hoT m os dk (by rw [hdk]; simp) hlz).2
      refine (serCmp x.1 y.1 _ (x.2.lst _ hgr) (y.2.lst _ hgr) x.2.few y.2.few).mono fun e w' h => ⟨h.1, h.2.grow⟩
    have hsw : SWO (ltOf (cmpSz (w := w) (g := g))) := cmp3_swo labelsC_cmp3 fun x : Sz w g => x.1.l
    have hcon := AnyQ.slices_SortFunc Tryz.sortSeries 2 Tryz.isAggSeries Tryz.sizeOfSeries encSz encSz_len (fun x v hv => oneSv [x.1] v (by rw [List.flatMap_singleton]; exact hv)) cmpSz hsw 81 #[] g 0 c zs.toArray w eg hcmp (holdsK_own encSz_len hoT) hg (by simp; omega)
    rw [show zs.toArray.size = n by simpa using hlz] at hcon
    refine hcon.mono ?_
    rintro e w' ⟨rfl, d', m, xs, hp, hs, rfl⟩
    have hsz : d'.size = zs.length := by have := hp.1; simpa using this
    obtain ⟨h1, h2⟩ := ownsK_sorted encSz_len hoT m xs d' hsz hlz
    have hperm : d'.toList.Perm zs := by
      have := hp.2.2
      rw [show (zs.toArray.extract 0 n).toList = zs by rw [← hlz]; simp, show (d'.extract 0 n).toList = d'.toList by rw [← hlz, ← hsz]; simp] at this
      exact this
    have hpo : (d'.toList.map (·.1)).Perm os := by rw [← hval]; exact hperm.map _
    refine ⟨rfl, d'.toList.map (·.1), hpo, ?_, ?_, h2⟩
    · rw [List.pairwise_map, List.pairwise_iff_getElem]
      intro i j hi hj hij
      rw [Array.length_toList] at hi hj
      have := hs i j (Nat.zero_le _) hij (by omega)
      rw [getElem!_pos d' j hj, getElem!_pos d' i hi] at this
      simp only [Array.getElem_toList]
      have h := of_decide_eq_false (show decide (labelsC d'[j].1.l d'[i].1.l < 0) = false from this)
      have := labelsC_cmp3.swap d'[j].1.l d'[i].1.l
      omega
    · rw [hidx] at h1
      refine ⟨by rw [hpo.length_eq, hl]; exact h1, fun z hz => ?_, ?_, ?_⟩
      · have hz := hpo.mem_iff.1 hz
        exact ⟨(ho.each z hz).1.kept h2 (owns_apart (ho.each z hz).1 hrow (by decide)), (ho.each z hz).2.kept h2 (owns_apart (ho.each z hz).2 hrow (by decide))⟩
      · exact (hpo.pairwise_iff (fun {a b} h g h1 h2 => h g h2 h1)).2 ho.apart
      · exact (hpo.pairwise_iff (fun {a b} h g h1 h2 => h g h2 h1)).2 ho.sapart
end Go.Proofs.YtihidnmpngeohaaGreat
