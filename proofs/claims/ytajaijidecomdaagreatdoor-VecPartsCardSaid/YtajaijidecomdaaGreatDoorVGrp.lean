/- Maps from texts to lists of elements: what vec.group leaves. -/
import Derived.Test.YtajaijidecomdaaGreatDoorVEl
import Derived.Maps.RangeWalk
import Derived.Maps.OwnOps
import Derived.StringKeys
namespace Go.Proofs.YtajaijidecomdaaGreatDoor
open Go.RowKit Go.Lib
open Go.Maps (Keyed)

def tLit (s : ByteArray) : Lit := .string s.data.toList
/-- What stands under a key is the value itself. -/
def RV (v : Value) : Option (DataW Value × List MemPlace) := some (.held v, [])
theorem Tryz.keyedStr : Keyed Tryz.prog 9 := Maps.string_keyed Tryz.underlying9
theorem tkey_of (s : ByteArray) (h : s.size ≤ maxLen) : keyOf Tryz.prog 9 (.string s) = some (tLit s) := Go.WideMaps.keyOf_string_mk (P := Tryz.prog) (k := 9) Tryz.underlying9 (s := s) h
theorem bytes_ext {x y : ByteArray} (h : x.data.toList = y.data.toList) : x = y := by
  cases x; cases y
  congr 1
  exact Array.toList_inj.1 h
theorem tLit_inj {s t : ByteArray} (h : tLit s = tLit t) : s = t := by
  unfold tLit at h
  injection h with h
  exact bytes_ext h
theorem tLit_key (s : ByteArray) : WideAt.IsKeyLit (tLit s) := by unfold tLit; trivial
theorem tkey_back {x s : ByteArray} (h : keyOf Tryz.prog 9 (.string x) = some (tLit s)) : x = s := by
  rw [keyOf_string Tryz.underlying9] at h
  simp only [mapKey, Tryz.underlying9] at h
  split at h
  · unfold tLit at h
    injection h with h
    injection h with h
    exact bytes_ext h
  · cases h
theorem tkeyOf_inv {key : Value} {kl : Lit} (h : keyOf Tryz.prog 9 key = some kl) : ∃ x, key = .string x := by
  rw [Go.keyOf_string Tryz.underlying9] at h
  unfold mapKey at h
  rw [Tryz.underlying9] at h
  cases key <;> simp at h
  exact ⟨_, rfl⟩
theorem wpList_lookup_held {P : Program} (w : World) {ops : Array Oper} {rest : List Oper} {o : Oper} {a : Act} {Q : Exit → Act → World → Prop}
    (hg : o.guard = none) (m x : Operand) (t : TypeId) (hop : o.op = Op.lookup t m x false)
    (k e : TypeId) (K : Keyed P k) (ht : P.underlying t = some (.map k e)) (z : Value) (hz : (zeroValue e).run P w = .ok z w) (b n : Nat) (D : DataW Value)
    (hm : a.eval m = .map (some b)) (hown : w.ownsMap P k RV b n D) (key : Value) (kl : Lit) (hx : a.eval x = key) (hkey : keyOf P k key = some kl) (v : Value) (hv : D.atKey kl (.held z) = .held v)
    (hK : wpList P ops Q rest (a.put o.dst v) w) :
    wpList P ops Q (o :: rest) a w := by
  refine wpList_plain hg fun K' hK' => ?_
  obtain ⟨u, ps, hrun, hat⟩ := hown.lookup K ht hz (zd := .held z) (zp := []) rfl hkey
  rw [hv] at hat
  obtain rfl : u = v := by
    unfold RV at hat
    injection hat with hat
    injection hat with hat _
    injection hat
  unfold Oper.wp
  simp [execOp, hop, hm, hx, hrun, Result.andThen]
  exact hK' _ _ hK
section
variable {w w' w0 : World} {B b n : Nat} {D : DataW Value} {V : ByteArray → Value} {done : List Ev} {kf : List Lb → ByteArray}
theorem ownsMap_below {R : Value → Option (DataW Value × List MemPlace)} {k : TypeId} (h : w.ownsMap Tryz.prog k R b n D) (hb : Below w.heap.size w w') : w'.ownsMap Tryz.prog k R b n D :=
  h.kept (row := none) ⟨hb.os, hb.tape, hb.output, hb.size, fun j hj _ => hb.block j hj⟩ (by simp)
theorem map_off {R : Value → Option (DataW Value × List MemPlace)} {k e : TypeId} {s m : Nat} {v : Value} {xs : List Value} (h : w.ownsMap Tryz.prog k R b n D) (hr : w.ownsRow B e s v m xs) : some b ≠ v.ownBlock := fun e' => by
  obtain ⟨es, clock, hb, _⟩ := h
  obtain ⟨cs, fz, h1⟩ := owns_typed hr e'.symm
  rw [hb] at h1
  injection h1 with h1
  cases h1
theorem isMap_owns {k : TypeId} {R : Value → Option (DataW Value × List MemPlace)} (h : w.ownsMap Tryz.prog k R b n D) : Maps.IsMap D := by
  obtain ⟨es, clock, _, _, _, rfl⟩ := h
  exact ⟨_, rfl⟩
theorem map_size {k : TypeId} {R : Value → Option (DataW Value × List MemPlace)} (h : w.ownsMap Tryz.prog k R b n D) : Maps.size D ≤ n := by
  obtain ⟨es, clock, _, _, hs, rfl⟩ := h
  show ((es.toList.map _).foldr DataW.insert []).length ≤ n
  rw [length_sorted, List.length_map, Array.length_toList]
  exact hs
/-- The elements of a key. -/
def grp (kf : List Lb → ByteArray) (s : ByteArray) (done : List Ev) : List Ev := done.filter fun y => decide (kf y.l = s)
theorem grp_snoc (s : ByteArray) (done : List Ev) (y : Ev) : grp kf s (done ++ [y]) = grp kf s done ++ (if kf y.l = s then [y] else []) := by
  unfold grp
  rw [List.filter_append]
  by_cases h : kf y.l = s <;> simp [h]
theorem grp_mem {s : ByteArray} {y : Ev} (h : y ∈ grp kf s done) : y ∈ done := (List.mem_filter.1 h).1
theorem grp_key {s : ByteArray} {y : Ev} (h : y ∈ grp kf s done) : kf y.l = s := of_decide_eq_true (List.mem_filter.1 h).2
theorem grp_len (s : ByteArray) (done : List Ev) : (grp kf s done).length ≤ done.length := List.length_filter_le _ _
structure Groups (kf : List Lb → ByteArray) (w : World) (B b n : Nat) (D : DataW Value) (V : ByteArray → Value) (done : List Ev) : Prop where
  map : w.ownsMap Tryz.prog 9 RV b n D
  lo : B ≤ b
  has : ∀ kl, Maps.has D kl = true ↔ ∃ y ∈ done, kl = tLit (kf y.l)
  at_ : ∀ s, D.atKey (tLit s) (.held (.slice none 0 0)) = .held (V s)
  rows : ∀ s, w.ownsRow B 90 2 (V s) (grp kf s done).length ((grp kf s done).flatMap encEv)
  apart : ∀ s s' g, s ≠ s' → (V s).ownBlock = some g → (V s').ownBlock ≠ some g
theorem Groups.below (h : Groups kf w B b n D V done) (hb : Below w.heap.size w w') : Groups kf w' B b n D V done :=
  ⟨ownsMap_below h.map hb, h.lo, h.has, h.at_, fun s => owns_below (h.rows s) hb, h.apart⟩
theorem Groups.base {B' : Nat} (h : Groups kf w B b n D V done) (hB : B' ≤ B) : Groups kf w B' b n D V done :=
  ⟨h.map, Nat.le_trans hB h.lo, h.has, h.at_, fun s => owns_base (h.rows s) hB, h.apart⟩
theorem Groups.kept {r : Option Nat} (h : Groups kf w B b n D V done) (hg : w.grownBy w' r) (hr : ∀ k, r = some k → k < B) : Groups kf w' B b n D V done :=
  ⟨h.map.kept hg (fun e => by have := hr _ e.symm; have := h.lo; omega), h.lo, h.has, h.at_, fun s => (h.rows s).kept hg (by
    cases hv : (V s).ownBlock with
    | none => exact .inl rfl
    | some g => exact .inr fun e => by have := hr _ e.symm; have := ((h.rows s).lt g hv).1; omega), h.apart⟩
theorem Groups.start (hL : w.ownsMap Tryz.prog 9 RV b 0 (.map [])) (hlo : B ≤ b) : Groups kf w B b 0 (.map []) (fun _ => .slice none 0 0) [] :=
  ⟨hL, hlo, fun kl => by simp [Maps.has], fun s => rfl, fun s => World.ownsRow_nil _ _ _ _, fun s s' g _ h => by simp [Value.ownBlock] at h⟩
/-- One element more. -/
theorem Groups.step {wa w1 w2 : World} {y : Ev} {g cap : Nat} (h : Groups kf wa B b n D V done)
    (hown : w1.ownsRow B 90 2 (.slice (some ⟨g, 0, none⟩) ((grp kf (kf y.l) done).length + 1) cap) ((grp kf (kf y.l) done).length + 1) ((grp kf (kf y.l) done).flatMap encEv ++ encEv y)) (hg : wa.grownBy w1 (V (kf y.l)).ownBlock) (hlies : (V (kf y.l)).ownBlock = some g ∨ g = wa.heap.size)
    (hm2 : w2.ownsMap Tryz.prog 9 RV b (n + 1) (D.put (tLit (kf y.l)) (.held (.slice (some ⟨g, 0, none⟩) ((grp kf (kf y.l) done).length + 1) cap)))) (hg2 : w1.grownBy w2 (some b)) :
    Groups kf w2 B b (n + 1) (D.put (tLit (kf y.l)) (.held (.slice (some ⟨g, 0, none⟩) ((grp kf (kf y.l) done).length + 1) cap)))
      (fun s => if kf y.l = s then .slice (some ⟨g, 0, none⟩) ((grp kf (kf y.l) done).length + 1) cap else V s) (done ++ [y]) := by
  have hL1 : w1.ownsMap Tryz.prog 9 RV b n D := h.map.kept hg (map_off h.map (h.rows (kf y.l)))
  have hmt : ∀ {e : TypeId} {s m : Nat} {v : Value} {xs : List Value}, w1.ownsRow B e s v m xs → w2.ownsRow B e s v m xs := fun hr =>
    hr.kept hg2 (by
      cases hv : Value.ownBlock _ with
      | none => exact .inl rfl
      | some b => exact .inr fun e => map_off hL1 hr (hv.trans e).symm)
  refine ⟨hm2, h.lo, fun kl => ?_, fun s => ?_, fun s => ?_, fun s s' q hne h1 h2 => ?_⟩
  · by_cases hk : kl = tLit (kf y.l)
    · subst hk
      rw [Maps.has_put_same (isMap_owns h.map) (tLit_key _)]
      exact ⟨fun _ => ⟨y, by simp, rfl⟩, fun _ => rfl⟩
    · rw [Maps.has_put_other hk, h.has]
      constructor
      · rintro ⟨z, hz', e⟩; exact ⟨z, by simp [hz'], e⟩
      · rintro ⟨z, hz', e⟩
        rcases List.mem_append.1 hz' with hz' | hz'
        · exact ⟨z, hz', e⟩
        · rw [List.mem_singleton.1 hz'] at e; exact absurd e hk
  · by_cases hl : kf y.l = s
    · subst hl
      rw [if_pos rfl, Maps.atKey_put_same (isMap_owns h.map) (tLit_key _)]
    · rw [if_neg hl, Maps.atKey_put_other (fun e => hl (tLit_inj e).symm), h.at_]
  · rw [grp_snoc]
    by_cases hl : kf y.l = s
    · subst hl
      rw [if_pos rfl, if_pos rfl, List.length_append, List.flatMap_append, List.flatMap_singleton]
      exact hmt hown
    · rw [if_neg hl, if_neg hl, List.append_nil]
      refine hmt ((h.rows s).kept hg ?_)
      cases hv : (V s).ownBlock with
      | none => exact .inl rfl
      | some b => exact .inr fun e => h.apart s (kf y.l) b (fun e => hl e.symm) hv e.symm
  · have hnew : ∀ s, kf y.l ≠ s → (V s).ownBlock ≠ some g := fun s hl e => by
      rcases hlies with h3 | h3
      · exact h.apart (kf y.l) s g hl h3 e
      · have := ((h.rows s).lt g e).2; omega
    by_cases hl : kf y.l = s
    · have hl' : kf y.l ≠ s' := fun e => hne (hl.symm.trans e)
      simp only [if_pos hl] at h1
      simp only [if_neg hl'] at h2
      obtain rfl : g = q := by simpa [Value.ownBlock] using h1
      exact hnew s' hl' h2
    · simp only [if_neg hl] at h1
      by_cases hl' : kf y.l = s'
      · simp only [if_pos hl'] at h2
        obtain rfl : g = q := by simpa [Value.ownBlock] using h2
        exact hnew s hl h1
      · simp only [if_neg hl'] at h2
        exact h.apart s s' q hne h1 h2
end
end Go.Proofs.YtajaijidecomdaaGreatDoor
