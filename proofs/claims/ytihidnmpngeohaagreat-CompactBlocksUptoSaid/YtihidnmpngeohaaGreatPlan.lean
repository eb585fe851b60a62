/- compact.Plan: what it hands back, said of the metas: nothing, if no level has three; else three places of the least such level, those of the least numbers, rising. -/
import Derived.Test.YtihidnmpngeohaaGreatG45
import Derived.Test.YtihidnmpngeohaaGreatG47
import Derived.Test.YtihidnmpngeohaaGreatG04
namespace Go.Proofs.YtihidnmpngeohaaGreat
open Go.RowKit Go.Maps Go.Sort

/-- The places ahead of k at which that level stands. -/
def idxs (l : List Mt) (k : Nat) (lv : Int) : List Nat := (List.range k).filter fun i => decide (l[i]?.map (·.level) = some lv)
theorem idxs_succ (l : List Mt) (k : Nat) (m : Mt) (h : l[k]? = some m) (lv : Int) : idxs l (k + 1) lv = if m.level = lv then idxs l k lv ++ [k] else idxs l k lv := by
  unfold idxs
  rw [List.range_succ, List.filter_append]
  by_cases e : m.level = lv <;> simp [h, e]
theorem idxs_le (l : List Mt) (k : Nat) (lv : Int) : (idxs l k lv).length ≤ k := by
  have := List.length_filter_le (fun i => decide (l[i]?.map (·.level) = some lv)) (List.range k)
  simpa [idxs] using this
def ints (l : List Nat) : List Int := l.map Int.ofNat
/-- What the map holds behind k rounds. -/
def Desc (l : List Mt) (k : Nat) (G : DataW Unit) : Prop :=
  ∀ lv : Int, (idxs l k lv = [] → G.atKey (.int .i64 lv) .nil = .nil ∧ has G (.int .i64 lv) = false) ∧ (idxs l k lv ≠ [] → G.atKey (.int .i64 lv) .nil = .slice (ChangeShapes.lits .i64 (ints (idxs l k lv))) [] ∧ has G (.int .i64 lv) = true)

theorem lits_inj {H : Type} : ∀ (xs ys : List Int), (ChangeShapes.lits .i64 xs : List (DataW H)) = ChangeShapes.lits .i64 ys → xs = ys
  | [], [], _ => rfl
  | [], _ :: _, h => by simp [ChangeShapes.lits] at h
  | _ :: _, [], h => by simp [ChangeShapes.lits] at h
  | x :: xs, y :: ys, h => by
    have h1 := List.cons.inj h
    have h2 := lits_inj (H := H) xs ys h1.2
    have h3 : x = y := by have := h1.1; simpa using this
    rw [h2, h3]
theorem groups_isMap {H : Type} {w : World} {P : Program} {k : TypeId} {base : Nat} {e : TypeId} {q : IntKind} {b n : Nat} {D : DataW H} (h : w.ownsGroups P k base e q b n D) : IsMap D := by
  obtain ⟨es, clock, _, _, _, rfl, _⟩ := h
  exact ⟨_, rfl⟩
/-- One round of the grouping. -/
theorem desc_step {w : World} {base : Nat} {e : TypeId} {l : List Mt} {k : Nat} {G : DataW Unit} {m : Mt} {v : Value} {zs : List Int} (hD : Desc l k G) (hG : IsMap G) (hk : WideAt.IsKeyLit (.int .i64 m.level)) (hm : l[k]? = some m)
    (hat : G.atKey (.int .i64 m.level) .nil = rowDatum .i64 v zs) (hoi : w.ownsInts base e .i64 v zs) : Desc l (k + 1) (G.put (.int .i64 m.level) (.slice (ChangeShapes.lits .i64 (zs ++ [(k : Int)])) [])) := by
  have hz : zs = ints (idxs l k m.level) := by
    by_cases h0 : idxs l k m.level = []
    · have h1 := ((hD m.level).1 h0).1
      rw [h1] at hat
      rcases hoi.datum (H := Unit) with ⟨_, h2⟩ | h2
      · rw [h2, h0]; rfl
      · rw [h2] at hat; cases hat
    · have h1 := ((hD m.level).2 h0).1
      rw [h1] at hat
      rcases hoi.datum (H := Unit) with ⟨h2, _⟩ | h2
      · rw [h2] at hat; cases hat
      · rw [h2] at hat
        injection hat with ha _
        exact (lits_inj _ _ ha).symm
  intro lv
  rw [idxs_succ l k m hm lv]
  by_cases e1 : m.level = lv
  · subst e1
    rw [if_pos rfl]
    refine ⟨fun h => by simp at h, fun _ => ⟨?_, has_put_same hG hk _⟩⟩
    rw [atKey_put_same hG hk, hz]
    simp [ints]
  · rw [if_neg e1]
    have hne : (Lit.int .i64 lv) ≠ .int .i64 m.level := fun h => e1 (by injection h with _ h; exact h.symm)
    rw [atKey_put_other hne, has_put_other hne]
    exact hD lv
theorem Tryz.infoInt : (Tryz.prog.info? 3).map (fun i => (i.zero, i.size, i.bytes)) = some (some (.int .i64 0), 1, 8) := by kernel_rfl
theorem zeroInts (w : World) : (zeroValue 147).run Tryz.prog w = .ok (.slice none 0 0) w := by kernel_rfl
theorem keyInt : Keyed Tryz.prog 3 := int_keyed Tryz.underlying3

theorem desc_zs {w : World} {base : Nat} {e : TypeId} {l : List Mt} {k : Nat} {G : DataW Unit} {lv : Int} {v : Value} {zs : List Int} (hD : Desc l k G) (hat : G.atKey (.int .i64 lv) .nil = rowDatum .i64 v zs) (hoi : w.ownsInts base e .i64 v zs) : zs = ints (idxs l k lv) := by
  by_cases h0 : idxs l k lv = []
  · have h1 := ((hD lv).1 h0).1
    rw [h1] at hat
    rcases hoi.datum (H := Unit) with ⟨_, h2⟩ | h2
    · rw [h2, h0]; rfl
    · rw [h2] at hat; cases hat
  · have h1 := ((hD lv).2 h0).1
    rw [h1] at hat
    rcases hoi.datum (H := Unit) with ⟨h2, _⟩ | h2
    · rw [h2] at hat; cases hat
    · rw [h2] at hat
      injection hat with ha _
      exact (lits_inj _ _ ha).symm
/-- The order in which a group is sorted: by the blocks' numbers, ties by the places. -/
def idAt (l : List Mt) (i : Nat) : Int := (l[i]?.map (·.id)).getD 0
def Ro (l : List Mt) (i k : Nat) : Prop := idAt l i < idAt l k ∨ (idAt l i = idAt l k ∧ i < k)
/-- What Plan hands back. -/
def PlanIs (l : List Mt) (p : List Int) : Prop :=
  (p = [] ∧ ∀ lv, (idxs l l.length lv).length < 3) ∨
  ∃ (lv : Int) (s : List Nat), (∀ x, x < lv → (idxs l l.length x).length < 3) ∧ 3 ≤ (idxs l l.length lv).length ∧ s.Perm (idxs l l.length lv) ∧ s.Pairwise (Ro l) ∧ p = (ints (s.take 3)).mergeSort (fun x y => decide (x ≤ y))
theorem groups_size {H : Type} {w : World} {P : Program} {k : TypeId} {base : Nat} {e : TypeId} {q : IntKind} {b n : Nat} {D : DataW H} (h : w.ownsGroups P k base e q b n D) : Maps.size D ≤ n := by
  obtain ⟨es, clock, _, _, hs, rfl, _⟩ := h
  rw [size_eq, length_sorted]
  simpa using hs
theorem grownBy_of_below {a w : World} (h : Below a.heap.size a w) : a.grownBy w none := ⟨h.os, h.tape, h.output, h.size, fun i hi _ => h.block i hi⟩
theorem idxs_lt (l : List Mt) (k : Nat) (lv : Int) : ∀ i ∈ idxs l k lv, i < k := fun i hi => by simpa using (List.mem_filter.1 hi).1
theorem idxs_rise (l : List Mt) (k : Nat) (lv : Int) : (idxs l k lv).Pairwise (· < ·) := List.Pairwise.filter _ List.pairwise_lt_range

/-! ### a group as an array of places -/
def finArr (n : Nat) (l : List Nat) (h : ∀ i ∈ l, i < n) : Array (Fin n) := (l.pmap (fun i h => (⟨i, h⟩ : Fin n)) h).toArray
theorem finArr_size (n : Nat) (l : List Nat) (h : ∀ i ∈ l, i < n) : (finArr n l h).size = l.length := by simp [finArr]
theorem finArr_val (n : Nat) (l : List Nat) (h : ∀ i ∈ l, i < n) : (finArr n l h).toList.map (fun k => k.val) = l := by simp [finArr, List.map_pmap]
theorem finArr_enc (n : Nat) (l : List Nat) (h : ∀ i ∈ l, i < n) : (finArr n l h).toList.map (encFin n) = (ints l).map (Value.int .i64) := by
  conv => rhs; rw [← finArr_val n l h]
  simp [ints, encFin]
section
variable {n : Nat} [Inhabited (Fin n)]
theorem fin_at (d : Array (Fin n)) (i : Nat) (h : i < d.size) : (d.toList.map (fun k => k.val))[i]? = some (d[i]!).val := by
  simp [h]
theorem finArr_tags (l : List Nat) (h : ∀ i ∈ l, i < n) (hr : l.Pairwise (· < ·)) : TagsIn (fun k : Fin n => k.val) 0 (finArr n l h).size (finArr n l h) := by
  intro i j _ hij hj
  have h1 := fin_at (finArr n l h) i (by omega)
  have h2 := fin_at (finArr n l h) j hj
  rw [finArr_val] at h1 h2
  rw [List.pairwise_iff_getElem] at hr
  obtain ⟨a1, b1⟩ := List.getElem?_eq_some_iff.1 h1
  obtain ⟨a2, b2⟩ := List.getElem?_eq_some_iff.1 h2
  have := hr i j a1 a2 hij
  rwa [b1, b2] at this
theorem sorted_fin (l : List Mt) (d d' : Array (Fin n)) (hp : PermIn 0 d.size d d') (hs : SortedR (ltOf (cmpFin l n)) (fun k => k.val) 0 d.size d') :
    (d'.toList.map (fun k => k.val)).Perm (d.toList.map (fun k => k.val)) ∧ (d'.toList.map (fun k => k.val)).Pairwise (Ro l) := by
  constructor
  · have h := hp.2.2
    have e1 : d'.extract 0 d.size = d' := by rw [← hp.1]; simp
    have e2 : d.extract 0 d.size = d := by simp
    rw [e1, e2] at h
    exact h.map _
  · rw [List.pairwise_map, List.pairwise_iff_getElem]
    intro i j hi hj hij
    have hi' : i < d.size := by have := hp.1; simp at hi; omega
    have hj' : j < d.size := by have := hp.1; simp at hj; omega
    have h := hs i j (Nat.zero_le _) hij hj'
    have e1 : d'[i]! = d'.toList[i] := by simp at hi; simp [hi]
    have e2 : d'[j]! = d'.toList[j] := by simp at hj; simp [hj]
    rw [e1, e2] at h
    unfold Rt ltOf cmpFin at h
    rw [lt_compare, lt_compare] at h
    unfold Ro idAt
    simp only [decide_eq_true_eq, decide_eq_false_iff_not] at h
    omega
end

/-- What Plan leaves. -/
def PlanPost (w : World) (l : List Mt) (e : Ending) (w' : World) : Prop := ∃ v p, e = .returned v ∧ PlanIs l p ∧ w'.ownsRow w.heap.size 3 1 v p.length (p.map (Value.int .i64)) ∧ Below w.heap.size w w'
set_option maxHeartbeats 2000000 in
set_option maxRecDepth 100000 in
theorem plan_any (A : Option Addr) (n c : Nat) (l : List Mt) (w : World) (hr : Lst Mt.cells 5 w w.heap.size A n l) (hok : ∀ m ∈ l, m.ok) (hbig : n ≤ 1099511627776) :
    Calls Tryz.prog 88 #[.slice A n c] w (PlanPost w l) := by
  have hmm := @run_makeMap Tryz.prog
  obtain ⟨i0, hi, hz0, hz1, hz2⟩ := info_parts Tryz.infoInt
  go_enter Tryz.func88, Tryz.ntmps88
  go_wp2
  go_loopw [13] (fun i wr => ∃ (k : Nat) (G : DataW Unit), k ≤ n ∧ i = .int .i64 k ∧ Below w.heap.size w wr ∧ wr.heap[w.heap.size]? = some (.cells #[.slice A n c] 145 (0, 0)) ∧ w.heap.size + 2 ≤ wr.heap.size ∧
      wr.ownsGroups Tryz.prog 3 (w.heap.size + 2) 3 .i64 (w.heap.size + 1) k G ∧ Hid (Desc l k G)) (fun i _ => n - (intOf i).toNat)
  case atStart => exact ⟨0, .map [], Nat.zero_le _, rfl, ((Below.refl _ _).alloc (Nat.le_refl _) _).alloc (by simp) _, (Below.heap_alloc _ _ _ (by simp)).trans (heap_alloc_new _ _), by simp, by have := World.ownsGroups_made (H := Unit) (w.alloc (.cells #[.slice A n c] 145)) Tryz.prog 3 3 .i64; simpa using this, fun lv => ⟨fun _ => ⟨rfl, rfl⟩, fun h => absurd rfl h⟩⟩
  case round =>
    obtain ⟨k, G, hk, rfl, hbl, hbox, hsz, hown, hD⟩ := hrel
    by_cases hlt : k < n
    · obtain ⟨b, off, m, rfl, hb, hm, hc⟩ := hr.at hlt
      have c0 := (hbl.cell (p := ⟨b, off + k * 5 + 0, none⟩) hb).trans (hc 0 _ rfl)
      have c1 := (hbl.cell (p := ⟨b, off + k * 5 + 1, none⟩) hb).trans (hc 1 _ rfl)
      have c2 := (hbl.cell (p := ⟨b, off + k * 5 + 2, none⟩) hb).trans (hc 2 _ rfl)
      have c3 := (hbl.cell (p := ⟨b, off + k * 5 + 3, none⟩) hb).trans (hc 3 _ rfl)
      have c4 := (hbl.cell (p := ⟨b, off + k * 5 + 4, none⟩) hb).trans (hc 4 _ rfl)
      simp only [Nat.add_zero] at c0
      have Hm := Lib.hid hm
      have wfm := (hok m (List.mem_of_getElem? hm)).2.2
      have HW := Lib.hid wfm
      clear hm hc wfm
      go_wp2
      have hown1 : (wr.alloc (.cells #[.int .u32 m.id, .int .i64 m.frm, .int .i64 m.upto, .int .i64 m.many, .int .i64 m.level] 144)).ownsGroups Tryz.prog 3 (w.heap.size + 2) 3 .i64 (w.heap.size + 1) k G :=
        hown.kept (row := none) (World.grownBy_alloc _ _ _) (by simp) (fun es clock h x hx => by cases x.val.ownBlock <;> simp)
      have lv1 : (wr.alloc (.cells #[.int .u32 m.id, .int .i64 m.frm, .int .i64 m.upto, .int .i64 m.many, .int .i64 m.level] 144)).cell? ⟨wr.heap.size, 4, none⟩ = some (.int .i64 m.level) := by simp [World.cell?_alloc_new]
      have hbl1 : Below w.heap.size w (wr.alloc (.cells #[.int .u32 m.id, .int .i64 m.frm, .int .i64 m.upto, .int .i64 m.many, .int .i64 m.level] 144)) := hbl.alloc (by omega) _
      have hs1 : (wr.alloc (.cells #[.int .u32 m.id, .int .i64 m.frm, .int .i64 m.upto, .int .i64 m.many, .int .i64 m.level] 144)).heap.size = wr.heap.size + 1 := by simp
      have hbox1 : (wr.alloc (.cells #[.int .u32 m.id, .int .i64 m.frm, .int .i64 m.upto, .int .i64 m.many, .int .i64 m.level] 144)).heap[w.heap.size]? = some (.cells #[.slice (some ⟨b, off, none⟩) n c] 145 (0, 0)) := (Below.heap_alloc _ _ _ (by omega)).trans hbox
      have hmbb : (wr.alloc (.cells #[.int .u32 m.id, .int .i64 m.frm, .int .i64 m.upto, .int .i64 m.many, .int .i64 m.level] 144)).heap[wr.heap.size]? = some (.cells #[.int .u32 m.id, .int .i64 m.frm, .int .i64 m.upto, .int .i64 m.many, .int .i64 m.level] 144 (0, 0)) := heap_alloc_new wr _
      clear hown c0 c1 c2 c3 c4 hbl hbox
      generalize wr.alloc (.cells #[.int .u32 m.id, .int .i64 m.frm, .int .i64 m.upto, .int .i64 m.many, .int .i64 m.level] 144) = w1 at *
      have hsz1 : w.heap.size + 3 ≤ w1.heap.size := by omega
      have Hs1 := Lib.hid hs1
      clear hs1
      obtain ⟨v, zs, hlook, hat, hoi, hzl, hback⟩ := groups_look hown1 keyInt Tryz.underlying239 zeroInts (by unfold maxLen; omega) (keyOf_int_mk Tryz.underlying3 HW.out)
      have hl1 : Sem.run Tryz.prog (Instr.lookup 239 (.map (some (w.heap.size + 1))) (.int .i64 m.level) false) w1.drew = .ok v w1.drew := hlook w1.drew rfl
      have hl2 : ∀ o, Sem.run Tryz.prog (Instr.lookup 239 (.map (some (w.heap.size + 1))) (.int .i64 m.level) false) (w1.alloc o).drew = .ok v (w1.alloc o).drew := fun o => hlook (w1.alloc o).drew (Below.heap_alloc w1 o _ (by omega))
      have HG := Lib.hid (groups_isMap hown1)
      have HAT := Lib.hid hat
      have HOI := Lib.hid hoi
      have HBK := Lib.hid hback
      generalize hmb : wr.heap.size = mb at *
      have hmb2 : w.heap.size + 2 ≤ mb := by omega
      have hmb3 : mb < w1.heap.size := by have := Hs1.out; omega
      clear hmb
      have hne1 : some mb ≠ v.ownBlock := by
        rcases hoi.1.2 with ⟨rfl, _⟩ | ⟨g, cap, cur, rfl, _, hh, _⟩
        · simp [Value.ownBlock]
        · intro he
          have : mb = g := by simpa [Value.ownBlock] using he
          subst this
          rw [hmbb] at hh
          simp at hh
      clear hown1 hlook hat hoi hback hmbb
      have HST : ∀ (gg cap : Nat) (w2 : World), w2.ownsRow (w.heap.size + 2) 3 1 (.slice (some ⟨gg, 0, none⟩) (zs.length + 1) cap) (zs.length + 1) (zs.map (Value.int .i64) ++ [.int .i64 (k : Int)]) → (w1.alloc (.cells #[.int .i64 (k : Int)] 3)).drew.grownBy w2 v.ownBlock → (v.ownBlock = some gg ∨ gg = w1.heap.size + 1) →
          ∃ w3, (Instr.mapUpdate 239 (.map (some (w.heap.size + 1))) (.int .i64 m.level) (.slice (some ⟨gg, 0, none⟩) (zs.length + 1) cap)).run Tryz.prog w2 = .ok () w3 ∧ w3.ownsGroups Tryz.prog 3 (w.heap.size + 2) 3 .i64 (w.heap.size + 1) (k + 1) (G.put (.int .i64 m.level) (rowDatum .i64 (.slice (some ⟨gg, 0, none⟩) (zs.length + 1) cap) (zs ++ [(k : Int)]))) ∧ w2.grownBy w3 (some (w.heap.size + 1)) ∧ w1.grownBy w2 v.ownBlock := by
        intro gg cap w2 hown2 hgrow2 hloc2
        have hgr12 : w1.grownBy w2 v.ownBlock := (World.grownBy_alloc w1 (.cells #[.int .i64 (k : Int)] 3) _).trans ⟨hgrow2.os, hgrow2.tape, hgrow2.output, hgrow2.size, hgrow2.block⟩
        obtain ⟨w3, h1, h2, h3⟩ := HBK.out w2 (.slice (some ⟨gg, 0, none⟩) (zs.length + 1) cap) (zs ++ [(k : Int)]) hgr12 (HOI.out.appended hown2 (WalkArith.wf_i64 (by omega))) (by simp only [List.length_append, List.length_cons, List.length_nil]; omega) (hloc2.elim (fun h => .inl h.symm) (fun h => .inr ⟨gg, rfl, by omega⟩))
        exact ⟨w3, h1, h2, h3, hgr12⟩
      have HST' := Lib.hid HST
      clear HST
      go_region_held3 (fun w' => w'.cell? ⟨mb, 4, none⟩ = some (.int .i64 m.level))
        (first | go_keep | (rw [hgrow2.cell_far _ (by simp; omega) hne1]; assumption) | (rw [hgrow3.cell_far _ (by simp; omega) (by simp; omega)]; assumption))
        (first
          | (refine step_append_lies _ (by rfl) _ _ _ (by rfl) (w.heap.size + 2) 3 i0 _ 1 8 Tryz.underlying147 hi hz0 hz1 hz2 rfl (by omega) v zs.length (zs.map (Value.int .i64)) (by rfl) (HOI.out.1.alloc _) ⟨w1.heap.size, 0, none⟩ 1 1 [.int .i64 (k : Int)] (by rfl) (by rfl) (cell_one_new _ _ _) (ints_oneCell .i64 [(k : Int)]) (by omega) (by unfold maxLen; omega) (by omega) (by simp; omega) (w1.heap.size + 1) (by simp) ?_
             intro gg cap w2 hown2 hgrow2 hloc2 hlt2
             obtain ⟨w3, hrun3, hown3, hgrow3, hgr12⟩ := HST'.out gg cap w2 hown2 hgrow2 hloc2
             have hsz2 : w1.heap.size ≤ w2.heap.size := hgr12.size))
      all_goals
        go_wp2
        have hrow : ∀ j, v.ownBlock = some j → w.heap.size + 2 ≤ j := fun j hj => (HOI.out.1.lt j hj).1
        have hD2 := desc_step hD.out HG.out (keyInt.key (keyOf_int_mk Tryz.underlying3 HW.out)) Hm.out HAT.out HOI.out
        go_roundw
        case rel => exact ⟨k + 1, _, by omega, by go_num, (hbl1.grown hgr12 (by omega) (fun j hj => by have := hrow j hj; omega)).grown hgrow3 (by omega) (fun j hj => by cases hj; omega), (hgrow3.block _ (by omega) (by simp)).trans ((hgr12.block _ (by omega) (fun h => by have := hrow _ h.symm; omega)).trans hbox1), by have := hgrow3.size; omega, hown3, hD2⟩
        case measure => simp [intOf]; omega
    · obtain rfl : k = n := by omega
      have hgsz := groups_size hown
      have hsorted := sorted_call (w.heap.size + 1) k G _ wr (groups_map hown) (by unfold maxLen; omega) (by omega)
      have HS := Lib.hid hsorted
      have HO := Lib.hid hown
      have hkc := keys_call (some (w.heap.size + 1)) wr
      have HK := Lib.hid hkc
      have HB := Lib.hid hbox
      clear hsorted hown hkc hbox
      go_wp2_with fail
      refine HK.out.mono ?_
      rintro e w' ⟨rfl, rfl⟩
      go_wp2_with fail
      refine HS.out.mono ?_
      rintro e w5 ⟨v5, ks, rfl, hks, hrise, hrow, hbl5⟩
      have hD0 := hD.out
      have hkey : ∀ x, idxs l k x ≠ [] → x ∈ ks := fun x hx => (hks x).2 ((hD0 x).2 hx).2
      have hlen : l.length = k := hr.1
      rcases hrow.2 with ⟨rfl, hk0⟩ | ⟨g5, cap5, cur5, rfl, hbase5, hblk5, hn5, hcap5, hsz5, htk5⟩
      · have hnil : ks = [] := List.length_eq_zero_iff.1 hk0
        have hp : PlanIs l [] := .inl ⟨rfl, fun lv => by
          rw [hlen]
          by_cases h : idxs l k lv = []
          · rw [h]; decide
          · have := hkey lv h; rw [hnil] at this; cases this⟩
        have HP := Lib.hid hp
        have hb6 : Below w.heap.size w w5 := (hbl.alloc (by omega) _).trans (hbl5.mono (by omega))
        have HB6 := Lib.hid hb6
        clear hp hb6 hks hrise hrow hbl5 hD0 hkey hlen hk0
        subst hnil
        go_wp2
        refine wp_loop_rounds 1 ?_
        rw [rounds_succ]
        go_wp2
        go_ret
        exact ⟨_, [], rfl, HP.out, World.ownsRow_nil _ _ _ _, HB6.out⟩
      · have hbw : Below wr.heap.size wr w5 := ((Below.refl _ wr).alloc (Nat.le_refl _) _).trans (hbl5.mono (by omega))
        unfold maxLen at hcap5
        have hown5 := HO.out.kept (row := none) (grownBy_of_below hbw) (by simp) (fun es clock h x hx => by cases x.val.ownBlock <;> simp)
        have hbox5 : w5.cell? ⟨w.heap.size, 0, none⟩ = some (.slice A k c) := by
          rw [cell_of_row w5 w.heap.size 0 _ _ _ ((hbw.block _ (by omega)).trans HB.out)]; rfl
        have hb6 : Below w.heap.size w w5 := hbl.trans (hbw.mono (by omega))
        have hsz5 : wr.heap.size ≤ w5.heap.size := hbw.size
        have hwf : ∀ x ∈ ks, (Lit.int .i64 x).wf = true := fun x hx => intKeys_wf (groups_map HO.out) Tryz.underlying3 x ((mem_intKeys (groups_map HO.out) Tryz.underlying3 x).2 ((hks x).1 hx))
        have HO5 := Lib.hid hown5
        have HBX := Lib.hid hbox5
        have HB6 := Lib.hid hb6
        have HWF := Lib.hid hwf
        have HKEY := Lib.hid hkey
        have HROW := Lib.hid hrow
        have HRISE := Lib.hid hrise
        have HLEN := Lib.hid hlen
        clear hown5 hbox5 hb6 hwf hkey hrow hrise hlen hbw hbl5 hks hbl hblk5 htk5 hsz5 hD0
        go_wp2
        go_loop [33] (fun i => ∃ j : Nat, j ≤ ks.length ∧ i = .int .i64 j ∧ Hid (∀ x ∈ ks.take j, (idxs l k x).length < 3)) (fun i => ks.length - (intOf i).toNat)
        case atStart => exact ⟨0, Nat.zero_le _, rfl, (show Hid _ from fun x hx => by simp at hx)⟩
        case round =>
          obtain ⟨j, hj, rfl, HF⟩ := hrel
          by_cases hjl : j < ks.length
          · obtain ⟨x, hx⟩ : ∃ x, ks[j]? = some x := ⟨_, List.getElem?_eq_getElem hjl⟩
            have hxm : x ∈ ks := List.mem_of_getElem? hx
            have cx : w5.cell? ⟨g5, j, none⟩ = some (.int .i64 x) := by rw [HROW.out.cellAt j (by omega)]; simp [hx]
            have key := keyOf_int_mk Tryz.underlying3 (HWF.out x hxm)
            obtain ⟨v, zs, hlook, hat, hoi, hzl, _⟩ := groups_look HO5.out keyInt Tryz.underlying239 zeroInts (by unfold maxLen; omega) key
            have hl5 := hlook w5 rfl
            have hzs := desc_zs hD.out hat hoi
            have HZS := Lib.hid hzs
            have HX := Lib.hid hx
            have HXM := Lib.hid hxm
            have hnext : ∀ q : zs.length < 3, Hid (∀ y ∈ ks.take (j + 1), (idxs l k y).length < 3) := fun q y hy => by
              rw [List.take_add_one, HX.out] at hy
              rcases List.mem_append.1 hy with hy | hy
              · exact HF.out y hy
              · have : y = x := by simpa using hy
                rw [this]
                have := congrArg List.length HZS.out
                simp [ints] at this
                omega
            have HNX := Lib.hid hnext
            clear hlook hat hzs hx hxm key hzl hnext
            rcases hoi.1.2 with ⟨rfl, h0⟩ | ⟨g, cap, cur, rfl, hg, hblk, hn, hcap, hsz', htk⟩
            · clear hoi
              go_wp2
              go_round
              case rel => exact ⟨j + 1, by omega, by go_num, HNX.out (by omega)⟩
              case measure => simp [intOf]; omega
            · have hcapM := hcap
              unfold maxLen at hcap
              by_cases h3 : zs.length < 3
              · have h3z : (zs.length : Int) < 3 := by omega
                clear hoi hblk htk
                go_wp2
                go_round
                case rel => exact ⟨j + 1, by omega, by go_num, HNX.out h3⟩
                case measure => simp [intOf]; omega
              · have h3z : ¬ (zs.length : Int) < 3 := by omega
                have hin := idxs_lt l k x
                have hil : (idxs l k x).length = zs.length := by rw [HZS.out]; simp [ints]
                have hk0 : 0 < k := by
                  have := idxs_le l k x
                  omega
                letI : Inhabited (Fin k) := ⟨⟨0, hk0⟩⟩
                obtain ⟨b, off, rfl, hb, hc⟩ := hr.2 hk0
                obtain ⟨dF, hdF⟩ : ∃ dF, dF = finArr k (idxs l k x) hin := ⟨_, rfl⟩
                have hdsz : dF.size = zs.length := by rw [hdF, finArr_size, hil]
                have henc : dF.toList.map (encFin k) = zs.map (Value.int .i64) := by rw [hdF, finArr_enc, ← HZS.out]
                have hholds : Holds (encFin k) w5 g 0 dF := holds_block hblk (by rw [hdsz, henc]; simpa using htk)
                have hglt : g < w5.heap.size := (Array.getElem?_eq_some_iff.1 hblk).1
                have hc5 : ∀ q m, l[q]? = some m → ∀ i u, m.cells[i]? = some u → w5.cell? ⟨b, off + q * 5 + i, none⟩ = some u := fun q m hq i u hu => (HB6.out.cell hb).trans (hc q m hq i u hu)
                have htags : TagsIn (fun q : Fin k => q.val) 0 dF.size dF := by rw [hdF]; exact finArr_tags _ hin (idxs_rise l k x)
                have hsort := sortStable_int (encFin k) (cmpFin l k) (fun q : Fin k => q.val) 122 #[.pointer (some ⟨w.heap.size, 0, none⟩)] g 0 cap zs.length dF w5 (enters_of Tryz.func122 (by kernel_rfl) rfl) (swo_fin l k)
                  (planCmp_lays w.heap.size b off k c l hr.1 hk0 w5 g 0 dF.size HBX.out (by omega) (by omega) (by have := HB6.out.size; omega) (by have := HB6.out.size; omega) hc5) ⟨fun _ => rfl, hholds, hglt⟩ hdsz (by have := idxs_le l k x; omega) htags
                have HSORT := Lib.hid hsort
                have HDF := Lib.hid hdF
                have HDS := Lib.hid hdsz
                have HBLK := Lib.hid hblk
                have HSZ := Lib.hid hsz'
                have HIN := Lib.hid hil
                clear hsort hdF hdsz hholds hc5 htags henc hblk htk hoi hc hsz' hil
                go_wp2_with fail
                refine HSORT.out.mono ?_
                rintro e w6 ⟨rfl, d', ⟨q6, os6, hw6⟩, hp, hs⟩
                obtain ⟨hperm, hpw⟩ := sorted_fin l dF d' hp hs
                have hvals : dF.toList.map (fun q => q.val) = idxs l k x := by rw [HDF.out, finArr_val]
                rw [hvals] at hperm
                obtain ⟨s, hsdef⟩ : ∃ s, s = d'.toList.map (fun q => q.val) := ⟨_, rfl⟩
                rw [← hsdef] at hperm hpw
                have hsl : s.length = zs.length := by rw [hperm.length_eq]; exact HIN.out
                have hencd : d'.toList.map (encFin k) = (ints s).map (Value.int .i64) := by rw [hsdef]; simp [ints, encFin]
                have hd'sz : d'.size = zs.length := by rw [hp.1, HDS.out]
                have hown6 : w6.ownsRow (w.heap.size + 2) 3 1 (.slice (some ⟨g, 0, none⟩) zs.length cap) zs.length ((ints s).map (Value.int .i64)) := by
                  rw [hw6, ← hencd]; exact ownsRow_sortedG hd'sz hg HBLK.out hn hcapM HSZ.out
                have hgr6 : w5.grownBy w6 (some g) := by rw [hw6]; exact grownBy_sortedG d'
                have hb6 : Below w.heap.size w w6 := HB6.out.grown hgr6 HB6.out.size (fun j hj => by cases hj; omega)
                obtain ⟨z3, hz3⟩ : ∃ z3, z3 = ints (s.take 3) := ⟨_, rfl⟩
                have hz3l : z3.length = 3 := by rw [hz3]; simp [ints]; omega
                have hclone := AnyE.slices_Clone Tryz.cloneInt i0 (.int .i64 0) 1 8 hi hz0 hz1 hz2 rfl (by omega) Tryz.sizeOf3 g 0 3 cap (z3.map (Value.int .i64)) w6 (by simp [hz3l]) (by unfold maxLen; omega) (by omega) (fun j u hu => by
                    have hj : j < 3 := by
                      have := (List.getElem?_eq_some_iff.1 hu).1
                      simpa [hz3l] using this
                    rw [Nat.zero_add, hown6.cellAt j (by omega)]
                    rw [hz3] at hu
                    simp only [ints, List.map_take] at hu ⊢
                    rwa [List.getElem?_take_of_lt hj] at hu) (ints_oneCell .i64 z3)
                have hpi : PlanIs l (z3.mergeSort (fun x y => decide (x ≤ y))) := .inr ⟨x, s, fun y hy => by
                    rw [HLEN.out]
                    by_cases h : idxs l k y = []
                    · rw [h]; decide
                    · have hyk := HKEY.out y h
                      obtain ⟨i, hil, hiy⟩ := List.getElem_of_mem hyk
                      have hxj : ks[j] = x := by have := HX.out; rw [List.getElem?_eq_getElem hjl] at this; exact Option.some.inj this
                      have hij : i < j := by
                        rcases Nat.lt_or_ge i j with h | h
                        · exact h
                        · have hle : ks[j] ≤ ks[i] := by
                            rcases Nat.eq_or_lt_of_le h with e | e
                            · subst e; exact Int.le_refl _
                            · exact (List.pairwise_iff_getElem.1 HRISE.out) j i hjl hil e
                          omega
                      exact HF.out y (List.mem_take_iff_getElem.2 ⟨i, by omega, hiy⟩), by rw [HLEN.out, HIN.out]; omega, by rw [HLEN.out]; exact hperm, hpw, by rw [hz3]⟩
                have HCL := Lib.hid hclone
                have HPI := Lib.hid hpi
                have HBB := Lib.hid hb6
                have HZ3 := Lib.hid hz3l
                clear hclone hpi hb6 hz3l hz3 hgr6 hown6 hd'sz hencd hsl hsdef hperm hpw hvals hw6 hp hs
                go_wp2_with fail
                refine HCL.out.mono ?_
                rintro e w7 ⟨v7, rfl, hown7, hv7, hb7⟩
                rcases hown7.2 with ⟨h0, _⟩ | ⟨g7, cap7, cur7, rfl, hg7, hblk7, hn7, hcap7, hsz7, htk7⟩
                · exact absurd h0 hv7
                · have hh7 : Holds (Value.int .i64) w7 g7 0 z3.toArray := holds_block hblk7 (by rw [List.size_toArray, HZ3.out]; simpa using htk7)
                  have hs3 := AnyM.slices_Sort_int Tryz.sortInt g7 0 cap7 z3 w7 hh7 (Array.getElem?_eq_some_iff.1 hblk7).1 (by have := HZ3.out; omega)
                  rw [HZ3.out] at hs3
                  change Calls Tryz.prog 125 _ _ _ at hs3
                  have HS3 := Lib.hid hs3
                  have HB7 := Lib.hid (And.intro hblk7 (And.intro hg7 (And.intro hn7 (And.intro hcap7 (And.intro hsz7 hb7)))))
                  clear hs3 hh7 hown7 hv7 hblk7 htk7 hsz7 hb7 hcap7 hg7 hn7
                  go_wp2_with fail
                  refine HS3.out.mono ?_
                  rintro e w8 ⟨rfl, q8, os8, hw8⟩
                  obtain ⟨hblk7, hg7, hn7, hcap7, hsz7, hb7⟩ := HB7.out
                  have hms : (z3.mergeSort (fun x y => decide (x ≤ y))).length = 3 := by rw [List.length_mergeSort]; exact HZ3.out
                  have hown8 : w8.ownsRow w.heap.size 3 1 (.slice (some ⟨g7, 0, none⟩) 3 cap7) (z3.mergeSort (fun x y => decide (x ≤ y))).length ((z3.mergeSort (fun x y => decide (x ≤ y))).map (Value.int .i64)) := by
                    rw [hms, hw8]
                    have := ownsRow_sortedG (e := 3) (enc := Value.int .i64) (base := w.heap.size) (d := (z3.mergeSort (fun x y => decide (x ≤ y))).toArray) (n := q8) (os := os8) (k := 3) (by simpa using HZ3.out) (by have := HBB.out.size; omega) hblk7 hn7 hcap7 hsz7
                    simpa using this
                  have hgr8 : w7.grownBy w8 (some g7) := by rw [hw8]; exact grownBy_sortedG _
                  have hb8 : Below w.heap.size w w8 := by
                    have h7 : Below w.heap.size w w7 := HBB.out.trans (hb7.mono HBB.out.size)
                    exact h7.grown hgr8 h7.size (fun j hj => by cases hj; have := HBB.out.size; omega)
                  have HF8 := Lib.hid (And.intro hown8 hb8)
                  clear hown8 hb8 hgr8 hms hw8 hblk7 hg7 hn7 hcap7 hsz7 hb7
                  go_wp2
                  go_ret
                  exact ⟨_, _, rfl, HPI.out, HF8.out.1, HF8.out.2⟩
          · have hall : PlanIs l [] := .inl ⟨rfl, fun lv => by
              rw [HLEN.out]
              by_cases h : idxs l k lv = []
              · rw [h]; decide
              · exact HF.out lv (by rw [List.take_of_length_le (by omega)]; exact HKEY.out lv h)⟩
            have HALL := Lib.hid hall
            clear hall
            go_wp2
            go_ret
            exact ⟨_, [], rfl, HALL.out, World.ownsRow_nil _ _ _ _, HB6.out⟩
end Go.Proofs.YtihidnmpngeohaaGreat
