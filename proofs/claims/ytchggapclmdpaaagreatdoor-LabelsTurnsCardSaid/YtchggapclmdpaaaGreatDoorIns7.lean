/- slices.Insert of one label into a row of the call's own. -/
import Derived.Test.YtchggapclmdpaaaGreatDoorRefInto
import Derived.Shelf.Spec.SlicesInsertGrow
import Derived.Laws.CopyRow
namespace Go.Proofs.YtchggapclmdpaaaGreatDoor
open Go.RowKit Go.Lib

/-- copy of elements of several cells, into a row. -/
theorem run_copy_rowK {P : Program} (w : World) (dT sT ty elem : TypeId) (k g o dLen dCap : Nat) (a : Addr) (sLen sCap : Nat) (cur : Array Value) (t : TypeId) (cs : List Value)
    (hu : P.underlying dT = some (.slice elem)) (hs : (P.info? elem).map (·.size) = some k)
    (hg : w.heap[g]? = some (.cells cur t (0, 0))) (hn : cs.length = Nat.min sLen dLen * k)
    (hsrc : ∀ j v, cs[j]? = some v → w.cell? (a.add j) = some v) (hfit : o + cs.length ≤ cur.size) (h1 : ∀ v ∈ cs, v.oneCell' = true) :
    (Builtin.copy_ #[dT, sT] ty #[.slice (some ⟨g, o, none⟩) dLen dCap, .slice (some a) sLen sCap]).run P w =
      .ok (goInt (Nat.min sLen dLen)) (w.setRow g (cur.toList.take o ++ cs ++ cur.toList.drop (o + cs.length)).toArray) := by
  have hl := run_loadCells_list (P := P) w a cs hsrc
  have hst := run_storeCells_at P g o t cs 0 cur w hg (by simpa using hfit) h1
  cases hq : P.info? elem with
  | none => simp [hq] at hs
  | some i =>
    have hi : i.size = k := by simpa [hq] using hs
    simp [Builtin.copy_, run_underlying hu, Builtin.lenOf, Builtin.firstCells, sizeOf, typeInfo, hq, hi, ← hn, hl, hst]
/-- A label stands at place i. -/
def insL (l : List Lb) (i : Nat) (x : Lb) : List Lb := l.take i ++ x :: l.drop i
theorem overlaps_label (w : World) (vb g o lb cb : Nat) (xs cur : Array Value) (hne : vb ≠ g) (hv : w.heap[vb]? = some (.cells xs 94 (0, 0))) (hg : w.heap[g]? = some (.cells cur 94 (0, 0))) (h0 : cur.size ≠ 0) :
    (callFunc 134 #[.slice (some ⟨vb, 0, none⟩) 1 1, .slice (some ⟨g, o, none⟩) lb cb]).run Tryz.prog w = .ok (.value (.bool false)) w := by
  rw [run_callFunc_extern Tryz.func134 (by kernel_rfl) (by kernel_rfl) (by kernel_rfl) (e := Extern.SlicesOverlaps.overlaps #[22, 22] #[4]) (by kernel_rfl),
    Lib.run_overlaps_apart w 22 4 94 Tryz.underlying22 2 Tryz.sizeOf94 ⟨vb, 0, none⟩ ⟨g, o, none⟩ 1 1 lb cb hne 94 94 xs.size cur.size (by simp [World.shape?, hv]) (by simp [World.shape?, hg]) h0 (by simp [World.frozen?, hv]) (by simp [World.frozen?, hv])]
  rfl
theorem insL_flat (l : List Lb) (i : Nat) (x : Lb) : (insL l i x).flatMap Lb.cells = (l.flatMap Lb.cells).take (i * 2) ++ x.cells ++ (l.flatMap Lb.cells).drop (i * 2) := by
  have h1 : (l.take i).flatMap Lb.cells = (l.flatMap Lb.cells).take (i * 2) := (flatMap_take Lb.len l i).symm
  have h2 : (l.drop i).flatMap Lb.cells = (l.flatMap Lb.cells).drop (i * 2) := by
    have h3 : l.flatMap Lb.cells = (l.take i).flatMap Lb.cells ++ (l.drop i).flatMap Lb.cells := by rw [← List.flatMap_append, List.take_append_drop]
    by_cases hi : i ≤ l.length
    · rw [h3, List.drop_left' (by rw [flatMap_length Lb.len, List.length_take, Nat.min_eq_left hi])]
    · rw [List.drop_eq_nil_of_le (by omega), List.drop_eq_nil_of_le (by rw [flatMap_length Lb.len]; omega)]; rfl
  unfold insL
  rw [List.flatMap_append, List.flatMap_cons, h1, h2, List.append_assoc]
set_option maxHeartbeats 4000000 in
set_option maxRecDepth 100000 in
theorem insert_end (B vb n : Nat) (v : Value) (l : List Lb) (x : Lb) (w : World) (ho : w.ownsRow B 94 2 v n (l.flatMap Lb.cells)) (hv : w.heap[vb]? = some (.cells x.cells.toArray 94 (0, 0))) (hbig : n ≤ 1000000) (hB : B ≤ w.heap.size) :
    Calls Tryz.prog 108 #[v, .int .i64 n, .slice (some ⟨vb, 0, none⟩) 1 1] w fun e w' => ∃ v', e = .returned v' ∧ w'.ownsRow B 94 2 v' (n + 1) ((l ++ [x]).flatMap Lb.cells) ∧ w.grownBy w' v.ownBlock := by
  obtain ⟨i0, hi, hz0, hz1, hz2⟩ := info_parts Tryz.infoLabel
  have hcv : ∀ j u, x.cells[j]? = some u → w.cell? ((⟨vb, 0, none⟩ : Addr).add j) = some u := by
    intro j u h
    rw [show ((⟨vb, 0, none⟩ : Addr).add j) = ⟨vb, j, none⟩ by simp only [Addr.add, Nat.zero_add]; cases j <;> rfl, cell_of_row _ _ _ _ _ _ hv]
    simpa using h
  have h1v : ∀ u ∈ x.cells, u.oneCell' = true := fun u hu => by simp only [Lb.cells, List.mem_cons, List.not_mem_nil, or_false] at hu; rcases hu with rfl | rfl <;> rfl
  have HO := Lib.hid (show _ ∧ _ ∧ _ from ⟨ho, hcv, h1v⟩)
  clear hcv h1v hv
  obtain ⟨A, c, rfl, hnc, hc⟩ := owns_slice ho
  have hA : (A = none ∧ n = 0 ∧ c = 0) ∨ ∃ g, A = some ⟨g, 0, none⟩ := by
    rcases ho.2 with ⟨e, h0⟩ | ⟨g, cap, cur, e, _⟩
    · injection e with e1 e2 e3; exact .inl ⟨e1, e2, e3⟩
    · injection e with e1 e2 e3; exact .inr ⟨g, e1⟩
  have hc' : c ≤ 9223372036854775807 := hc
  clear ho hc
  have hnc' : (n : Int) ≤ (c : Int) := by omega
  rcases hA with ⟨rfl, rfl, rfl⟩ | ⟨g, rfl⟩
  · go_enter Tryz.func108, Tryz.ntmps108
    go_wp2_with (at_builtin; refine wpList_append_own _ rfl _ _ 22 rfl B 94 i0 _ 2 32 Tryz.underlying22 hi hz0 hz1 hz2 rfl (by omega) _ 0 (l.flatMap Lb.cells) rfl HO.out.1 ⟨vb, 0, none⟩ 1 1 x.cells rfl rfl HO.out.2.1 HO.out.2.2 (by unfold maxLen; omega) (by omega) hB ?_)
    intro v' w5 hown5 hg5 _
    have H5 := Lib.hid (show _ ∧ _ from ⟨hown5, hg5⟩)
    clear hown5 hg5
    go_wp2
    go_ret
    exact ⟨_, rfl, by rw [List.flatMap_append]; simpa using H5.out.1, H5.out.2⟩
  · by_cases hcn : c = n
    · subst hcn
      go_enter Tryz.func108, Tryz.ntmps108
      go_wp2_with (at_builtin; refine wpList_append_own _ rfl _ _ 22 rfl B 94 i0 _ 2 32 Tryz.underlying22 hi hz0 hz1 hz2 rfl (by omega) _ _ (l.flatMap Lb.cells) rfl HO.out.1 ⟨vb, 0, none⟩ 1 1 x.cells rfl rfl HO.out.2.1 HO.out.2.2 (by unfold maxLen; omega) (by omega) hB ?_)
      intro v' w5 hown5 hg5 _
      have H5 := Lib.hid (show _ ∧ _ from ⟨hown5, hg5⟩)
      clear hown5 hg5
      go_wp2
      go_ret
      exact ⟨_, rfl, by rw [List.flatMap_append]; simpa using H5.out.1, H5.out.2⟩
    · go_enter Tryz.func108, Tryz.ntmps108
      go_wp2_with (at_builtin; refine wpList_append_own _ rfl _ _ 22 rfl B 94 i0 _ 2 32 Tryz.underlying22 hi hz0 hz1 hz2 rfl (by omega) _ _ (l.flatMap Lb.cells) rfl HO.out.1 ⟨vb, 0, none⟩ 1 1 x.cells rfl rfl HO.out.2.1 HO.out.2.2 (by unfold maxLen; omega) (by omega) hB ?_)
      intro v' w5 hown5 hg5 _
      have H5 := Lib.hid (show _ ∧ _ from ⟨hown5, hg5⟩)
      clear hown5 hg5
      go_wp2
      go_ret
      exact ⟨_, rfl, by rw [List.flatMap_append]; simpa using H5.out.1, H5.out.2⟩
set_option maxHeartbeats 4000000 in
set_option maxRecDepth 100000 in
theorem insert_room (B g vb n cap i : Nat) (cur : Array Value) (l : List Lb) (x : Lb) (w : World) (hBg : B ≤ g) (hg : w.heap[g]? = some (.cells cur 94 (0, 0))) (hcm : cap ≤ maxLen) (hcs : cur.size = cap * 2) (htk : cur.toList.take (n * 2) = l.flatMap Lb.cells) (hl : l.length = n)
    (hv : w.heap[vb]? = some (.cells x.cells.toArray 94 (0, 0))) (hne : vb ≠ g) (hi : i < n) (hroom : n + 1 ≤ cap) (hbig : n ≤ 1000000) :
    Calls Tryz.prog 108 #[.slice (some ⟨g, 0, none⟩) n cap, .int .i64 i, .slice (some ⟨vb, 0, none⟩) 1 1] w fun e w' => ∃ v', e = .returned v' ∧ w'.ownsRow B 94 2 v' (n + 1) ((insL l i x).flatMap Lb.cells) ∧ w.grownBy w' (some g) := by
  have mixed : Tryz.prog.follows .mixedOrders = true := by kernel_rfl
  have hcm' : cap ≤ 9223372036854775807 := hcm
  obtain ⟨cs, hcsd⟩ : ∃ cs, l.flatMap Lb.cells = cs := ⟨_, rfl⟩
  have hcl : cs.length = n * 2 := by rw [← hcsd, flatMap_length Lb.len, hl]
  rw [hcsd] at htk
  have h1c : ∀ u ∈ cs, u.oneCell' = true := fun u hu => by
    rw [← hcsd] at hu
    obtain ⟨m, _, h⟩ := List.mem_flatMap.1 hu
    simp only [Lb.cells, List.mem_cons, List.not_mem_nil, or_false] at h
    rcases h with rfl | rfl <;> rfl
  have h1v : ∀ u ∈ x.cells, u.oneCell' = true := fun u hu => by simp only [Lb.cells, List.mem_cons, List.not_mem_nil, or_false] at hu; rcases hu with rfl | rfl <;> rfl
  have hsz : (Tryz.prog.info? 94).map (·.size) = some 2 := by
    obtain ⟨i0, hi, hz0, hz1, hz2⟩ := info_parts Tryz.infoLabel
    rw [hi]; simp [hz1]
  have hcell : ∀ (W : World) (c' : Array Value), W.heap[g]? = some (.cells c' 94 (0, 0)) → ∀ o j, W.cell? ((⟨g, o, none⟩ : Addr).add j) = c'[o + j]? := fun W c' h o j => by
    rw [show ((⟨g, o, none⟩ : Addr).add j) = ⟨g, o + j, none⟩ by simp only [Addr.add]; cases j <;> rfl, cell_of_row _ _ _ _ _ _ h]
  have hcv : ∀ j u, x.cells[j]? = some u → ∀ W : World, W.heap[vb]? = w.heap[vb]? → W.cell? ((⟨vb, 0, none⟩ : Addr).add j) = some u := by
    intro j u h W hW
    rw [show ((⟨vb, 0, none⟩ : Addr).add j) = ⟨vb, j, none⟩ by simp only [Addr.add, Nat.zero_add]; cases j <;> rfl, cell_of_row _ _ _ _ _ _ (hW.trans hv)]
    simpa using h
  have hdl : (cs.drop (i * 2)).length = (n - i) * 2 := by rw [List.length_drop, hcl, Nat.sub_mul]
  obtain ⟨cur1, hcur1⟩ : ∃ cur1, (cur.toList.take ((i + 1) * 2) ++ cs.drop (i * 2) ++ cur.toList.drop ((i + 1) * 2 + (cs.drop (i * 2)).length)).toArray = cur1 := ⟨_, rfl⟩
  have hs1 : cur1.size = cap * 2 := by
    rw [← hcur1]
    simp only [List.size_toArray, List.length_append, List.length_take, List.length_drop, Array.length_toList, hcs, hdl, hcl]
    omega
  have hcpA : ∀ ty dc sc, (Builtin.copy_ #[22, 22] ty #[.slice (some ⟨g, (i + 1) * 2, none⟩) (n - i) dc, .slice (some ⟨g, i * 2, none⟩) (n + 1 - i) sc]).run Tryz.prog w.drew = .ok (goInt (Nat.min (n + 1 - i) (n - i))) (w.drew.setRow g cur1) := fun ty dc sc => by
    rw [← hcur1]
    refine run_copy_rowK w.drew _ _ ty 94 2 g ((i + 1) * 2) _ dc ⟨g, i * 2, none⟩ _ sc cur _ (cs.drop (i * 2)) Tryz.underlying22 hsz hg ?_ (fun j v hj => ?_) ?_ (fun v hv => h1c v (List.mem_of_mem_drop hv))
    · rw [hdl]; simp only [Nat.min_def]; split <;> omega
    · rw [hcell _ _ (show w.drew.heap[g]? = _ from hg)]
      rw [List.getElem?_drop, ← htk] at hj
      rw [List.getElem?_take] at hj
      split at hj
      · rw [← Array.getElem?_toList]; exact hj
      · cases hj
    · rw [hdl, hcs]; omega
  obtain ⟨cur2, hcur2⟩ : ∃ cur2, (cur1.toList.take (i * 2) ++ x.cells ++ cur1.toList.drop (i * 2 + x.cells.length)).toArray = cur2 := ⟨_, rfl⟩
  have hxl : x.cells.length = 2 := Lb.len x
  have hW1 := setRow_heap w.drew g cur cur1 94 (0, 0) hg
  have hcpB : ∀ W : World, W.heap = (w.drew.setRow g cur1).heap → ∀ ty dc, (Builtin.copy_ #[22, 22] ty #[.slice (some ⟨g, i * 2, none⟩) (n + 1 - i) dc, .slice (some ⟨vb, 0, none⟩) 1 1]).run Tryz.prog W = .ok (goInt (Nat.min 1 (n + 1 - i))) (W.setRow g cur2) := fun W hWh ty dc => by
    rw [← hcur2]
    refine run_copy_rowK W _ _ ty 94 2 g (i * 2) _ dc ⟨vb, 0, none⟩ 1 1 cur1 _ x.cells Tryz.underlying22 hsz (by rw [hWh]; exact hW1) ?_ (fun j v hj => hcv j v hj W ?_) ?_ h1v
    · rw [hxl]; simp only [Nat.min_def]; split <;> omega
    · rw [hWh]; exact setRow_other w.drew g vb _ hne
    · rw [hxl, hs1]; omega
  have hov : ∀ lb cb, (callFunc 134 #[.slice (some ⟨vb, 0, none⟩) 1 1, .slice (some ⟨g, (i + 1) * 2, none⟩) lb cb]).run Tryz.prog w = .ok (.value (.bool false)) w := fun lb cb => overlaps_label w vb g _ lb cb x.cells.toArray cur hne hv hg (by omega)
  have hend : ∀ W : World, W.heap[g]? = some (.cells cur2 94 (0, 0)) → W.ownsRow B 94 2 (.slice (some ⟨g, 0, none⟩) (n + 1) cap) (n + 1) ((insL l i x).flatMap Lb.cells) := fun W hW => by
    refine ⟨by rw [flatMap_length Lb.len]; unfold insL; rw [List.length_append, List.length_cons, List.length_take, List.length_drop, hl]; congr 1; omega, .inr ⟨g, cap, cur2, rfl, hBg, hW, hroom, hcm, ?_, ?_⟩⟩
    · rw [← hcur2]
      simp only [List.size_toArray, List.length_append, List.length_take, List.length_drop, Array.length_toList, hs1, hxl]
      omega
    · rw [insL_flat, hcsd, ← hcur2]
      have e1 : cur1.toList.take (i * 2) = cs.take (i * 2) := by
        rw [← hcur1, List.append_assoc, List.take_append_of_le_length (by rw [List.length_take, Array.length_toList, hcs]; omega), List.take_take, Nat.min_eq_left (by omega), ← htk, List.take_take, Nat.min_eq_left (by omega)]
      have e2 : (cur1.toList.drop (i * 2 + x.cells.length)).take ((n - i) * 2) = cs.drop (i * 2) := by
        rw [← hcur1, hxl, List.append_assoc, show i * 2 + 2 = (i + 1) * 2 by omega, List.drop_left' (by rw [List.length_take, Array.length_toList, hcs]; omega), List.take_append_of_le_length (by omega), List.take_of_length_le (by omega)]
      rw [e1, List.take_append, show (cs.take (i * 2) ++ x.cells).length = i * 2 + 2 by rw [List.length_append, List.length_take, hcl, hxl]; omega, List.take_of_length_le (by rw [List.length_append, List.length_take, hcl, hxl]; omega), show (n + 1) * 2 - (i * 2 + 2) = (n - i) * 2 by omega, e2]
  have hz2 : ¬ ((i : Int) = (n : Int)) := by omega
  have hz3 : ¬ ((cap : Int) < (n : Int) + 1) := by omega
  have hw1 : IntKind.i64.wrap ((i : Int) + 1) = (i : Int) + 1 := by rw [IntKind.wrap_i64]; omega
  have hb1 : (0 : Int) ≤ (i : Int) + 1 := by omega
  have hin : i ≤ n := by omega
  have htn : ((i : Int) + 1).toNat = i + 1 := by omega
  have hb2 : ¬ (cap = i + 1) := by omega
  have hb3 : (i : Int) ≤ (n : Int) + 1 := by omega
  have hb4 : ¬ (cap = i) := by omega
  have HE := Lib.hid (show _ ∧ _ ∧ _ from ⟨hend, hW1, hcpB⟩)
  clear hend hW1 hcpB hcur1 hcur2 hdl hcell hcv hcsd hcl htk h1c h1v hsz hxl hs1
  go_enter Tryz.func108, Tryz.ntmps108
  go_wp2_with (simp only [hov])
  go_region_law_o (refine step_copy_runI rfl _ _ 22 22 rfl (.slice (some ⟨g, (i + 1) * 2, none⟩) (n - i) (cap - (i + 1))) (.slice (some ⟨g, i * 2, none⟩) (n + 1 - i) (cap - i)) (by simp [Act.eval, Act.put]) (by simp [Act.eval, Act.put]) (hcpA 3 (cap - (i + 1)) (cap - i)) ?_)
  go_wp2_with (refine wpList_copy_runI _ rfl _ _ 22 22 rfl _ _ rfl rfl (HE.out.2.2 (w.drew.setRow g cur1) rfl 3 (cap - i)) ?_)
  go_ret
  exact ⟨_, rfl, HE.out.1 _ (setRow_heap _ g _ _ _ _ HE.out.2.1), grownBy_trans (w := w.drew.setRow g cur1) ⟨rfl, rfl, rfl, by simp, fun k _ hk => setRow_other w.drew g k _ (fun e => hk (by rw [e]))⟩ ⟨rfl, rfl, rfl, by simp, fun k _ hk => setRow_other _ g k _ (fun e => hk (by rw [e]))⟩⟩
set_option maxHeartbeats 4000000 in
set_option maxRecDepth 100000 in
theorem insert_grow (B g vb n cap i : Nat) (cur : Array Value) (l : List Lb) (x : Lb) (w : World) (hg : w.heap[g]? = some (.cells cur 94 (0, 0))) (hcs : cur.size = cap * 2) (htk : cur.toList.take (n * 2) = l.flatMap Lb.cells) (hl : l.length = n)
    (hv : w.heap[vb]? = some (.cells x.cells.toArray 94 (0, 0))) (hi : i < n) (hnc : n ≤ cap) (hroom : cap < n + 1) (hbig : n ≤ 1000000) (hB : B ≤ w.heap.size) :
    Calls Tryz.prog 108 #[.slice (some ⟨g, 0, none⟩) n cap, .int .i64 i, .slice (some ⟨vb, 0, none⟩) 1 1] w fun e w' => ∃ v', e = .returned v' ∧ w'.ownsRow B 94 2 v' (n + 1) ((insL l i x).flatMap Lb.cells) ∧ w.grownBy w' (some g) := by
  have mixed : Tryz.prog.follows .mixedOrders = true := by kernel_rfl
  obtain ⟨cs, hcsd⟩ : ∃ cs, l.flatMap Lb.cells = cs := ⟨_, rfl⟩
  have hcl : cs.length = n * 2 := by rw [← hcsd, flatMap_length Lb.len, hl]
  rw [hcsd] at htk
  have h1c : ∀ u ∈ cs, u.oneCell' = true := fun u hu => by
    rw [← hcsd] at hu
    obtain ⟨m, _, h⟩ := List.mem_flatMap.1 hu
    simp only [Lb.cells, List.mem_cons, List.not_mem_nil, or_false] at h
    rcases h with rfl | rfl <;> rfl
  have h1v : ∀ u ∈ x.cells, u.oneCell' = true := fun u hu => by simp only [Lb.cells, List.mem_cons, List.not_mem_nil, or_false] at hu; rcases hu with rfl | rfl <;> rfl
  obtain ⟨i0, hi0, hz0, hz1, hz2⟩ := info_parts Tryz.infoLabel
  have hsz : (Tryz.prog.info? 94).map (·.size) = some 2 := by rw [hi0]; simp [hz1]
  have hgw : g < w.heap.size := (Array.getElem?_eq_some_iff.1 hg).1
  have hvw : vb < w.heap.size := (Array.getElem?_eq_some_iff.1 hv).1
  have hcell : ∀ (W : World) (b : Nat) (c' : Array Value), W.heap[b]? = some (.cells c' 94 (0, 0)) → ∀ o j, W.cell? ((⟨b, o, none⟩ : Addr).add j) = c'[o + j]? := fun W b c' h o j => by
    rw [show ((⟨b, o, none⟩ : Addr).add j) = ⟨b, o + j, none⟩ by simp only [Addr.add]; cases j <;> rfl, cell_of_row _ _ _ _ _ _ h]
  have hdl : (cs.drop (i * 2)).length = (n - i) * 2 := by rw [List.length_drop, hcl, Nat.sub_mul]
  have hxl : x.cells.length = 2 := Lb.len x
  have hold : (Builtin.firstCells i0.size i (.slice (some ⟨g, 0, none⟩) i cap)).run Tryz.prog w.drew = .ok (cs.take (i * 2)).toArray w.drew := by
    rw [hz1]
    refine run_firstCells_some w.drew 2 i ⟨g, 0, none⟩ i cap (cs.take (i * 2)) (by rw [List.length_take, hcl]; omega) (fun j v hj => ?_)
    rw [hcell w.drew g cur hg, Nat.zero_add]
    rw [List.getElem?_take] at hj
    split at hj
    · rw [← htk, List.getElem?_take] at hj
      split at hj
      · rw [← Array.getElem?_toList]; exact hj
      · cases hj
    · cases hj
  obtain ⟨z, hz⟩ : ∃ z, i0.zero = some z := ⟨_, hz0⟩
  have hzz : z.cells.size = 2 := by rw [hz0] at hz; rw [← Option.some.inj hz]; rfl
  have hik : i + (n + 1 - i) = n + 1 := by omega
  have hkk : (n : Int) + 1 - (i : Int) = ((n + 1 - i : Nat) : Int) := by omega
  obtain ⟨G, hG⟩ : ∃ G, grownCap w (n + 1) cap 94 = G := ⟨_, rfl⟩
  have hGn : n + 1 ≤ G := by rw [← hG]; exact grownCap_ge w _ _ _
  have hGm : G ≤ maxLen := by rw [← hG]; exact grownCap_le_maxLen w (n + 1) cap _ (by unfold maxLen; omega)
  have hG63 : G ≤ 9223372036854775807 := hGm
  obtain ⟨ROW, hROW⟩ : ∃ ROW : Array Value, (cs.take (i * 2)).toArray ++ Builtin.zeroCells z.cells (n + 1 - i) ++ Builtin.zeroCells z.cells (G - (n + 1)) = ROW := ⟨_, rfl⟩
  have hrz : ∀ ty, (Builtin.append_ #[22, 3] ty #[.slice (some ⟨g, 0, none⟩) i cap, .int .i64 ((n : Int) + 1 - (i : Int))]).run Tryz.prog w = .ok (.slice (some ⟨w.heap.size, 0, none⟩) (n + 1) G) (w.drew.alloc (.cells ROW 94)) := fun ty => by
    have h := Lib.run_append_grow_zeros w 22 3 ty 94 i0 z .i64 .i64 Tryz.underlying22 Tryz.underlying3 hi0 hz (some ⟨g, 0, none⟩) i cap (cs.take (i * 2)) hold (n + 1 - i) (by omega) (by omega) (by omega) (by omega) (by rw [hz2]; omega) (by rw [hz2, hik]; exact growslice_fits hroom (by omega))
    rw [hik, hG, hROW] at h
    rw [hkk]
    exact h
  have hRs : ROW.size = G * 2 := by
    rw [← hROW]
    simp only [Array.size_append, List.size_toArray, List.length_take, hcl, size_zeroCells, hzz]
    omega
  have hRt : ROW.toList.take (i * 2) = cs.take (i * 2) := by
    rw [← hROW]
    simp only [Array.toList_append]
    rw [List.append_assoc, List.take_append_of_le_length (by rw [List.length_take, hcl]; omega), List.take_take, Nat.min_self]
  have hW0 : (w.drew.alloc (.cells ROW 94)).heap[w.heap.size]? = some (.cells ROW 94 (0, 0)) := heap_alloc_new w.drew _
  have hW0v : (w.drew.alloc (.cells ROW 94)).heap[vb]? = some (.cells x.cells.toArray 94 (0, 0)) := (heap_alloc_old w.drew _ hvw).trans hv
  have hW0g : (w.drew.alloc (.cells ROW 94)).heap[g]? = some (.cells cur 94 (0, 0)) := (heap_alloc_old w.drew _ hgw).trans hg
  have hW0b : w.grownBy (w.drew.alloc (.cells ROW 94)) (some g) := ⟨rfl, rfl, rfl, by simp, fun k hk _ => heap_alloc_old w.drew _ hk⟩
  have hsN : (w.drew.alloc (.cells ROW 94)).heap.size = w.heap.size + 1 := by simp
  obtain ⟨W0, hW0e⟩ : ∃ W0, w.drew.alloc (.cells ROW 94) = W0 := ⟨_, rfl⟩
  rw [hW0e] at hrz hW0 hW0v hW0g hW0b hsN
  clear hROW hG hW0e
  obtain ⟨r1, hr1⟩ : ∃ r1, (ROW.toList.take (i * 2) ++ x.cells ++ ROW.toList.drop (i * 2 + x.cells.length)).toArray = r1 := ⟨_, rfl⟩
  have hr1s : r1.size = G * 2 := by
    rw [← hr1]
    simp only [List.size_toArray, List.length_append, List.length_take, List.length_drop, Array.length_toList, hRs, hxl]
    omega
  have hcpA : ∀ ty dc, (Builtin.copy_ #[22, 22] ty #[.slice (some ⟨w.heap.size, i * 2, none⟩) (n + 1 - i) dc, .slice (some ⟨vb, 0, none⟩) 1 1]).run Tryz.prog W0 = .ok (goInt (Nat.min 1 (n + 1 - i))) (W0.setRow w.heap.size r1) := fun ty dc => by
    rw [← hr1]
    refine run_copy_rowK W0 _ _ ty 94 2 w.heap.size (i * 2) _ dc ⟨vb, 0, none⟩ 1 1 ROW _ x.cells Tryz.underlying22 hsz hW0 ?_ (fun j v hj => ?_) ?_ h1v
    · rw [hxl]; simp only [Nat.min_def]; split <;> omega
    · rw [hcell W0 vb _ hW0v, Nat.zero_add]; simpa using hj
    · rw [hxl, hRs]; omega
  have hW1 := setRow_heap W0 w.heap.size ROW r1 94 (0, 0) hW0
  have hW1g : (W0.setRow w.heap.size r1).heap[g]? = some (.cells cur 94 (0, 0)) := (setRow_other W0 w.heap.size g r1 (by omega)).trans hW0g
  obtain ⟨r2, hr2⟩ : ∃ r2, (r1.toList.take ((i + 1) * 2) ++ cs.drop (i * 2) ++ r1.toList.drop ((i + 1) * 2 + (cs.drop (i * 2)).length)).toArray = r2 := ⟨_, rfl⟩
  have hcpB : ∀ ty dc sc, (Builtin.copy_ #[22, 22] ty #[.slice (some ⟨w.heap.size, (i + 1) * 2, none⟩) (n - i) dc, .slice (some ⟨g, i * 2, none⟩) (n - i) sc]).run Tryz.prog (W0.setRow w.heap.size r1).drew = .ok (goInt (Nat.min (n - i) (n - i))) ((W0.setRow w.heap.size r1).drew.setRow w.heap.size r2) := fun ty dc sc => by
    rw [← hr2]
    refine run_copy_rowK (W0.setRow w.heap.size r1).drew _ _ ty 94 2 w.heap.size ((i + 1) * 2) _ dc ⟨g, i * 2, none⟩ _ sc r1 _ (cs.drop (i * 2)) Tryz.underlying22 hsz hW1 ?_ (fun j v hj => ?_) ?_ (fun v hv => h1c v (List.mem_of_mem_drop hv))
    · rw [hdl, show Nat.min (n - i) (n - i) = n - i from Nat.min_self _]
    · rw [hcell (W0.setRow w.heap.size r1).drew g cur hW1g]
      rw [List.getElem?_drop, ← htk, List.getElem?_take] at hj
      split at hj
      · rw [← Array.getElem?_toList]; exact hj
      · cases hj
    · rw [hdl, hr1s]; omega
  have hend : ∀ W : World, W.heap[w.heap.size]? = some (.cells r2 94 (0, 0)) → W.ownsRow B 94 2 (.slice (some ⟨w.heap.size, 0, none⟩) (n + 1) G) (n + 1) ((insL l i x).flatMap Lb.cells) := fun W hW => by
    refine ⟨by rw [flatMap_length Lb.len]; unfold insL; rw [List.length_append, List.length_cons, List.length_take, List.length_drop, hl]; congr 1; omega, .inr ⟨w.heap.size, G, r2, rfl, hB, hW, hGn, hGm, ?_, ?_⟩⟩
    · rw [← hr2]
      simp only [List.size_toArray, List.length_append, List.length_take, List.length_drop, Array.length_toList, hr1s, hcl]
      omega
    · rw [insL_flat, hcsd, ← hr2]
      have e1 : r1.toList.take ((i + 1) * 2) = cs.take (i * 2) ++ x.cells := by
        rw [← hr1, hRt]
        simp only
        rw [List.take_append_of_le_length (by rw [List.length_append, List.length_take, hcl, hxl]; omega), List.take_of_length_le (by rw [List.length_append, List.length_take, hcl, hxl]; omega)]
      simp only
      rw [e1, List.take_append_of_le_length (by rw [List.length_append, List.length_append, List.length_take, hcl, hxl, hdl]; omega), List.take_of_length_le (by rw [List.length_append, List.length_append, List.length_take, hcl, hxl, hdl]; omega)]
  have hgr : w.grownBy ((W0.setRow w.heap.size r1).drew.setRow w.heap.size r2) (some g) :=
    ⟨hW0b.os, hW0b.tape, hW0b.output, by simpa using hW0b.size, fun k hk hne => (setRow_other _ w.heap.size k _ (by omega)).trans ((setRow_other W0 w.heap.size k _ (by omega)).trans (hW0b.block k hk hne))⟩
  have hW2 := setRow_heap (W0.setRow w.heap.size r1).drew w.heap.size r1 r2 94 (0, 0) hW1
  have hz2' : ¬ ((i : Int) = (n : Int)) := by omega
  have hz3 : (cap : Int) < (n : Int) + 1 := by omega
  have hw1 : IntKind.i64.wrap ((i : Int) + 1) = (i : Int) + 1 := by rw [IntKind.wrap_i64]; omega
  have hb1 : (0 : Int) ≤ (i : Int) + 1 := by omega
  have hin : i ≤ n := by omega
  have htn : ((i : Int) + 1).toNat = i + 1 := by omega
  have hb2 : ¬ (G = i + 1) := by omega
  have hb5 : ¬ (G = i) := by omega
  have hb3 : (i : Int) ≤ (n : Int) + 1 := by omega
  have hb4 : ¬ (cap = i) := by omega
  have hb6 : cap ≤ 9223372036854775807 := by omega
  have HE := Lib.hid (show _ ∧ _ ∧ _ from ⟨hend _ hW2, hgr, hcpA⟩)
  have HR := Lib.hid hrz
  clear hend hW1 hW2 hgr hcpA hrz hr1 hr2 hdl hcell hcsd hcl htk h1c h1v hsz hxl hr1s hRs hRt hold hW0 hW0v hW0g hW0b hW1g hi0 hz0 hz1 hz2 hz hzz hkk hik
  go_enter Tryz.func108, Tryz.ntmps108
  go_wp2_with (first
    | (at_builtin; refine Lib.wpList_append_run _ rfl _ _ _ _ rfl _ _ rfl rfl _ _ (HR.out _) ?_)
    | (refine wpList_copy_runI _ rfl _ _ 22 22 rfl _ _ rfl rfl (HE.out.2.2 3 (G - i)) ?_))
  go_region_law_o (refine step_copy_runI rfl _ _ 22 22 rfl (.slice (some ⟨w.heap.size, (i + 1) * 2, none⟩) (n - i) (G - (i + 1))) (.slice (some ⟨g, i * 2, none⟩) (n - i) (cap - i)) (by simp [Act.eval, Act.put]) (by simp [Act.eval, Act.put]) (hcpB 3 (G - (i + 1)) (cap - i)) ?_)
  go_wp2
  go_ret
  exact ⟨_, rfl, HE.out.1, HE.out.2.1⟩
/-- slices.Insert of one label. -/
theorem insert_any (B vb n i : Nat) (v : Value) (l : List Lb) (x : Lb) (w : World) (ho : w.ownsRow B 94 2 v n (l.flatMap Lb.cells)) (hv : w.heap[vb]? = some (.cells x.cells.toArray 94 (0, 0))) (hne : v.ownBlock ≠ some vb) (hi : i ≤ n) (hbig : n ≤ 1000000) (hB : B ≤ w.heap.size) :
    Calls Tryz.prog 108 #[v, .int .i64 i, .slice (some ⟨vb, 0, none⟩) 1 1] w fun e w' => ∃ v', e = .returned v' ∧ w'.ownsRow B 94 2 v' (n + 1) ((insL l i x).flatMap Lb.cells) ∧ w.grownBy w' v.ownBlock := by
  have hl := owns_len ho Lb.len (by omega)
  by_cases hin : i = n
  · subst hin
    have he : insL l i x = l ++ [x] := by unfold insL; rw [List.take_of_length_le (by omega), List.drop_eq_nil_of_le (by omega)]
    rw [he]
    exact insert_end B vb i v l x w ho hv hbig hB
  · rcases ho.2 with ⟨_, h0⟩ | ⟨g, cap, cur, rfl, hBg, hg, hnc, hcm, hcs, htk⟩
    · omega
    · by_cases hroom : n + 1 ≤ cap
      · exact insert_room B g vb n cap i cur l x w hBg hg hcm hcs htk hl hv (fun e => hne (by rw [e]; rfl)) (by omega) hroom hbig
      · exact insert_grow B g vb n cap i cur l x w hg hcs htk hl hv (by omega) hnc (by omega) hbig hB
end Go.Proofs.YtchggapclmdpaaaGreatDoor
