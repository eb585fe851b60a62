/- Rows of elements of two cells; clear; what a predicate handed to the library has to do. slices.Clone at rows of Intervals. Written off a master by mk2.py. slices.IndexFunc and slices.DeleteFunc at rows of Intervals, for any predicate that lays blocks of its own alone. Written off a master by mk2.py. -/
import Derived.Test.YtihidnmpngeohaaGreatG00
import Derived.Test.YtihidnmpngeohaaGreatRowset
import Derived.Laws.CopyOwn
import Derived.Deep.DeepCutAuto
import Derived.OwnWalk
import Derived.WalkLawsBesides
namespace Go.Proofs.YtihidnmpngeohaaGreat
open Go.RowKit Go.Lib

theorem cells_at (W : World) {b : Nat} (hb : W.heap.size = b) (cs : List Value) (t : TypeId) : ∀ j u, cs[j]? = some u → (W.alloc (.cells cs.toArray t)).cell? ((⟨b, 0, none⟩ : Addr).add j) = some u := by
  subst hb
  exact cells_newL W cs t
section
variable {α : Type} {enc : α → List Value}
theorem flatMap_set2 (hsz : ∀ x, (enc x).length = 2) (x : α) (a b : Value) (hx : enc x = [a, b]) : ∀ (l : List α) (i : Nat), i < l.length → ((l.flatMap enc).set (i * 2) a).set (i * 2 + 1) b = (l.set i x).flatMap enc
  | [], i, h => by simp at h
  | y :: l, 0, _ => by
    have hy := hsz y
    match hq : enc y, hy with
    | [c, d], _ => simp [hq, hx]
  | y :: l, i + 1, h => by
    have ih := flatMap_set2 hsz x a b hx l i (by simpa using h)
    have hy := hsz y
    match hq : enc y, hy with
    | [c, d], _ =>
      simp only [List.flatMap_cons, hq, List.set_cons_succ, List.cons_append, List.nil_append]
      rw [show (i + 1) * 2 = i * 2 + 1 + 1 by omega]
      simp only [List.set_cons_succ]
      rw [ih]
theorem flatMap_take {n : Nat} (hsz : ∀ x, (enc x).length = n) : ∀ (l : List α) (k : Nat), (l.flatMap enc).take (k * n) = (l.take k).flatMap enc
  | [], k => by simp
  | y :: l, 0 => by simp
  | y :: l, k + 1 => by
    rw [List.flatMap_cons, List.take_succ_cons, List.flatMap_cons, ← flatMap_take hsz l k, Nat.succ_mul, Nat.add_comm, List.take_append, hsz, List.take_of_length_le (by rw [hsz]; omega), Nat.add_sub_cancel_left]
variable {w w' : World} {B n cap g : Nat} {e : TypeId} {l : List α}
/-- One element is stored. -/
theorem owns_set2 (h : w.ownsRow B e 2 (.slice (some ⟨g, 0, none⟩) n cap) n (l.flatMap enc)) (hsz : ∀ x, (enc x).length = 2) {i : Nat} (hi : i < l.length) {x : α} {a b : Value} (hx : enc x = [a, b]) :
    ((w.setCell ⟨g, i * 2, none⟩ a).setCell ⟨g, i * 2 + 1, none⟩ b).ownsRow B e 2 (.slice (some ⟨g, 0, none⟩) n cap) n ((l.set i x).flatMap enc) ∧ w.grownBy ((w.setCell ⟨g, i * 2, none⟩ a).setCell ⟨g, i * 2 + 1, none⟩ b) (some g) := by
  obtain ⟨h1, h2⟩ := h.stored (i * 2) a
  obtain ⟨h3, h4⟩ := h1.stored (i * 2 + 1) b
  rw [flatMap_set2 hsz x a b hx l i hi] at h3
  exact ⟨h3, grownBy_trans h2 h4⟩
/-- An owned row's element. -/
theorem owns_at {size : Nat} (h : w.ownsRow B e size (.slice (some ⟨g, 0, none⟩) n cap) n (l.flatMap enc)) (hsz : ∀ x, (enc x).length = size) {i : Nat} {x : α} (hx : l[i]? = some x) {j : Nat} {u : Value} (hu : (enc x)[j]? = some u) : w.cell? ⟨g, i * size + j, none⟩ = some u :=
  owns_cell h rfl (flatMap_at hsz l i x hx j u hu)
theorem owns_len {size : Nat} {v : Value} (h : w.ownsRow B e size v n (l.flatMap enc)) (hsz : ∀ x, (enc x).length = size) (h0 : 0 < size) : l.length = n := by
  have := h.1
  rw [flatMap_length hsz] at this
  exact Nat.eq_of_mul_eq_mul_right h0 this
/-- The row's beginning, by itself. -/
theorem owns_take {size : Nat} {xs : List Value} (h : w.ownsRow B e size (.slice (some ⟨g, 0, none⟩) n cap) n xs) {i : Nat} (hi : i ≤ n) : w.ownsRow B e size (.slice (some ⟨g, 0, none⟩) i cap) i (xs.take (i * size)) := by
  refine ⟨by rw [List.length_take, h.1]; exact Nat.min_eq_left (Nat.mul_le_mul_right _ hi), ?_⟩
  rcases h.2 with ⟨h', _⟩ | ⟨g', cap', cur, h', hb, hg, hnc, hcm, hcs, htake⟩
  · cases h'
  · cases h'
    refine .inr ⟨g, cap, cur, rfl, hb, hg, by omega, hcm, hcs, ?_⟩
    rw [← htake, List.take_take, Nat.min_eq_left (Nat.mul_le_mul_right _ hi)]
theorem owns_some' {size : Nat} {A : Option Addr} {c : Nat} {xs : List Value} (h : w.ownsRow B e size (.slice A n c) n xs) (hn : 0 < n) : ∃ g, A = some ⟨g, 0, none⟩ ∧ g < w.heap.size := by
  obtain ⟨g, cap, hv, _, hlt⟩ := h.form hn
  injection hv with hA _ _
  exact ⟨g, hA, hlt⟩
theorem owns_cap {size : Nat} {A : Option Addr} {c : Nat} {xs : List Value} (h : w.ownsRow B e size (.slice A n c) n xs) : c ≤ maxLen ∧ n ≤ c := by
  obtain ⟨A', c', e, h1, h2⟩ := owns_slice h
  injection e with _ _ e3
  omega
theorem owns_base {B' size : Nat} {v : Value} {xs : List Value} (h : w.ownsRow B e size v n xs) (hB : B' ≤ B) : w.ownsRow B' e size v n xs := by
  refine ⟨h.1, ?_⟩
  rcases h.2 with h2 | ⟨g, cap, cur, hv, hb, r⟩
  · exact .inl h2
  · exact .inr ⟨g, cap, cur, hv, by omega, r⟩
/-- clear of the row's end. -/
theorem run_clear_own {P : Program} {size : Nat} {xs : List Value} (h : w.ownsRow B e size (.slice (some ⟨g, 0, none⟩) n cap) n xs) {i c : Nat} (hi : i ≤ n) (t ty : TypeId) (ht : P.underlying t = some (.slice e)) (z : Value) (hz : ∀ W, (zeroValue e).run P W = .ok z W) (hzs : z.cells.size = size) (hz1 : ∀ u ∈ z.cells.toList, u.oneCell' = true) (h0 : 0 < size) :
    ∃ w', (Builtin.clear_ #[t] ty #[.slice (some ⟨g, i * size, none⟩) (n - i) c]).run P w = .ok (.tuple #[]) w' ∧ w'.ownsRow B e size (.slice (some ⟨g, 0, none⟩) i cap) i (xs.take (i * size)) ∧ w.grownBy w' (some g) := by
  by_cases hni : n - i = 0
  · rw [hni]
    exact ⟨w, by simp [Builtin.clear_, run_underlying ht], owns_take h hi, grownBy_refl _ _⟩
  · rcases h.2 with ⟨h', _⟩ | ⟨g', cap', cur, h', hb, hg, hnc, hcm, hcs, htake⟩
    · cases h'
    · cases h'
      have hlen : (Builtin.zeroCells z.cells (n - i)).toList.length = (n - i) * size := by rw [Array.length_toList, size_zeroCells, hzs]
      have hfit : i * size + (n - i) * size ≤ cur.size := by rw [← Nat.add_mul, hcs]; exact Nat.mul_le_mul_right _ (by omega)
      have h1 : ∀ u ∈ (Builtin.zeroCells z.cells (n - i)).toList, u.oneCell' = true := by
        intro u hu
        rw [Array.mem_toList_iff] at hu
        simp only [Builtin.zeroCells, Array.mem_map] at hu
        obtain ⟨k, _, rfl⟩ := hu
        have hk : k % z.cells.size < z.cells.size := Nat.mod_lt _ (by omega)
        rw [getElem!_pos z.cells _ hk]
        exact hz1 _ (by simp)
      have hst := run_storeCells_at P g (i * size) e (Builtin.zeroCells z.cells (n - i)).toList 0 cur w hg (by rw [hlen]; omega) h1
      simp only [Nat.add_zero] at hst
      obtain ⟨m, hm⟩ : ∃ m, n - i = m + 1 := ⟨n - i - 1, by omega⟩
      refine ⟨w.setRow g (cur.toList.take (i * size) ++ (Builtin.zeroCells z.cells (n - i)).toList ++ cur.toList.drop (i * size + (Builtin.zeroCells z.cells (n - i)).toList.length)).toArray, ?_, ?_, ?_⟩
      · rw [hm] at hst ⊢
        simp [Builtin.clear_, run_underlying ht, hz, hst]
      · refine ⟨by rw [List.length_take, h.1]; exact Nat.min_eq_left (Nat.mul_le_mul_right _ hi), .inr ⟨g, cap, _, rfl, hb, setRow_heap w g cur _ e _ hg, by omega, hcm, ?_, ?_⟩⟩
        · simp only [List.size_toArray, List.length_append, List.length_take, List.length_drop, Array.length_toList]
          rw [Array.length_toList] at hlen
          omega
        · have hil : i * size ≤ cur.size := by rw [hcs]; exact Nat.mul_le_mul_right _ (by omega)
          rw [← htake, List.take_take, Nat.min_eq_left (Nat.mul_le_mul_right _ hi), List.append_assoc, List.take_append_of_le_length (by rw [List.length_take, Array.length_toList]; omega), List.take_take, Nat.min_self]
      · exact ⟨rfl, rfl, rfl, by simp, fun k _ hk => setRow_other w g k _ (fun e => hk (by rw [e]))⟩
end
end Go.Proofs.YtihidnmpngeohaaGreat
namespace Go.Proofs.YtihidnmpngeohaaGreat
open Go.RowKit Go.Lib

/-- An element of two numbers, as the program has it. -/
def encI (x : Int × Int) : List Value := [.int .i64 x.1, .int .i64 x.2]
theorem encI_len (x : Int × Int) : (encI x).length = 2 := rfl
theorem Tryz.infoInterval : (Tryz.prog.info? 25).map (fun i => (i.zero, i.size, i.bytes)) = some (some (.agg #[.int .i64 0, .int .i64 0]), 2, 16) := by kernel_rfl
theorem oneInterval (l : List (Int × Int)) : ∀ u ∈ l.flatMap encI, u.oneCell' = true := by
  intro u hu
  obtain ⟨m, _, h⟩ := List.mem_flatMap.1 hu
  simp only [encI, List.mem_cons, List.not_mem_nil, or_false] at h
  rcases h with rfl | rfl <;> rfl
def OwnPostInterval (B n : Nat) (l : List (Int × Int)) (w : World) (e : Ending) (w' : World) : Prop := ∃ v', e = .returned v' ∧ w'.ownsRow B 25 2 v' n (l.flatMap encI) ∧ Below w.heap.size w w'
set_option maxHeartbeats 2000000 in
set_option maxRecDepth 100000 in
theorem cloneInterval (A : Option Addr) (n c : Nat) (l : List (Int × Int)) (w : World) (hL : Lst encI 2 w w.heap.size A n l) (hnil : A = none → n = 0 ∧ c = 0) (hn : n ≤ 1099511627776) :
    Calls Tryz.prog 97 #[.slice A n c] w (OwnPostInterval w.heap.size n l w) := by
  obtain ⟨i0, hi, hz0, hz1, hz2⟩ := info_parts Tryz.infoInterval
  cases A with
  | none =>
    obtain ⟨rfl, rfl⟩ := hnil rfl
    have hl0 : l = [] := List.length_eq_zero_iff.1 hL.1
    clear hi hz0 hz1 hz2 hL hnil
    have hq := fun w : World => Lib.run_eql_slice_nil w 86 25 none 0 0 0 0 Tryz.underlying86
    go_enter Tryz.func97, Tryz.ntmps97
    go_wp2
    go_ret
    exact ⟨_, rfl, by rw [hl0]; exact World.ownsRow_nil _ _ _ _, Below.refl _ _⟩
  | some ad =>
    have hcells := fun w1 (hb : Below w.heap.size w w1) => (hL.below hb).flat encI_len
    have HC := Lib.hid hcells
    have HLL := Lib.hid hL.1
    have hq := fun w : World => Lib.run_eql_slice_nil w 86 25 (some ad) n c 0 0 Tryz.underlying86
    clear hcells hL hnil
    go_enter Tryz.func97, Tryz.ntmps97
    go_wp2_with (at_builtin; refine wpList_append_own _ rfl _ _ 86 rfl w.heap.size 25 i0 _ 2 16 Tryz.underlying86 hi hz0 hz1 hz2 rfl (by omega) _ _ _ rfl (World.ownsRow_made w #[] 0 (Nat.le_refl _) (Nat.zero_le _) (by simp)) ad n c (l.flatMap encI) rfl (by rw [flatMap_length (enc := encI) (size := 2) (fun _ => rfl), HLL.out]) (HC.out _ ((Below.refl _ w).alloc (Nat.le_refl _) _)) (oneInterval _) (by unfold maxLen; omega) (by omega) (by simp) ?_)
    intro v' w1 hown hgrow _
    have HF := Lib.hid (show _ ∧ _ from ⟨hown, ((Below.refl w.heap.size w).alloc (Nat.le_refl _) _).grown hgrow (by simp) (by intro k hk; simp [Value.ownBlock] at hk; omega)⟩)
    clear hi hz0 hz1 hz2 hown hgrow hq
    go_wp2
    go_ret
    exact ⟨v', rfl, by simpa using HF.out.1, HF.out.2⟩
end Go.Proofs.YtihidnmpngeohaaGreat
namespace Go.Proofs.YtihidnmpngeohaaGreat
open Go.RowKit Go.Lib

/-- What a predicate does in a world. -/
def PredInterval (gf : Nat) (lb : Array Value) (p : Int × Int → Bool) (W : World) : Prop :=
  ∀ x : Int × Int, Calls Tryz.prog gf (#[.agg #[.int .i64 x.1, .int .i64 x.2]] ++ lb) W fun e w' => e = .returned (.bool (p x)) ∧ Below W.heap.size W w'
def idxInterval (p : Int × Int → Bool) (l : List (Int × Int)) : Int := match l.findIdx? p with | some i => (i : Int) | none => -1
theorem idxInterval_none {p : Int × Int → Bool} {l : List (Int × Int)} (h : ∀ x ∈ l, p x = false) : idxInterval p l = -1 := by
  unfold idxInterval
  rw [List.findIdx?_eq_none_iff.2 h]
theorem idxInterval_some {p : Int × Int → Bool} {l : List (Int × Int)} {k : Nat} {x : Int × Int} (hx : l[k]? = some x) (h : p x = true) (hb : ∀ j y, j < k → l[j]? = some y → p y = false) : idxInterval p l = k := by
  obtain ⟨hk1, hk2⟩ := List.getElem?_eq_some_iff.1 hx
  unfold idxInterval
  have e : l.findIdx? p = some k := by
    rw [List.findIdx?_eq_some_iff_getElem]
    refine ⟨hk1, by rw [hk2]; exact h, fun j hj => ?_⟩
    rw [hb j _ hj (List.getElem?_eq_getElem (by omega))]
    simp
  rw [e]
set_option maxHeartbeats 2000000 in
set_option maxRecDepth 100000 in
theorem indexFuncInterval (gf : Nat) (lb : Array Value) (eg : ∀ args w, (callFunc gf args).run Tryz.prog w = .ok (.enter gf args) w) (p : Int × Int → Bool) (A : Option Addr) (n c : Nat) (l : List (Int × Int)) (w : World)
    (hL : Lst encI 2 w w.heap.size A n l) (hn : n ≤ 1099511627776) (hp : ∀ W, Below w.heap.size w W → PredInterval gf lb p W) :
    Calls Tryz.prog 130 #[.slice A n c, .func (.func gf) #[] lb] w fun e w' => e = .returned (.int .i64 (idxInterval p l)) ∧ Below w.heap.size w w' := by
  have HL := Lib.hid hL
  have HP := Lib.hid hp
  clear hL hp
  go_enter Tryz.func130, Tryz.ntmps130
  go_wp2
  go_loopw [8] (fun i wr => ∃ k : Nat, k ≤ n ∧ i = .int .i64 k ∧ Below w.heap.size w wr ∧ Hid (∀ j y, j < k → l[j]? = some y → p y = false)) (fun i _ => n - (intOf i).toNat)
  case atStart => exact ⟨0, Nat.zero_le _, rfl, Below.refl _ _, Lib.hid (fun j y h => absurd h (by omega))⟩
  case round =>
    obtain ⟨k, hk, rfl, hbl, HB⟩ := hrel
    by_cases hlt : k < n
    · obtain ⟨b, off, x, rfl, hb, hx, hc⟩ := HL.out.at hlt
      have c0 := (hbl.cell (p := ⟨b, off + k * 2 + 0, none⟩) hb).trans (hc 0 _ rfl)
      have c1 := (hbl.cell (p := ⟨b, off + k * 2 + 1, none⟩) hb).trans (hc 1 _ rfl)
      simp only [Nat.add_zero] at c0
      have hcall := HP.out wr hbl x
      have HX := Lib.hid hx
      clear hc hx
      cases hpx : p x with
      | true =>
        rw [hpx] at hcall
        have HC := Lib.hid hcall
        have HPX := Lib.hid hpx
        clear hcall hpx
        go_wp2_with fail
        refine HC.out.mono ?_
        rintro e w' ⟨rfl, hb'⟩
        go_wp2
        go_ret
        exact ⟨by rw [idxInterval_some HX.out HPX.out HB.out]; rfl, hbl.trans (hb'.mono hbl.size)⟩
      | false =>
        rw [hpx] at hcall
        have HC := Lib.hid hcall
        have HPX := Lib.hid hpx
        clear hcall hpx
        go_wp2_with fail
        refine HC.out.mono ?_
        rintro e w' ⟨rfl, hb'⟩
        go_wp2
        go_roundw
        case measure => simp [intOf]; omega
        case rel => exact ⟨k + 1, hlt, by simp, hbl.trans (hb'.mono hbl.size), Lib.hid (fun j y hj hy => by
          by_cases hjk : j = k
          · subst hjk
            rw [HX.out] at hy
            injection hy with hy
            rw [← hy]; exact HPX.out
          · exact HB.out j y (by omega) hy)⟩
    · obtain rfl : k = n := by omega
      go_wp2
      go_ret
      exact ⟨by rw [idxInterval_none fun x hx => by
        obtain ⟨j, hj, e⟩ := List.getElem_of_mem hx
        exact HB.out j x (by have := HL.out.1; omega) (by rw [List.getElem?_eq_getElem hj, e])]; rfl, hbl⟩
theorem zeroInterval (W : World) : (zeroValue 25).run Tryz.prog W = .ok (.agg #[.int .i64 0, .int .i64 0]) W := by kernel_rfl
/-- While it goes: the first i elements are those of the first j that stay, those from j on are as they were. -/
def KeptInterval (p : Int × Int → Bool) (l ys : List (Int × Int)) (i j : Nat) : Prop :=
  ys.length = l.length ∧ ys.take i = (l.take j).filter (fun x => !p x) ∧ ys.drop j = l.drop j ∧ i < j ∧ i = ((l.take j).filter (fun x => !p x)).length
theorem KeptInterval.skip {p : Int × Int → Bool} {l ys : List (Int × Int)} {i j : Nat} {x : Int × Int} (h : KeptInterval p l ys i j) (hx : l[j]? = some x) (hp : p x = true) : KeptInterval p l ys i (j + 1) := by
  obtain ⟨h1, h2, h3, h4, h5⟩ := h
  obtain ⟨hj, hxj⟩ := List.getElem?_eq_some_iff.1 hx
  have ht : l.take (j + 1) = l.take j ++ [x] := by rw [List.take_succ_eq_append_getElem hj, hxj]
  have hf : (l.take (j + 1)).filter (fun x => !p x) = (l.take j).filter (fun x => !p x) := by rw [ht, List.filter_append]; simp [hp]
  refine ⟨h1, by rw [hf]; exact h2, ?_, by omega, by rw [hf]; exact h5⟩
  rw [show j + 1 = j + 1 from rfl, ← List.drop_drop, ← List.drop_drop, h3]
theorem KeptInterval.keep {p : Int × Int → Bool} {l ys : List (Int × Int)} {i j : Nat} {x : Int × Int} (h : KeptInterval p l ys i j) (hx : l[j]? = some x) (hp : p x = false) : KeptInterval p l (ys.set i x) (i + 1) (j + 1) := by
  obtain ⟨h1, h2, h3, h4, h5⟩ := h
  obtain ⟨hj, hxj⟩ := List.getElem?_eq_some_iff.1 hx
  have ht : l.take (j + 1) = l.take j ++ [x] := by rw [List.take_succ_eq_append_getElem hj, hxj]
  have hf : (l.take (j + 1)).filter (fun x => !p x) = (l.take j).filter (fun x => !p x) ++ [x] := by rw [ht, List.filter_append]; simp [hp]
  refine ⟨by simpa using h1, ?_, ?_, by omega, by rw [hf]; simp [← h5]⟩
  · rw [take_set_next _ _ _ (by omega), h2, hf]
  · rw [List.drop_set_of_lt (by omega), ← List.drop_drop, ← List.drop_drop, h3]
theorem KeptInterval.start {p : Int × Int → Bool} {l : List (Int × Int)} {k : Nat} {x : Int × Int} (hx : l[k]? = some x) (hp : p x = true) (hb : ∀ j y, j < k → l[j]? = some y → p y = false) : KeptInterval p l l k (k + 1) := by
  obtain ⟨hj, hxj⟩ := List.getElem?_eq_some_iff.1 hx
  have ht : l.take (k + 1) = l.take k ++ [x] := by rw [List.take_succ_eq_append_getElem hj, hxj]
  have hk : (l.take k).filter (fun x => !p x) = l.take k := List.filter_eq_self.2 fun y hy => by
    obtain ⟨j, hj', e⟩ := List.getElem_of_mem hy
    rw [List.length_take] at hj'
    rw [hb j y (by omega) (by rw [← e, List.getElem_take]; exact List.getElem?_eq_getElem (by omega))]; rfl
  have hf : (l.take (k + 1)).filter (fun x => !p x) = l.take k := by rw [ht, List.filter_append, hk]; simp [hp]
  exact ⟨rfl, by rw [hf], rfl, by omega, by rw [hf, List.length_take]; omega⟩
theorem KeptInterval.end_ {p : Int × Int → Bool} {l ys : List (Int × Int)} {i : Nat} (h : KeptInterval p l ys i l.length) : ys.take i = l.filter (fun x => !p x) ∧ i = (l.filter (fun x => !p x)).length := by
  obtain ⟨h1, h2, h3, h4, h5⟩ := h
  rw [List.take_length] at h2 h5
  exact ⟨h2, h5⟩
theorem firstInterval {p : Int × Int → Bool} {l : List (Int × Int)} (h : ¬ ∀ x ∈ l, p x = false) : ∃ (k : Nat) (x : Int × Int), l[k]? = some x ∧ p x = true ∧ ∀ (j : Nat) y, j < k → l[j]? = some y → p y = false := by
  cases hq : l.findIdx? p with
  | none => exact absurd (List.findIdx?_eq_none_iff.1 hq) h
  | some k =>
    obtain ⟨hk, h1, h2⟩ := List.findIdx?_eq_some_iff_getElem.1 hq
    refine ⟨k, _, List.getElem?_eq_getElem hk, h1, fun j y hj hy => ?_⟩
    have := h2 j hj
    obtain ⟨hj', e⟩ := List.getElem?_eq_some_iff.1 hy
    rw [← e]
    simpa using this
set_option maxHeartbeats 4000000 in
set_option maxRecDepth 100000 in
theorem deleteFuncInterval (gf : Nat) (lb : Array Value) (eg : ∀ args w, (callFunc gf args).run Tryz.prog w = .ok (.enter gf args) w) (p : Int × Int → Bool) (A : Option Addr) (n c : Nat) (l : List (Int × Int)) (w : World) (B : Nat)
    (ho : w.ownsRow B 25 2 (.slice A n c) n (l.flatMap encI)) (hn : n ≤ 1099511627776) (hp : ∀ W, w.grownBy W (Value.slice A n c).ownBlock → PredInterval gf lb p W) :
    Calls Tryz.prog 96 #[.slice A n c, .func (.func gf) #[] lb] w fun e w' => e = .returned (.slice A (l.filter (fun x => !p x)).length c) ∧
      w'.ownsRow B 25 2 (.slice A (l.filter (fun x => !p x)).length c) (l.filter (fun x => !p x)).length ((l.filter (fun x => !p x)).flatMap encI) ∧ w.grownBy w' (Value.slice A n c).ownBlock := by
  have hll := owns_len ho encI_len (by omega)
  have hL : Lst encI 2 w w.heap.size A n l := by
    obtain ⟨A', c', e, _, h⟩ := ownsRow_lst ho hll encI_len
    injection e with e1 e2 e3
    rw [e1]; exact h
  have hIF := indexFuncInterval gf lb eg p A n c l w hL hn (fun W hb => hp W ⟨hb.os, hb.tape, hb.output, hb.size, fun k hk _ => hb.block k hk⟩)
  have HO := Lib.hid ho
  have HP := Lib.hid hp
  have HLL := Lib.hid hll
  have HIF := Lib.hid hIF
  clear ho hp hll hL hIF
  by_cases hany : ∀ x ∈ l, p x = false
  · have hfil : l.filter (fun x => !p x) = l := List.filter_eq_self.2 fun x hx => by rw [hany x hx]; rfl
    rw [hfil, HLL.out]
    have HI := Lib.hid (idxInterval_none hany)
    clear hfil hany
    go_enter Tryz.func96, Tryz.ntmps96
    go_wp2_with fail
    refine HIF.out.mono ?_
    rw [HI.out]
    rintro e w' ⟨rfl, hb'⟩
    go_wp2
    go_ret
    exact ⟨rfl, owns_below HO.out hb', ⟨hb'.os, hb'.tape, hb'.output, hb'.size, fun k hk _ => hb'.block k hk⟩⟩
  · obtain ⟨k0, x0, hx0, hp0, hb0⟩ := firstInterval hany
    have hk0 := (List.getElem?_eq_some_iff.1 hx0).1
    have hk0n : k0 < n := by have := HLL.out; omega
    have HI := Lib.hid (idxInterval_some hx0 hp0 hb0)
    have HK := Lib.hid (KeptInterval.start hx0 hp0 hb0)
    obtain ⟨g, rfl, hg⟩ := owns_some' HO.out (by omega)
    obtain ⟨_, hcn⟩ := owns_cap HO.out
    have hne1 : ((k0 : Int) == -1) = false := beq_eq_false_iff_ne.2 (by omega)
    clear hany hx0 hp0 hb0 hk0
    go_enter Tryz.func96, Tryz.ntmps96
    go_wp2_with fail
    refine HIF.out.mono ?_
    rw [HI.out]
    rintro e w1 ⟨rfl, hb1⟩
    have H1 := Lib.hid (show _ ∧ _ from ⟨owns_below HO.out hb1, (⟨hb1.os, hb1.tape, hb1.output, hb1.size, fun k hk _ => hb1.block k hk⟩ : w.grownBy w1 (some g))⟩)
    clear hb1
    go_wp2
    go_loopw [5, 6, 7] (fun s5 s6 _ wr => ∃ (i j : Nat) (ys : List (Int × Int)), s5 = .int .i64 i ∧ s6 = .int .i64 j ∧ i < j ∧ j ≤ n ∧ Hid (KeptInterval p l ys i j ∧ wr.ownsRow B 25 2 (.slice (some ⟨g, 0, none⟩) n c) n (ys.flatMap encI) ∧ w.grownBy wr (some g))) (fun _ s6 _ _ => n - (intOf s6).toNat)
    case atStart => exact ⟨k0, k0 + 1, l, rfl, by simp, by omega, by omega, Lib.hid ⟨HK.out, H1.out.1, H1.out.2⟩⟩
    case round =>
      obtain ⟨i, j, ys, rfl, rfl, hij, hj, HR⟩ := hrel
      by_cases hlt : j < n
      · obtain ⟨x, hx⟩ : ∃ x, l[j]? = some x := ⟨_, List.getElem?_eq_getElem (by have := HLL.out; omega)⟩
        have hyx : ys[j]? = some x := by
          have h3 := HR.out.1.2.2.1
          have h4 := congrArg (fun z => z[0]?) h3
          simpa [List.getElem?_drop, hx] using h4
        have c0 := owns_at HR.out.2.1 encI_len hyx (j := 0) rfl
        have c1 := owns_at HR.out.2.1 encI_len hyx (j := 1) rfl
        simp only [Nat.add_zero] at c0
        have HX := Lib.hid hx
        have hgr : w.grownBy (wr.alloc (.cells #[.int .i64 x.1, .int .i64 x.2] 25)) (some g) := grownBy_trans HR.out.2.2 (World.grownBy_alloc _ _ _)
        have hcall := HP.out _ hgr x
        clear hx hyx hgr
        cases hpx : p x with
        | true =>
          rw [hpx] at hcall
          have HC := Lib.hid hcall
          have HPX := Lib.hid hpx
          clear hcall hpx
          go_wp2_with fail
          refine HC.out.mono ?_
          rintro e w' ⟨rfl, hb'⟩
          have hb2 : Below wr.heap.size wr w' := ((Below.refl _ wr).alloc (Nat.le_refl _) _).trans (hb'.mono (by simp))
          have HB := Lib.hid (show _ ∧ _ ∧ _ from ⟨HR.out.1.skip HX.out HPX.out, owns_below HR.out.2.1 hb2, grownBy_below HR.out.2.2 hb2⟩)
          clear hb' hb2 c0 c1
          go_wp2
          go_roundw
          case measure => simp [intOf]; omega
          case rel => exact ⟨i, j + 1, ys, rfl, by simp, by omega, hlt, HB⟩
        | false =>
          rw [hpx] at hcall
          have HC := Lib.hid hcall
          have HPX := Lib.hid hpx
          clear hcall hpx
          go_wp2_with fail
          refine HC.out.mono ?_
          rintro e w' ⟨rfl, hb'⟩
          have hb2 : Below wr.heap.size wr w' := ((Below.refl _ wr).alloc (Nat.le_refl _) _).trans (hb'.mono (by simp))
          have ho2 := owns_below HR.out.2.1 hb2
          have hyl : ys.length = n := HR.out.1.1.trans HLL.out
          obtain ⟨y, hy⟩ : ∃ y, ys[i]? = some y := ⟨_, List.getElem?_eq_getElem (by omega)⟩
          have d0 := owns_at ho2 encI_len hy (j := 0) rfl
          have d1 := owns_at ho2 encI_len hy (j := 1) rfl
          simp only [Nat.add_zero] at d0
          have f0 := ho2.frozenAt (i * 2)
          have f1 := ho2.frozenAt (i * 2 + 1)
          have b0 : w'.cell? ⟨wr.heap.size, 0, none⟩ = some (.int .i64 x.1) := (hb'.cell (p := ⟨wr.heap.size, 0, none⟩) (by simp)).trans (by rw [cell_of_row _ _ _ _ _ _ (heap_alloc_new wr _)]; rfl)
          have b1 : w'.cell? ⟨wr.heap.size, 1, none⟩ = some (.int .i64 x.2) := (hb'.cell (p := ⟨wr.heap.size, 1, none⟩) (by simp)).trans (by rw [cell_of_row _ _ _ _ _ _ (heap_alloc_new wr _)]; rfl)
          have hst := owns_set2 ho2 encI_len (i := i) (by omega) (x := x) rfl
          have HB := Lib.hid (show _ ∧ _ ∧ _ from ⟨HR.out.1.keep HX.out HPX.out, hst.1, grownBy_trans (grownBy_below HR.out.2.2 hb2) hst.2⟩)
          clear hb' hb2 c0 c1 ho2 hyl hy hst
          go_wp2
          go_roundw
          case measure => simp [intOf]; omega
          case rel => exact ⟨i + 1, j + 1, _, by simp, by simp, by omega, hlt, HB⟩
      · obtain rfl : j = n := by omega
        have hK := HR.out.1
        rw [← HLL.out] at hK
        have HE := Lib.hid hK.end_
        obtain ⟨w5, hrun, hown5, hg5⟩ := run_clear_own (P := Tryz.prog) (c := c - i) HR.out.2.1 (i := i) (by omega) 86 0 Tryz.underlying86 _ zeroInterval rfl (by simp [Value.cells, Value.oneCell']) (by omega)
        rw [flatMap_take encI_len, HE.out.1] at hown5
        have H5 := Lib.hid (show _ ∧ _ from ⟨hown5, grownBy_trans HR.out.2.2 hg5⟩)
        have hcl : ∀ ty, (Builtin.clear_ #[86] ty #[.slice (some ⟨g, i * 2, none⟩) (j - i) (c - i)]).run Tryz.prog wr = .ok (.tuple #[]) w5 := fun ty => hrun
        clear hrun hown5 hg5 hK
        go_wp2
        go_ret
        rw [← HE.out.2]
        exact ⟨rfl, H5.out.1, H5.out.2⟩
end Go.Proofs.YtihidnmpngeohaaGreat
