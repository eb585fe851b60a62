/- WholeElems, SpoilElems. What stands when all is asked of elements: the book owns what was handed back. -/
import Derived.Test.YtajaijidecomdaaGreatDoorG15
import Derived.Test.YtajaijidecomdaaGreatDoorG16
import Derived.Test.YtajaijidecomdaaGreatDoorOwnBookAny
import Derived.Test.YtajaijidecomdaaGreatDoorOwnLabel
namespace Go.Proofs.YtajaijidecomdaaGreatDoor
open Go.RowKit Go.Lib

/-- A lent row of labels, as it lies. -/
theorem lentT_parts {w : World} {B g n c : Nat} {l : List Lb} (h : w.ownsRow B 104 2 (.slice (some ⟨g, 0, none⟩) (n + 2) c) (n + 2) ((l ++ [mALabel, mBLabel]).flatMap Lb.cells)) (hl : l.length = n) :
    Lst Lb.cells 2 w w.heap.size (some ⟨g, 0, none⟩) (n + 2) (l ++ [mALabel, mBLabel]) ∧ Lst Lb.cells 2 w w.heap.size (some ⟨g, 0, none⟩) n l ∧ n + 2 ≤ c ∧ c ≤ maxLen ∧ ∃ cur, w.heap[g]? = some (.cells cur 104 (0, 0)) ∧ cur.size = c * 2 := by
  obtain ⟨A', c', e', _, h1⟩ := ownsRow_lst h (by simp [hl]) Lb.len
  injection e' with e1 _ _
  subst e1
  have h2 := h1.take (k := n) (by omega)
  rw [List.take_append_of_le_length (by omega), List.take_of_length_le (by omega)] at h2
  have hc := owns_cap h
  refine ⟨h1, h2, hc.2, hc.1, ?_⟩
  rcases h.2 with ⟨h', _⟩ | ⟨_, _, cur, h', _, hh, _, _, hs, _⟩
  · cases h'
  · cases h'; exact ⟨cur, hh, hs⟩
theorem LentEv.eat {w : World} {B : Nat} {y z : Ev} (h : LentEv w B y z) (hy : y.l.length = y.n) (hf : y.n ≤ 100000) (hg : ∀ x ∈ y.l, x.nm.size ≤ 100000 ∧ x.vl.size ≤ 100000) : Eat w w.heap.size z := by
  obtain ⟨b, h1, h2⟩ := h.row
  have hp := lentT_parts h2 hy
  refine ⟨?_, fun e => ?_, by rw [h.len]; exact hf, by rw [h.lab]; exact hg⟩
  · rw [h1, h.len, h.lab]; exact hp.2.1
  · rw [h1] at e; cases e
set_option maxHeartbeats 2000000 in
set_option maxRecDepth 100000 in
theorem wholeElem_q (g c : Nat) (A : Option Addr) (n ca : Nat) (ys zs : List Ev) (w : World) (B : Nat) (ha : Lst encEv 2 w w.heap.size (some ⟨g, 0, none⟩) (n + 1) (zs ++ [mE])) (hlz : zs.length = n) (hc : n + 1 ≤ c) (hb : Lst encEv 2 w w.heap.size A n ys) (hT : ∀ y ∈ ys, Eat w w.heap.size y)
    (hE : ∀ (j : Nat) y z, ys[j]? = some y → zs[j]? = some z → LentEv w B y z) (hbig : n ≤ 1000000) :
    Calls Tryz.prog 16 #[.slice (some ⟨g, 0, none⟩) n c, .slice A n ca] w fun e w' => e = .returned (.bool true) ∧ ∃ q, w' = w.drewN q := by
  obtain ⟨b, off, e, hbb, hcc⟩ := ha.2 (by omega)
  cases e
  have hm : (zs ++ [mE])[n]? = some mE := by rw [List.getElem?_append_right (by omega), hlz]; simp
  have c1 := hcc n _ hm 1 _ rfl
  simp only [Nat.zero_add, mE] at c1
  have hci : (n : Int) + 1 ≤ (c : Int) := by omega
  have HA := Lib.hid (show _ ∧ _ ∧ _ ∧ _ ∧ _ from ⟨hcc, hlz, hb, hT, hE⟩)
  clear ha hcc hm hb hT hE hlz
  go_enter Tryz.func16, Tryz.ntmps16
  go_wp2
  clear c1
  go_loopw [6] (fun i wr => ∃ k : Nat, k ≤ n ∧ i = .int .i64 k ∧ Hid (∃ q, wr = w.drewN q)) (fun i _ => n - (intOf i).toNat)
  case atStart => exact ⟨0, Nat.zero_le _, rfl, Lib.hid ⟨0, rfl⟩⟩
  case round =>
    obtain ⟨k, hk, rfl, HQ⟩ := hrel
    by_cases hlt : k < n
    · obtain ⟨b2, off2, y, rfl, hbb2, hy, hc2⟩ := HA.out.2.2.1.at hlt
      obtain ⟨z, hz⟩ : ∃ z, zs[k]? = some z := ⟨_, List.getElem?_eq_getElem (by have := HA.out.2.1; omega)⟩
      have hz' : (zs ++ [mE])[k]? = some z := by rw [List.getElem?_append_left (by have := HA.out.2.1; omega)]; exact hz
      have hlt' := HA.out.2.2.2.2 k y z hy hz
      obtain ⟨bz, hbz, hrow⟩ := hlt'.row
      have hty := HA.out.2.2.2.1 y (List.mem_of_getElem? hy)
      have hp := lentT_parts hrow hty.lst.1
      obtain ⟨q, hq⟩ := HQ.out
      have hcell : ∀ p, wr.cell? p = w.cell? p := fun p => by rw [hq]; rfl
      have hsz : wr.heap.size = w.heap.size := by rw [hq]; rfl
      have d0 := (hcell _).trans (HA.out.1 k z hz' 0 _ rfl)
      have d1 := (hcell _).trans (HA.out.1 k z hz' 1 _ rfl)
      have c0 := (hcell _).trans (hc2 0 _ rfl)
      have c1 := (hcell _).trans (hc2 1 _ rfl)
      rw [hlt'.num] at d1
      rw [hbz, hlt'.len] at d0
      simp only [Nat.zero_add, Nat.add_zero] at c0 d0 d1
      have hsame : ∀ W : World, (∃ m, W = wr.drewN m) → Calls Tryz.prog 55 #[.slice (some ⟨bz, 0, none⟩) y.n z.c, .slice y.A y.n y.c] W fun e w' => e = .returned (.bool true) ∧ ∃ m, w' = W.drewN m := fun W ⟨m, hm⟩ => by
        have e1 : ∀ p, W.cell? p = w.cell? p := fun p => by rw [hm]; exact hcell p
        have e2 : W.heap.size = w.heap.size := by rw [hm]; exact hsz
        refine wholeLabel_q bz z.c y.A y.n y.c y.l W ?_ hp.2.2.1 ?_ (by have := hty.few; omega)
        · rw [e2]; exact hp.1.keep fun p _ => e1 p
        · rw [e2]; exact hty.lst.keep fun p _ => e1 p
      have HS := Lib.hid hsame
      clear hy hz hz' hc2 hlt' hbz hrow hty hp hcell hsame hq hsz
      go_wp2_with (go_quiet (first | (go_at_call 55; refine Calls.quiet_of (HS.out _ ⟨_, rfl⟩))))
      go_roundw
      case measure => simp [intOf]; omega
      case rel => exact ⟨k + 1, hlt, by simp, Lib.hid ⟨_, by rw [HQ.out.choose_spec]; first | rfl | exact World.drewN_drewN _ _ _⟩⟩
    · go_wp2
      go_ret
      exact ⟨rfl, HQ.out⟩
/-- What is still as it was lent out. -/
structure Spoiling (w wr : World) (B H g : Nat) (zs : List Ev) (k : Nat) : Prop where
  grown : GrownIn (fun b => B ≤ b ∧ b < H) w wr
  row : wr.heap[g]? = w.heap[g]?
  rest : ∀ (j : Nat) z b, k ≤ j → zs[j]? = some z → (Value.slice z.A z.n z.c).ownBlock = some b → wr.heap[b]? = w.heap[b]?
set_option maxHeartbeats 4000000 in
set_option maxRecDepth 100000 in
theorem spoilElems_any (g n c : Nat) (ys zs : List Ev) (w : World) (B : Nat) (h : LentEs w B ys (.slice (some ⟨g, 0, none⟩) n c) n zs) (hrow : w.ownsRow B 90 2 (.slice (some ⟨g, 0, none⟩) (n + 1) c) (n + 1) ((zs ++ [mE]).flatMap encEv)) (hly : ys.length = n) (hys : ∀ y ∈ ys, y.l.length = y.n) (hn : n ≤ 1000000) (hB : B ≤ w.heap.size) (H : Nat)
    (hH : ∀ (j : Nat) z b, zs[j]? = some z → (Value.slice z.A z.n z.c).ownBlock = some b → b < H) (hgH : g < H) :
    Calls Tryz.prog 17 #[.slice (some ⟨g, 0, none⟩) n c] w fun e w' => e = .returned (.tuple #[]) ∧ GrownIn (fun b => B ≤ b ∧ b < H) w w' := by
  have hcap := owns_cap hrow
  have hg := h.row.lt g rfl
  obtain ⟨cur, hcur, hcs⟩ : ∃ cur, w.heap[g]? = some (.cells cur 90 (0, 0)) ∧ cur.size = c * 2 := by
    rcases hrow.2 with ⟨h', _⟩ | ⟨_, _, cur, h', _, hh, _, _, hs, _⟩
    · cases h'
    · cases h'; exact ⟨cur, hh, hs⟩
  have HL := Lib.hid (show _ ∧ _ ∧ _ ∧ _ ∧ _ from ⟨h, hly, hys, hH, hcur⟩)
  have hc' : c ≤ 9223372036854775807 := by have := hcap.1; unfold maxLen at this; exact this
  have HCS := Lib.hid hcs
  clear h hrow hly hys hH hcur hcs hcap
  go_enter Tryz.func17, Tryz.ntmps17
  go_wp2
  go_loopw [2] (fun i wr => ∃ k : Nat, k ≤ n ∧ i = .int .i64 k ∧ Hid (Spoiling w wr B H g zs k)) (fun i _ => n - (intOf i).toNat)
  case atStart => exact ⟨0, Nat.zero_le _, rfl, Lib.hid ⟨GrownIn.refl _ _, rfl, fun _ _ _ _ _ _ => rfl⟩⟩
  case round =>
    obtain ⟨k, hk, rfl, HS⟩ := hrel
    by_cases hlt : k < n
    · obtain ⟨z, hz⟩ : ∃ z, zs[k]? = some z := ⟨_, List.getElem?_eq_getElem (by have := HL.out.1.len; omega)⟩
      obtain ⟨y, hy⟩ : ∃ y, ys[k]? = some y := ⟨_, List.getElem?_eq_getElem (by have := HL.out.2.1; omega)⟩
      have hlz := HL.out.1.each k y z hy hz
      obtain ⟨bz, hbz, hrz⟩ := hlz.row
      have hbo : (Value.slice z.A z.n z.c).ownBlock = some bz := by rw [hbz]; rfl
      have hp := lentT_parts hrz (HL.out.2.2.1 y (List.mem_of_getElem? hy))
      have hblk := HS.out.rest k z bz (Nat.le_refl _) hz hbo
      obtain ⟨cz, hcz, hczs⟩ := hp.2.2.2.2
      have c0w := owns_at HL.out.1.row encEv_len hz (j := 0) (u := .slice z.A z.n z.c) rfl
      have c0 : wr.cell? ⟨g, k * 2, none⟩ = some (.slice (some ⟨bz, 0, none⟩) y.n z.c) := by
        rw [World.cell?_of_block (w := w) (a := ⟨g, k * 2, none⟩) HS.out.row]
        rw [hbz, hlz.len] at c0w
        exact c0w
      have hsp := spoilLabel_any bz y.n z.c cz wr (hblk.trans hcz) hczs (by have := hp.2.2.1; omega) hp.2.2.2.1
      have hnext : ∀ w', wr.grownBy w' (some bz) → Spoiling w w' B H g zs (k + 1) := fun w' hgr => by
        have hbH := HL.out.2.2.2.1 k z bz hz hbo
        have hbB := (hrz.lt bz rfl)
        have hgw := HS.out.grown.size
        refine ⟨HS.out.grown.trans (GrownIn.of_grownBy hgr) (fun b _ e => by injection e with e; omega), (hgr.block g (by omega) (fun e => ?_)).trans HS.out.row, fun j z' b' hj hz' hb' => ?_⟩
        · injection e with e
          exact owns_other hrz HL.out.1.row (by decide) rfl (by rw [← e]; rfl)
        · have hjn := (List.getElem?_eq_some_iff.1 hz').1
          have hlen := HL.out.1.len
          have hjy : j < ys.length := by have := HL.out.2.1; omega
          have hz2 := HL.out.1.each j (ys[j]'hjy) z' (List.getElem?_eq_getElem hjy) hz'
          obtain ⟨b2, q1, _, q3⟩ := hz2.blk
          rw [q1] at hb'
          injection hb' with hb'
          subst hb'
          refine (hgr.block b2 (by omega) (fun e => ?_)).trans (HS.out.rest j z' b2 (by omega) hz' q1)
          injection e with e
          have hpw := List.pairwise_iff_getElem.1 HL.out.1.apart k j (by omega) hjn (by omega)
          obtain ⟨_, e1⟩ := List.getElem?_eq_some_iff.1 hz
          obtain ⟨_, e2⟩ := List.getElem?_eq_some_iff.1 hz'
          rw [e1, e2] at hpw
          exact hpw bz hbo (by rw [q1, e])
      have HSP := Lib.hid (show _ ∧ _ from ⟨hsp, hnext⟩)
      clear hz hy hlz hbz hrz hbo hp hblk hcz hczs c0w hsp hnext
      go_wp2_with (go_at_call 56; refine HSP.out.1.mono ?_; rintro e w5 ⟨rfl, hg5⟩; have H5 := Lib.hid (HSP.out.2 w5 hg5); clear hg5)
      go_roundw
      case measure => simp [intOf]; omega
      case rel => exact ⟨k + 1, hlt, by simp, H5⟩
    · obtain ⟨w2, rfl⟩ : ∃ w2 : World, w2 = wr := ⟨_, rfl⟩
      have hrow2 := HS.out.row.trans HL.out.2.2.2.2
      have HR2 := Lib.hid (show _ ∧ _ from ⟨hrow2, HS.out.grown⟩)
      clear hrow2
      go_wp2
      go_loopw [4] (fun i wr => ∃ (k : Nat) (cu : Array Value), k ≤ c ∧ i = .int .i64 k ∧ Hid (wr.heap[g]? = some (.cells cu 90 (0, 0)) ∧ cu.size = c * 2 ∧ GrownIn (fun b => B ≤ b ∧ b < H) w wr)) (fun i _ => c - (intOf i).toNat)
      case atStart => exact ⟨0, cur, Nat.zero_le _, rfl, Lib.hid ⟨HR2.out.1, HCS.out, HR2.out.2⟩⟩
      case round =>
        obtain ⟨k, cu, hk, rfl, HB⟩ := hrel
        by_cases hlt : k < c
        · have hcell : ∀ j, j < 2 → ∃ x, wr.cell? ⟨g, k * 2 + j, none⟩ = some x := fun j hj => ⟨_, by
            rw [cell_of_row _ _ _ _ _ _ HB.out.1]
            exact Array.getElem?_eq_getElem (by have := HB.out.2.1; omega)⟩
          have hfr : ∀ j, wr.frozen? ⟨g, j, none⟩ = false := fun j => by simp [World.frozen?, HB.out.1]
          obtain ⟨x0, c0⟩ := hcell 0 (by omega)
          obtain ⟨x1, c1⟩ := hcell 1 (by omega)
          have f0 := hfr (k * 2)
          have f1 := hfr (k * 2 + 1)
          simp only [Nat.add_zero] at c0
          have hgB := hg.1
          clear hcell hfr
          go_wp2
          go_roundw
          case measure => simp [intOf]; omega
          case rel =>
            refine ⟨k + 1, _, hlt, by simp, Lib.hid ⟨heap_setCell_same _ _ _ _ _ _ (heap_setCell_same _ _ _ _ _ _ HB.out.1), ?_, ?_⟩⟩
            · simpa using HB.out.2.1
            · exact grownIn_set (grownIn_set HB.out.2.2 (p := ⟨g, k * 2, none⟩) ⟨hgB, hgH⟩ _) (p := ⟨g, k * 2 + 1, none⟩) ⟨hgB, hgH⟩ _
        · go_wp2
          go_end0
          exact ⟨rfl, HB.out.2.2⟩
end Go.Proofs.YtajaijidecomdaaGreatDoor
namespace Go.Proofs.YtajaijidecomdaaGreatDoor
open Go.RowKit Go.Lib

def nils : Array Value := (List.replicate 32 (Value.slice none 0 0)).toArray
theorem nils_at {k : Nat} (hk : k < 32) : nils[k]? = some (.slice none 0 0) := by unfold nils; rw [List.getElem?_toArray, List.getElem?_replicate, if_pos hk]
/-- Two lists in the book. -/
def two (a b : Value) (j : Nat) : Value := if j = 0 then a else b
theorem lists_two {w : World} {B : Nat} {e : TypeId} {sz BL n m : Nat} {a b : Value} {xs ys : List Value} (ha : w.ownsRow B e sz a n xs) (hb : w.ownsRow B e sz b m ys)
    (hne : ∀ g, a.ownBlock = some g → b.ownBlock ≠ some g) (h0 : w.cell? ⟨BL, 0, none⟩ = some a) (h1 : w.cell? ⟨BL, 1, none⟩ = some b) (oa : a.ownBlock ≠ some BL) (ob : b.ownBlock ≠ some BL) :
    Lists w B e sz BL 2 (two a b) (fun j => if j = 0 then n else m) where
  row j hj := by
    rcases (show j = 0 ∨ j = 1 by omega) with rfl | rfl
    · exact h0
    · exact h1
  own j hj := by
    rcases (show j = 0 ∨ j = 1 by omega) with rfl | rfl
    · exact ⟨xs, ha⟩
    · exact ⟨ys, hb⟩
  apart i j hi hj hij g := by
    rcases (show i = 0 ∨ i = 1 by omega) with rfl | rfl <;> rcases (show j = 0 ∨ j = 1 by omega) with rfl | rfl
    · exact absurd rfl hij
    · exact hne g
    · intro h1 h2; exact hne g h2 h1
    · exact absurd rfl hij
  off j hj := by
    rcases (show j = 0 ∨ j = 1 by omega) with rfl | rfl
    · exact oa
    · exact ob
theorem pairwise_at {α : Type} {R : α → α → Prop} {l : List α} (h : l.Pairwise R) {i j : Nat} (hij : i < j) {x y : α} (hx : l[i]? = some x) (hy : l[j]? = some y) : R x y := by
  obtain ⟨h1, e1⟩ := List.getElem?_eq_some_iff.1 hx
  obtain ⟨h2, e2⟩ := List.getElem?_eq_some_iff.1 hy
  have := List.pairwise_iff_getElem.1 h i j h1 h2 hij
  rwa [e1, e2] at this
theorem owns_not_bk {w : World} {bk B sz n : Nat} {cs : Array Value} {e : TypeId} {v : Value} {xs : List Value} (hb : Bk w bk cs) (ho : w.ownsRow B e sz v n xs) (hne : e ≠ 76) : v.ownBlock ≠ some bk := fun hk => by
  obtain ⟨cs', fz, h1⟩ := owns_typed ho hk
  have h2 := hb.1
  rw [h1] at h2
  injection h2 with h2
  injection h2 with _ h2
  exact hne h2
/-- Lists of one kind, one cell each, that lie in a row: as the checker's functions take them. -/
theorem lists_of {α : Type} {val : α → Value} {num : α → Nat} {w : World} {B m c g sz : Nat} {e eS : TypeId} {os : List α} (hrow : w.ownsRow B eS 1 (.slice (some ⟨g, 0, none⟩) m c) m (os.map val)) (hlen : os.length = m) (hown : ∀ z ∈ os, ∃ xs, w.ownsRow B e sz (val z) (num z) xs)
    (hap : os.Pairwise fun a b => ∀ g, (val a).ownBlock = some g → (val b).ownBlock ≠ some g) (hne : e ≠ eS) : Lists w B e sz g m (fun j => ((os.map val)[j]?).getD (.slice none 0 0)) (fun j => ((os.map num)[j]?).getD 0) := by
  have hat : ∀ j, j < m → ∃ z, os[j]? = some z := fun j hj => ⟨_, List.getElem?_eq_getElem (by omega)⟩
  refine ⟨fun j hj => ?_, fun j hj => ?_, fun i j hi hj hij q h1 h2 => ?_, fun j hj hk => ?_⟩
  · obtain ⟨z, e⟩ := hat j hj
    simp only [List.getElem?_map, e, Option.map_some, Option.getD_some]
    exact owns_cell hrow rfl (by rw [List.getElem?_map, e]; rfl)
  · obtain ⟨z, e⟩ := hat j hj
    simp only [List.getElem?_map, e, Option.map_some, Option.getD_some]
    exact hown z (List.mem_of_getElem? e)
  · obtain ⟨y, ey⟩ := hat i hi
    obtain ⟨z, ez⟩ := hat j hj
    simp only [List.getElem?_map, ey, ez, Option.map_some, Option.getD_some] at h1 h2
    rcases Nat.lt_or_gt_of_ne hij with hlt | hlt
    · exact pairwise_at hap hlt ey ez q h1 h2
    · exact pairwise_at hap hlt ez ey q h2 h1
  · obtain ⟨z, ez⟩ := hat j hj
    simp only [List.getElem?_map, ez, Option.map_some, Option.getD_some] at hk
    obtain ⟨xs, hx⟩ := hown z (List.mem_of_getElem? ez)
    exact owns_other hx hrow hne hk rfl
theorem among_of {α : Type} {val : α → Value} {os : List α} {m k : Nat} (hlen : os.length = m) (h : Among m (fun j => ((os.map val)[j]?).getD (.slice none 0 0)) k) : ∃ z ∈ os, (val z).ownBlock = some k := by
  obtain ⟨j, hj, hk⟩ := h
  have ez : os[j]? = some (os[j]'(by omega)) := List.getElem?_eq_getElem _
  simp only [List.getElem?_map, ez, Option.map_some, Option.getD_some] at hk
  exact ⟨_, List.getElem_mem _, hk⟩
structure LastE (w wi : World) (bk : Nat) (cs : Array Value) (va vb : Value) (ks os1 os2 : List Ev) (g21 c21 : Nat) (v9 : Value) : Prop where
  book : Bk wi bk cs
  cells : ∀ k, k < 32 → cs[k]? = some (if k = 21 then .slice (some ⟨g21, 0, none⟩) 2 c21 else if k = 9 then v9 else .slice none 0 0)
  old : Below w.heap.size w wi
  keys : ∀ z ∈ ks, wi.ownsRow w.heap.size 104 2 (valE z) z.n (z.l.flatMap Lb.cells)
  one : OutEv wi w.heap.size va os1
  twin : OutEv wi w.heap.size vb os2
  apart : (ks ++ (os1 ++ os2)).Pairwise fun a b => ∀ g, (valE a).ownBlock = some g → (valE b).ownBlock ≠ some g
  dis : ∀ b, va.ownBlock = some b → vb.ownBlock ≠ some b
  l21 : wi.ownsRow w.heap.size 33 1 (.slice (some ⟨g21, 0, none⟩) 2 c21) 2 [va, vb]
  l9 : wi.ownsRow w.heap.size 88 1 v9 (ks.length + (os1.length + os2.length)) ((ks ++ (os1 ++ os2)).map valE)
theorem LastE.step {w wi wj : World} {bk : Nat} {cs : Array Value} {va vb v9 : Value} {ks os1 os2 : List Ev} {g21 c21 : Nat} (h : LastE w wi bk cs va vb ks os1 os2 g21 c21 v9) (hb : Below wi.heap.size wi wj) : LastE w wj bk cs va vb ks os1 os2 g21 c21 v9 where
  book := h.book.kept (GrownIn.of_below hb) (by have := h.book.lt; omega)
  cells := h.cells
  old := h.old.trans (hb.mono h.old.size)
  keys := fun z hz => owns_below (h.keys z hz) hb
  one := h.one.below hb
  twin := h.twin.below hb
  apart := h.apart
  dis := h.dis
  l21 := owns_below h.l21 hb
  l9 := owns_below h.l9 hb
/-- What each of the book's fields may turn. -/
def turnE (va vb : Value) (os : List Ev) (m k b : Nat) : Prop :=
  if k = 9 then Among m (fun j => ((os.map valE)[j]?).getD (.slice none 0 0)) b else if k = 21 then Among 2 (two va vb) b else False
theorem LastE.own {w wi : World} {bk : Nat} {cs : Array Value} {va vb v9 : Value} {ks os1 os2 : List Ev} {g21 c21 : Nat} (h : LastE w wi bk cs va vb ks os1 os2 g21 c21 v9) (hn0 : ks.length ≤ 30000) (hn1 : os1.length ≤ 30000) (hn2 : os2.length ≤ 30000) (hz : ∀ z ∈ ks ++ (os1 ++ os2), z.n ≤ 1000000) :
    Calls Tryz.prog 21 #[.pointer (some ⟨bk, 0, none⟩)] wi fun e w' => e = .returned (.bool true) ∧ Below w.heap.size w w' := by
  obtain ⟨m, hm⟩ : ∃ m, ks.length + (os1.length + os2.length) = m := ⟨_, rfl⟩
  have hl9 := h.l9
  rw [hm] at hl9
  have hea : ∀ z ∈ ks ++ (os1 ++ os2), wi.ownsRow w.heap.size 104 2 (valE z) z.n (z.l.flatMap Lb.cells) := fun z hz => by
    rcases List.mem_append.1 hz with hz | hz
    · exact h.keys z hz
    · rcases List.mem_append.1 hz with hz | hz
      · exact h.one.each z hz
      · exact h.twin.each z hz
  have hap := h.apart
  obtain ⟨os, hos⟩ : ∃ os, ks ++ (os1 ++ os2) = os := ⟨_, rfl⟩
  rw [hos] at hl9 hz hap hea
  have hlen : os.length = m := by rw [← hos, List.length_append, List.length_append, hm]
  have hAm2 : ∀ k, Among 2 (two va vb) k → va.ownBlock = some k ∨ vb.ownBlock = some k := fun k ⟨j, hj, hk⟩ => by
    rcases (show j = 0 ∨ j = 1 by omega) with rfl | rfl
    · exact .inl hk
    · exact .inr hk
  have hturn : ∀ k b, turnE va vb os m k b → (k = 9 ∧ ∃ z ∈ os, (valE z).ownBlock = some b) ∨ (k = 21 ∧ (va.ownBlock = some b ∨ vb.ownBlock = some b)) := fun k b hs => by
    unfold turnE at hs
    by_cases h9 : k = 9
    · rw [if_pos h9] at hs
      exact .inl ⟨h9, among_of hlen hs⟩
    · rw [if_neg h9] at hs
      by_cases h21 : k = 21
      · rw [if_pos h21] at hs
        exact .inr ⟨h21, hAm2 b hs⟩
      · rw [if_neg h21] at hs
        exact hs.elim
  have keep : ∀ k w1, GrownIn (SoFar (turnE va vb os m) k) wi w1 → ∀ {e : TypeId} {sz n : Nat} {v : Value} {xs : List Value}, wi.ownsRow w.heap.size e sz v n xs → (9 < k → e ≠ 104) → (21 < k → e ≠ 90) → w1.ownsRow w.heap.size e sz v n xs := fun k w1 hg _ _ _ _ _ ho e1 e3 =>
    hg.owns ho fun b hb ⟨j, hj, hs⟩ => by
      rcases hturn j b hs with ⟨rfl, z, hz', e⟩ | ⟨rfl, e⟩
      · exact owns_other ho (hea z hz') (e1 hj) hb e
      · rcases e with e | e
        · exact owns_other ho h.one.row (e3 hj) hb e
        · exact owns_other ho h.twin.row (e3 hj) hb e
  have h21 := h.l21.lt g21 rfl
  refine (bookOwn_any bk (turnE va vb os m) (fun k => if k = 21 then .slice (some ⟨g21, 0, none⟩) 2 c21 else if k = 9 then v9 else .slice none 0 0) wi cs h.book h.cells (fun k hk hs => ?_) (fun k hk w1 hg => ?_)).mono ?_
  · rcases hturn k bk hs with ⟨_, z, hz', e⟩ | ⟨_, e⟩
    · exact owns_not_bk h.book (hea z hz') (by decide) e
    · rcases e with e | e
      · exact owns_not_bk h.book h.one.row (by decide) e
      · exact owns_not_bk h.book h.twin.row (by decide) e
  · have hsz := hg.size
    have hold := h.old.size
    by_cases h9 : k = 9
    · subst h9
      simp only [show ¬ (9 : Nat) = 21 by omega, if_false, if_true]
      obtain ⟨A9, c9, rfl, _, _⟩ := owns_slice hl9
      rcases hl9.2 with ⟨e, h0⟩ | ⟨g9, cap, cur, e, _⟩
      · rw [e]
        exact ownAt_nil 9 (by omega) _ _
      · injection e with e1 _ e3
        subst e1
        have hk9 := keep 9 w1 hg hl9 (fun _ => by decide) (fun h => absurd h (by omega))
        have hL := lists_of (e := 104) (sz := 2) (num := (·.n)) hk9 hlen (fun z hz' => ⟨_, keep 9 w1 hg (hea z hz') (fun h => absurd h (by omega)) (fun h => absurd h (by omega))⟩) hap (by decide)
        intro f hf
        obtain rfl := Option.some.inj hf
        refine (ownLabels_any w.heap.size g9 m c9 _ _ w1 hL (by omega) (hk9.lt g9 rfl).2 (by omega) (fun j hj => ?_)).mono fun e w' ⟨h1, h2⟩ => ⟨h1, h2.mono fun b _ hb => by unfold turnE; rw [if_pos rfl]; exact hb⟩
        have ez : os[j]? = some (os[j]'(by omega)) := List.getElem?_eq_getElem _
        simp only [List.getElem?_map, ez, Option.map_some, Option.getD_some]
        exact hz _ (List.getElem_mem _)
    · by_cases h21' : k = 21
      · subst h21'
        simp only [if_true]
        have k1 := keep 21 w1 hg h.one.row (fun _ => by decide) (fun h => absurd h (by omega))
        have k2 := keep 21 w1 hg h.twin.row (fun _ => by decide) (fun h => absurd h (by omega))
        have k3 := keep 21 w1 hg h.l21 (fun _ => by decide) (fun h => absurd h (by omega))
        intro f hf
        obtain rfl := Option.some.inj hf
        exact (ownElems_any w.heap.size g21 2 c21 (two va vb) (fun j => if j = 0 then os1.length else os2.length) w1 (lists_two k1 k2 h.dis (owns_cell k3 rfl rfl) (owns_cell k3 rfl rfl) (fun e => owns_other k1 k3 (by decide) e rfl) (fun e => owns_other k2 k3 (by decide) e rfl)) (by omega) (by omega) (by omega) (fun j _ => by split <;> omega)).mono fun e w' ⟨h1, h2⟩ => ⟨h1, h2.mono fun b _ hb => by unfold turnE; rw [if_neg (by omega), if_pos rfl]; exact hb⟩
      · simp only [h21', h9, if_false]
        exact ownAt_nil k hk _ _
  · rintro e w' ⟨rfl, hg⟩
    refine ⟨rfl, h.old.trans (hg.below (fun b ⟨j, hj, hs⟩ => ?_) h.old.size)⟩
    rcases hturn j b hs with ⟨_, z, hz', e⟩ | ⟨_, e⟩
    · exact ((hea z hz').lt b e).1
    · rcases e with e | e
      · exact (h.one.row.lt b e).1
      · exact (h.twin.row.lt b e).1
end Go.Proofs.YtajaijidecomdaaGreatDoor
