/- merge.key: labels as a text, each text behind its length. -/
import Derived.Test.YtihidnmpngeohaaGreatG30
import Derived.Test.YtihidnmpngeohaaGreatG00
import Derived.Lib.VarintBits
import Derived.Lib.Zigzag
namespace Go.Proofs.YtihidnmpngeohaaGreat
open Go.RowKit Go.Lib

/-- The bytes so far, in the block that the closure holds. -/
structure KeyB (B bb : Nat) (w0 w : World) (l : List UInt8) : Prop where
  cell : ∃ v, w.heap[bb]? = some (.cells #[v] 175 (0, 0)) ∧ w.ownsRow B 5 1 v l.length (bytesV l)
  old : Below B w0 w
theorem KeyB.below {B bb : Nat} {w0 w w' : World} {l : List UInt8} (h : KeyB B bb w0 w l) (hs : B ≤ w.heap.size) (hb : Below w.heap.size w w') : KeyB B bb w0 w' l := by
  obtain ⟨v, h1, h2⟩ := h.cell
  exact ⟨⟨v, (hb.block bb (Array.getElem?_eq_some_iff.1 h1).1).trans h1, owns_below h2 hb⟩, h.old.trans (hb.mono hs)⟩
theorem u64_and127 (m : Nat) (h : m ≤ 1000000) : bits BinOp.and .u64 (m : Int) 127 = ((m % 128 : Nat) : Int) := by
  have h := bits_mask .u64 64 (by decide) wraps_u64 7 (by decide) (m : Int) (by omega) (by omega)
  rw [show ((2 : Int) ^ 7 - 1) = 127 by decide, show ((2 : Int) ^ 7) = 128 by decide] at h
  rw [h]; omega
theorem u8_or128 (p : Nat) (h : p < 128) : bits BinOp.or .u8 (p : Int) 128 = ((p + 128 : Nat) : Int) := by
  have h := bits_join_low .u8 8 (by decide) wraps_u8 7 (p : Int) 128 (by omega) (by omega) (by omega) (by decide) (by decide) (by decide)
  rw [h]; omega
theorem own_row_cells {w : World} {bb : Nat} {v : Value} {e : TypeId} (h : w.heap[bb]? = some (.cells #[v] e (0, 0))) : w.cell? ⟨bb, 0, none⟩ = some v ∧ w.frozen? ⟨bb, 0, none⟩ = false :=
  ⟨by rw [cell_of_row w bb 0 _ _ _ h]; rfl, by simp [World.frozen?, h]⟩
/-- The row's block is not the closure's. -/
theorem row_ne {w : World} {bb : Nat} {B n : Nat} {v u : Value} {xs : List Value} (hv : w.heap[bb]? = some (.cells #[u] 175 (0, 0))) (ho : w.ownsRow B 5 1 v n xs) : v.ownBlock ≠ some bb := fun e => by
  rcases ho.2 with ⟨rfl, _⟩ | ⟨b, cap, cur, rfl, _, hb, _⟩
  · cases e
  · obtain rfl : b = bb := by simpa [Value.ownBlock] using e
    rw [hb] at hv
    injection hv with hv
    injection hv with _ hv
    exact absurd hv (by decide)
/-- Blocks of labels stay. -/
def LabKept (w w' : World) : Prop := ∀ (b : Nat) (cs : Array Value) (fz : Nat × Nat), w.heap[b]? = some (Obj.cells cs 29 fz) → w'.heap[b]? = w.heap[b]?
theorem LabKept.refl (w : World) : LabKept w w := fun _ _ _ _ => rfl
theorem LabKept.trans {a b c : World} (h : LabKept a b) (k : LabKept b c) : LabKept a c := fun q cs fz hq => (k q cs fz ((h q cs fz hq).trans hq)).trans (h q cs fz hq)
theorem LabKept.grown {w w' : World} {B n : Nat} {v : Value} {xs : List Value} (ho : w.ownsRow B 5 1 v n xs) (hg : w.grownBy w' v.ownBlock) : LabKept w w' := fun b cs fz hb => hg.block b (Array.getElem?_eq_some_iff.1 hb).1 (fun e => by
  rcases ho.2 with ⟨rfl, _⟩ | ⟨q, cap, cur, rfl, _, hq, _⟩
  · cases e
  · obtain rfl : q = b := by simpa [Value.ownBlock] using e.symm
    rw [hq] at hb
    injection hb with hb
    injection hb with _ hb
    exact absurd hb (by decide))
theorem LabKept.below {w w' : World} (h : Below w.heap.size w w') : LabKept w w' := fun b cs fz hb => h.block b (Array.getElem?_eq_some_iff.1 hb).1
/-- The bytes have grown, and lie in the closure's block. -/
theorem KeyB.put {B bb n : Nat} {w0 w wa w1 : World} {l news : List UInt8} {v v' : Value} (h : Below B w0 w) (hv : w.heap[bb]? = some (.cells #[v] 175 (0, 0))) (ho : w.ownsRow B 5 1 v l.length (bytesV l)) (hB : B ≤ w.heap.size) (hBb : B ≤ bb)
    (ha : Below w.heap.size w wa) (hn : n = (l ++ news).length) (hown : w1.ownsRow B 5 1 v' n (bytesV (l ++ news))) (hg : wa.grownBy w1 v.ownBlock) :
    KeyB B bb w0 (w1.setCell ⟨bb, 0, none⟩ v') (l ++ news) ∧ w1.heap[bb]? = some (.cells #[v] 175 (0, 0)) ∧ w.heap.size ≤ (w1.setCell ⟨bb, 0, none⟩ v').heap.size ∧ (w1.setCell ⟨bb, 0, none⟩ v').ownsRow B 5 1 v' n (bytesV (l ++ news)) ∧ Below B w0 (w1.setCell ⟨bb, 0, none⟩ v') ∧
    (w1.setCell ⟨bb, 0, none⟩ v').heap[bb]? = some (.cells #[v'] 175 (0, 0)) ∧ LabKept w (w1.setCell ⟨bb, 0, none⟩ v') := by
  have hlt := (Array.getElem?_eq_some_iff.1 hv).1
  have hne := row_ne hv ho
  have hs := ha.size
  have hs1 := hg.size
  have hv1 : w1.heap[bb]? = some (.cells #[v] 175 (0, 0)) := (hg.block bb (by omega) (fun e => hne e.symm)).trans ((ha.block bb hlt).trans hv)
  have hne1 := row_ne hv1 hown
  have h2 : GrownIn (fun k => k = bb) w1 (w1.setCell ⟨bb, 0, none⟩ v') := ⟨rfl, rfl, rfl, by simp [World.setCell], fun k _ hk => Below.heap_setCell _ _ _ _ (fun e => hk e)⟩
  have h3 := h2.owns hown (fun k hk e => hne1 (by rw [hk, e]))
  have h4 : Below B w0 (w1.setCell ⟨bb, 0, none⟩ v') := (((h.trans (ha.mono hB)).grown hg (by omega) (fun j hj => (ho.lt j hj).1))).setCell hBb _
  have h5 : (w1.setCell ⟨bb, 0, none⟩ v').heap[bb]? = some (.cells #[v'] 175 (0, 0)) := heap_setCell_same _ _ _ _ _ _ hv1
  have h6 : LabKept w1 (w1.setCell ⟨bb, 0, none⟩ v') := fun b cs fz hb => Below.heap_setCell _ _ _ _ (fun e => by
    have e : b = bb := e
    rw [e, hv1] at hb
    injection hb with hb
    injection hb with _ hb
    exact absurd hb (by decide))
  exact ⟨⟨⟨_, h5, by subst hn; exact h3⟩, h4⟩, hv1, by simp [World.setCell]; omega, h3, h4, h5, ((LabKept.below ha).trans (LabKept.grown (owns_below ho ha) hg)).trans h6⟩
set_option maxHeartbeats 4000000 in
set_option maxRecDepth 100000 in
theorem keyPut_any (B bb : Nat) (l : List UInt8) (s : ByteArray) (w0 w : World) (h : KeyB B bb w0 w l) (hB : B ≤ w.heap.size) (hBb : B ≤ bb) (hn : l.length ≤ 10000000) (hs : s.size ≤ 1000000) :
    Calls Tryz.prog 110 #[.string s, .pointer (some ⟨bb, 0, none⟩)] w fun e w' => e = .returned (.tuple #[]) ∧ KeyB B bb w0 w' (l ++ putK s.data.toList) ∧ w.heap.size ≤ w'.heap.size ∧ LabKept w w' := by
  obtain ⟨i0, hi, hz0, hz1, hz2⟩ := info_parts Tryz.infoByte
  have hsz : s.size = s.data.toList.length := (Array.length_toList).symm
  have HO := Lib.hid h
  have HI := Lib.hid (show _ ∧ _ ∧ _ ∧ _ ∧ _ from ⟨hsz, hi, hz0, hz1, hz2⟩)
  clear h hsz hi hz0 hz1 hz2
  go_enter Tryz.func110, Tryz.ntmps110
  go_wp2
  go_loopw [3] (fun nv wr => ∃ (m : Nat) (l' : List UInt8), nv = .int .u64 m ∧ m ≤ 1000000 ∧ Hid (KeyB B bb w0 wr l' ∧ l' ++ vint m = l ++ vint s.size ∧ w.heap.size ≤ wr.heap.size ∧ LabKept w wr) ∧ l'.length ≤ 20000000 + s.size - m) (fun nv _ => (intOf nv).toNat)
  case atStart => exact ⟨s.size, l, rfl, hs, Lib.hid ⟨HO.out, rfl, Nat.le_refl _, LabKept.refl _⟩, by omega⟩
  case round =>
    obtain ⟨m, l', rfl, hm, HR, hl'⟩ := hrel
    obtain ⟨v, hv, ho⟩ := HR.out.1.cell
    obtain ⟨c0, f0⟩ := own_row_cells hv
    have hsz := HR.out.2.2.1
    obtain ⟨p, hp⟩ : ∃ p, m % 128 = p := ⟨_, rfl⟩
    have hand := u64_and127 m hm
    rw [hp] at hand
    have hp1 : p < 128 := by omega
    have hp2 : (p : Int) % 256 = p := by omega
    have hpb : ((UInt8.ofNat p).toNat : Int) = p := by rw [ofNat_toNat (by omega)]
    have hbv : bytesV [UInt8.ofNat p] = [.int .u8 (p : Int)] := by show [Value.int .u8 ((UInt8.ofNat p).toNat : Int)] = _; rw [hpb]
    obtain ⟨-, hi, hz0, hz1, hz2⟩ := HI.out
    have HV := Lib.hid (show _ ∧ _ ∧ _ ∧ _ from ⟨hv, ho, hbv, hp⟩)
    clear hv ho hbv hpb hp
    by_cases hlt : m < 128
    · have mm : (m : Int) < 128 := by omega
      go_wp2_with (at_builtin; refine wpList_append_full _ rfl _ _ 175 rfl B 5 i0 _ 1 1 Tryz.underlying175 hi hz0 hz1 hz2 rfl (by omega) _ l'.length (bytesV l') rfl (HV.out.2.1.alloc _) ⟨wr.heap.size, 0, none⟩ 1 1 [.int .u8 (p : Int)] rfl rfl (cells_newL wr [.int .u8 (p : Int)] _) (by simp [Value.oneCell']) (by omega) (by unfold maxLen; omega) (by omega) (by simp; omega) ?_)
      intro g cap w1 hown hg _ _
      have hba : Below wr.heap.size wr (wr.alloc (.cells #[.int .u8 (p : Int)] 5)) := (Below.refl _ _).alloc (Nat.le_refl _) _
      have hput := KeyB.put (n := l'.length + 1) (news := [UInt8.ofNat p]) HR.out.1.old HV.out.1 HV.out.2.1 (by omega) hBb hba (by simp) (by rw [bytesV_append, HV.out.2.2.1]; exact hown) hg
      obtain ⟨c1, f1⟩ := own_row_cells hput.2.1
      have hvl : vint m = [UInt8.ofNat p] := by rw [vint_lt hlt, ← HV.out.2.2.2, Nat.mod_eq_of_lt hlt]
      have HP := Lib.hid (show _ ∧ _ from ⟨hput, hvl⟩)
      clear hput hown hg hba c0 f0 hvl
      go_wp2_with (at_builtin; refine wpList_append_own_string _ rfl _ _ 175 9 rfl B 5 i0 Tryz.underlying175 Tryz.underlying9 hi hz0 hz1 hz2 _ (l'.length + 1) _ rfl HP.out.1.2.2.2.1 s rfl (by unfold maxLen; omega) (by omega) (by have := HP.out.1.2.2.1; omega) ?_)
      intro v2 w2 ho2 hg2 _
      obtain ⟨A2, q2, rfl, _, _⟩ := owns_slice ho2
      have hput2 := KeyB.put (n := l'.length + 1 + s.size) (news := s.data.toList) HP.out.1.2.2.2.2.1 HP.out.1.2.2.2.2.2.1 (by have := HP.out.1.2.2.2.1; rw [List.length_append]; exact this) (by have := HP.out.1.2.2.1; omega) hBb (Below.refl _ _) (by have := HI.out.1; simp; omega) (by rw [bytesV_append, ← strCells_bytes]; exact ho2) hg2
      obtain ⟨c2, f2⟩ := own_row_cells hput2.2.1
      have HP2 := Lib.hid hput2
      clear hput2 ho2 hg2 c1 f1 hi hz0 hz1 hz2
      go_wp2
      go_end0
      refine ⟨rfl, ?_, by have := HP.out.1.2.2.1; have := HP2.out.2.2.1; omega, (HR.out.2.2.2.trans HP.out.1.2.2.2.2.2.2).trans HP2.out.2.2.2.2.2.2⟩
      have e : l ++ putK s.data.toList = l' ++ [UInt8.ofNat p] ++ s.data.toList := by
        unfold putK
        rw [← HI.out.1, ← List.append_assoc, ← HR.out.2.1, HP.out.2]
      rw [e]
      exact HP2.out.1
    · have mm : ¬ (m : Int) < 128 := by omega
      have mm2 : (128 : Int) ≤ (m : Int) := by omega
      have hor := u8_or128 p hp1
      go_wp2_with (at_builtin; refine wpList_append_full _ rfl _ _ 175 rfl B 5 i0 _ 1 1 Tryz.underlying175 hi hz0 hz1 hz2 rfl (by omega) _ l'.length (bytesV l') rfl (HV.out.2.1.alloc _) ⟨wr.heap.size, 0, none⟩ 1 1 [.int .u8 (p : Int)] rfl rfl (cells_newL wr [.int .u8 (p : Int)] _) (by simp [Value.oneCell']) (by omega) (by unfold maxLen; omega) (by omega) (by simp; omega) ?_)
      intro g cap w1 hown hg _ _
      have hba : Below wr.heap.size wr (wr.alloc (.cells #[.int .u8 (p : Int)] 5)) := (Below.refl _ _).alloc (Nat.le_refl _) _
      have hput := KeyB.put (n := l'.length + 1) (news := [UInt8.ofNat p]) HR.out.1.old HV.out.1 HV.out.2.1 (by omega) hBb hba (by simp) (by rw [bytesV_append, HV.out.2.2.1]; exact hown) hg
      obtain ⟨c1, f1⟩ := own_row_cells hput.2.1
      have hgne : g ≠ bb := fun e => row_ne hput.2.1 hown (by rw [e]; rfl)
      have hgne' : bb ≠ g := fun e => hgne e.symm
      have he := owns_cell hown (g := g) rfl (t := l'.length) (u := .int .u8 (p : Int)) (by rw [List.getElem?_append_right (by rw [bytesV_length]; exact Nat.le_refl _), bytesV_length, Nat.sub_self]; rfl)
      have hef := hown.frozenAt l'.length
      have HP := Lib.hid (show _ ∧ _ from ⟨hput, hown⟩)
      clear hput hown hg hba c0 f0
      go_wp2_with fail
      obtain ⟨hs3, hs4⟩ := HP.out.1.2.2.2.1.stored l'.length (.int .u8 ((p : Int) + 128))
      have hnb : (((UInt8.ofNat (p + 128)).toNat : Nat) : Int) = (p : Int) + 128 := by rw [ofNat_toNat (by omega)]; omega
      have hset : (bytesV (l' ++ [UInt8.ofNat p])).set l'.length (.int .u8 ((p : Int) + 128)) = bytesV (l' ++ [UInt8.ofNat (p + 128)]) := by
        rw [bytesV_append, bytesV_append, List.set_append_right _ _ (by rw [bytesV_length]; exact Nat.le_refl _), bytesV_length, Nat.sub_self]
        show bytesV l' ++ [_] = bytesV l' ++ [Value.int .u8 ((UInt8.ofNat (p + 128)).toNat : Int)]
        rw [hnb]
      rw [hset] at hs3
      go_roundw
      case measure => simp [intOf]; omega
      case rel =>
        refine ⟨m / 128, l' ++ [UInt8.ofNat (p + 128)], by simp, by omega, Lib.hid ⟨⟨⟨_, (hs4.block bb (Array.getElem?_eq_some_iff.1 HP.out.1.2.2.2.2.2.1).1 (fun e => hgne' (by simpa [Value.ownBlock] using e))).trans HP.out.1.2.2.2.2.2.1, by rw [show (l' ++ [UInt8.ofNat (p + 128)]).length = l'.length + 1 by simp]; exact hs3⟩, ?_⟩, ?_, ?_, (HR.out.2.2.2.trans HP.out.1.2.2.2.2.2.2).trans (LabKept.grown HP.out.1.2.2.2.1 hs4)⟩, by simp; omega⟩
        · exact HP.out.1.2.2.2.2.1.setCell (HP.out.1.2.2.2.1.lt g rfl).1 _
        · rw [← HR.out.2.1, vint_ge hlt, HV.out.2.2.2, List.append_assoc]; rfl
        · have := HP.out.1.2.2.1
          have h2 := hs4.size
          omega
theorem keyL_mem {l : List Lb} {x : Lb} (h : x ∈ l) : x.nm.size ≤ (keyL l).length ∧ x.vl.size ≤ (keyL l).length := by
  induction l with
  | nil => cases h
  | cons y l ih =>
    have e : (keyL (y :: l)).length = (labK y).length + (keyL l).length := by show (labK y ++ keyL l).length = _; rw [List.length_append]
    have e2 : (labK y).length = (vint y.nm.data.toList.length).length + y.nm.data.toList.length + ((vint y.vl.data.toList.length).length + y.vl.data.toList.length) := by
      unfold labK putK; rw [List.length_append, List.length_append, List.length_append]
    have e3 : y.nm.data.toList.length = y.nm.size := by rw [Array.length_toList]; rfl
    have e4 : y.vl.data.toList.length = y.vl.size := by rw [Array.length_toList]; rfl
    rcases List.mem_cons.1 h with rfl | h
    · omega
    · have := ih h; omega
theorem keyL_take (l : List Lb) (k : Nat) : (keyL (l.take k)).length ≤ (keyL l).length := by
  have h : keyL l = keyL (l.take k) ++ keyL (l.drop k) := by unfold keyL; rw [← List.flatMap_append, List.take_append_drop]
  rw [h, List.length_append]; omega
def keyS (L : List Lb) : ByteArray := ⟨(keyL L).toArray⟩
set_option maxHeartbeats 4000000 in
set_option maxRecDepth 100000 in
theorem key_any (A : Option Addr) (n c : Nat) (l : List Lb) (w : World) (hL : Lst Lb.cells 2 w w.heap.size A n l) (hn : n ≤ 1000000) (hk : (keyL l).length ≤ 1000000) :
    Calls Tryz.prog 79 #[.slice A n c] w fun e w' => e = .returned (.string (keyS l)) ∧ Below w.heap.size w w' := by
  have HL := Lib.hid hL
  clear hL
  go_enter Tryz.func79, Tryz.ntmps79
  go_wp2
  have h0 : KeyB w.heap.size w.heap.size w (w.alloc (.cells #[.slice none 0 0] 175)) (keyL (l.take 0)) := ⟨⟨_, heap_alloc_new _ _, World.ownsRow_nil _ _ _ _⟩, (Below.refl _ _).alloc (Nat.le_refl _) _⟩
  have hs0 : w.heap.size + 1 ≤ (w.alloc (.cells #[.slice none 0 0] 175)).heap.size := by simp
  have H0 := Lib.hid (show _ ∧ _ from ⟨h0, hs0⟩)
  clear h0 hs0
  go_loopw [6, 10] (fun _ iv wr => ∃ k : Nat, k ≤ n ∧ iv = .int .i64 k ∧ Hid (KeyB w.heap.size w.heap.size w wr (keyL (l.take k)) ∧ w.heap.size + 1 ≤ wr.heap.size)) (fun _ iv _ => n - (intOf iv).toNat)
  case atStart => exact ⟨0, Nat.zero_le _, rfl, H0⟩
  case round =>
    obtain ⟨k, hk2, rfl, HR⟩ := hrel
    have hsz := HR.out.2
    by_cases hlt : k < n
    · obtain ⟨b, off, x, rfl, hb, hx, hcl⟩ := HL.out.at hlt
      have c0 := (HR.out.1.old.cell (p := ⟨b, off + k * 2 + 0, none⟩) hb).trans (hcl 0 _ rfl)
      have c1 := (HR.out.1.old.cell (p := ⟨b, off + k * 2 + 1, none⟩) hb).trans (hcl 1 _ rfl)
      simp only [Nat.add_zero] at c0
      have hmem := keyL_mem (List.mem_of_getElem? hx)
      have htk := keyL_take l k
      have hnx : keyL (l.take (k + 1)) = keyL (l.take k) ++ putK x.nm.data.toList ++ putK x.vl.data.toList := by
        obtain ⟨q1, q2⟩ := List.getElem?_eq_some_iff.1 hx
        rw [List.take_succ_eq_append_getElem q1, q2]
        unfold keyL
        rw [List.flatMap_append, List.flatMap_singleton, List.append_assoc]
        rfl
      have hkb : KeyB w.heap.size w.heap.size w (wr.alloc (.cells #[.string x.nm, .string x.vl] 29)) (keyL (l.take k)) := HR.out.1.below (by omega) ((Below.refl _ _).alloc (Nat.le_refl _) _)
      have hbox : (wr.alloc (.cells #[.string x.nm, .string x.vl] 29)).heap[wr.heap.size]? = some (.cells #[.string x.nm, .string x.vl] 29 (0, 0)) := heap_alloc_new _ _
      have hsa : wr.heap.size + 1 ≤ (wr.alloc (.cells #[.string x.nm, .string x.vl] 29)).heap.size := by simp
      have hpl := putK_len x.nm.data.toList
      have hpn : x.nm.data.toList.length = x.nm.size := by rw [Array.length_toList]; rfl
      have HX := Lib.hid (show _ ∧ _ ∧ _ ∧ _ ∧ _ ∧ _ from ⟨hmem, htk, hnx, hkb, hbox, (⟨hsa, hpl, hpn⟩ : _ ∧ _ ∧ _)⟩)
      clear hmem htk hnx hkb hbox hcl hx hsa hpl hpn
      go_wp2_with fail
      refine (keyPut_any w.heap.size w.heap.size (keyL (l.take k)) x.nm w _ HX.out.2.2.2.1 (by have := HX.out.2.2.2.2.2.1; omega) (Nat.le_refl _) (by have := HX.out.2.1; omega) (by have := HX.out.1.1; omega)).mono ?_
      rintro e w2 ⟨rfl, h2, hs2, hk2'⟩
      have hb2 := (hk2' _ _ _ HX.out.2.2.2.2.1).trans HX.out.2.2.2.2.1
      have e1 : w2.cell? ⟨wr.heap.size, 1, none⟩ = some (.string x.vl) := by rw [cell_of_row w2 _ 1 _ _ _ hb2]; rfl
      have H2 := Lib.hid (show _ ∧ _ from ⟨h2, hs2⟩)
      clear h2 hs2 hk2' hb2 c0 c1
      go_wp2_with fail
      refine (keyPut_any w.heap.size w.heap.size _ x.vl w _ H2.out.1 (by have := HX.out.2.2.2.2.2.1; have := H2.out.2; omega) (Nat.le_refl _) (by have := HX.out.2.1; have := HX.out.2.2.2.2.2.2; have := HX.out.1.1; rw [List.length_append]; omega) (by have := HX.out.1.2; omega)).mono ?_
      rintro e w3 ⟨rfl, h3, hs3, _⟩
      have H3 := Lib.hid (show _ ∧ _ from ⟨h3, hs3⟩)
      clear h3 hs3 e1
      go_wp2
      go_roundw
      case measure => simp [intOf]; omega
      case rel => exact ⟨k + 1, hlt, by simp, Lib.hid ⟨by rw [HX.out.2.2.1]; exact H3.out.1, by have := HX.out.2.2.2.2.2.1; have := H2.out.2; have := H3.out.2; omega⟩⟩
    · obtain rfl : k = n := by omega
      have hfin := HR.out.1
      rw [List.take_of_length_le (by have := HL.out.1; omega)] at hfin
      obtain ⟨v, hv, ho⟩ := hfin.cell
      obtain ⟨c0, f0⟩ := own_row_cells hv
      have hconv := own_text ho
      have hold := hfin.old
      have HF := Lib.hid hold
      clear hv ho hfin hold
      go_wp2
      go_ret
      exact ⟨rfl, HF.out⟩
end Go.Proofs.YtihidnmpngeohaaGreat
