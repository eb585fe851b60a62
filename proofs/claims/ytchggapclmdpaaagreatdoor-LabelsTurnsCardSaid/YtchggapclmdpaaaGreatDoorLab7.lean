/- The scanner of labels.Parse: a label. -/
import Derived.Test.YtchggapclmdpaaaGreatDoorVal7
namespace Go.Proofs.YtchggapclmdpaaaGreatDoor
open Go.RowKit Go.Lib

/-- A label in a block of its own. -/
def LabBox (w : World) (b : Nat) (x y : ByteArray) : Prop := w.heap[b]? = some (.cells #[.string x, .string y] 94 (0, 0))
section
variable {w w' : World} {b : Nat} {x y : ByteArray}
theorem LabBox.c0 (h : LabBox w b x y) : w.cell? ⟨b, 0, none⟩ = some (.string x) := by rw [cell_of_row w b 0 _ _ (0, 0) h]; rfl
theorem LabBox.c1 (h : LabBox w b x y) : w.cell? ⟨b, 1, none⟩ = some (.string y) := by rw [cell_of_row w b 1 _ _ (0, 0) h]; rfl
theorem LabBox.f0 (h : LabBox w b x y) : w.frozen? ⟨b, 0, none⟩ = false := by unfold World.frozen?; rw [show w.heap[b]? = _ from h]; rfl
theorem LabBox.f1 (h : LabBox w b x y) : w.frozen? ⟨b, 1, none⟩ = false := by unfold World.frozen?; rw [show w.heap[b]? = _ from h]; rfl
theorem LabBox.lt (h : LabBox w b x y) : b < w.heap.size := (Array.getElem?_eq_some_iff.1 h).1
theorem LabBox.set0 (h : LabBox w b x y) (z : ByteArray) : LabBox (w.setCell ⟨b, 0, none⟩ (.string z)) b z y := heap_setCell_same w b 0 _ _ _ h
theorem LabBox.set1 (h : LabBox w b x y) (z : ByteArray) : LabBox (w.setCell ⟨b, 1, none⟩ (.string z)) b x z := heap_setCell_same w b 1 _ _ _ h
theorem LabBox.grown {bk : Nat} (h : LabBox w b x y) (hg : GrownIn (fun k => k = bk) w w') (hne : b ≠ bk) : LabBox w' b x y := (hg.block b h.lt hne).trans h
theorem LabBox.all (h : LabBox w b x y) : w.cell? ⟨b, 0, none⟩ = some (.string x) ∧ w.cell? ⟨b, 1, none⟩ = some (.string y) ∧ w.frozen? ⟨b, 0, none⟩ = false ∧ w.frozen? ⟨b, 1, none⟩ = false := ⟨h.c0, h.c1, h.f0, h.f1⟩
end
theorem labBox_new (w : World) (x y : ByteArray) : LabBox (w.alloc (.cells #[.string x, .string y] 94)) w.heap.size x y := heap_alloc_new w _
theorem Scan.alloc {w : World} {bk : Nat} {s : ByteArray} {k : Nat} (h : Scan w bk s k) (o : Obj) : Scan (w.alloc o) bk s k := (heap_alloc_old w o h.lt).trans h
theorem Scan.other {w : World} {bk : Nat} {s : ByteArray} {k : Nat} (h : Scan w bk s k) {p : Addr} (hp : bk ≠ p.block) (v : Value) : Scan (w.setCell p v) bk s k := (heap_setCell_other w p bk v hp).trans h
set_option maxHeartbeats 2000000 in
set_option maxRecDepth 100000 in
theorem label_value (bk : Nat) (s nm vl : ByteArray) (isv : Bool) (k0 k1 k2 k3 : Nat) (w : World) (hS : Scan w bk s k0) (hk : k0 ≤ s.size) (hbig : s.size ≤ 1000000)
    (hk1 : nameK s.data.toList k0 = k1) (hn : s.extract k0 k1 = nm) (hne : (nm.toList == []) = false) (hsg : signB s.data.toList k1 61 = true) (hk2 : signK s.data.toList k1 61 = k2)
    (hval : ∀ W, Scan W bk s k2 → Calls Tryz.prog 138 #[.pointer (some ⟨bk, 0, none⟩)] W fun e w' => e = .returned (.tuple #[.string vl, .bool isv]) ∧ Scan w' bk s k3 ∧ GrownIn (fun b => b = bk) W w') :
    Calls Tryz.prog 115 #[.pointer (some ⟨bk, 0, none⟩)] w fun e w' => e = .returned (.tuple #[.agg #[.string nm, .string vl], .bool isv]) ∧ Scan w' bk s k3 ∧ GrownIn (fun b => b = bk) w w' := by
  have hbk := hS.lt
  have hname := fun W (h : Scan W bk s k0) => sname_any bk s k0 W h hk (by omega)
  rw [hk1, hn] at hname
  have hsign := fun W (h : Scan W bk s k1) (h1 : k1 ≤ s.size) => sign_any bk s k1 61 W h h1 (by omega)
  rw [hsg, hk2] at hsign
  have hS0 := hS.alloc (.cells #[.string ByteArray.empty, .string ByteArray.empty] 94)
  have hB0 := labBox_new w ByteArray.empty ByteArray.empty
  have hG0 : GrownIn (fun b => b = bk ∨ w.heap.size ≤ b) w (w.alloc (.cells #[.string ByteArray.empty, .string ByteArray.empty] 94)) := (GrownIn.refl _ w).alloc _
  have hne1 : w.heap.size ≠ bk := by omega
  have hne2 : bk ≠ w.heap.size := by omega
  have HH := Lib.hid (show _ ∧ _ ∧ _ ∧ _ ∧ _ ∧ _ from ⟨hS0, hB0, hG0, hname, hsign, hval⟩)
  have HN := Lib.hid (show _ ∧ _ from ⟨hne1, hne2⟩)
  clear hS0 hB0 hG0 hname hsign hval hS hk1 hn hsg hk2 hbk hne1 hne2
  go_enter Tryz.func115, Tryz.ntmps115
  go_wp2_with (first
    | (go_at_call 137; refine (HH.out.2.2.2.1 _ HH.out.1).mono ?_; rintro e w1 ⟨rfl, hS1, _, hk1, hg1⟩; have H1 := Lib.hid (show _ ∧ _ ∧ _ ∧ _ from ⟨hS1, HH.out.2.1.grown hg1 HN.out.1, HH.out.2.2.1.trans hg1 (fun _ _ h => .inl h), hk1⟩); obtain ⟨c0, c1, f0, f1⟩ := H1.out.2.1.all; clear hS1 hg1 hk1)
    | (go_at_call 114; refine (HH.out.2.2.2.2.1 _ (H1.out.1.other HN.out.2 _) H1.out.2.2.2).mono ?_; rintro e w2 ⟨rfl, hS2, _, hg2⟩; have H2 := Lib.hid (show _ ∧ _ ∧ _ from ⟨hS2, (H1.out.2.1.set0 nm).grown hg2 HN.out.1, (grownIn_set H1.out.2.2.1 (.inr (Nat.le_refl _)) _).trans hg2 (fun _ _ h => .inl h)⟩); obtain ⟨d0, d1, g0, g1⟩ := H2.out.2.1.all; clear hS2 hg2)
    | (go_at_call 138; refine (HH.out.2.2.2.2.2 _ H2.out.1).mono ?_; rintro e w3 ⟨rfl, hS3, hg3⟩; have H3 := Lib.hid (show _ ∧ _ ∧ _ from ⟨hS3, H2.out.2.1.grown hg3 HN.out.1, H2.out.2.2.trans hg3 (fun _ _ h => .inl h)⟩); obtain ⟨e0, e1, h0, h1⟩ := H3.out.2.1.all; clear hS3 hg3))
  have hfin := ((H3.out.2.1.set1 vl).set0 nm).set1 vl
  have hs3 := ((H3.out.1.other (p := ⟨w.heap.size, 1, none⟩) HN.out.2 (.string vl)).other (p := ⟨w.heap.size, 0, none⟩) HN.out.2 (.string nm)).other (p := ⟨w.heap.size, 1, none⟩) HN.out.2 (.string vl)
  have hg3 := grownIn_set (grownIn_set (grownIn_set H3.out.2.2 (p := ⟨w.heap.size, 1, none⟩) (.inr (Nat.le_refl _)) (.string vl)) (p := ⟨w.heap.size, 0, none⟩) (.inr (Nat.le_refl _)) (.string nm)) (p := ⟨w.heap.size, 1, none⟩) (.inr (Nat.le_refl _)) (.string vl)
  have k0 := hfin.c0
  have k1 := hfin.c1
  refine bodyPost_ret (v := .tuple #[.agg #[.string nm, .string vl], .bool isv]) ?_ rfl ⟨rfl, hs3, hg3.mono fun k hk h => h.elim id (fun h => by omega)⟩
  clear hfin hs3 hg3 e0 e1 h0 h1 d0 d1 g0 g1 c0 c1 f0 f1
  generalize ((w3.setCell ⟨w.heap.size, 1, none⟩ (.string vl)).setCell ⟨w.heap.size, 0, none⟩ (.string nm)).setCell ⟨w.heap.size, 1, none⟩ (.string vl) = wf at k0 k1 ⊢
  simp [results, Tryz.results115, go_sem, k0, k1]
end Go.Proofs.YtchggapclmdpaaaGreatDoor
