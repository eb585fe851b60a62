/- text.Unquote of plain bytes between quotes. The scanner of labels.Parse: a value of plain bytes between quotes; a label. The scanner of labels.Parse: a label. -/
import Derived.Test.YtchggapclmdpaaaGreatDoorGd
import Derived.Test.YtchggapclmdpaaaGreatDoorShelf8
import Derived.Test.YtchggapclmdpaaaGreatDoorGe
import Derived.Shelf.Strings.Runes
import Derived.Laws.BytesArg
import Derived.OwnWalk
namespace Go.Proofs.YtchggapclmdpaaaGreatDoor
open Go.RowKit Go.Lib

/-- A byte that stands for itself between quotes. -/
def plainB (b : UInt8) : Prop := b ≠ 34 ∧ b ≠ 92 ∧ b ≠ 10
set_option maxHeartbeats 2000000 in
set_option maxRecDepth 100000 in
theorem unquote_plain (s : ByteArray) (t : List UInt8) (hs : s.data.toList = 34 :: (t ++ [34])) (hp : ∀ b ∈ t, plainB b) (hbig : t.length ≤ 1000000) (w : World) :
    Calls Tryz.prog 176 #[.string s] w fun e w' => e = .returned (.tuple #[.string ⟨t.toArray⟩, .int .i64 ((t.length : Int) + 2), .nilIface]) ∧ Below w.heap.size w w' := by
  have hsz : s.size = t.length + 2 := by
    have : s.size = s.data.toList.length := (Array.length_toList).symm
    rw [this, hs]; simp
  obtain ⟨i0, hi, hz0, hz1, hz2⟩ := info_parts Tryz.infoByte
  have HI := Lib.hid (show _ ∧ _ ∧ _ ∧ _ from ⟨hi, hz0, hz1, hz2⟩)
  have hne : (s.toList == []) = false := by rw [ByteArray.toList_eq, hs]; rfl
  have hpos : 0 < s.size := by omega
  have h0 : s[0]'hpos = 34 := by
    have h1 : s.data.toList[0]? = some 34 := by rw [hs]; rfl
    obtain ⟨h2, h3⟩ := List.getElem?_eq_some_iff.1 h1
    exact h3
  have hat : ∀ k b (hk : k < s.size), s.data.toList[k]? = some b → s[k]'hk = b := by
    intro k b hk h
    obtain ⟨h2, h3⟩ := List.getElem?_eq_some_iff.1 h
    exact h3
  have hru : ∀ w', Calls Tryz.prog 144 #[.string ⟨#[34, 39, 96]⟩, .int .i32 34] w' fun e w'' => e = .returned (.bool true) ∧ w'' = w' := fun w' => Any.strings_ContainsRune_ascii Tryz.lRune ⟨#[34, 39, 96]⟩ 34 w' (by decide) (by decide)
  have i0' : (0 : Int) < (s.size : Int) := by omega
  have HS := Lib.hid (show _ ∧ _ ∧ _ ∧ _ from ⟨hs, hp, hsz, hat⟩)
  clear hs hp hsz hat hi hz0 hz1 hz2
  go_enter Tryz.func176, Tryz.ntmps176
  go_wp2_with (go_at_call 144; refine (hru _).mono ?_; rintro e w' ⟨rfl, hw⟩; obtain rfl := hw.symm)
  go_loopw [7, 8] (fun v i wr => ∃ k : Nat, k ≤ t.length ∧ i = .int .i64 ((k : Int) + 1) ∧ Hid (wr.ownsRow w.heap.size 5 1 v k (bytesV (t.take k)) ∧ Below w.heap.size w wr)) (fun _ i _ => t.length + 1 - (intOf i).toNat)
  case atStart => exact ⟨0, Nat.zero_le _, rfl, Lib.hid ⟨World.ownsRow_nil _ _ _ _, Below.refl _ _⟩⟩
  case round =>
    obtain ⟨k, hk, rfl, HR⟩ := hrel
    have hks : k + 1 < s.size := by have := HS.out.2.2.1; omega
    obtain ⟨b, hb⟩ : ∃ b, s[k + 1]'hks = b := ⟨_, rfl⟩
    have hbl : s.data.toList[k + 1]? = some b := by
      rw [← hb, List.getElem?_eq_getElem (by rw [Array.length_toList]; exact hks)]
      rfl
    have j0 : (0 : Int) ≤ (k : Int) + 1 := by omega
    have j1 : (k : Int) + 1 < (s.size : Int) := by omega
    have j2 : ((k : Int) + 1).toNat = k + 1 := by omega
    have HBL := Lib.hid hbl
    clear hbl
    by_cases hlt : k < t.length
    · have htk : t[k]? = some b := by
        have := HBL.out
        rw [HS.out.1, List.getElem?_cons_succ, List.getElem?_append_left hlt] at this
        exact this
      obtain ⟨p1, p2, p3⟩ := HS.out.2.1 b (List.mem_of_getElem? htk)
      have q1 : ((b.toNat : Int) == 34) = false := byte_ne p1
      have q2 : ((b.toNat : Int) == 92) = false := byte_ne p2
      have q3 : ((b.toNat : Int) == 10) = false := byte_ne p3
      have HT := Lib.hid htk
      clear htk p1 p2 p3
      obtain ⟨hi, hz0, hz1, hz2⟩ := HI.out
      have hsw := HR.out.2.size
      go_wp2_with (at_builtin; refine wpList_append_own _ rfl _ _ 75 rfl w.heap.size 5 i0 _ 1 1 Tryz.underlying75 hi hz0 hz1 hz2 rfl (by omega) _ k (bytesV (t.take k)) rfl (HR.out.1.alloc _) ⟨wr.heap.size, 0, none⟩ 1 1 [.int .u8 b.toNat] rfl rfl (cells_newL wr [.int .u8 b.toNat] _) (by simp [Value.oneCell']) (by unfold maxLen; omega) (by omega) (by simp; omega) ?_)
      intro v' w5 hown5 hg5 _
      have hb5 := (HR.out.2.alloc HR.out.2.size (.cells #[.int .u8 b.toNat] 5)).grown hg5 (by simp; omega) (fun j hj => (HR.out.1.lt j hj).1)
      have hbt : bytesV (t.take (k + 1)) = bytesV (t.take k) ++ [.int .u8 b.toNat] := by
        obtain ⟨g1, g2⟩ := List.getElem?_eq_some_iff.1 HT.out
        unfold bytesV
        rw [List.take_succ_eq_append_getElem g1, g2, List.map_append]
        rfl
      have H5 := Lib.hid (show w5.ownsRow w.heap.size 5 1 v' (k + 1) (bytesV (t.take (k + 1))) ∧ _ from ⟨by rw [hbt]; exact hown5, hb5⟩)
      clear hown5 hg5 hb5 hbt hi hz0 hz1 hz2
      go_wp2
      go_roundw
      case measure => simp [intOf]; omega
      case rel => exact ⟨k + 1, hlt, by simp, H5⟩
    · obtain rfl : k = t.length := by omega
      have hb34 : b = 34 := by
        have := HBL.out
        rw [HS.out.1, List.getElem?_cons_succ, List.getElem?_append_right (Nat.le_refl _), Nat.sub_self] at this
        exact (Option.some.inj this).symm
      have hR1 := HR.out.1
      rw [List.take_length] at hR1
      have hconv := own_text hR1
      subst hb34
      have HC := Lib.hid hR1
      clear hR1
      go_wp2
      exact bodyPost_ret (v := .tuple #[.string ⟨t.toArray⟩, .int .i64 ((t.length : Int) + 2), .nilIface]) (by simp [results, Tryz.results176, go_sem]; omega) rfl ⟨rfl, HR.out.2⟩
end Go.Proofs.YtchggapclmdpaaaGreatDoor
namespace Go.Proofs.YtchggapclmdpaaaGreatDoor
open Go.RowKit Go.Lib

set_option maxHeartbeats 2000000 in
set_option maxRecDepth 100000 in
theorem unquote2_plain (s : ByteArray) (t : List UInt8) (hs : s.data.toList = 34 :: (t ++ [34])) (hp : ∀ b ∈ t, plainB b) (hbig : t.length ≤ 1000000) (w : World) :
    Calls Tryz.prog 159 #[.string s] w fun e w' => e = .returned (.tuple #[.string ⟨t.toArray⟩, .int .u16 0, .int .i64 ((t.length : Int) + 2)]) ∧ Below w.heap.size w w' := by
  have hc := unquote_plain s t hs hp hbig w
  have HC := Lib.hid hc
  clear hc hs hp
  go_enter Tryz.func159, Tryz.ntmps159
  go_wp2_with fail
  refine HC.out.mono ?_
  rintro e w' ⟨rfl, hb⟩
  have HB := Lib.hid hb
  clear hb
  go_wp2
  exact bodyPost_ret (v := .tuple #[.string ⟨t.toArray⟩, .int .u16 0, .int .i64 ((t.length : Int) + 2)]) (by simp [results, Tryz.results159, go_sem]) rfl ⟨rfl, HB.out⟩
theorem Scan.drewN {w : World} {bk : Nat} {s : ByteArray} {k : Nat} (h : Scan w bk s k) (n : Nat) : Scan (w.drewN n) bk s k := h
theorem Scan.drew {w : World} {bk : Nat} {s : ByteArray} {k : Nat} (h : Scan w bk s k) : Scan w.drew bk s k := h
theorem Scan.cs {w : World} {bk : Nat} {s : ByteArray} {k : Nat} (h : Scan w bk s k) : w.cell? ⟨bk, 0, none⟩ = some (.string s) ∧ w.cell? ⟨bk, 1, none⟩ = some (.int .i64 k) := ⟨h.c0, h.c1⟩
set_option maxHeartbeats 2000000 in
set_option maxRecDepth 100000 in
/-- At k0 stands a quote, then plain bytes t, then a quote. -/
theorem svalue_plain (bk : Nat) (s : ByteArray) (k0 : Nat) (t r : List UInt8) (w : World) (hS : Scan w bk s k0) (hd : s.data.toList.drop k0 = 34 :: (t ++ 34 :: r)) (hp : ∀ b ∈ t, plainB b) (hbig : s.size ≤ 1000000) :
    Calls Tryz.prog 138 #[.pointer (some ⟨bk, 0, none⟩)] w fun e w' => e = .returned (.tuple #[.string ⟨t.toArray⟩, .bool true]) ∧ Scan w' bk s (k0 + t.length + 2) ∧ GrownIn (fun b => b = bk) w w' := by
  have hsz : s.size = s.data.toList.length := (Array.length_toList).symm
  have hlen : k0 + t.length + 2 ≤ s.size := by
    have := congrArg List.length hd
    simp at this
    omega
  have hat : ∀ k b (hk : k < s.size), (34 :: (t ++ 34 :: r))[k - k0]? = some b → k0 ≤ k → s[k]'hk = b := by
    intro k b hk h h0
    rw [← hd, List.getElem?_drop, show k0 + (k - k0) = k by omega] at h
    obtain ⟨h2, h3⟩ := List.getElem?_eq_some_iff.1 h
    exact h3
  have hl0 : k0 < s.size := by omega
  have h34 : s[k0]'hl0 = 34 := hat k0 34 hl0 (by simp) (Nat.le_refl _)
  have hun := fun w' => unquote2_plain (s.extract k0 (k0 + t.length + 2)) t (by
    rw [extract_data, List.drop_take, hd, show k0 + t.length + 2 - k0 = (34 :: (t ++ [34])).length by simp; omega]
    rw [show 34 :: (t ++ 34 :: r) = (34 :: (t ++ [34])) ++ r by simp]
    exact List.take_left) hp (by omega) w'
  have c0 := hS.c0
  have c1 := hS.c1
  have f1 := hS.f1
  have i0 : (0 : Int) ≤ (k0 : Int) := by omega
  have i1 : (k0 : Int) < (s.size : Int) := by omega
  have i2 : ((k0 : Int) == (s.size : Int)) = false := by rw [beq_eq_false_iff_ne]; omega
  have HS := Lib.hid (show _ ∧ _ ∧ _ ∧ _ from ⟨hS, hlen, hat, hun⟩)
  have HP := Lib.hid (show _ ∧ _ from ⟨hp, hd⟩)
  clear hS hlen hat hun hp hd hsz
  go_enter Tryz.func138, Tryz.ntmps138
  go_wp2_with (go_quiet (fail))
  clear c0 c1 f1
  go_loopw [] (fun wr => ∃ j : Nat, j ≤ t.length ∧ Hid (Scan wr bk s (k0 + 1 + j) ∧ GrownIn (fun b => b = bk) w wr)) (fun wr => s.size - atOf wr bk)
  case atStart =>
    exact ⟨0, Nat.zero_le _, Lib.hid ⟨(show Scan (w.drewN _) bk s k0 from HS.out.1).next, grownIn_set (S := fun b => b = bk) ((GrownIn.refl (fun b => b = bk) w).drewN _) rfl _⟩⟩
  case round =>
    obtain ⟨j, hj, HR⟩ := hrel
    obtain ⟨q, hq⟩ : ∃ q, q = k0 + 1 + j := ⟨_, rfl⟩
    rw [← hq] at HR
    have hlt : q < s.size := by have := HS.out.2.1; omega
    obtain ⟨b, hb⟩ : ∃ b, (34 :: (t ++ 34 :: r))[q - k0]? = some b := ⟨_, List.getElem?_eq_getElem (by simp; omega)⟩
    have hsb : s[q]'hlt = b := HS.out.2.2.1 q b hlt hb (by omega)
    have HB := Lib.hid hb
    have HQ := Lib.hid hq
    have c0 := HR.out.1.c0
    have c1 := HR.out.1.c1
    have f1 := HR.out.1.f1
    have i3 : (0 : Int) ≤ (q : Int) := by omega
    have i4 : (q : Int) < (s.size : Int) := by omega
    clear hb hq
    by_cases hjt : j < t.length
    · have htj : t[j]? = some b := by
        have := HB.out
        rw [show q - k0 = j + 1 by have := HQ.out; omega, List.getElem?_cons_succ, List.getElem?_append_left hjt] at this
        exact this
      obtain ⟨p1, p2, p3⟩ := HP.out.1 b (List.mem_of_getElem? htj)
      have q1 : ((b.toNat : Int) == 34) = false := byte_ne p1
      have q2 : ((b.toNat : Int) == 92) = false := byte_ne p2
      clear htj p1 p2 p3
      go_wp2_with (go_quiet (fail))
      go_roundw
      case measure => rw [(show Scan (wr.drewN _) bk s q from HR.out.1).next.at, HR.out.1.at]; omega
      case rel => exact ⟨j + 1, hjt, Lib.hid ⟨by rw [show k0 + 1 + (j + 1) = q + 1 by have := HQ.out; omega]; exact (show Scan (wr.drewN _) bk s q from HR.out.1).next, grownIn_set (HR.out.2.drewN _) rfl _⟩⟩
    · have hjl : j = t.length := by omega
      have hb34 : b = 34 := by
        have := HB.out
        rw [show q - k0 = j + 1 by have := HQ.out; omega, List.getElem?_cons_succ, hjl, List.getElem?_append_right (Nat.le_refl _), Nat.sub_self] at this
        exact (Option.some.inj this).symm
      have q1 : ((b.toNat : Int) == 34) = true := by rw [hb34]; rfl
      have hun : ∀ w', Calls Tryz.prog 159 #[.string (s.extract k0 (q + 1))] w' fun e w'' => e = .returned (.tuple #[.string ⟨t.toArray⟩, .int .u16 0, .int .i64 ((t.length : Int) + 2)]) ∧ Below w'.heap.size w' w'' := by
        intro w'
        rw [show q + 1 = k0 + t.length + 2 by have := HQ.out; omega]
        exact HS.out.2.2.2 w'
      have i5 : ¬ (s.size : Int) ≤ (q : Int) := by omega
      have HUN := Lib.hid hun
      clear hun hb34
      go_wp2_with (go_quiet (fail))
      have i6 : (0 : Int) ≤ (q : Int) + 1 := by omega
      have i7 : (k0 : Int) ≤ (q : Int) + 1 := by have := HQ.out; omega
      have i8 : (q : Int) + 1 ≤ (s.size : Int) := by omega
      go_region_held3 (fun w' => w'.cell? ⟨bk, 0, none⟩ = some (.string s) ∧ w'.cell? ⟨bk, 1, none⟩ = some (.int .i64 ((q : Int) + 1))) (first | exact k6 | exact Scan.cs (Scan.drew (Scan.next (Scan.drewN HR.out.1 _))) | go_keep)
        (first | (go_at_call 159; refine (HUN.out _).mono ?_; rintro e w' ⟨rfl, hbw⟩; have k6 := cell_seen2 hbw (by assumption); have HB1 := Lib.hid (show Scan w' bk s (q + 1) ∧ GrownIn (fun b => b = bk) w w' from ⟨(((HR.out.1.drewN _).next).drew).below hbw, grownIn_below ((grownIn_set (HR.out.2.drewN _) (by exact rfl) _).drewN 1) hbw⟩); clear hbw))
      go_wp2
      exact bodyPost_ret (v := .tuple #[.string ⟨t.toArray⟩, .bool true]) (by simp [results, Tryz.results138, go_sem]) rfl ⟨rfl, by rw [show k0 + t.length + 2 = q + 1 by have := HQ.out; omega]; exact HB1.out.1, HB1.out.2⟩
end Go.Proofs.YtchggapclmdpaaaGreatDoor
namespace Go.Proofs.YtchggapclmdpaaaGreatDoor
open Go.RowKit Go.Lib

/-- A label in a block of its own. -/
def LabBox (w : World) (b : Nat) (x y : ByteArray) : Prop := w.heap[b]? = some (.cells #[.string x, .string y] 94 (0, 0))
section
variable {w w' : World} {b : Nat} {x y : ByteArray}
theorem LabBox.c0 (h : LabBox w b x y) : w.cell? ⟨b, 0, none⟩ = some (.string x) := by rw [cell_of_row w b 0 _ _ (0, 0) h]; rfl
theorem LabBox.c1 (h : LabBox w b x y) : w.cell? ⟨b, 1, none⟩ = some (.string y) := by rw [cell_of_row w b 1 _ _ (0, 0) h]; rfl
theorem LabBox.f0 (h : LabBox w b x y) : w.frozen? ⟨b, 0, none⟩ = false := by unfold World.frozen?; rw [show w.heap[b]? = _ from h]; rfl
theorem LabBox.f1 (h : LabBox w b x y) : w.frozen? ⟨b, 1, none⟩ = false := by unfold World.frozen?; rw [show w.heap[b]? = _ from h]; rfl
theorem LabBox.lt (h : LabBox w b x y) : b < w.heap.size := (Array.getElem?_eq_some_iff.1 h).1
theorem LabBox.set0 (h : LabBox w b x y) (z : ByteArray) : LabBox (w.setCell ⟨b, 0, none⟩ (.string z)) b z y := heap_setCell_same w b 0 _ _ _ h
theorem LabBox.set1 (h : LabBox w b x y) (z : ByteArray) : LabBox (w.setCell ⟨b, 1, none⟩ (.string z)) b x z := heap_setCell_same w b 1 _ _ _ h
theorem LabBox.grown {bk : Nat} (h : LabBox w b x y) (hg : GrownIn (fun k => k = bk) w w') (hne : b ≠ bk) : LabBox w' b x y := (hg.block b h.lt hne).trans h
theorem LabBox.all (h : LabBox w b x y) : w.cell? ⟨b, 0, none⟩ = some (.string x) ∧ w.cell? ⟨b, 1, none⟩ = some (.string y) ∧ w.frozen? ⟨b, 0, none⟩ = false ∧ w.frozen? ⟨b, 1, none⟩ = false := ⟨h.c0, h.c1, h.f0, h.f1⟩
end
theorem labBox_new (w : World) (x y : ByteArray) : LabBox (w.alloc (.cells #[.string x, .string y] 94)) w.heap.size x y := heap_alloc_new w _
theorem Scan.alloc {w : World} {bk : Nat} {s : ByteArray} {k : Nat} (h : Scan w bk s k) (o : Obj) : Scan (w.alloc o) bk s k := (heap_alloc_old w o h.lt).trans h
theorem Scan.other {w : World} {bk : Nat} {s : ByteArray} {k : Nat} (h : Scan w bk s k) {p : Addr} (hp : bk ≠ p.block) (v : Value) : Scan (w.setCell p v) bk s k := (heap_setCell_other w p bk v hp).trans h
set_option maxHeartbeats 2000000 in
set_option maxRecDepth 100000 in
theorem label_value (bk : Nat) (s nm vl : ByteArray) (isv : Bool) (k0 k1 k2 k3 : Nat) (w : World) (hS : Scan w bk s k0) (hk : k0 ≤ s.size) (hbig : s.size ≤ 1000000)
    (hk1 : nameK s.data.toList k0 = k1) (hn : s.extract k0 k1 = nm) (hne : (nm.toList == []) = false) (hsg : signB s.data.toList k1 61 = true) (hk2 : signK s.data.toList k1 61 = k2)
    (hval : ∀ W, Scan W bk s k2 → Calls Tryz.prog 138 #[.pointer (some ⟨bk, 0, none⟩)] W fun e w' => e = .returned (.tuple #[.string vl, .bool isv]) ∧ Scan w' bk s k3 ∧ GrownIn (fun b => b = bk) W w') :
    Calls Tryz.prog 115 #[.pointer (some ⟨bk, 0, none⟩)] w fun e w' => e = .returned (.tuple #[.agg #[.string nm, .string vl], .bool isv]) ∧ Scan w' bk s k3 ∧ GrownIn (fun b => b = bk) w w' := by
  have hbk := hS.lt
  have hname := fun W (h : Scan W bk s k0) => sname_any bk s k0 W h hk (by omega)
  rw [hk1, hn] at hname
  have hsign := fun W (h : Scan W bk s k1) (h1 : k1 ≤ s.size) => sign_any bk s k1 61 W h h1 (by omega)
  rw [hsg, hk2] at hsign
  have hS0 := hS.alloc (.cells #[.string ByteArray.empty, .string ByteArray.empty] 94)
  have hB0 := labBox_new w ByteArray.empty ByteArray.empty
  have hG0 : GrownIn (fun b => b = bk ∨ w.heap.size ≤ b) w (w.alloc (.cells #[.string ByteArray.empty, .string ByteArray.empty] 94)) := (GrownIn.refl _ w).alloc _
  have hne1 : w.heap.size ≠ bk := by omega
  have hne2 : bk ≠ w.heap.size := by omega
  have HH := Lib.hid (show _ ∧ _ ∧ _ ∧ _ ∧ _ ∧ _ from ⟨hS0, hB0, hG0, hname, hsign, hval⟩)
  have HN := Lib.hid (show _ ∧ _ from ⟨hne1, hne2⟩)
  clear hS0 hB0 hG0 hname hsign hval hS hk1 hn hsg hk2 hbk hne1 hne2
  go_enter Tryz.func115, Tryz.ntmps115
  go_wp2_with (first
    | (go_at_call 137; refine (HH.out.2.2.2.1 _ HH.out.1).mono ?_; rintro e w1 ⟨rfl, hS1, _, hk1, hg1⟩; have H1 := Lib.hid (show _ ∧ _ ∧ _ ∧ _ from ⟨hS1, HH.out.2.1.grown hg1 HN.out.1, HH.out.2.2.1.trans hg1 (fun _ _ h => .inl h), hk1⟩); obtain ⟨c0, c1, f0, f1⟩ := H1.out.2.1.all; clear hS1 hg1 hk1)
    | (go_at_call 114; refine (HH.out.2.2.2.2.1 _ (H1.out.1.other HN.out.2 _) H1.out.2.2.2).mono ?_; rintro e w2 ⟨rfl, hS2, _, hg2⟩; have H2 := Lib.hid (show _ ∧ _ ∧ _ from ⟨hS2, (H1.out.2.1.set0 nm).grown hg2 HN.out.1, (grownIn_set H1.out.2.2.1 (.inr (Nat.le_refl _)) _).trans hg2 (fun _ _ h => .inl h)⟩); obtain ⟨d0, d1, g0, g1⟩ := H2.out.2.1.all; clear hS2 hg2)
    | (go_at_call 138; refine (HH.out.2.2.2.2.2 _ H2.out.1).mono ?_; rintro e w3 ⟨rfl, hS3, hg3⟩; have H3 := Lib.hid (show _ ∧ _ ∧ _ from ⟨hS3, H2.out.2.1.grown hg3 HN.out.1, H2.out.2.2.trans hg3 (fun _ _ h => .inl h)⟩); obtain ⟨e0, e1, h0, h1⟩ := H3.out.2.1.all; clear hS3 hg3))
  have hfin := ((H3.out.2.1.set1 vl).set0 nm).set1 vl
  have hs3 := ((H3.out.1.other (p := ⟨w.heap.size, 1, none⟩) HN.out.2 (.string vl)).other (p := ⟨w.heap.size, 0, none⟩) HN.out.2 (.string nm)).other (p := ⟨w.heap.size, 1, none⟩) HN.out.2 (.string vl)
  have hg3 := grownIn_set (grownIn_set (grownIn_set H3.out.2.2 (p := ⟨w.heap.size, 1, none⟩) (.inr (Nat.le_refl _)) (.string vl)) (p := ⟨w.heap.size, 0, none⟩) (.inr (Nat.le_refl _)) (.string nm)) (p := ⟨w.heap.size, 1, none⟩) (.inr (Nat.le_refl _)) (.string vl)
  have k0 := hfin.c0
  have k1 := hfin.c1
  refine bodyPost_ret (v := .tuple #[.agg #[.string nm, .string vl], .bool isv]) ?_ rfl ⟨rfl, hs3, hg3.mono fun k hk h => h.elim id (fun h => by omega)⟩
  clear hfin hs3 hg3 e0 e1 h0 h1 d0 d1 g0 g1 c0 c1 f0 f1
  generalize ((w3.setCell ⟨w.heap.size, 1, none⟩ (.string vl)).setCell ⟨w.heap.size, 0, none⟩ (.string nm)).setCell ⟨w.heap.size, 1, none⟩ (.string vl) = wf at k0 k1 ⊢
  simp [results, Tryz.results115, go_sem, k0, k1]
end Go.Proofs.YtchggapclmdpaaaGreatDoor
