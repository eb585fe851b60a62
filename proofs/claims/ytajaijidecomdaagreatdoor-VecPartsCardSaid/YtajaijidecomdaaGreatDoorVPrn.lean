/- labels.Print: labels as a text. -/
import Derived.Test.YtajaijidecomdaaGreatDoorQuo7
import Derived.Test.YtajaijidecomdaaGreatDoorShelf7
import Derived.Test.YtajaijidecomdaaGreatDoorG13
import Derived.Shelf.Strings.OnBuilder
import Derived.Lib.Join
namespace Go.Proofs.YtajaijidecomdaaGreatDoor
open Go.RowKit Go.Lib

theorem cell_seen2 {w w' : World} (hb : Below w.heap.size w w') {p1 p2 : Addr} {v1 v2 : Value} (h : w.cell? p1 = some v1 ∧ w.cell? p2 = some v2) :
    w'.cell? p1 = some v1 ∧ w'.cell? p2 = some v2 := ⟨(hb.cell (World.block_lt_of_cell? w _ h.1)).trans h.1, (hb.cell (World.block_lt_of_cell? w _ h.2)).trans h.2⟩
/-- A label in a block of its own. -/
def LabBox (w : World) (b : Nat) (x y : ByteArray) : Prop := w.heap[b]? = some (.cells #[.string x, .string y] 104 (0, 0))
section
variable {w w' : World} {b : Nat} {x y : ByteArray}
theorem LabBox.c0 (h : LabBox w b x y) : w.cell? ⟨b, 0, none⟩ = some (.string x) := by rw [cell_of_row w b 0 _ _ (0, 0) h]; rfl
theorem LabBox.c1 (h : LabBox w b x y) : w.cell? ⟨b, 1, none⟩ = some (.string y) := by rw [cell_of_row w b 1 _ _ (0, 0) h]; rfl
theorem LabBox.f0 (h : LabBox w b x y) : w.frozen? ⟨b, 0, none⟩ = false := by unfold World.frozen?; rw [show w.heap[b]? = _ from h]; rfl
theorem LabBox.f1 (h : LabBox w b x y) : w.frozen? ⟨b, 1, none⟩ = false := by unfold World.frozen?; rw [show w.heap[b]? = _ from h]; rfl
theorem LabBox.lt (h : LabBox w b x y) : b < w.heap.size := (Array.getElem?_eq_some_iff.1 h).1
theorem LabBox.set0 (h : LabBox w b x y) (z : ByteArray) : LabBox (w.setCell ⟨b, 0, none⟩ (.string z)) b z y := heap_setCell_same w b 0 _ _ _ h
theorem LabBox.set1 (h : LabBox w b x y) (z : ByteArray) : LabBox (w.setCell ⟨b, 1, none⟩ (.string z)) b x z := heap_setCell_same w b 1 _ _ _ h
theorem LabBox.grown {bk : Nat} (h : LabBox w b x y) (hg : GrownIn (fun k => k = bk) w w') (hne : b ≠ bk) : LabBox w' b x y := (hg.block b h.lt hne).trans h
theorem LabBox.all (h : LabBox w b x y) : w.cell? ⟨b, 0, none⟩ = some (.string x) ∧ w.cell? ⟨b, 1, none⟩ = some (.string y) ∧ w.frozen? ⟨b, 0, none⟩ = false ∧ w.frozen? ⟨b, 1, none⟩ = false := ⟨h.c0, h.c1, h.f0, h.f1⟩
end
theorem labBox_new (w : World) (x y : ByteArray) : LabBox (w.alloc (.cells #[.string x, .string y] 104)) w.heap.size x y := heap_alloc_new w _
theorem LabBox.kept {S : Nat → Prop} {w w' : World} {b : Nat} {x y : ByteArray} (h : LabBox w b x y) (hg : GrownIn S w w') (hn : ¬ S b) : LabBox w' b x y := (hg.block b h.lt hn).trans h
theorem LabBox.held {w : World} {b : Nat} {x y : ByteArray} (h : LabBox w b x y) : w.cell? ⟨b, 0, none⟩ = some (.string x) ∧ w.cell? ⟨b, 1, none⟩ = some (.string y) := ⟨h.c0, h.c1⟩

theorem Tryz.joinExtra : Go.Proofs.Builder.Extra Tryz.prog Tryz.lJoin_ren where
  sizeBuilder := by kernel_rfl
  liesBuilder := by kernel_rfl
  t5 := Tryz.underlying5
  a5 := Tryz.isAgg5
  z5 := Tryz.sizeOf5
  v5 := Tryz.zeroValue5
  infoByte := by kernel_rfl
  cellsByte := by kernel_rfl
  sizeByte := by kernel_rfl
  neB5 := by decide
theorem Tryz.infoText : (Tryz.prog.info? 9).map (fun i => (i.zero, i.size, i.bytes)) = some (some (.string ByteArray.empty), 1, 16) := by kernel_rfl
def textsV (l : List ByteArray) : List Value := l.map Value.string
theorem textsV_length (l : List ByteArray) : (textsV l).length = l.length := by unfold textsV; rw [List.length_map]
/-- Joined, from a row of the call's own. -/
theorem join_own {w : World} {B n : Nat} {v : Value} {l : List ByteArray} (h : w.ownsRow B 9 1 v n (textsV l)) (sep : ByteArray) (hn : n ≤ 1000000) (hlen : (Lib.join (l.map (·.data.toList)) sep.data.toList).length ≤ 140737488355328) :
    Calls Tryz.prog 244 #[v, .string sep] w fun e w' => e = .returned (.string ⟨(Lib.join (l.map (·.data.toList)) sep.data.toList).toArray⟩) ∧ Below w.heap.size w w' := by
  have hl : l.length = n := by have := h.1; rw [textsV_length] at this; simpa using this
  rcases h.2 with ⟨rfl, rfl⟩ | ⟨g, cap, cur, rfl, _, hg, hc, _, _, _⟩
  · obtain rfl := List.length_eq_zero_iff.1 hl
    refine (Any.strings_Join_none Tryz.lJoin Tryz.joinExtra none 0 sep w).mono ?_
    rintro e w' ⟨rfl, rfl⟩
    exact ⟨rfl, Below.refl _ _⟩
  · subst hl
    refine Any.strings_Join Tryz.lJoin Tryz.joinExtra g 0 cap l sep w (fun j x hx => ?_) (Array.getElem?_eq_some_iff.1 hg).1 (by omega) hc hlen
    rw [Nat.zero_add]
    exact owns_cell h rfl (by unfold textsV; rw [List.getElem?_map, hx]; rfl)
/-- A label in a set that is printed. -/
def prnB (x : Lb) : List UInt8 := x.nm.data.toList ++ 61 :: quoteB x.vl.data.toList
def prnT (x : Lb) : ByteArray := ⟨(prnB x).toArray⟩
def printB (l : List Lb) : List UInt8 := 123 :: (Lib.join (l.map prnB) [44, 32] ++ [125])
theorem prn_eq (x : Lb) : x.nm ++ ⟨#[61]⟩ ++ ⟨(quoteB x.vl.data.toList).toArray⟩ = prnT x := by
  unfold prnT prnB
  apply ByteArray.ext
  apply Array.ext'
  simp [ByteArray.data_append]
theorem quoteB_len (s : List UInt8) : (quoteB s).length ≤ 4 * s.length + 2 := by
  unfold quoteB
  have := flat_escB_len s
  rw [List.length_cons, List.length_append, List.length_singleton]
  omega
theorem prnB_len (x : Lb) : (prnB x).length ≤ x.nm.size + 4 * x.vl.size + 3 := by
  have h1 : x.nm.size = x.nm.data.toList.length := (Array.length_toList).symm
  have h2 : x.vl.size = x.vl.data.toList.length := (Array.length_toList).symm
  unfold prnB
  have := quoteB_len x.vl.data.toList
  rw [List.length_append, List.length_cons]
  omega
theorem joinTail_len {l : List Lb} {m : Nat} (h : ∀ x ∈ l, (prnB x).length ≤ m) (sep : List UInt8) : (Lib.joinTail sep (l.map prnB)).length ≤ l.length * (sep.length + m) := by
  induction l with
  | nil => simp [Lib.joinTail]
  | cons x l ih =>
    have h1 := ih fun y hy => h y (List.mem_cons_of_mem _ hy)
    have h2 := h x (by simp)
    have e : (Lib.joinTail sep ((x :: l).map prnB)).length = sep.length + (prnB x).length + (Lib.joinTail sep (l.map prnB)).length := by
      unfold Lib.joinTail
      simp
      omega
    rw [e, List.length_cons, Nat.succ_mul]
    omega
theorem join_len {l : List Lb} {m : Nat} (h : ∀ x ∈ l, (prnB x).length ≤ m) (sep : List UInt8) : (Lib.join (l.map prnB) sep).length ≤ l.length * (sep.length + m) := by
  cases l with
  | nil => simp [Lib.join_nil]
  | cons x l =>
    rw [List.map_cons, Lib.join_cons, List.length_append, List.length_cons, Nat.succ_mul]
    have h1 := h x (by simp)
    have h2 := joinTail_len (fun y hy => h y (List.mem_cons_of_mem _ hy)) sep
    omega
set_option maxHeartbeats 2000000 in
set_option maxRecDepth 100000 in
theorem print_any (A : Option Addr) (n c : Nat) (l : List Lb) (w : World) (hL : Lst Lb.cells 2 w w.heap.size A n l) (hn : n ≤ 100000) (hsz : ∀ x ∈ l, x.nm.size ≤ 100000 ∧ x.vl.size ≤ 100000) :
    Calls Tryz.prog 199 #[.slice A n c] w fun e w' => e = .returned (.string ⟨(printB l).toArray⟩) ∧ Below w.heap.size w w' := by
  obtain ⟨i0, hi, hz0, hz1, hz2⟩ := info_parts Tryz.infoText
  have HI := Lib.hid (show _ ∧ _ ∧ _ ∧ _ from ⟨hi, hz0, hz1, hz2⟩)
  have HL := Lib.hid (show _ ∧ _ from ⟨hL, hsz⟩)
  clear hi hz0 hz1 hz2 hL hsz
  go_enter Tryz.func199, Tryz.ntmps199
  go_wp2
  go_loopw [3, 8] (fun v iv wr => ∃ k : Nat, k ≤ n ∧ iv = .int .i64 k ∧ Hid (wr.ownsRow w.heap.size 9 1 v k (textsV ((l.take k).map prnT)) ∧ Below w.heap.size w wr)) (fun _ iv _ => n - (intOf iv).toNat)
  case atStart => exact ⟨0, Nat.zero_le _, rfl, Lib.hid ⟨World.ownsRow_nil _ _ _ _, Below.refl _ _⟩⟩
  case round =>
    obtain ⟨k, hk, rfl, HR⟩ := hrel
    by_cases hlt : k < n
    · obtain ⟨b, off, x, rfl, hb, hx, hcl⟩ := HL.out.1.at hlt
      have hxs := HL.out.2 x (List.mem_of_getElem? hx)
      have hnext : textsV ((l.take (k + 1)).map prnT) = textsV ((l.take k).map prnT) ++ [.string (prnT x)] := by
        obtain ⟨g1, g2⟩ := List.getElem?_eq_some_iff.1 hx
        rw [List.take_succ_eq_append_getElem g1, g2]
        unfold textsV
        simp
      have c0 := (HR.out.2.cell (p := ⟨b, off + k * 2 + 0, none⟩) hb).trans (hcl 0 _ rfl)
      have c1 := (HR.out.2.cell (p := ⟨b, off + k * 2 + 1, none⟩) hb).trans (hcl 1 _ rfl)
      simp only [Nat.add_zero] at c0
      have hsw := HR.out.2.size
      have HX := Lib.hid (show _ ∧ _ from ⟨hnext, hxs⟩)
      have hb0 := labBox_new wr x.nm x.vl
      have hb0d : LabBox (wr.alloc (.cells #[.string x.nm, .string x.vl] 104)).drew wr.heap.size x.nm x.vl := labBox_new wr x.nm x.vl
      have hbd : Below w.heap.size w (wr.alloc (.cells #[.string x.nm, .string x.vl] 104)).drew := (HR.out.2.alloc hsw _).drew
      have hod : (wr.alloc (.cells #[.string x.nm, .string x.vl] 104)).drew.ownsRow w.heap.size 9 1 u3 k (textsV ((l.take k).map prnT)) := HR.out.1.alloc _
      have HB := Lib.hid (show _ ∧ _ ∧ _ ∧ _ from ⟨hb0, hb0d, hbd, hod⟩)
      obtain ⟨qt, hqt⟩ : ∃ qt : ByteArray, ⟨(quoteB x.vl.data.toList).toArray⟩ = qt := ⟨_, rfl⟩
      have he := prn_eq x
      have hq := fun W => quote_any x.vl (by have := hxs.2; omega) W
      rw [hqt] at he hq
      have hqs : qt.size ≤ 400002 := by
        have h1 : qt.size = (quoteB x.vl.data.toList).length := by rw [← hqt]; simp [ByteArray.size]
        have h2 := quoteB_len x.vl.data.toList
        have h3 : x.vl.size = x.vl.data.toList.length := (Array.length_toList).symm
        omega
      have z1 : ¬ 9223372036854775807 < x.nm.size + 1 := by have := hxs.1; omega
      have z2 : ¬ 9223372036854775807 < x.nm.size + 1 + qt.size := by have := hxs.1; omega
      have HQ := Lib.hid hq
      clear hqt hq hqs
      clear hb0 hb0d hbd hod hcl hx hnext hxs
      obtain ⟨hi, hz0, hz1, hz2⟩ := HI.out
      go_wp2_with fail
      go_region_held3 (fun w' => w'.cell? ⟨wr.heap.size, 0, none⟩ = some (.string x.nm) ∧ w'.cell? ⟨wr.heap.size, 1, none⟩ = some (.string x.vl)) (first | exact k6 | exact HB.out.1.held | go_keep)
        (first
          | (go_at_call 243; refine (HQ.out _).mono ?_; rintro e w2 ⟨rfl, hb2⟩; have k6 := cell_seen2 hb2 HB.out.2.1.held; have H2 := Lib.hid (show _ ∧ _ ∧ _ from ⟨HB.out.2.2.1.trans (hb2.mono HB.out.2.2.1.size), owns_below HB.out.2.2.2 hb2, LabBox.kept HB.out.2.1 (GrownIn.of_below hb2) (by have := HB.out.2.1.lt; omega)⟩); have hs2 := H2.out.1.size; clear hb2)
          | (refine step_append_lies _ (by rfl) _ _ _ (by rfl) w.heap.size 9 i0 _ 1 16 Tryz.underlying78 hi hz0 hz1 hz2 rfl (by omega) _ k (textsV ((l.take k).map prnT)) (by rfl) (by exact H2.out.2.1.alloc _) ⟨w2.heap.size, 0, none⟩ 1 1 [.string (prnT x)] (by rfl) (by rfl) (by exact cells_newL w2 [.string (prnT x)] _) (by simp [Value.oneCell']) (by omega) (by unfold maxLen; omega) (by omega) (by simp; omega) (w2.heap.size + 1) (by simp) ?_; intro g5 c5 w5 hown5 hg5 hl5 hlt5; have k6 : w5.cell? ⟨wr.heap.size, 0, none⟩ = some (.string x.nm) ∧ w5.cell? ⟨wr.heap.size, 1, none⟩ = some (.string x.vl) := LabBox.held (LabBox.kept (show LabBox (w2.alloc (.cells #[.string (prnT x)] 9)) wr.heap.size x.nm x.vl from (heap_alloc_old w2 _ H2.out.2.2.lt).trans H2.out.2.2) (show GrownIn _ (w2.alloc (.cells #[.string (prnT x)] 9)) w5 from GrownIn.of_grownBy hg5) (fun h => by have := (HR.out.1.lt _ h).2; omega)); have H5 := Lib.hid (show w5.ownsRow w.heap.size 9 1 _ (k + 1) (textsV ((l.take (k + 1)).map prnT)) ∧ Below w.heap.size w w5 from ⟨by (rw [HX.out.1]; exact hown5), (H2.out.1.alloc hs2 _).grown hg5 (by simp; omega) (fun j hj => (HR.out.1.lt j hj).1)⟩); clear hown5 hg5 hl5 hlt5))
      all_goals
        go_wp2
        go_roundw
        case measure => simp [intOf]; omega
        case rel => exact ⟨k + 1, hlt, by simp, H5⟩
    · obtain rfl : k = n := by omega
      have hj : (Lib.join ((l.map prnT).map (·.data.toList)) [44, 32]) = Lib.join (l.map prnB) [44, 32] := by
        rw [List.map_map]
        rfl
      have hR := HR.out.1
      rw [List.take_of_length_le (by have := HL.out.1.1; omega)] at hR
      have hjl : (Lib.join (l.map prnB) [44, 32]).length ≤ 100000000000 := by
        have h1 := join_len (l := l) (m := 500003) (fun x hx => by have h2 := prnB_len x; have h3 := HL.out.2 x hx; omega) [44, 32]
        have h2 := HL.out.1.1
        have h3 : l.length * ([44, 32].length + 500003) ≤ 100000 * ([(44 : UInt8), 32].length + 500003) := Nat.mul_le_mul_right _ (by omega)
        simp at h3
        simp at h1
        omega
      have hc := join_own hR ⟨#[44, 32]⟩ (by omega) (by rw [show (⟨#[44, 32]⟩ : ByteArray).data.toList = [44, 32] from rfl, hj]; omega)
      rw [show (⟨#[44, 32]⟩ : ByteArray).data.toList = [44, 32] from rfl, hj] at hc
      obtain ⟨jt, hjt⟩ : ∃ jt : ByteArray, ⟨(Lib.join (l.map prnB) [44, 32]).toArray⟩ = jt := ⟨_, rfl⟩
      rw [hjt] at hc
      have hjs : jt.size ≤ 100000000000 := by rw [← hjt]; simpa [ByteArray.size] using hjl
      have he : (⟨#[123]⟩ : ByteArray) ++ jt ++ ⟨#[125]⟩ = ⟨(printB l).toArray⟩ := by
        rw [← hjt]
        unfold printB
        apply ByteArray.ext
        apply Array.ext'
        simp [ByteArray.data_append]
      have z1 : ¬ 9223372036854775807 < 1 + jt.size := by omega
      have z2 : ¬ 9223372036854775807 < 1 + jt.size + 1 := by omega
      have HJ := Lib.hid hc
      clear hc hR hj hjl hjt hjs
      go_wp2_with (go_at_call 244; refine HJ.out.mono ?_; rintro e w2 ⟨rfl, hb2⟩; have H2 := Lib.hid (HR.out.2.trans (hb2.mono HR.out.2.size)); clear hb2)
      go_ret
      exact ⟨rfl, H2.out⟩
end Go.Proofs.YtajaijidecomdaaGreatDoor
