/- labels.Encode: a set of labels as bytes. -/
import Derived.Test.YtchggapclmdpaaaGreatDoorGq
import Derived.Test.YtchggapclmdpaaaGreatDoorGo
import Derived.Test.YtchggapclmdpaaaGreatDoorGe
namespace Go.Proofs.YtchggapclmdpaaaGreatDoor
open Go.RowKit Go.Lib

def labB (x : Lb) : List UInt8 := putB x.nm.data.toList ++ putB x.vl.data.toList
def encB (l : List Lb) : List UInt8 := UInt8.ofNat l.length :: l.flatMap labB
theorem labB_length (x : Lb) : (labB x).length = 4 + x.nm.size + x.vl.size := by
  have h1 : x.nm.size = x.nm.data.toList.length := (Array.length_toList).symm
  have h2 : x.vl.size = x.vl.data.toList.length := (Array.length_toList).symm
  unfold labB
  rw [List.length_append, putB_length, putB_length, h1, h2]
  omega
theorem flat_labB_le {l : List Lb} (h : ∀ x ∈ l, x.nm.size ≤ 1024 ∧ x.vl.size ≤ 1024) : (l.flatMap labB).length ≤ l.length * 2052 := by
  induction l with
  | nil => simp
  | cons x l ih =>
    rw [List.flatMap_cons, List.length_append, labB_length, List.length_cons]
    have h1 := h x (by simp)
    have h2 := ih fun y hy => h y (List.mem_cons_of_mem _ hy)
    omega
theorem badC_sizes {l : List Lb} (h : l.any badC = false) : ∀ x ∈ l, x.nm.size ≤ 1024 ∧ x.vl.size ≤ 1024 := by
  intro x hx
  have h1 := List.any_eq_false.1 h x hx
  unfold badC at h1
  have h2 : nameB x.nm.data.toList = true := by
    cases hn : nameB x.nm.data.toList with
    | true => rfl
    | false => rw [hn] at h1; exact absurd rfl h1
  have h3 : x.nm.data.toList.length ≤ 1024 := by
    unfold nameB at h2
    split at h2
    · cases h2
    · rename_i b t e
      rw [e]
      exact of_decide_eq_true (Bool.and_eq_true_iff.1 (Bool.and_eq_true_iff.1 h2).1).1
  have h4 : x.nm.size = x.nm.data.toList.length := (Array.length_toList).symm
  refine ⟨by omega, ?_⟩
  apply Classical.byContradiction
  intro hc
  exact h1 (by rw [decide_eq_true (show 1024 < x.vl.size by omega), Bool.or_true])
theorem checkE_ok {l : List Lb} (h : checkE l = 0) : l.length ≤ 64 ∧ ∀ x ∈ l, x.nm.size ≤ 1024 ∧ x.vl.size ≤ 1024 := by
  unfold checkE at h
  split at h
  · omega
  · rename_i h1
    split at h
    · omega
    · rename_i h2
      exact ⟨by omega, badC_sizes (by simpa using h2)⟩
/-- A row of one's own is no block of another type. -/
theorem owns_type {w : World} {B size n g : Nat} {e e' : TypeId} {v : Value} {xs : List Value} {cs : Array Value} {fz : Nat × Nat} (h : w.ownsRow B e size v n xs) (hb : w.heap[g]? = some (.cells cs e' fz)) (hne : e ≠ e') : v.ownBlock ≠ some g := by
  intro hk
  rcases h.2 with ⟨rfl, _⟩ | ⟨g', cap, cur, rfl, _, hg, _⟩
  · cases hk
  · have : g' = g := by simpa [Value.ownBlock] using hk
    subst this
    rw [hg] at hb
    simp only [Option.some.injEq, Obj.cells.injEq] at hb
    exact hne hb.2.1
theorem LabBox.kept {S : Nat → Prop} {w w' : World} {b : Nat} {x y : ByteArray} (h : LabBox w b x y) (hg : GrownIn S w w') (hn : ¬ S b) : LabBox w' b x y := (hg.block b h.lt hn).trans h
theorem LabBox.held {w : World} {b : Nat} {x y : ByteArray} (h : LabBox w b x y) : w.cell? ⟨b, 0, none⟩ = some (.string x) ∧ w.cell? ⟨b, 1, none⟩ = some (.string y) := ⟨h.c0, h.c1⟩
theorem encB_take (n : Nat) (l : List Lb) (k : Nat) (x : Lb) (h : l[k]? = some x) : (UInt8.ofNat n :: (l.take (k + 1)).flatMap labB : List UInt8) = (UInt8.ofNat n :: (l.take k).flatMap labB) ++ putB x.nm.data.toList ++ putB x.vl.data.toList := by
  obtain ⟨g1, g2⟩ := List.getElem?_eq_some_iff.1 h
  rw [List.take_succ_eq_append_getElem g1, g2, List.flatMap_append]
  simp [labB]
/-- What labels.Encode leaves. -/
def EncPost (l : List Lb) (w : World) (e : Ending) (w' : World) : Prop :=
  ∃ v, e = .returned (.tuple #[v, .int .u16 (checkE l)]) ∧ Below w.heap.size w w' ∧ (checkE l ≠ 0 → v = .slice none 0 0) ∧ (checkE l = 0 → w'.ownsRow w.heap.size 5 1 v (encB l).length (bytesV (encB l)))
set_option maxHeartbeats 2000000 in
set_option maxRecDepth 100000 in
theorem encode_any (A : Option Addr) (n c : Nat) (l : List Lb) (w : World) (hL : Lst Lb.cells 2 w w.heap.size A n l) (hbig : n ≤ 1099511627776) :
    Calls Tryz.prog 29 #[.slice A n c] w (EncPost l w) := by
  have hc1 := check_any A n c l w hL hbig
  obtain ⟨r, hr⟩ : ∃ r, checkE l = r := ⟨_, rfl⟩
  rw [hr] at hc1
  unfold EncPost
  rw [hr]
  have HC := Lib.hid hc1
  by_cases h0 : r = 0
  · subst h0
    obtain ⟨hn64, hsz⟩ := checkE_ok hr
    rw [hL.1] at hn64
    have HL := Lib.hid (show _ ∧ _ from ⟨hL, hsz⟩)
    clear hL hsz hc1 hr
    go_enter Tryz.func29, Tryz.ntmps29
    go_wp2_with (go_at_call 20; refine HC.out.mono ?_; rintro e w1 ⟨rfl, hb1⟩; have H1 := Lib.hid hb1; clear hb1)
    have e0 : (w1.alloc (.cells #[.int .u8 (n : Int)] 5)).ownsRow w.heap.size 5 1 (.slice (some ⟨w1.heap.size, 0, none⟩) 1 1) (UInt8.ofNat n :: ([] : List Lb).flatMap labB).length (bytesV (UInt8.ofNat n :: ([] : List Lb).flatMap labB)) := by
      have h8 : ((UInt8.ofNat n).toNat : Int) = n := by simp [UInt8.toNat_ofNat']; omega
      have e8 : bytesV (UInt8.ofNat n :: ([] : List Lb).flatMap labB) = [.int .u8 (n : Int)] := by
        show [Value.int .u8 ((UInt8.ofNat n).toNat : Int)] = _
        rw [h8]
      rw [e8]
      exact owns_fresh H1.out.size 5 [.int .u8 (n : Int)] (by simp [maxLen])
    have HE := Lib.hid (show _ ∧ Below w.heap.size w (w1.alloc (.cells #[.int .u8 (n : Int)] 5)) from ⟨e0, H1.out.alloc H1.out.size _⟩)
    clear e0
    go_loopw [5, 19] (fun v iv wr => ∃ k : Nat, k ≤ n ∧ iv = .int .i64 k ∧ Hid (wr.ownsRow w.heap.size 5 1 v (UInt8.ofNat n :: (l.take k).flatMap labB).length (bytesV (UInt8.ofNat n :: (l.take k).flatMap labB)) ∧ Below w.heap.size w wr)) (fun _ iv _ => n - (intOf iv).toNat)
    case atStart => exact ⟨0, Nat.zero_le _, rfl, HE⟩
    case round =>
      obtain ⟨k, hk, rfl, HR⟩ := hrel
      have hlen : (UInt8.ofNat n :: (l.take k).flatMap labB).length ≤ 140000 := by
        have h1 := flat_labB_le (l := l.take k) fun x hx => HL.out.2 x (List.mem_of_mem_take hx)
        rw [List.length_take] at h1
        rw [List.length_cons]
        have : min k l.length ≤ 64 := by omega
        omega
      by_cases hlt : k < n
      · obtain ⟨b, off, x, rfl, hb, hx, hcl⟩ := HL.out.1.at hlt
        have hxs := HL.out.2 x (List.mem_of_getElem? hx)
        have hnext := encB_take n l k x hx
        obtain ⟨L, hLe⟩ : ∃ L, (UInt8.ofNat n :: (l.take k).flatMap labB : List UInt8) = L := ⟨_, rfl⟩
        rw [hLe] at HR hlen hnext
        have c0 := (HR.out.2.cell (p := ⟨b, off + k * 2 + 0, none⟩) hb).trans (hcl 0 _ rfl)
        have c1 := (HR.out.2.cell (p := ⟨b, off + k * 2 + 1, none⟩) hb).trans (hcl 1 _ rfl)
        simp only [Nat.add_zero] at c0
        have hsw := HR.out.2.size
        have HX := Lib.hid (show _ ∧ _ from ⟨hnext, hxs⟩)
        clear hcl hx hnext hxs
        go_wp2_with fail
        have hb0 := labBox_new wr x.nm x.vl
        have hb0d : LabBox (wr.alloc (.cells #[.string x.nm, .string x.vl] 94)).drew wr.heap.size x.nm x.vl := labBox_new wr x.nm x.vl
        have hbd : Below w.heap.size w (wr.alloc (.cells #[.string x.nm, .string x.vl] 94)).drew := (HR.out.2.alloc hsw _).drew
        have hod : (wr.alloc (.cells #[.string x.nm, .string x.vl] 94)).drew.ownsRow w.heap.size 5 1 u5 L.length (bytesV L) := HR.out.1.alloc _
        have hnb : ¬ u5.ownBlock = some wr.heap.size := fun h => by
          have := (HR.out.1.lt _ h).2
          omega
        have hgeb : ∀ k, u5.ownBlock = some k → w.heap.size ≤ k := fun k hk => (HR.out.1.lt k hk).1
        have HB := Lib.hid (show _ ∧ _ ∧ _ ∧ _ ∧ _ ∧ _ from ⟨hb0, hb0d, hbd, hod, hnb, hgeb⟩)
        clear hb0 hb0d hbd hod hnb hgeb
        go_region_held3 (fun w' => w'.cell? ⟨wr.heap.size, 0, none⟩ = some (.string x.nm) ∧ w'.cell? ⟨wr.heap.size, 1, none⟩ = some (.string x.vl)) (first | exact k6 | exact HB.out.1.held | go_keep)
          (first
            | (go_at_call 102; refine (put_any w.heap.size _ _ _ x.vl _ H2.out.1 (by have := H2.out.2.1.size; omega) (by have := HX.out.2.1; omega) (by have := HX.out.2.2; omega)).mono ?_; rintro e w3 ⟨v3, rfl, ho3, hg3⟩; have k6 := (H2.out.2.2.kept hg3 (owns_type H2.out.1 H2.out.2.2 (by decide))).held; have H3 := Lib.hid (show _ ∧ Below w.heap.size w w3 from ⟨ho3, H2.out.2.1.trans (hg3.below (fun k hk => (H2.out.1.lt k hk).1) H2.out.2.1.size)⟩); clear ho3 hg3)
            | (go_at_call 102; refine (put_any w.heap.size _ _ _ x.nm _ HB.out.2.2.2.1 (by simp; omega) (by omega) (by have := HX.out.2.1; omega)).mono ?_; rintro e w2 ⟨v2, rfl, ho2, hg2⟩; have hb2 := HB.out.2.1.kept hg2 HB.out.2.2.2.2.1; have k6 := hb2.held; have H2 := Lib.hid (show _ ∧ Below w.heap.size w w2 ∧ _ from ⟨ho2, HB.out.2.2.1.trans (hg2.below HB.out.2.2.2.2.2 (by simp; omega)), hb2⟩); clear ho2 hg2 hb2))
        all_goals
          go_wp2
          go_roundw
          case measure => simp [intOf]; omega
          case rel =>
            refine ⟨k + 1, hlt, by simp, Lib.hid ⟨?_, H3.out.2⟩⟩
            have h3 := H3.out.1
            rw [HX.out.1]
            have hl3 : (L ++ putB x.nm.data.toList ++ putB x.vl.data.toList).length = L.length + 2 + x.nm.size + 2 + x.vl.size := by
              have h1 : x.nm.size = x.nm.data.toList.length := (Array.length_toList).symm
              have h2 : x.vl.size = x.vl.data.toList.length := (Array.length_toList).symm
              rw [List.length_append, List.length_append, putB_length, putB_length, h1, h2]
              omega
            rw [hl3]
            exact h3
      · have he : encB l = UInt8.ofNat n :: (l.take k).flatMap labB := by
          unfold encB
          rw [List.take_of_length_le (by have := HL.out.1.1; omega), HL.out.1.1]
        have hR := HR.out
        rw [← he] at hR
        have HF := Lib.hid hR
        clear hR he hlen
        go_wp2
        exact bodyPost_ret (v := .tuple #[u5, .int .u16 0]) (by simp [results, Tryz.results29, go_sem]) rfl ⟨u5, rfl, HF.out.2, fun h => absurd rfl h, fun _ => HF.out.1⟩
  · have hne : (r != 0) = true := by rw [bne_iff_ne]; exact h0
    clear hL hc1 hr
    go_enter Tryz.func29, Tryz.ntmps29
    go_wp2_with (go_at_call 20; refine HC.out.mono ?_; rintro e w1 ⟨rfl, hb1⟩; have H1 := Lib.hid hb1; clear hb1)
    exact bodyPost_ret (v := .tuple #[.slice none 0 0, .int .u16 r]) (by simp [results, Tryz.results29, go_sem]) rfl ⟨.slice none 0 0, rfl, H1.out, fun _ => rfl, fun h => absurd h h0⟩
end Go.Proofs.YtchggapclmdpaaaGreatDoor
