/- The scanner of labels.Parse: all of a set; labels.Parse. -/
import Derived.Test.YtchggapclmdpaaaGreatDoorGm
import Derived.Deep.RegionWith
import Derived.Test.YtchggapclmdpaaaGreatDoorScan2
namespace Go.Proofs.YtchggapclmdpaaaGreatDoor
open Go.RowKit Go.Lib

/-- Labels from k on, up to the closing brace. -/
def lsR : Nat → List UInt8 → Nat → List Lb → Option (List Lb) × Nat
  | 0, _, k, _ => (none, k)
  | f + 1, l, k, acc => if signB l k 125 = true then (if signK l k 125 = l.length then some acc else none, signK l k 125)
    else match labR l (signK l k 125) with
      | (none, k2) => (none, k2)
      | (some x, k2) => if signB l k2 44 = true then lsR f l (signK l k2 44) (acc ++ [x])
        else (if signB l (signK l k2 44) 125 = true ∧ signK l (signK l k2 44) 125 = l.length then some (acc ++ [x]) else none, signK l (signK l k2 44) 125)
def lsTop (l : List UInt8) : Option (List Lb) × Nat := if signB l 0 123 = true then lsR (l.length + 1) l (signK l 0 123) [] else (none, signK l 0 123)
/-- The set that a text tells, what is wrong, and where. -/
def parR (l : List UInt8) : List Lb × Int × Nat := match lsTop l with
  | (none, k) => ([], 70, k)
  | (some x, _) => if setE x = 0 then (setL x, 0, 0) else ([], setE x, l.length)
theorem skipP_ge (l : List UInt8) (k : Nat) : k ≤ skipP l k := by unfold skipP; omega
theorem signK_ge (l : List UInt8) (k : Nat) (c : UInt8) : k ≤ signK l k c := by
  have h1 := skipP_ge l k
  have h2 := skipP_ge l (skipP l k + 1)
  unfold signK
  split <;> omega
theorem signK_gt {l : List UInt8} {k : Nat} {c : UInt8} (h : signB l k c = true) : k < signK l k c := by
  have h1 := skipP_ge l k
  have h2 := skipP_ge l (skipP l k + 1)
  unfold signB at h
  unfold signK
  rw [if_pos h]
  omega
theorem closeK_ge : ∀ (f : Nat) (l : List UInt8) (j : Nat), j ≤ closeK f l j
  | 0, _, _ => Nat.le_refl _
  | f + 1, l, j => by
    unfold closeK
    split
    · exact Nat.le_refl _
    · split
      · exact Nat.le_refl _
      · split
        · have := closeK_ge f l (j + 2); omega
        · have := closeK_ge f l (j + 1); omega
theorem valR_gt {l : List UInt8} {k k2 : Nat} {v : List UInt8} (h : valR l k = (some v, k2)) : k < k2 := by
  have h1 := closeK_ge (l.length + 1) l (k + 1)
  unfold valR at h
  split at h
  · split at h
    · cases h
    · split at h
      · cases h
      · simp only [Prod.mk.injEq] at h
        omega
  · cases h
theorem labR_gt {l : List UInt8} {k k2 : Nat} {x : Lb} (h : labR l k = (some x, k2)) : k < k2 := by
  unfold labR at h
  split at h
  · cases h
  · rename_i hn
    have h1 : k < nameK l k := by
      rcases Nat.lt_or_ge k (nameK l k) with h' | h'
      · exact h'
      · exact absurd (List.drop_eq_nil_of_le (by rw [List.length_take]; omega)) hn
    split at h
    · cases h
    · split at h
      · rename_i hv
        simp only [Prod.mk.injEq] at h
        have h2 := valR_gt hv
        have h3 := signK_ge l (nameK l k) 61
        omega
      · cases h
/-- What labels leaves. -/
def LbsPost (V : Option (List Lb) × Nat) (bk : Nat) (s : ByteArray) (w : World) (e : Ending) (w' : World) : Prop :=
  (match V.1 with
    | some l => ∃ v, e = .returned (.tuple #[v, .bool true]) ∧ w'.ownsRow w.heap.size 94 2 v l.length (l.flatMap Lb.cells) ∧ l.length ≤ 1000001
    | none => ∃ v, e = .returned (.tuple #[v, .bool false])) ∧ Scan w' bk s V.2 ∧ V.2 ≤ s.size ∧ GrownIn (fun b => b = bk) w w'
theorem lbsPost_none {bk k : Nat} {s : ByteArray} {w w' : World} {v : Value} (h1 : Scan w' bk s k) (h2 : k ≤ s.size) (h3 : GrownIn (fun b => b = bk) w w') : LbsPost (none, k) bk s w (.returned (.tuple #[v, .bool false])) w' := ⟨⟨_, rfl⟩, h1, h2, h3⟩
theorem grown_all {w w' : World} {bk : Nat} (h : GrownIn (fun b => b = bk ∨ w.heap.size ≤ b) w w') : GrownIn (fun b => b = bk) w w' := h.mono fun k hk h => h.elim id (fun h => by omega)
set_option maxHeartbeats 8000000 in
set_option maxRecDepth 100000 in
theorem labels_any (K : Nat) (a b : Addr) (bk : Nat) (s : ByteArray) (w : World) (hE : LaidE K a b w) (hbK : K ≤ bk) (hS : Scan w bk s 0) (hbig : s.size ≤ 1000000) :
    Calls Tryz.prog 48 #[.pointer (some ⟨bk, 0, none⟩)] w (LbsPost (lsTop s.data.toList) bk s w) := by
  have hbk := hS.lt
  have hsz : s.data.toList.length = s.size := Array.length_toList
  obtain ⟨i0, hi, hz0, hz1, hz2⟩ := info_parts Tryz.infoLabel
  have hsign := fun k (c : UInt8) W (h : Scan W bk s k) (h1 : k ≤ s.size) => sign_any bk s k c W h h1 (by omega)
  have hEg : ∀ W, GrownIn (fun k => k = bk ∨ w.heap.size ≤ k) w W → LaidE K a b W := fun W hg => hE.grown hg (fun k hk => by have := hE.size; rcases hk with rfl | hk <;> omega)
  have hlab := fun k W hg h h1 => label_any K a b bk s k W (hEg W hg) hbK h h1 hbig
  obtain ⟨V, hV⟩ : ∃ V, lsTop s.data.toList = V := ⟨_, rfl⟩
  rw [hV]
  have HI := Lib.hid (show _ ∧ _ ∧ _ ∧ _ ∧ _ ∧ _ from ⟨hi, hz0, hz1, hz2, hsign, hlab⟩)
  have HS := Lib.hid (show _ ∧ _ ∧ _ ∧ _ from ⟨hS, hbk, hV, hsz⟩)
  clear hi hz0 hz1 hz2 hS hbk hsign hE hEg hlab hV hsz
  cases h123 : signB s.data.toList 0 123 with
  | false =>
    have hVV : V = (none, signK s.data.toList 0 123) := by rw [← HS.out.2.2.1]; unfold lsTop; rw [h123]; rfl
    have HV := Lib.hid (show _ ∧ _ from ⟨hVV, h123⟩)
    clear hVV h123
    go_enter Tryz.func48, Tryz.ntmps48
    go_wp2_with (go_at_call 114; refine (HI.out.2.2.2.2.1 0 123 _ HS.out.1 (by omega)).mono ?_; rw [HV.out.2]; rintro e w1 ⟨rfl, hS1, hk1, hg1⟩; have H1 := Lib.hid (show _ ∧ _ ∧ _ from ⟨hS1, hk1, hg1⟩); clear hS1 hg1 hk1)
    refine bodyPost_ret (v := .tuple #[.slice none 0 0, .bool false]) (by simp [results, Tryz.results48, go_sem]) rfl ?_
    rw [HV.out.1]
    exact lbsPost_none H1.out.1 H1.out.2.1 H1.out.2.2
  | true =>
    have hVV : lsR (s.size + 1) s.data.toList (signK s.data.toList 0 123) [] = V := by rw [← HS.out.2.2.1]; unfold lsTop; rw [h123, HS.out.2.2.2]; rfl
    have HV := Lib.hid (show _ ∧ _ from ⟨hVV, h123⟩)
    clear hVV h123
    go_enter Tryz.func48, Tryz.ntmps48
    go_wp2_with (go_at_call 114; refine (HI.out.2.2.2.2.1 0 123 _ HS.out.1 (by omega)).mono ?_; rw [HV.out.2]; rintro e w1 ⟨rfl, hS1, hk1, hg1⟩; have H1 := Lib.hid (show _ ∧ _ ∧ _ from ⟨hS1, hk1, hg1⟩); clear hS1 hg1 hk1)
    go_loopw [2] (fun v wr => ∃ (k f : Nat) (acc : List Lb), k ≤ s.size ∧ acc.length ≤ k ∧ Hid (s.size + 1 ≤ f + k ∧ lsR f s.data.toList k acc = V ∧ Scan wr bk s k ∧ wr.ownsRow w.heap.size 94 2 v acc.length (acc.flatMap Lb.cells) ∧ GrownIn (fun b => b = bk ∨ w.heap.size ≤ b) w wr)) (fun _ wr => s.size + 1 - atOf wr bk)
    case atStart => exact ⟨_, _, [], H1.out.2.1, by simp, Lib.hid ⟨by omega, HV.out.1, H1.out.1, World.ownsRow_nil _ _ _ _, H1.out.2.2.mono (fun _ _ h => .inl h)⟩⟩
    case round =>
      obtain ⟨k, f, acc, hk, hacc, HR⟩ := hrel
      obtain ⟨hi, hz0, hz1, hz2⟩ : _ ∧ _ ∧ _ ∧ _ := ⟨HI.out.1, HI.out.2.1, HI.out.2.2.1, HI.out.2.2.2.1⟩
      obtain ⟨f', rfl⟩ : ∃ f', f = f' + 1 := ⟨f - 1, by have := HR.out.1; omega⟩
      have hls := HR.out.2.1
      rw [lsR] at hls
      have hgs := HR.out.2.2.2.2.size
      have hfl := HR.out.1
      have hsg := HI.out.2.2.2.2.1 k 125 wr HR.out.2.2.1 hk
      obtain ⟨k1, hk1⟩ : ∃ k1, signK s.data.toList k 125 = k1 := ⟨_, rfl⟩
      have hk1ge := signK_ge s.data.toList k 125
      rw [hk1] at hls hsg hk1ge
      cases h125 : signB s.data.toList k 125 with
      | true =>
        rw [h125] at hls hsg
        rw [if_pos rfl] at hls
        by_cases hend : k1 = s.size
        · rw [if_pos (by rw [HS.out.2.2.2]; exact hend)] at hls
          have HL := Lib.hid (show _ ∧ _ from ⟨hls, hsg⟩)
          have hie : ((k1 : Int) == (s.size : Int)) = true := by rw [hend]; simp
          clear hls hsg hk1 h125 hi hz0 hz1 hz2
          go_wp2_with (first
            | (go_quiet (fail))
            | (go_at_call 114; refine HL.out.2.mono ?_; rintro e w2 ⟨rfl, hS2, hk2, hg2⟩; have H2 := Lib.hid (show _ ∧ _ ∧ _ ∧ _ from ⟨hS2, HR.out.2.2.2.2.trans hg2 (fun _ _ h => .inl h), owns_gone HR.out.2.2.2.1 hg2 HS.out.2.1, hk2⟩); have c0 := hS2.c0; have c1 := hS2.c1; clear hS2 hg2 hk2))
          refine bodyPost_ret (v := .tuple #[u2, .bool true]) (by simp [results, Tryz.results48, go_sem]) rfl ?_
          rw [← HL.out.1]
          exact ⟨⟨u2, rfl, H2.out.2.2.1, by omega⟩, H2.out.1, H2.out.2.2.2, grown_all (by first | exact H2.out.2.1.drewN _ | exact H2.out.2.1)⟩
        · rw [if_neg (by rw [HS.out.2.2.2]; exact hend)] at hls
          have HL := Lib.hid (show _ ∧ _ from ⟨hls, hsg⟩)
          have hie : ((k1 : Int) == (s.size : Int)) = false := by rw [beq_eq_false_iff_ne]; omega
          clear hls hsg hk1 h125 hi hz0 hz1 hz2
          go_wp2_with (first
            | (go_quiet (fail))
            | (go_at_call 114; refine HL.out.2.mono ?_; rintro e w2 ⟨rfl, hS2, hk2, hg2⟩; have H2 := Lib.hid (show _ ∧ _ ∧ _ ∧ _ from ⟨hS2, HR.out.2.2.2.2.trans hg2 (fun _ _ h => .inl h), owns_gone HR.out.2.2.2.1 hg2 HS.out.2.1, hk2⟩); have c0 := hS2.c0; have c1 := hS2.c1; clear hS2 hg2 hk2))
          refine bodyPost_ret (v := .tuple #[u2, .bool false]) (by simp [results, Tryz.results48, go_sem]) rfl ?_
          rw [← HL.out.1]
          exact lbsPost_none H2.out.1 H2.out.2.2.2 (grown_all (by first | exact H2.out.2.1.drewN _ | exact H2.out.2.1))
      | false =>
        rw [h125] at hls hsg
        rw [if_neg (by decide)] at hls
        obtain ⟨W1, hW1⟩ : ∃ W1, labR s.data.toList k1 = W1 := ⟨_, rfl⟩
        obtain ⟨ox, k2⟩ := W1
        have hlb := HI.out.2.2.2.2.2 k1
        rw [hW1] at hls hlb
        cases ox with
        | none =>
          have HL := Lib.hid (show (none, k2) = V ∧ _ ∧ _ from ⟨hls, hsg, hlb⟩)
          clear hls hsg hlb hW1 hk1 h125 hi hz0 hz1 hz2
          go_wp2_with (first
            | (go_at_call 115; refine (HL.out.2.2 _ H2.out.2.1 H2.out.1 H2.out.2.2.2).mono ?_; rintro e w3 ⟨⟨x, y, rfl⟩, hS3, hk3, hg3⟩; have H3 := Lib.hid (show _ ∧ _ ∧ k2 ≤ s.size from ⟨hS3, H2.out.2.1.trans hg3 (fun _ _ h => .inl h), hk3⟩); clear hS3 hg3 hk3)
            | (go_at_call 114; refine HL.out.2.1.mono ?_; rintro e w2 ⟨rfl, hS2, hk2, hg2⟩; have H2 := Lib.hid (show _ ∧ _ ∧ _ ∧ _ from ⟨hS2, HR.out.2.2.2.2.trans hg2 (fun _ _ h => .inl h), owns_gone HR.out.2.2.2.1 hg2 HS.out.2.1, hk2⟩); clear hS2 hg2 hk2))
          refine bodyPost_ret (v := .tuple #[.slice none 0 0, .bool false]) (by simp [results, Tryz.results48, go_sem]) rfl ?_
          rw [← HL.out.1]
          exact lbsPost_none (H3.out.1.alloc _) H3.out.2.2 (grown_all (H3.out.2.1.alloc _))
        | some x =>
          have hk2gt := labR_gt hW1
          have hlsx : (if signB s.data.toList k2 44 = true then lsR f' s.data.toList (signK s.data.toList k2 44) (acc ++ [x]) else (if signB s.data.toList (signK s.data.toList k2 44) 125 = true ∧ signK s.data.toList (signK s.data.toList k2 44) 125 = s.data.toList.length then some (acc ++ [x]) else none, signK s.data.toList (signK s.data.toList k2 44) 125)) = V := hls
          clear hls
          obtain ⟨k3, hk3⟩ : ∃ k3, signK s.data.toList k2 44 = k3 := ⟨_, rfl⟩
          have hk3ge := signK_ge s.data.toList k2 44
          rw [hk3] at hlsx hk3ge
          have hcm := fun W h h1 => HI.out.2.2.2.2.1 k2 44 W h h1
          rw [hk3] at hcm
          cases h44 : signB s.data.toList k2 44 with
          | true =>
            rw [h44] at hlsx hcm
            rw [if_pos rfl] at hlsx
            have HL := Lib.hid (show _ ∧ _ ∧ _ ∧ _ from ⟨hlsx, hsg, hlb, hcm⟩)
            clear hlsx hsg hlb hcm hW1 hk1 hk3 h125 h44
            go_wp2_with (first
              | (go_at_call 115; refine (HL.out.2.2.1 _ H2.out.2.1 H2.out.1 H2.out.2.2.2).mono ?_; rintro e w3 ⟨rfl, hS3, hk3, hg3⟩; have H3 := Lib.hid (show _ ∧ _ ∧ _ ∧ k2 ≤ s.size from ⟨hS3, H2.out.2.1.trans hg3 (fun _ _ h => .inl h), owns_gone H2.out.2.2.1 hg3 HS.out.2.1, hk3⟩); have hs3 := H3.out.2.1.size; clear hS3 hg3 hk3)
              | (at_builtin; refine wpList_append_own _ rfl _ _ 22 rfl w.heap.size 94 i0 _ 2 32 Tryz.underlying22 hi hz0 hz1 hz2 rfl (by omega) _ acc.length (acc.flatMap Lb.cells) rfl ((H3.out.2.2.1.alloc _).alloc _) ⟨w3.heap.size + 1, 0, none⟩ 1 1 x.cells rfl rfl (cells_at _ (by simp) x.cells _) (by intro u hu; simp only [Lb.cells, List.mem_cons, List.not_mem_nil, or_false] at hu; rcases hu with rfl | rfl <;> rfl) (by unfold maxLen; omega) (by omega) (by simp; omega) ?_; intro v' w5 hown5 hg5 _; have hs5 : Scan w5 bk s k2 := (hg5.block bk (by simp; have := H3.out.1.lt; omega) (fun e => by have := (H3.out.2.2.1.lt bk e.symm).1; have := HS.out.2.1; omega)).trans ((H3.out.1.alloc _).alloc _); have H5 := Lib.hid (show _ ∧ _ ∧ w5.ownsRow w.heap.size 94 2 v' (acc ++ [x]).length ((acc ++ [x]).flatMap Lb.cells) ∧ _ from ⟨hs5, ((H3.out.2.1.alloc _).alloc _).trans (GrownIn.of_grownBy hg5) (fun k _ e => .inr (H3.out.2.2.1.lt k e).1), by (rw [List.flatMap_append, List.flatMap_singleton, List.length_append]; exact hown5), H3.out.2.2.2⟩); clear hown5 hg5 hs5)
              | (go_at_call 114; refine (HL.out.2.2.2 _ H5.out.1 H5.out.2.2.2).mono ?_; rintro e w6 ⟨rfl, hS6, hk6, hg6⟩; have H6 := Lib.hid (show _ ∧ _ ∧ _ ∧ _ from ⟨hS6, H5.out.2.1.trans hg6 (fun _ _ h => .inl h), owns_gone H5.out.2.2.1 hg6 HS.out.2.1, hk6⟩); clear hS6 hg6 hk6)
              | (go_at_call 114; refine HL.out.2.1.mono ?_; rintro e w2 ⟨rfl, hS2, hk2, hg2⟩; have H2 := Lib.hid (show _ ∧ _ ∧ _ ∧ _ from ⟨hS2, HR.out.2.2.2.2.trans hg2 (fun _ _ h => .inl h), owns_gone HR.out.2.2.2.1 hg2 HS.out.2.1, hk2⟩); clear hS2 hg2 hk2))
            go_roundw
            case measure => rw [H6.out.1.at, HR.out.2.2.1.at]; have := H6.out.2.2.2; omega
            case rel => exact ⟨k3, f', acc ++ [x], H6.out.2.2.2, by rw [List.length_append, List.length_singleton]; omega, Lib.hid ⟨by omega, HL.out.1, H6.out.1, H6.out.2.2.1, H6.out.2.1⟩⟩
          | false =>
            rw [h44] at hlsx hcm
            rw [if_neg (by decide)] at hlsx
            obtain ⟨k4, hk4⟩ : ∃ k4, signK s.data.toList k3 125 = k4 := ⟨_, rfl⟩
            have hen := fun W h h1 => HI.out.2.2.2.2.1 k3 125 W h h1
            rw [hk4] at hlsx hen
            obtain ⟨eb, heb⟩ : ∃ eb, signB s.data.toList k3 125 = eb := ⟨_, rfl⟩
            rw [heb] at hlsx hen
            have HL := Lib.hid (show _ ∧ _ ∧ _ ∧ _ ∧ _ from ⟨hlsx, hsg, hlb, hcm, hen⟩)
            clear hlsx hsg hlb hcm hen hW1 hk1 hk3 hk4 heb h125 h44
            by_cases hgood : eb = true ∧ k4 = s.size
            · obtain ⟨rfl, hk4e⟩ := hgood
              have hVV : (some (acc ++ [x]), k4) = V := by have := HL.out.1; rwa [if_pos ⟨rfl, by rw [HS.out.2.2.2]; exact hk4e⟩] at this
              have hie : ((k4 : Int) == (s.size : Int)) = true := by rw [hk4e]; simp
              have HVV := Lib.hid hVV
              clear hVV
              go_wp2_with (first
                | (go_at_call 115; refine (HL.out.2.2.1 _ H2.out.2.1 H2.out.1 H2.out.2.2.2).mono ?_; rintro e w3 ⟨rfl, hS3, hk3, hg3⟩; have H3 := Lib.hid (show _ ∧ _ ∧ _ ∧ k2 ≤ s.size from ⟨hS3, H2.out.2.1.trans hg3 (fun _ _ h => .inl h), owns_gone H2.out.2.2.1 hg3 HS.out.2.1, hk3⟩); have hs3 := H3.out.2.1.size; clear hS3 hg3 hk3)
                | (at_builtin; refine wpList_append_own _ rfl _ _ 22 rfl w.heap.size 94 i0 _ 2 32 Tryz.underlying22 hi hz0 hz1 hz2 rfl (by omega) _ acc.length (acc.flatMap Lb.cells) rfl ((H3.out.2.2.1.alloc _).alloc _) ⟨w3.heap.size + 1, 0, none⟩ 1 1 x.cells rfl rfl (cells_at _ (by simp) x.cells _) (by intro u hu; simp only [Lb.cells, List.mem_cons, List.not_mem_nil, or_false] at hu; rcases hu with rfl | rfl <;> rfl) (by unfold maxLen; omega) (by omega) (by simp; omega) ?_; intro v' w5 hown5 hg5 _; have hs5 : Scan w5 bk s k2 := (hg5.block bk (by simp; have := H3.out.1.lt; omega) (fun e => by have := (H3.out.2.2.1.lt bk e.symm).1; have := HS.out.2.1; omega)).trans ((H3.out.1.alloc _).alloc _); have H5 := Lib.hid (show _ ∧ _ ∧ w5.ownsRow w.heap.size 94 2 v' (acc ++ [x]).length ((acc ++ [x]).flatMap Lb.cells) ∧ _ from ⟨hs5, ((H3.out.2.1.alloc _).alloc _).trans (GrownIn.of_grownBy hg5) (fun k _ e => .inr (H3.out.2.2.1.lt k e).1), by (rw [List.flatMap_append, List.flatMap_singleton, List.length_append]; exact hown5), H3.out.2.2.2⟩); clear hown5 hg5 hs5)
                | (go_at_call 114; refine (HL.out.2.2.2.1 _ H5.out.1 H5.out.2.2.2).mono ?_; rintro e w6 ⟨rfl, hS6, hk6, hg6⟩; have H6 := Lib.hid (show _ ∧ _ ∧ _ ∧ _ from ⟨hS6, H5.out.2.1.trans hg6 (fun _ _ h => .inl h), owns_gone H5.out.2.2.1 hg6 HS.out.2.1, hk6⟩); have c6 := hS6.cs; clear hS6 hg6 hk6)
                | (go_at_call 114; refine HL.out.2.1.mono ?_; rintro e w2 ⟨rfl, hS2, hk2, hg2⟩; have H2 := Lib.hid (show _ ∧ _ ∧ _ ∧ _ from ⟨hS2, HR.out.2.2.2.2.trans hg2 (fun _ _ h => .inl h), owns_gone HR.out.2.2.2.1 hg2 HS.out.2.1, hk2⟩); clear hS2 hg2 hk2))
              go_region_with (first | (go_at_call 114; refine (HL.out.2.2.2.2 _ (Scan.drew H6.out.1) H6.out.2.2.2).mono ?_; rintro e w7 ⟨rfl, hS7, hk7, hg7⟩; have H7 := Lib.hid (show _ ∧ _ ∧ _ ∧ _ from ⟨hS7, (H6.out.2.1.drewN 1).trans hg7 (fun _ _ h => .inl h), owns_gone (show World.ownsRow w6.drew _ _ _ _ _ _ from H6.out.2.2.1) hg7 HS.out.2.1, hk7⟩); have c0 := hS7.c0; have c1 := hS7.c1; clear hS7 hg7 hk7))
              all_goals
                go_wp2
                refine bodyPost_ret (v := .tuple #[v', .bool true]) (by simp [results, Tryz.results48, go_sem]) rfl ?_
                rw [← HVV.out]
                exact ⟨⟨v', rfl, H7.out.2.2.1, by rw [List.length_append, List.length_singleton]; omega⟩, H7.out.1, H7.out.2.2.2, grown_all H7.out.2.1⟩
            · have hVV : (none, k4) = V := by have := HL.out.1; rwa [if_neg (fun h => hgood ⟨h.1, by rw [← HS.out.2.2.2]; exact h.2⟩)] at this
              have HVV := Lib.hid hVV
              clear hVV
              have hcase : eb = false ∨ (eb = true ∧ ((k4 : Int) == (s.size : Int)) = false) := by
                cases eb with
                | false => exact .inl rfl
                | true => exact .inr ⟨rfl, by rw [beq_eq_false_iff_ne]; intro e; exact hgood ⟨rfl, by omega⟩⟩
              clear hgood
              rcases hcase with rfl | ⟨rfl, hie⟩
              · go_wp2_with (first
                  | (go_at_call 115; refine (HL.out.2.2.1 _ H2.out.2.1 H2.out.1 H2.out.2.2.2).mono ?_; rintro e w3 ⟨rfl, hS3, hk3, hg3⟩; have H3 := Lib.hid (show _ ∧ _ ∧ _ ∧ k2 ≤ s.size from ⟨hS3, H2.out.2.1.trans hg3 (fun _ _ h => .inl h), owns_gone H2.out.2.2.1 hg3 HS.out.2.1, hk3⟩); have hs3 := H3.out.2.1.size; clear hS3 hg3 hk3)
                  | (at_builtin; refine wpList_append_own _ rfl _ _ 22 rfl w.heap.size 94 i0 _ 2 32 Tryz.underlying22 hi hz0 hz1 hz2 rfl (by omega) _ acc.length (acc.flatMap Lb.cells) rfl ((H3.out.2.2.1.alloc _).alloc _) ⟨w3.heap.size + 1, 0, none⟩ 1 1 x.cells rfl rfl (cells_at _ (by simp) x.cells _) (by intro u hu; simp only [Lb.cells, List.mem_cons, List.not_mem_nil, or_false] at hu; rcases hu with rfl | rfl <;> rfl) (by unfold maxLen; omega) (by omega) (by simp; omega) ?_; intro v' w5 hown5 hg5 _; have hs5 : Scan w5 bk s k2 := (hg5.block bk (by simp; have := H3.out.1.lt; omega) (fun e => by have := (H3.out.2.2.1.lt bk e.symm).1; have := HS.out.2.1; omega)).trans ((H3.out.1.alloc _).alloc _); have H5 := Lib.hid (show _ ∧ _ ∧ w5.ownsRow w.heap.size 94 2 v' (acc ++ [x]).length ((acc ++ [x]).flatMap Lb.cells) ∧ _ from ⟨hs5, ((H3.out.2.1.alloc _).alloc _).trans (GrownIn.of_grownBy hg5) (fun k _ e => .inr (H3.out.2.2.1.lt k e).1), by (rw [List.flatMap_append, List.flatMap_singleton, List.length_append]; exact hown5), H3.out.2.2.2⟩); clear hown5 hg5 hs5)
                  | (go_at_call 114; refine (HL.out.2.2.2.1 _ H5.out.1 H5.out.2.2.2).mono ?_; rintro e w6 ⟨rfl, hS6, hk6, hg6⟩; have H6 := Lib.hid (show _ ∧ _ ∧ _ ∧ _ from ⟨hS6, H5.out.2.1.trans hg6 (fun _ _ h => .inl h), owns_gone H5.out.2.2.1 hg6 HS.out.2.1, hk6⟩); have c6 := hS6.cs; clear hS6 hg6 hk6)
                  | (go_at_call 114; refine HL.out.2.1.mono ?_; rintro e w2 ⟨rfl, hS2, hk2, hg2⟩; have H2 := Lib.hid (show _ ∧ _ ∧ _ ∧ _ from ⟨hS2, HR.out.2.2.2.2.trans hg2 (fun _ _ h => .inl h), owns_gone HR.out.2.2.2.1 hg2 HS.out.2.1, hk2⟩); clear hS2 hg2 hk2))
                first | (go_region_with (first | (go_at_call 114; refine (HL.out.2.2.2.2 _ (Scan.drew H6.out.1) H6.out.2.2.2).mono ?_; rintro e w7 ⟨rfl, hS7, hk7, hg7⟩; have H7 := Lib.hid (show _ ∧ _ ∧ _ ∧ _ from ⟨hS7, (H6.out.2.1.drewN 1).trans hg7 (fun _ _ h => .inl h), owns_gone (show World.ownsRow w6.drew _ _ _ _ _ _ from H6.out.2.2.1) hg7 HS.out.2.1, hk7⟩); have c0 := hS7.c0; have c1 := hS7.c1; clear hS7 hg7 hk7))) | fail "no"
                all_goals
                  go_wp2
                  refine bodyPost_ret (v := .tuple #[v', .bool false]) (by simp [results, Tryz.results48, go_sem]) rfl ?_
                  rw [← HVV.out]
                  exact lbsPost_none H7.out.1 H7.out.2.2.2 (grown_all H7.out.2.1)
              · go_wp2_with (first
                  | (go_at_call 115; refine (HL.out.2.2.1 _ H2.out.2.1 H2.out.1 H2.out.2.2.2).mono ?_; rintro e w3 ⟨rfl, hS3, hk3, hg3⟩; have H3 := Lib.hid (show _ ∧ _ ∧ _ ∧ k2 ≤ s.size from ⟨hS3, H2.out.2.1.trans hg3 (fun _ _ h => .inl h), owns_gone H2.out.2.2.1 hg3 HS.out.2.1, hk3⟩); have hs3 := H3.out.2.1.size; clear hS3 hg3 hk3)
                  | (at_builtin; refine wpList_append_own _ rfl _ _ 22 rfl w.heap.size 94 i0 _ 2 32 Tryz.underlying22 hi hz0 hz1 hz2 rfl (by omega) _ acc.length (acc.flatMap Lb.cells) rfl ((H3.out.2.2.1.alloc _).alloc _) ⟨w3.heap.size + 1, 0, none⟩ 1 1 x.cells rfl rfl (cells_at _ (by simp) x.cells _) (by intro u hu; simp only [Lb.cells, List.mem_cons, List.not_mem_nil, or_false] at hu; rcases hu with rfl | rfl <;> rfl) (by unfold maxLen; omega) (by omega) (by simp; omega) ?_; intro v' w5 hown5 hg5 _; have hs5 : Scan w5 bk s k2 := (hg5.block bk (by simp; have := H3.out.1.lt; omega) (fun e => by have := (H3.out.2.2.1.lt bk e.symm).1; have := HS.out.2.1; omega)).trans ((H3.out.1.alloc _).alloc _); have H5 := Lib.hid (show _ ∧ _ ∧ w5.ownsRow w.heap.size 94 2 v' (acc ++ [x]).length ((acc ++ [x]).flatMap Lb.cells) ∧ _ from ⟨hs5, ((H3.out.2.1.alloc _).alloc _).trans (GrownIn.of_grownBy hg5) (fun k _ e => .inr (H3.out.2.2.1.lt k e).1), by (rw [List.flatMap_append, List.flatMap_singleton, List.length_append]; exact hown5), H3.out.2.2.2⟩); clear hown5 hg5 hs5)
                  | (go_at_call 114; refine (HL.out.2.2.2.1 _ H5.out.1 H5.out.2.2.2).mono ?_; rintro e w6 ⟨rfl, hS6, hk6, hg6⟩; have H6 := Lib.hid (show _ ∧ _ ∧ _ ∧ _ from ⟨hS6, H5.out.2.1.trans hg6 (fun _ _ h => .inl h), owns_gone H5.out.2.2.1 hg6 HS.out.2.1, hk6⟩); have c6 := hS6.cs; clear hS6 hg6 hk6)
                  | (go_at_call 114; refine HL.out.2.1.mono ?_; rintro e w2 ⟨rfl, hS2, hk2, hg2⟩; have H2 := Lib.hid (show _ ∧ _ ∧ _ ∧ _ from ⟨hS2, HR.out.2.2.2.2.trans hg2 (fun _ _ h => .inl h), owns_gone HR.out.2.2.2.1 hg2 HS.out.2.1, hk2⟩); clear hS2 hg2 hk2))
                go_region_with (first | (go_at_call 114; refine (HL.out.2.2.2.2 _ (Scan.drew H6.out.1) H6.out.2.2.2).mono ?_; rintro e w7 ⟨rfl, hS7, hk7, hg7⟩; have H7 := Lib.hid (show _ ∧ _ ∧ _ ∧ _ from ⟨hS7, (H6.out.2.1.drewN 1).trans hg7 (fun _ _ h => .inl h), owns_gone (show World.ownsRow w6.drew _ _ _ _ _ _ from H6.out.2.2.1) hg7 HS.out.2.1, hk7⟩); have c0 := hS7.c0; have c1 := hS7.c1; clear hS7 hg7 hk7))
                all_goals
                  go_wp2
                  refine bodyPost_ret (v := .tuple #[v', .bool false]) (by simp [results, Tryz.results48, go_sem]) rfl ?_
                  rw [← HVV.out]
                  exact lbsPost_none H7.out.1 H7.out.2.2.2 (grown_all H7.out.2.1)
end Go.Proofs.YtchggapclmdpaaaGreatDoor
