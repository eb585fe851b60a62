/- The scanner of the document's Parse: all of a set; Parse (printed by genrlbs.py). The document's Parse: the set that a text tells (turned from Par8). -/
import Derived.Test.YtchggapclmdpaaaGreatDoorRVal
import Derived.Test.YtchggapclmdpaaaGreatDoorLbs8
import Derived.Test.YtchggapclmdpaaaGreatDoorPar8
import Derived.Test.YtchggapclmdpaaaGreatDoorRefSet
namespace Go.Proofs.YtchggapclmdpaaaGreatDoor
open Go.RowKit Go.Lib

def RLbsPost (V : Option (List Lb) × Nat) (bk : Nat) (s : ByteArray) (w : World) (e : Ending) (w' : World) : Prop :=
  (match V.1 with
    | some l => ∃ v, e = .returned (.tuple #[v, .bool true]) ∧ w'.ownsRow w.heap.size 94 2 v l.length (l.flatMap Lb.cells) ∧ l.length ≤ 1000001
    | none => ∃ v, e = .returned (.tuple #[v, .bool false])) ∧ RScan w' bk s V.2 ∧ V.2 ≤ s.size ∧ GrownIn (fun b => b = bk) w w'
theorem rlbsPost_none {bk k : Nat} {s : ByteArray} {w w' : World} {v : Value} (h1 : RScan w' bk s k) (h2 : k ≤ s.size) (h3 : GrownIn (fun b => b = bk) w w') : RLbsPost (none, k) bk s w (.returned (.tuple #[v, .bool false])) w' := ⟨⟨_, rfl⟩, h1, h2, h3⟩
theorem labR_noname {l : List UInt8} {k n : Nat} (h : nameK l k = n) (h1 : (l.take n).drop k = []) : labR l k = (none, n) := by subst h; unfold labR; rw [if_pos h1]
theorem labR_nosign {l : List UInt8} {k n : Nat} (h : nameK l k = n) (h1 : ¬ (l.take n).drop k = []) (h2 : signB l n 61 = false) : labR l k = (none, signK l n 61) := by subst h; unfold labR; rw [if_neg h1, if_pos h2]
theorem labR_novalue {l : List UInt8} {k n m k2 : Nat} (h : nameK l k = n) (h1 : ¬ (l.take n).drop k = []) (h2 : signB l n 61 = true) (hm : signK l n 61 = m) (h3 : valR l m = (none, k2)) : labR l k = (none, k2) := by subst h; subst hm; unfold labR; rw [if_neg h1, if_neg (by rw [h2]; decide), h3]
theorem labR_value {l : List UInt8} {k n m k2 : Nat} {v : List UInt8} (h : nameK l k = n) (h1 : ¬ (l.take n).drop k = []) (h2 : signB l n 61 = true) (hm : signK l n 61 = m) (h3 : valR l m = (some v, k2)) : labR l k = (some ⟨⟨((l.take n).drop k).toArray⟩, ⟨v.toArray⟩⟩, k2) := by subst h; subst hm; unfold labR; rw [if_neg h1, if_neg (by rw [h2]; decide), h3]
set_option maxHeartbeats 8000000 in
set_option maxRecDepth 100000 in
theorem rlabels_any (bk : Nat) (s : ByteArray) (w : World) (hS : RScan w bk s 0) (hbig : s.size ≤ 1000000) :
    Calls Tryz.prog 49 #[.pointer (some ⟨bk, 0, none⟩)] w (RLbsPost (lsTop s.data.toList) bk s w) := by
  have hbk := hS.lt
  have hsz : s.data.toList.length = s.size := Array.length_toList
  obtain ⟨i0, hi, hz0, hz1, hz2⟩ := info_parts Tryz.infoLabel
  have hsign := fun k (c : UInt8) W (h : RScan W bk s k) (h1 : k ≤ s.size) => rsign_any bk s k c W h h1 (by omega)
  have hnam := fun k W (h : RScan W bk s k) (h1 : k ≤ s.size) => rname_any bk s k W h h1 (by omega)
  have hval := fun k W (h : RScan W bk s k) (h1 : k ≤ s.size) => rvalue_any bk s k W h h1 hbig
  obtain ⟨V, hV⟩ : ∃ V, lsTop s.data.toList = V := ⟨_, rfl⟩
  rw [hV]
  have HI := Lib.hid (show _ ∧ _ ∧ _ ∧ _ ∧ _ ∧ _ ∧ _ from ⟨hi, hz0, hz1, hz2, hsign, hnam, hval⟩)
  have HS := Lib.hid (show _ ∧ _ ∧ _ ∧ _ from ⟨hS, hbk, hV, hsz⟩)
  clear hi hz0 hz1 hz2 hS hbk hsign hnam hval hV hsz
  cases h123 : signB s.data.toList 0 123 with
  | false =>
    have hVV : V = (none, signK s.data.toList 0 123) := by rw [← HS.out.2.2.1]; unfold lsTop; rw [h123]; rfl
    have HV := Lib.hid (show _ ∧ _ from ⟨hVV, h123⟩)
    clear hVV h123
    go_enter Tryz.func49, Tryz.ntmps49
    go_wp2_with (go_at_call 116; refine (HI.out.2.2.2.2.1 0 123 _ HS.out.1 (by omega)).mono ?_; rw [HV.out.2]; rintro e w1 ⟨rfl, hS1, hk1, hg1⟩; have H1 := Lib.hid (show _ ∧ _ ∧ _ from ⟨hS1, hk1, hg1⟩); clear hS1 hg1 hk1)
    refine bodyPost_ret (v := .tuple #[.slice none 0 0, .bool false]) (by simp [results, Tryz.results49, go_sem]) rfl ?_
    rw [HV.out.1]
    exact rlbsPost_none H1.out.1 H1.out.2.1 H1.out.2.2
  | true =>
    have hVV : lsR (s.size + 1) s.data.toList (signK s.data.toList 0 123) [] = V := by rw [← HS.out.2.2.1]; unfold lsTop; rw [h123, HS.out.2.2.2]; rfl
    have HV := Lib.hid (show _ ∧ _ from ⟨hVV, h123⟩)
    clear hVV h123
    go_enter Tryz.func49, Tryz.ntmps49
    go_wp2_with (go_at_call 116; refine (HI.out.2.2.2.2.1 0 123 _ HS.out.1 (by omega)).mono ?_; rw [HV.out.2]; rintro e w1 ⟨rfl, hS1, hk1, hg1⟩; have H1 := Lib.hid (show _ ∧ _ ∧ _ from ⟨hS1, hk1, hg1⟩); clear hS1 hg1 hk1)
    go_loopw [4] (fun v wr => ∃ (k f : Nat) (acc : List Lb), k ≤ s.size ∧ acc.length ≤ k ∧ Hid (s.size + 1 ≤ f + k ∧ lsR f s.data.toList k acc = V ∧ RScan wr bk s k ∧ wr.ownsRow w.heap.size 94 2 v acc.length (acc.flatMap Lb.cells) ∧ GrownIn (fun b => b = bk ∨ w.heap.size ≤ b) w wr)) (fun _ wr => s.size + 1 - atOf wr bk)
    case atStart => exact ⟨_, _, [], H1.out.2.1, by simp, Lib.hid ⟨by omega, HV.out.1, H1.out.1, World.ownsRow_nil _ _ _ _, H1.out.2.2.mono (fun _ _ h => .inl h)⟩⟩
    case round =>
      obtain ⟨k, f, acc, hk, hacc, HR⟩ := hrel
      obtain ⟨hi, hz0, hz1, hz2⟩ : _ ∧ _ ∧ _ ∧ _ := ⟨HI.out.1, HI.out.2.1, HI.out.2.2.1, HI.out.2.2.2.1⟩
      obtain ⟨f', rfl⟩ : ∃ f', f = f' + 1 := ⟨f - 1, by have := HR.out.1; omega⟩
      have hls := HR.out.2.1
      rw [lsR] at hls
      have hgs := HR.out.2.2.2.2.size
      have hfl := HR.out.1
      have hsg := HI.out.2.2.2.2.1 k 125 wr HR.out.2.2.1 hk
      obtain ⟨k1, hk1⟩ : ∃ k1, signK s.data.toList k 125 = k1 := ⟨_, rfl⟩
      have hk1ge := signK_ge s.data.toList k 125
      rw [hk1] at hls hsg hk1ge
      cases h125 : signB s.data.toList k 125 with
      | true =>
        rw [h125] at hls hsg
        rw [if_pos rfl] at hls
        by_cases hend : k1 = s.size
        · rw [if_pos (by rw [HS.out.2.2.2]; exact hend)] at hls
          have HL := Lib.hid (show _ ∧ _ from ⟨hls, hsg⟩)
          have hie : ((k1 : Int) == (s.size : Int)) = true := by rw [hend]; simp
          clear hls hsg hk1 h125 hi hz0 hz1 hz2
          go_wp2_with (first
            | (go_quiet (fail))
            | (go_at_call 116; refine (HL.out.2).mono ?_; rintro e w2 ⟨rfl, hS2, hk2, hg2⟩; have H2 := Lib.hid (show _ ∧ _ ∧ _ ∧ _ from ⟨hS2, (HR.out.2.2.2.2).trans hg2 (fun _ _ h => .inl h), owns_gone (show World.ownsRow _ _ _ _ _ _ _ from HR.out.2.2.2.1) hg2 HS.out.2.1, hk2⟩); have c0 := hS2.c0; have c1 := hS2.c1; clear hS2 hg2 hk2))
          refine bodyPost_ret (v := .tuple #[u4, .bool true]) (by simp [results, Tryz.results49, go_sem]) rfl ?_
          rw [← HL.out.1]
          exact ⟨⟨u4, rfl, H2.out.2.2.1, by omega⟩, H2.out.1, H2.out.2.2.2, grown_all (by first | exact H2.out.2.1.drewN _ | exact H2.out.2.1)⟩
        · rw [if_neg (by rw [HS.out.2.2.2]; exact hend)] at hls
          have HL := Lib.hid (show _ ∧ _ from ⟨hls, hsg⟩)
          have hie : ((k1 : Int) == (s.size : Int)) = false := by rw [beq_eq_false_iff_ne]; omega
          clear hls hsg hk1 h125 hi hz0 hz1 hz2
          go_wp2_with (first
            | (go_quiet (fail))
            | (go_at_call 116; refine (HL.out.2).mono ?_; rintro e w2 ⟨rfl, hS2, hk2, hg2⟩; have H2 := Lib.hid (show _ ∧ _ ∧ _ ∧ _ from ⟨hS2, (HR.out.2.2.2.2).trans hg2 (fun _ _ h => .inl h), owns_gone (show World.ownsRow _ _ _ _ _ _ _ from HR.out.2.2.2.1) hg2 HS.out.2.1, hk2⟩); have c0 := hS2.c0; have c1 := hS2.c1; clear hS2 hg2 hk2))
          refine bodyPost_ret (v := .tuple #[u4, .bool false]) (by simp [results, Tryz.results49, go_sem]) rfl ?_
          rw [← HL.out.1]
          exact rlbsPost_none H2.out.1 H2.out.2.2.2 (grown_all (by first | exact H2.out.2.1.drewN _ | exact H2.out.2.1))
      | false =>
        rw [h125] at hls hsg
        rw [if_neg (by decide)] at hls
        have hnm := HI.out.2.2.2.2.2.1 k1
        obtain ⟨n, hn⟩ : ∃ n, nameK s.data.toList k1 = n := ⟨_, rfl⟩
        obtain ⟨nm, hnn⟩ : ∃ nm, s.extract k1 n = nm := ⟨_, rfl⟩
        have hnd : nm.data.toList = (s.data.toList.take n).drop k1 := by rw [← hnn]; exact extract_data _ _ _
        rw [hn, hnn] at hnm
        have hb : (nm.toList == []) = decide (nm.data.toList = []) := by rw [ByteArray.toList_eq]; cases nm.data.toList <;> rfl
        rw [hnd] at hb
        by_cases hemp : (s.data.toList.take n).drop k1 = []
        · have hne : (nm.toList == []) = true := hb.trans (decide_eq_true hemp)
          rw [labR_noname hn hemp] at hls
          have HL := Lib.hid (show (none, n) = V ∧ _ ∧ _ from ⟨hls, hsg, hnm⟩)
          clear hls hsg hnm hnd hb hemp hn hnn hk1 h125 hi hz0 hz1 hz2
          go_wp2_with (first
            | (go_at_call 117; refine (HL.out.2.2 _ H2.out.1 H2.out.2.2.2).mono ?_; rintro e w3 ⟨rfl, hS3, _, hk3, hg3⟩; have H3 := Lib.hid (show _ ∧ _ ∧ _ ∧ _ from ⟨hS3, (H2.out.2.1).trans hg3 (fun _ _ h => .inl h), owns_gone (show World.ownsRow _ _ _ _ _ _ _ from H2.out.2.2.1) hg3 HS.out.2.1, hk3⟩); clear hS3 hg3 hk3)
            | (go_at_call 116; refine (HL.out.2.1).mono ?_; rintro e w2 ⟨rfl, hS2, hk2, hg2⟩; have H2 := Lib.hid (show _ ∧ _ ∧ _ ∧ _ from ⟨hS2, (HR.out.2.2.2.2).trans hg2 (fun _ _ h => .inl h), owns_gone (show World.ownsRow _ _ _ _ _ _ _ from HR.out.2.2.2.1) hg2 HS.out.2.1, hk2⟩); clear hS2 hg2 hk2))
          refine bodyPost_ret (v := .tuple #[.slice none 0 0, .bool false]) (by simp [results, Tryz.results49, go_sem]) rfl ?_
          rw [← HL.out.1]
          exact rlbsPost_none H3.out.1 H3.out.2.2.2 (grown_all H3.out.2.1)
        · have hne : (nm.toList == []) = false := hb.trans (decide_eq_false hemp)
          have heq := fun W h h1 => HI.out.2.2.2.2.1 n 61 W h h1
          obtain ⟨m, hm⟩ : ∃ m, signK s.data.toList n 61 = m := ⟨_, rfl⟩
          rw [hm] at heq
          cases h61 : signB s.data.toList n 61 with
          | false =>
            rw [h61] at heq
            rw [labR_nosign hn hemp h61, hm] at hls
            have HL := Lib.hid (show (none, m) = V ∧ _ ∧ _ ∧ _ from ⟨hls, hsg, hnm, heq⟩)
            clear hls hsg hnm heq hnd hb hemp hn hnn hm h61 hk1 h125 hi hz0 hz1 hz2
            go_wp2_with (first
              | (go_at_call 116; refine (HL.out.2.2.2 _ H3.out.1 H3.out.2.2.2).mono ?_; rintro e w4 ⟨rfl, hS4, hk4, hg4⟩; have H4 := Lib.hid (show _ ∧ _ ∧ _ ∧ _ from ⟨hS4, (H3.out.2.1).trans hg4 (fun _ _ h => .inl h), owns_gone (show World.ownsRow _ _ _ _ _ _ _ from H3.out.2.2.1) hg4 HS.out.2.1, hk4⟩); clear hS4 hg4 hk4)
              | (go_at_call 117; refine (HL.out.2.2.1 _ H2.out.1 H2.out.2.2.2).mono ?_; rintro e w3 ⟨rfl, hS3, _, hk3, hg3⟩; have H3 := Lib.hid (show _ ∧ _ ∧ _ ∧ _ from ⟨hS3, (H2.out.2.1).trans hg3 (fun _ _ h => .inl h), owns_gone (show World.ownsRow _ _ _ _ _ _ _ from H2.out.2.2.1) hg3 HS.out.2.1, hk3⟩); clear hS3 hg3 hk3)
              | (go_at_call 116; refine (HL.out.2.1).mono ?_; rintro e w2 ⟨rfl, hS2, hk2, hg2⟩; have H2 := Lib.hid (show _ ∧ _ ∧ _ ∧ _ from ⟨hS2, (HR.out.2.2.2.2).trans hg2 (fun _ _ h => .inl h), owns_gone (show World.ownsRow _ _ _ _ _ _ _ from HR.out.2.2.2.1) hg2 HS.out.2.1, hk2⟩); clear hS2 hg2 hk2))
            refine bodyPost_ret (v := .tuple #[.slice none 0 0, .bool false]) (by simp [results, Tryz.results49, go_sem]) rfl ?_
            rw [← HL.out.1]
            exact rlbsPost_none H4.out.1 H4.out.2.2.2 (grown_all H4.out.2.1)
          | true =>
            rw [h61] at heq
            have hvl := HI.out.2.2.2.2.2.2 m
            obtain ⟨W1, hW1⟩ : ∃ W1, valR s.data.toList m = W1 := ⟨_, rfl⟩
            obtain ⟨ov, k2⟩ := W1
            rw [hW1] at hvl
            cases ov with
            | none =>
              rw [labR_novalue hn hemp h61 hm hW1] at hls
              have hvl2 : ∀ W, RScan W bk s m → m ≤ s.size → Calls Tryz.prog 118 #[.pointer (some ⟨bk, 0, none⟩)] W fun e w' => e = .returned (.tuple #[.string ⟨#[]⟩, .bool false]) ∧ RScan w' bk s k2 ∧ k2 ≤ s.size ∧ GrownIn (fun b => b = bk) W w' := hvl
              have HL := Lib.hid (show (none, k2) = V ∧ _ ∧ _ ∧ _ ∧ _ from ⟨hls, hsg, hnm, heq, hvl2⟩)
              clear hls hsg hnm heq hvl hvl2 hnd hb hemp hn hnn hm hW1 h61 hk1 h125 hi hz0 hz1 hz2
              go_wp2_with (first
                | (go_at_call 118; refine (HL.out.2.2.2.2 _ H4.out.1 H4.out.2.2.2).mono ?_; rintro e w5 ⟨rfl, hS5, hk5, hg5⟩; have H5 := Lib.hid (show _ ∧ _ ∧ _ ∧ _ from ⟨hS5, (H4.out.2.1).trans hg5 (fun _ _ h => .inl h), owns_gone (show World.ownsRow _ _ _ _ _ _ _ from H4.out.2.2.1) hg5 HS.out.2.1, hk5⟩); clear hS5 hg5 hk5)
                | (go_at_call 116; refine (HL.out.2.2.2.1 _ H3.out.1 H3.out.2.2.2).mono ?_; rintro e w4 ⟨rfl, hS4, hk4, hg4⟩; have H4 := Lib.hid (show _ ∧ _ ∧ _ ∧ _ from ⟨hS4, (H3.out.2.1).trans hg4 (fun _ _ h => .inl h), owns_gone (show World.ownsRow _ _ _ _ _ _ _ from H3.out.2.2.1) hg4 HS.out.2.1, hk4⟩); clear hS4 hg4 hk4)
                | (go_at_call 117; refine (HL.out.2.2.1 _ H2.out.1 H2.out.2.2.2).mono ?_; rintro e w3 ⟨rfl, hS3, _, hk3, hg3⟩; have H3 := Lib.hid (show _ ∧ _ ∧ _ ∧ _ from ⟨hS3, (H2.out.2.1).trans hg3 (fun _ _ h => .inl h), owns_gone (show World.ownsRow _ _ _ _ _ _ _ from H2.out.2.2.1) hg3 HS.out.2.1, hk3⟩); clear hS3 hg3 hk3)
                | (go_at_call 116; refine (HL.out.2.1).mono ?_; rintro e w2 ⟨rfl, hS2, hk2, hg2⟩; have H2 := Lib.hid (show _ ∧ _ ∧ _ ∧ _ from ⟨hS2, (HR.out.2.2.2.2).trans hg2 (fun _ _ h => .inl h), owns_gone (show World.ownsRow _ _ _ _ _ _ _ from HR.out.2.2.2.1) hg2 HS.out.2.1, hk2⟩); clear hS2 hg2 hk2))
              refine bodyPost_ret (v := .tuple #[.slice none 0 0, .bool false]) (by simp [results, Tryz.results49, go_sem]) rfl ?_
              rw [← HL.out.1]
              exact rlbsPost_none H5.out.1 H5.out.2.2.2 (grown_all H5.out.2.1)
            | some v =>
              have hlab := labR_value hn hemp h61 hm hW1
              have hk2gt := labR_gt hlab
              rw [hlab, ← hnd, bytes_eta] at hls
              have hvl2 : ∀ W, RScan W bk s m → m ≤ s.size → Calls Tryz.prog 118 #[.pointer (some ⟨bk, 0, none⟩)] W fun e w' => e = .returned (.tuple #[.string ⟨v.toArray⟩, .bool true]) ∧ RScan w' bk s k2 ∧ k2 ≤ s.size ∧ GrownIn (fun b => b = bk) W w' := hvl
              obtain ⟨vl, hvv⟩ : ∃ vl : ByteArray, (⟨v.toArray⟩ : ByteArray) = vl := ⟨_, rfl⟩
              rw [hvv] at hls hvl2
              obtain ⟨x, hx⟩ : ∃ x : Lb, (⟨nm, vl⟩ : Lb) = x := ⟨_, rfl⟩
              have hxn : nm = x.nm := by rw [← hx]
              have hxv : vl = x.vl := by rw [← hx]
              rw [hx] at hls
              subst hxn hxv
              have hlsx : (if signB s.data.toList k2 44 = true then lsR f' s.data.toList (signK s.data.toList k2 44) (acc ++ [x]) else (if signB s.data.toList (signK s.data.toList k2 44) 125 = true ∧ signK s.data.toList (signK s.data.toList k2 44) 125 = s.data.toList.length then some (acc ++ [x]) else none, signK s.data.toList (signK s.data.toList k2 44) 125)) = V := hls
              clear hls hlab hvl hnd hb hemp hn hnn hm hvv hx hW1 h61
              obtain ⟨k3, hk3⟩ : ∃ k3, signK s.data.toList k2 44 = k3 := ⟨_, rfl⟩
              have hk3ge := signK_ge s.data.toList k2 44
              rw [hk3] at hlsx hk3ge
              have hcm := fun W h h1 => HI.out.2.2.2.2.1 k2 44 W h h1
              rw [hk3] at hcm
              cases h44 : signB s.data.toList k2 44 with
              | true =>
                rw [h44] at hlsx hcm
                rw [if_pos rfl] at hlsx
                have HL := Lib.hid (show _ ∧ _ ∧ _ ∧ _ ∧ _ ∧ _ from ⟨hlsx, hsg, hnm, heq, hvl2, hcm⟩)
                clear hlsx hsg hnm heq hvl2 hcm hk1 hk3 h125 h44
                go_wp2_with (first
                  | (go_at_call 116; refine (HL.out.2.2.2.2.2 _ H6.out.1 H6.out.2.2.2).mono ?_; rintro e w7 ⟨rfl, hS7, hk7, hg7⟩; have H7 := Lib.hid (show _ ∧ _ ∧ _ ∧ _ from ⟨hS7, (H6.out.2.1).trans hg7 (fun _ _ h => .inl h), owns_gone (show World.ownsRow _ _ _ _ _ _ _ from H6.out.2.2.1) hg7 HS.out.2.1, hk7⟩); clear hS7 hg7 hk7)
                  | (go_at_call 118; refine (HL.out.2.2.2.2.1 _ H4.out.1 H4.out.2.2.2).mono ?_; rintro e w5 ⟨rfl, hS5, hk5, hg5⟩; have H5 := Lib.hid (show _ ∧ _ ∧ _ ∧ _ from ⟨hS5, (H4.out.2.1).trans hg5 (fun _ _ h => .inl h), owns_gone (show World.ownsRow _ _ _ _ _ _ _ from H4.out.2.2.1) hg5 HS.out.2.1, hk5⟩); clear hS5 hg5 hk5)
                  | (go_at_call 116; refine (HL.out.2.2.2.1 _ H3.out.1 H3.out.2.2.2).mono ?_; rintro e w4 ⟨rfl, hS4, hk4, hg4⟩; have H4 := Lib.hid (show _ ∧ _ ∧ _ ∧ _ from ⟨hS4, (H3.out.2.1).trans hg4 (fun _ _ h => .inl h), owns_gone (show World.ownsRow _ _ _ _ _ _ _ from H3.out.2.2.1) hg4 HS.out.2.1, hk4⟩); clear hS4 hg4 hk4)
                  | (go_at_call 117; refine (HL.out.2.2.1 _ H2.out.1 H2.out.2.2.2).mono ?_; rintro e w3 ⟨rfl, hS3, _, hk3, hg3⟩; have H3 := Lib.hid (show _ ∧ _ ∧ _ ∧ _ from ⟨hS3, (H2.out.2.1).trans hg3 (fun _ _ h => .inl h), owns_gone (show World.ownsRow _ _ _ _ _ _ _ from H2.out.2.2.1) hg3 HS.out.2.1, hk3⟩); clear hS3 hg3 hk3)
                  | (go_at_call 116; refine (HL.out.2.1).mono ?_; rintro e w2 ⟨rfl, hS2, hk2, hg2⟩; have H2 := Lib.hid (show _ ∧ _ ∧ _ ∧ _ from ⟨hS2, (HR.out.2.2.2.2).trans hg2 (fun _ _ h => .inl h), owns_gone (show World.ownsRow _ _ _ _ _ _ _ from HR.out.2.2.2.1) hg2 HS.out.2.1, hk2⟩); clear hS2 hg2 hk2)
                  | (at_builtin; refine wpList_append_own _ rfl _ _ 22 rfl w.heap.size 94 i0 _ 2 32 Tryz.underlying22 hi hz0 hz1 hz2 rfl (by have := H5.out.2.1.size; omega) _ acc.length (acc.flatMap Lb.cells) rfl (H5.out.2.2.1.alloc _) ⟨w5.heap.size, 0, none⟩ 1 1 x.cells rfl rfl (cells_at _ (by simp) x.cells _) (by intro u hu; simp only [Lb.cells, List.mem_cons, List.not_mem_nil, or_false] at hu; rcases hu with rfl | rfl <;> rfl) (by unfold maxLen; omega) (by omega) (by have := H5.out.2.1.size; simp; omega) ?_; intro v' w6 hown6 hg6 _; have hs6 : RScan w6 bk s k2 := (hg6.block bk (by simp; have := H5.out.1.lt; omega) (fun e => by have := (H5.out.2.2.1.lt bk e.symm).1; have := HS.out.2.1; omega)).trans (H5.out.1.alloc _); have H6 := Lib.hid (show _ ∧ _ ∧ w6.ownsRow w.heap.size 94 2 v' (acc ++ [x]).length ((acc ++ [x]).flatMap Lb.cells) ∧ _ from ⟨hs6, (H5.out.2.1.alloc _).trans (GrownIn.of_grownBy hg6) (fun k _ e => .inr (H5.out.2.2.1.lt k e).1), by (rw [List.flatMap_append, List.flatMap_singleton, List.length_append]; exact hown6), H5.out.2.2.2⟩); clear hown6 hg6 hs6))
                go_roundw
                case measure => rw [H7.out.1.at, HR.out.2.2.1.at]; have := H7.out.2.2.2; omega
                case rel => exact ⟨k3, f', acc ++ [x], H7.out.2.2.2, by rw [List.length_append, List.length_singleton]; omega, Lib.hid ⟨by omega, HL.out.1, H7.out.1, H7.out.2.2.1, H7.out.2.1⟩⟩
              | false =>
                rw [h44] at hlsx hcm
                rw [if_neg (by decide)] at hlsx
                obtain ⟨k4, hk4⟩ : ∃ k4, signK s.data.toList k3 125 = k4 := ⟨_, rfl⟩
                have hen := fun W h h1 => HI.out.2.2.2.2.1 k3 125 W h h1
                rw [hk4] at hlsx hen
                obtain ⟨eb, heb⟩ : ∃ eb, signB s.data.toList k3 125 = eb := ⟨_, rfl⟩
                rw [heb] at hlsx hen
                have HL := Lib.hid (show _ ∧ _ ∧ _ ∧ _ ∧ _ ∧ _ ∧ _ from ⟨hlsx, hsg, hnm, heq, hvl2, hcm, hen⟩)
                clear hlsx hsg hnm heq hvl2 hcm hen hk1 hk3 hk4 heb h125 h44
                by_cases hgood : eb = true ∧ k4 = s.size
                · obtain ⟨rfl, hk4e⟩ := hgood
                  have hVV : (some (acc ++ [x]), k4) = V := by have := HL.out.1; rwa [if_pos ⟨rfl, by rw [HS.out.2.2.2]; exact hk4e⟩] at this
                  have hie : ((k4 : Int) == (s.size : Int)) = true := by rw [hk4e]; simp
                  have HVV := Lib.hid hVV
                  clear hVV
                  go_wp2_with (first
                    | (go_quiet (fail))
                    | (go_at_call 116; refine (HL.out.2.2.2.2.2.2 _ H7.out.1 H7.out.2.2.2).mono ?_; rintro e w8 ⟨rfl, hS8, hk8, hg8⟩; have H8 := Lib.hid (show _ ∧ _ ∧ _ ∧ _ from ⟨hS8, (H7.out.2.1).trans hg8 (fun _ _ h => .inl h), owns_gone (show World.ownsRow _ _ _ _ _ _ _ from H7.out.2.2.1) hg8 HS.out.2.1, hk8⟩); have c0 := hS8.c0; have c1 := hS8.c1; clear hS8 hg8 hk8)
                    | (go_at_call 116; refine (HL.out.2.2.2.2.2.1 _ H6.out.1 H6.out.2.2.2).mono ?_; rintro e w7 ⟨rfl, hS7, hk7, hg7⟩; have H7 := Lib.hid (show _ ∧ _ ∧ _ ∧ _ from ⟨hS7, (H6.out.2.1).trans hg7 (fun _ _ h => .inl h), owns_gone (show World.ownsRow _ _ _ _ _ _ _ from H6.out.2.2.1) hg7 HS.out.2.1, hk7⟩); clear hS7 hg7 hk7)
                    | (go_at_call 118; refine (HL.out.2.2.2.2.1 _ H4.out.1 H4.out.2.2.2).mono ?_; rintro e w5 ⟨rfl, hS5, hk5, hg5⟩; have H5 := Lib.hid (show _ ∧ _ ∧ _ ∧ _ from ⟨hS5, (H4.out.2.1).trans hg5 (fun _ _ h => .inl h), owns_gone (show World.ownsRow _ _ _ _ _ _ _ from H4.out.2.2.1) hg5 HS.out.2.1, hk5⟩); clear hS5 hg5 hk5)
                    | (go_at_call 116; refine (HL.out.2.2.2.1 _ H3.out.1 H3.out.2.2.2).mono ?_; rintro e w4 ⟨rfl, hS4, hk4, hg4⟩; have H4 := Lib.hid (show _ ∧ _ ∧ _ ∧ _ from ⟨hS4, (H3.out.2.1).trans hg4 (fun _ _ h => .inl h), owns_gone (show World.ownsRow _ _ _ _ _ _ _ from H3.out.2.2.1) hg4 HS.out.2.1, hk4⟩); clear hS4 hg4 hk4)
                    | (go_at_call 117; refine (HL.out.2.2.1 _ H2.out.1 H2.out.2.2.2).mono ?_; rintro e w3 ⟨rfl, hS3, _, hk3, hg3⟩; have H3 := Lib.hid (show _ ∧ _ ∧ _ ∧ _ from ⟨hS3, (H2.out.2.1).trans hg3 (fun _ _ h => .inl h), owns_gone (show World.ownsRow _ _ _ _ _ _ _ from H2.out.2.2.1) hg3 HS.out.2.1, hk3⟩); clear hS3 hg3 hk3)
                    | (go_at_call 116; refine (HL.out.2.1).mono ?_; rintro e w2 ⟨rfl, hS2, hk2, hg2⟩; have H2 := Lib.hid (show _ ∧ _ ∧ _ ∧ _ from ⟨hS2, (HR.out.2.2.2.2).trans hg2 (fun _ _ h => .inl h), owns_gone (show World.ownsRow _ _ _ _ _ _ _ from HR.out.2.2.2.1) hg2 HS.out.2.1, hk2⟩); clear hS2 hg2 hk2)
                    | (at_builtin; refine wpList_append_own _ rfl _ _ 22 rfl w.heap.size 94 i0 _ 2 32 Tryz.underlying22 hi hz0 hz1 hz2 rfl (by have := H5.out.2.1.size; omega) _ acc.length (acc.flatMap Lb.cells) rfl (H5.out.2.2.1.alloc _) ⟨w5.heap.size, 0, none⟩ 1 1 x.cells rfl rfl (cells_at _ (by simp) x.cells _) (by intro u hu; simp only [Lb.cells, List.mem_cons, List.not_mem_nil, or_false] at hu; rcases hu with rfl | rfl <;> rfl) (by unfold maxLen; omega) (by omega) (by have := H5.out.2.1.size; simp; omega) ?_; intro v' w6 hown6 hg6 _; have hs6 : RScan w6 bk s k2 := (hg6.block bk (by simp; have := H5.out.1.lt; omega) (fun e => by have := (H5.out.2.2.1.lt bk e.symm).1; have := HS.out.2.1; omega)).trans (H5.out.1.alloc _); have H6 := Lib.hid (show _ ∧ _ ∧ w6.ownsRow w.heap.size 94 2 v' (acc ++ [x]).length ((acc ++ [x]).flatMap Lb.cells) ∧ _ from ⟨hs6, (H5.out.2.1.alloc _).trans (GrownIn.of_grownBy hg6) (fun k _ e => .inr (H5.out.2.2.1.lt k e).1), by (rw [List.flatMap_append, List.flatMap_singleton, List.length_append]; exact hown6), H5.out.2.2.2⟩); clear hown6 hg6 hs6))
                  refine bodyPost_ret (v := .tuple #[v', .bool true]) (by simp [results, Tryz.results49, go_sem]) rfl ?_
                  rw [← HVV.out]
                  exact ⟨⟨v', rfl, H8.out.2.2.1, by rw [List.length_append, List.length_singleton]; omega⟩, H8.out.1, H8.out.2.2.2, grown_all (by first | exact H8.out.2.1.drewN _ | exact H8.out.2.1)⟩
                · have hVV : (none, k4) = V := by have := HL.out.1; rwa [if_neg (fun h => hgood ⟨h.1, by rw [← HS.out.2.2.2]; exact h.2⟩)] at this
                  have HVV := Lib.hid hVV
                  clear hVV
                  have hcase : eb = false ∨ (eb = true ∧ ((k4 : Int) == (s.size : Int)) = false) := by
                    cases eb with
                    | false => exact .inl rfl
                    | true => exact .inr ⟨rfl, by rw [beq_eq_false_iff_ne]; intro e; exact hgood ⟨rfl, by omega⟩⟩
                  clear hgood
                  rcases hcase with rfl | ⟨rfl, hie⟩
                  · skip
                    go_wp2_with (first
                      | (go_quiet (fail))
                      | (go_at_call 116; refine (HL.out.2.2.2.2.2.2 _ H7.out.1 H7.out.2.2.2).mono ?_; rintro e w8 ⟨rfl, hS8, hk8, hg8⟩; have H8 := Lib.hid (show _ ∧ _ ∧ _ ∧ _ from ⟨hS8, (H7.out.2.1).trans hg8 (fun _ _ h => .inl h), owns_gone (show World.ownsRow _ _ _ _ _ _ _ from H7.out.2.2.1) hg8 HS.out.2.1, hk8⟩); have c0 := hS8.c0; have c1 := hS8.c1; clear hS8 hg8 hk8)
                      | (go_at_call 116; refine (HL.out.2.2.2.2.2.1 _ H6.out.1 H6.out.2.2.2).mono ?_; rintro e w7 ⟨rfl, hS7, hk7, hg7⟩; have H7 := Lib.hid (show _ ∧ _ ∧ _ ∧ _ from ⟨hS7, (H6.out.2.1).trans hg7 (fun _ _ h => .inl h), owns_gone (show World.ownsRow _ _ _ _ _ _ _ from H6.out.2.2.1) hg7 HS.out.2.1, hk7⟩); clear hS7 hg7 hk7)
                      | (go_at_call 118; refine (HL.out.2.2.2.2.1 _ H4.out.1 H4.out.2.2.2).mono ?_; rintro e w5 ⟨rfl, hS5, hk5, hg5⟩; have H5 := Lib.hid (show _ ∧ _ ∧ _ ∧ _ from ⟨hS5, (H4.out.2.1).trans hg5 (fun _ _ h => .inl h), owns_gone (show World.ownsRow _ _ _ _ _ _ _ from H4.out.2.2.1) hg5 HS.out.2.1, hk5⟩); clear hS5 hg5 hk5)
                      | (go_at_call 116; refine (HL.out.2.2.2.1 _ H3.out.1 H3.out.2.2.2).mono ?_; rintro e w4 ⟨rfl, hS4, hk4, hg4⟩; have H4 := Lib.hid (show _ ∧ _ ∧ _ ∧ _ from ⟨hS4, (H3.out.2.1).trans hg4 (fun _ _ h => .inl h), owns_gone (show World.ownsRow _ _ _ _ _ _ _ from H3.out.2.2.1) hg4 HS.out.2.1, hk4⟩); clear hS4 hg4 hk4)
                      | (go_at_call 117; refine (HL.out.2.2.1 _ H2.out.1 H2.out.2.2.2).mono ?_; rintro e w3 ⟨rfl, hS3, _, hk3, hg3⟩; have H3 := Lib.hid (show _ ∧ _ ∧ _ ∧ _ from ⟨hS3, (H2.out.2.1).trans hg3 (fun _ _ h => .inl h), owns_gone (show World.ownsRow _ _ _ _ _ _ _ from H2.out.2.2.1) hg3 HS.out.2.1, hk3⟩); clear hS3 hg3 hk3)
                      | (go_at_call 116; refine (HL.out.2.1).mono ?_; rintro e w2 ⟨rfl, hS2, hk2, hg2⟩; have H2 := Lib.hid (show _ ∧ _ ∧ _ ∧ _ from ⟨hS2, (HR.out.2.2.2.2).trans hg2 (fun _ _ h => .inl h), owns_gone (show World.ownsRow _ _ _ _ _ _ _ from HR.out.2.2.2.1) hg2 HS.out.2.1, hk2⟩); clear hS2 hg2 hk2)
                      | (at_builtin; refine wpList_append_own _ rfl _ _ 22 rfl w.heap.size 94 i0 _ 2 32 Tryz.underlying22 hi hz0 hz1 hz2 rfl (by have := H5.out.2.1.size; omega) _ acc.length (acc.flatMap Lb.cells) rfl (H5.out.2.2.1.alloc _) ⟨w5.heap.size, 0, none⟩ 1 1 x.cells rfl rfl (cells_at _ (by simp) x.cells _) (by intro u hu; simp only [Lb.cells, List.mem_cons, List.not_mem_nil, or_false] at hu; rcases hu with rfl | rfl <;> rfl) (by unfold maxLen; omega) (by omega) (by have := H5.out.2.1.size; simp; omega) ?_; intro v' w6 hown6 hg6 _; have hs6 : RScan w6 bk s k2 := (hg6.block bk (by simp; have := H5.out.1.lt; omega) (fun e => by have := (H5.out.2.2.1.lt bk e.symm).1; have := HS.out.2.1; omega)).trans (H5.out.1.alloc _); have H6 := Lib.hid (show _ ∧ _ ∧ w6.ownsRow w.heap.size 94 2 v' (acc ++ [x]).length ((acc ++ [x]).flatMap Lb.cells) ∧ _ from ⟨hs6, (H5.out.2.1.alloc _).trans (GrownIn.of_grownBy hg6) (fun k _ e => .inr (H5.out.2.2.1.lt k e).1), by (rw [List.flatMap_append, List.flatMap_singleton, List.length_append]; exact hown6), H5.out.2.2.2⟩); clear hown6 hg6 hs6))
                    refine bodyPost_ret (v := .tuple #[v', .bool false]) (by simp [results, Tryz.results49, go_sem]) rfl ?_
                    rw [← HVV.out]
                    exact rlbsPost_none H8.out.1 H8.out.2.2.2 (grown_all (by first | exact H8.out.2.1.drewN _ | exact H8.out.2.1))
                  · skip
                    go_wp2_with (first
                      | (go_quiet (fail))
                      | (go_at_call 116; refine (HL.out.2.2.2.2.2.2 _ H7.out.1 H7.out.2.2.2).mono ?_; rintro e w8 ⟨rfl, hS8, hk8, hg8⟩; have H8 := Lib.hid (show _ ∧ _ ∧ _ ∧ _ from ⟨hS8, (H7.out.2.1).trans hg8 (fun _ _ h => .inl h), owns_gone (show World.ownsRow _ _ _ _ _ _ _ from H7.out.2.2.1) hg8 HS.out.2.1, hk8⟩); have c0 := hS8.c0; have c1 := hS8.c1; clear hS8 hg8 hk8)
                      | (go_at_call 116; refine (HL.out.2.2.2.2.2.1 _ H6.out.1 H6.out.2.2.2).mono ?_; rintro e w7 ⟨rfl, hS7, hk7, hg7⟩; have H7 := Lib.hid (show _ ∧ _ ∧ _ ∧ _ from ⟨hS7, (H6.out.2.1).trans hg7 (fun _ _ h => .inl h), owns_gone (show World.ownsRow _ _ _ _ _ _ _ from H6.out.2.2.1) hg7 HS.out.2.1, hk7⟩); clear hS7 hg7 hk7)
                      | (go_at_call 118; refine (HL.out.2.2.2.2.1 _ H4.out.1 H4.out.2.2.2).mono ?_; rintro e w5 ⟨rfl, hS5, hk5, hg5⟩; have H5 := Lib.hid (show _ ∧ _ ∧ _ ∧ _ from ⟨hS5, (H4.out.2.1).trans hg5 (fun _ _ h => .inl h), owns_gone (show World.ownsRow _ _ _ _ _ _ _ from H4.out.2.2.1) hg5 HS.out.2.1, hk5⟩); clear hS5 hg5 hk5)
                      | (go_at_call 116; refine (HL.out.2.2.2.1 _ H3.out.1 H3.out.2.2.2).mono ?_; rintro e w4 ⟨rfl, hS4, hk4, hg4⟩; have H4 := Lib.hid (show _ ∧ _ ∧ _ ∧ _ from ⟨hS4, (H3.out.2.1).trans hg4 (fun _ _ h => .inl h), owns_gone (show World.ownsRow _ _ _ _ _ _ _ from H3.out.2.2.1) hg4 HS.out.2.1, hk4⟩); clear hS4 hg4 hk4)
                      | (go_at_call 117; refine (HL.out.2.2.1 _ H2.out.1 H2.out.2.2.2).mono ?_; rintro e w3 ⟨rfl, hS3, _, hk3, hg3⟩; have H3 := Lib.hid (show _ ∧ _ ∧ _ ∧ _ from ⟨hS3, (H2.out.2.1).trans hg3 (fun _ _ h => .inl h), owns_gone (show World.ownsRow _ _ _ _ _ _ _ from H2.out.2.2.1) hg3 HS.out.2.1, hk3⟩); clear hS3 hg3 hk3)
                      | (go_at_call 116; refine (HL.out.2.1).mono ?_; rintro e w2 ⟨rfl, hS2, hk2, hg2⟩; have H2 := Lib.hid (show _ ∧ _ ∧ _ ∧ _ from ⟨hS2, (HR.out.2.2.2.2).trans hg2 (fun _ _ h => .inl h), owns_gone (show World.ownsRow _ _ _ _ _ _ _ from HR.out.2.2.2.1) hg2 HS.out.2.1, hk2⟩); clear hS2 hg2 hk2)
                      | (at_builtin; refine wpList_append_own _ rfl _ _ 22 rfl w.heap.size 94 i0 _ 2 32 Tryz.underlying22 hi hz0 hz1 hz2 rfl (by have := H5.out.2.1.size; omega) _ acc.length (acc.flatMap Lb.cells) rfl (H5.out.2.2.1.alloc _) ⟨w5.heap.size, 0, none⟩ 1 1 x.cells rfl rfl (cells_at _ (by simp) x.cells _) (by intro u hu; simp only [Lb.cells, List.mem_cons, List.not_mem_nil, or_false] at hu; rcases hu with rfl | rfl <;> rfl) (by unfold maxLen; omega) (by omega) (by have := H5.out.2.1.size; simp; omega) ?_; intro v' w6 hown6 hg6 _; have hs6 : RScan w6 bk s k2 := (hg6.block bk (by simp; have := H5.out.1.lt; omega) (fun e => by have := (H5.out.2.2.1.lt bk e.symm).1; have := HS.out.2.1; omega)).trans (H5.out.1.alloc _); have H6 := Lib.hid (show _ ∧ _ ∧ w6.ownsRow w.heap.size 94 2 v' (acc ++ [x]).length ((acc ++ [x]).flatMap Lb.cells) ∧ _ from ⟨hs6, (H5.out.2.1.alloc _).trans (GrownIn.of_grownBy hg6) (fun k _ e => .inr (H5.out.2.2.1.lt k e).1), by (rw [List.flatMap_append, List.flatMap_singleton, List.length_append]; exact hown6), H5.out.2.2.2⟩); clear hown6 hg6 hs6))
                    refine bodyPost_ret (v := .tuple #[v', .bool false]) (by simp [results, Tryz.results49, go_sem]) rfl ?_
                    rw [← HVV.out]
                    exact rlbsPost_none H8.out.1 H8.out.2.2.2 (grown_all (by first | exact H8.out.2.1.drewN _ | exact H8.out.2.1))
end Go.Proofs.YtchggapclmdpaaaGreatDoor
namespace Go.Proofs.YtchggapclmdpaaaGreatDoor
open Go.RowKit Go.Lib

theorem lsR_len : ∀ (f : Nat) (l : List UInt8) (k : Nat) (acc x : List Lb) (k' : Nat), lsR f l k acc = (some x, k') → x.length ≤ acc.length + f
  | 0, l, k, acc, x, k', h => by rw [lsR] at h; cases h
  | f + 1, l, k, acc, x, k', h => by
    rw [lsR] at h
    split at h
    · split at h
      · injection h with h1 h2
        injection h1 with h1
        subst h1
        omega
      · injection h with h1 h2
        cases h1
    · split at h
      · injection h with h1 h2
        cases h1
      · split at h
        · have := lsR_len f _ _ _ _ _ h
          rw [List.length_append, List.length_singleton] at this
          omega
        · split at h
          · injection h with h1 h2
            injection h1 with h1
            subst h1
            rw [List.length_append, List.length_singleton]
            omega
          · injection h with h1 h2
            cases h1
theorem lsTop_len {l : List UInt8} {x : List Lb} {k : Nat} (h : lsTop l = (some x, k)) : x.length ≤ l.length + 1 := by
  unfold lsTop at h
  split at h
  · have := lsR_len _ _ _ _ _ _ h
    simpa using this
  · cases h
set_option maxHeartbeats 4000000 in
set_option maxRecDepth 100000 in
theorem rparse_any (s : ByteArray) (w : World) (hbig : s.size ≤ 90000) :
    Calls Tryz.prog 11 #[.string s] w (ParPost (parR s.data.toList) w) := by
  have hsz : s.data.toList.length = s.size := Array.length_toList
  have hS0 : RScan (w.alloc (.cells #[.string s, .int .i64 0] 102)) w.heap.size s 0 := heap_alloc_new w _
  have hb0 : Below w.heap.size w (w.alloc (.cells #[.string s, .int .i64 0] 102)) := (Below.refl _ _).alloc (Nat.le_refl _) _
  have hlb := rlabels_any w.heap.size s _ hS0 (by omega)
  obtain ⟨R, hR⟩ : ∃ R, parR s.data.toList = R := ⟨_, rfl⟩
  rw [hR]
  unfold parR at hR
  obtain ⟨V, hV⟩ : ∃ V, lsTop s.data.toList = V := ⟨_, rfl⟩
  rw [hV] at hR hlb
  obtain ⟨ol, k⟩ := V
  cases ol with
  | none =>
    have HL := Lib.hid (show _ ∧ ([], 70, k) = R from ⟨hlb, hR⟩)
    clear hlb hR hV hS0 hb0 hsz
    go_enter Tryz.func11, Tryz.ntmps11
    go_wp2_with fail
    refine HL.out.1.mono ?_
    rintro e w1 ⟨⟨v, rfl⟩, hS1, hk1, hg1⟩
    have c0 := hS1.c0
    have c1 := hS1.c1
    have hb1 : Below w.heap.size w w1 := ((Below.refl _ w).alloc (Nat.le_refl _) (.cells #[.string s, .int .i64 0] 102)).trans (hg1.below (fun k hk => by omega) (by simp))
    have H1 := Lib.hid hb1
    clear hS1 hk1 hg1 hb1
    go_wp2_with (go_quiet (fail))
    refine bodyPost_ret (v := .tuple #[.slice none 0 0, .int .u16 70, .int .i64 k]) (by simp [results, Tryz.results11, go_sem]) rfl ?_
    rw [← HL.out.2]
    exact ⟨_, rfl, World.ownsRow_nil _ _ _ _, by first | exact H1.out | exact below_drewN H1.out _⟩
  | some l =>
    have hll : l.length ≤ s.size + 1 := by have := lsTop_len hV; omega
    have HL := Lib.hid (show _ ∧ (if setE l = 0 then (setL l, 0, 0) else ([], setE l, s.data.toList.length)) = R ∧ _ from ⟨hlb, hR, hsz⟩)
    clear hlb hR hV hS0 hb0 hsz
    go_enter Tryz.func11, Tryz.ntmps11
    go_wp2_with fail
    refine HL.out.1.mono ?_
    rintro e w1 ⟨⟨v, rfl, ho1, hl1⟩, hS1, hk1, hg1⟩
    have hb1 : Below w.heap.size w w1 := ((Below.refl _ w).alloc (Nat.le_refl _) (.cells #[.string s, .int .i64 0] 102)).trans (hg1.below (fun k hk => by omega) (by simp))
    obtain ⟨A1, c1, rfl, hL1, _⟩ := own_arg ho1 rfl
    have hset := refSet_any A1 l.length c1 l w1 hL1 (by omega)
    have H1 := Lib.hid (show _ ∧ _ from ⟨hb1, hset⟩)
    clear hS1 hk1 hg1 hb1 ho1 hL1 hset
    go_wp2_with fail
    refine H1.out.2.mono ?_
    rintro e w2 ⟨v2, rfl, hb2, hbad, hgood⟩
    have hbw := H1.out.1.trans (hb2.mono H1.out.1.size)
    by_cases h0 : setE l = 0
    · have hR2 : (setL l, (0 : Int), 0) = R := by have := HL.out.2.1; rwa [if_pos h0] at this
      have ho2 := owns_base (hgood h0) H1.out.1.size
      obtain ⟨A2, c2, rfl, _, _⟩ := own_arg ho2 rfl
      have H2 := Lib.hid (show _ ∧ _ ∧ _ from ⟨hbw, hR2, ho2⟩)
      clear hbw hR2 ho2 hb2 hbad hgood
      rw [h0]
      go_wp2
      refine bodyPost_ret (v := .tuple #[.slice A2 (setL l).length c2, .int .u16 0, .int .i64 0]) (by simp [results, Tryz.results11, go_sem]) rfl ?_
      rw [← H2.out.2.1]
      exact ⟨_, rfl, H2.out.2.2, H2.out.1⟩
    · have hR2 : ([], setE l, s.size) = R := by have := HL.out.2.1; rwa [if_neg h0, HL.out.2.2] at this
      obtain rfl := hbad h0
      obtain ⟨E, hE⟩ : ∃ E, setE l = E := ⟨_, rfl⟩
      rw [hE] at hR2 h0
      rw [hE]
      have hne : (E != 0) = true := by rw [bne_iff_ne]; exact h0
      have H2 := Lib.hid (show _ ∧ _ from ⟨hbw, hR2⟩)
      clear hbw hR2 hb2 hbad hgood hE
      go_wp2
      refine bodyPost_ret (v := .tuple #[.slice none 0 0, .int .u16 E, .int .i64 s.size]) (by simp [results, Tryz.results11, go_sem]) rfl ?_
      rw [← H2.out.2]
      exact ⟨_, rfl, World.ownsRow_nil _ _ _ _, H2.out.1⟩
end Go.Proofs.YtchggapclmdpaaaGreatDoor
