/- The scanner of the document's Parse: a value (turned from Val8 by genrscan.py). -/
import Derived.Test.YtchggapclmdpaaaGreatDoorRScan
import Derived.Test.YtchggapclmdpaaaGreatDoorGm
import Derived.Test.YtchggapclmdpaaaGreatDoorRefUnq
namespace Go.Proofs.YtchggapclmdpaaaGreatDoor
open Go.RowKit Go.Lib

/-- What a value leaves. -/
def RValPost (V : Option (List UInt8) × Nat) (bk : Nat) (s : ByteArray) (w : World) (e : Ending) (w' : World) : Prop :=
  (match V.1 with
    | some v => e = .returned (.tuple #[.string ⟨v.toArray⟩, .bool true])
    | none => e = .returned (.tuple #[.string ⟨#[]⟩, .bool false])) ∧ RScan w' bk s V.2 ∧ V.2 ≤ s.size ∧ GrownIn (fun b => b = bk) w w'
theorem runq_some {t : List UInt8} {W : World} {e : Ending} {w' : World} (h : RUnqPost (some t) W e w') : ∃ n : Int, e = .returned (.tuple #[.string ⟨t.toArray⟩, .int .i64 0, .int .i64 n]) ∧ Below W.heap.size W w' := by
  obtain ⟨⟨t', n, h1, h2⟩ | ⟨h1, _⟩, hb⟩ := h
  · obtain rfl := Option.some.inj h1
    exact ⟨n, h2, hb⟩
  · cases h1
theorem runq_none {W : World} {e : Ending} {w' : World} (h : RUnqPost none W e w') : ∃ n : Int, e = .returned (.tuple #[.string ⟨#[]⟩, .int .i64 42, .int .i64 n]) ∧ Below W.heap.size W w' := by
  obtain ⟨⟨t', n, h1, h2⟩ | ⟨_, n, h2⟩, hb⟩ := h
  · cases h1
  · exact ⟨n, h2, hb⟩
set_option maxHeartbeats 8000000 in
set_option maxRecDepth 100000 in
theorem rvalue_any (bk : Nat) (s : ByteArray) (k0 : Nat) (w : World) (hS : RScan w bk s k0) (hk0 : k0 ≤ s.size) (hbig : s.size ≤ 1000000) :
    Calls Tryz.prog 118 #[.pointer (some ⟨bk, 0, none⟩)] w (RValPost (valR s.data.toList k0) bk s w) := by
  have hsz : s.size = s.data.toList.length := (Array.length_toList).symm
  obtain ⟨V, hV⟩ : ∃ V, valR s.data.toList k0 = V := ⟨_, rfl⟩
  have c0 := hS.c0
  have c1 := hS.c1
  have f1 := hS.f1
  have i0 : (0 : Int) ≤ (k0 : Int) := by omega
  by_cases hq : s.data.toList[k0]? = some 34
  · have hlt0 : k0 < s.size := by
      have := (List.getElem?_eq_some_iff.1 hq).1
      omega
    have hs0 : s[k0]'hlt0 = 34 := by
      have := toList_at hlt0
      rw [hq] at this
      exact (Option.some.inj this).symm
    have i1 : (k0 : Int) < (s.size : Int) := by omega
    have i2 : ¬ s.size ≤ k0 := (by omega); have i2d : decide (s.size ≤ k0) = false := (by simpa using i2)
    obtain ⟨J, hJ⟩ : ∃ J, closeK (s.data.toList.length + 1) s.data.toList (k0 + 1) = J := ⟨_, rfl⟩
    rw [hV]
    have HS := Lib.hid (show _ ∧ _ ∧ _ ∧ _ ∧ _ ∧ _ from ⟨hS, hsz, hsz, hV, hq, hJ⟩)
    clear hS hsz hV hq hJ
    go_enter Tryz.func118, Tryz.ntmps118
    go_wp2_with (go_quiet (fail))
    clear c0 c1 f1
    go_loopw [] (fun wr => ∃ j f : Nat, k0 + 1 ≤ j ∧ j ≤ s.size + 1 ∧ Hid (s.size + 1 ≤ j + f ∧ closeK f s.data.toList j = J ∧ RScan wr bk s j ∧ GrownIn (fun b => b = bk) w wr)) (fun wr => s.size + 2 - atOf wr bk)
    case atStart =>
      exact ⟨k0 + 1, s.size + 1, Nat.le_refl _, by omega, Lib.hid ⟨by omega, by have := HS.out.2.2.2.2.2; rw [← HS.out.2.1] at this; exact this, (show RScan (w.drewN _) bk s k0 from HS.out.1).next, grownIn_set (S := fun b => b = bk) ((GrownIn.refl (fun b => b = bk) w).drewN _) rfl _⟩⟩
    case round =>
      obtain ⟨j, f, hj0, hj1, HR⟩ := hrel
      have c0 := HR.out.2.2.1.c0
      have c1 := HR.out.2.2.1.c1
      have f1 := HR.out.2.2.1.f1
      have i3 : (0 : Int) ≤ (j : Int) := by omega
      by_cases hlt : j < s.size
      · have i4 : (j : Int) < (s.size : Int) := by omega
        obtain ⟨c, hc⟩ : ∃ c, s[j]'hlt = c := ⟨_, rfl⟩
        have hcl := toList_at hlt
        rw [hc] at hcl
        by_cases h34 : c = 34
        · subst h34
          have hJj : j = J := by rw [← HR.out.2.1]; exact (closeK_q hcl).symm
          subst hJj
          have i5 : ¬ (s.size : Int) ≤ (j : Int) := by omega
          have hext : (s.extract k0 (j + 1)).data.toList = 34 :: ((s.data.toList.take (j + 1)).drop (k0 + 1)) := by
            rw [extract_data]
            have h1 : (s.data.toList.take (j + 1))[k0]? = some 34 := by rw [List.getElem?_take_of_lt (by omega)]; exact HS.out.2.2.2.2.1
            obtain ⟨h2, h3⟩ := List.getElem?_eq_some_iff.1 h1
            rw [List.drop_eq_getElem_cons h2, h3]
          have hrl : ((s.data.toList.take (j + 1)).drop (k0 + 1)).length + 1 = j - k0 + 1 := by
            rw [List.length_drop, List.length_take]
            have := HS.out.2.1
            omega
          have hun : ∀ W, GrownIn (fun b => b = bk) w W → Calls Tryz.prog 140 #[.string (s.extract k0 (j + 1))] W (RUnqPost (unqR (j - k0 + 1) ((s.data.toList.take (j + 1)).drop (k0 + 1)) []) W) := fun W _ => by
            have := refUnquote_any (s.extract k0 (j + 1)) _ W hext (by rw [ByteArray.size_extract]; omega)
            rw [hrl] at this
            exact this
          cases hR : unqR (j - k0 + 1) ((s.data.toList.take (j + 1)).drop (k0 + 1)) [] with
          | none =>
            have hVV : V = (none, k0) := by
              rw [← HS.out.2.2.2.1]
              exact valR_bad HS.out.2.2.2.2.1 HS.out.2.2.2.2.2 (by have := HS.out.2.1; omega) hR
            rw [hR] at hun
            have HUN := Lib.hid (show _ ∧ _ from ⟨hun, hVV⟩)
            clear hun hVV hR hext hrl hcl
            go_wp2_with (go_quiet (fail))
            have i6 : (0 : Int) ≤ (j : Int) + 1 := by omega
            have i7 : (k0 : Int) ≤ (j : Int) + 1 := by omega
            have i8 : (j : Int) + 1 ≤ (s.size : Int) := by omega
            go_region_held3 (fun w' => w'.cell? ⟨bk, 0, none⟩ = some (.string s) ∧ w'.cell? ⟨bk, 1, none⟩ = some (.int .i64 ((j : Int) + 1))) (first | exact k6 | exact RScan.cs (RScan.drew (RScan.next (RScan.drewN HR.out.2.2.1 _))) | go_keep)
              (first | (go_at_call 140; refine (HUN.out.1 _ ((grownIn_set (HR.out.2.2.2.drewN _) (by exact rfl) _).drewN 1)).mono ?_; intro e w' hpost; obtain ⟨n1, rfl, hbw⟩ := runq_none hpost; have k6 := cell_seen2 hbw (by assumption); have HB1 := Lib.hid (show RScan w' bk s (j + 1) ∧ GrownIn (fun b => b = bk) w w' from ⟨(((HR.out.2.2.1.drewN _).next).drew).below hbw, grownIn_below ((grownIn_set (HR.out.2.2.2.drewN _) (by exact rfl) _).drewN 1) hbw⟩); clear hbw hpost))
            have f2 := HB1.out.1.f1
            go_wp2_with (go_quiet (fail))
            refine bodyPost_ret (v := .tuple #[.string ⟨#[]⟩, .bool false]) (by simp [results, Tryz.results118, go_sem]) rfl ?_
            rw [HUN.out.2]
            exact ⟨rfl, (show RScan _ bk s (j + 1) from HB1.out.1).set, by show k0 ≤ s.size; omega, grownIn_set HB1.out.2 rfl _⟩
          | some t =>
            have hVV : V = (some t, j + 1) := by
              rw [← HS.out.2.2.2.1]
              exact valR_good HS.out.2.2.2.2.1 HS.out.2.2.2.2.2 (by have := HS.out.2.1; omega) hR
            rw [hR] at hun
            have HUN := Lib.hid (show _ ∧ _ from ⟨hun, hVV⟩)
            clear hun hVV hR hext hrl hcl
            go_wp2_with (go_quiet (fail))
            have i6 : (0 : Int) ≤ (j : Int) + 1 := by omega
            have i7 : (k0 : Int) ≤ (j : Int) + 1 := by omega
            have i8 : (j : Int) + 1 ≤ (s.size : Int) := by omega
            go_region_held3 (fun w' => w'.cell? ⟨bk, 0, none⟩ = some (.string s) ∧ w'.cell? ⟨bk, 1, none⟩ = some (.int .i64 ((j : Int) + 1))) (first | exact k6 | exact RScan.cs (RScan.drew (RScan.next (RScan.drewN HR.out.2.2.1 _))) | go_keep)
              (first | (go_at_call 140; refine (HUN.out.1 _ ((grownIn_set (HR.out.2.2.2.drewN _) (by exact rfl) _).drewN 1)).mono ?_; intro e w' hpost; obtain ⟨n1, rfl, hbw⟩ := runq_some hpost; have k6 := cell_seen2 hbw (by assumption); have HB1 := Lib.hid (show RScan w' bk s (j + 1) ∧ GrownIn (fun b => b = bk) w w' from ⟨(((HR.out.2.2.1.drewN _).next).drew).below hbw, grownIn_below ((grownIn_set (HR.out.2.2.2.drewN _) (by exact rfl) _).drewN 1) hbw⟩); clear hbw hpost))
            go_wp2
            refine bodyPost_ret (v := .tuple #[.string ⟨t.toArray⟩, .bool true]) (by simp [results, Tryz.results118, go_sem]) rfl ?_
            rw [HUN.out.2]
            exact ⟨rfl, HB1.out.1, by show j + 1 ≤ s.size; omega, HB1.out.2⟩
        · have q1 : ((c.toNat : Int) == 34) = false := byte_ne h34
          obtain ⟨f', rfl⟩ : ∃ f', f = f' + 1 := ⟨f - 1, by have := HR.out.1; omega⟩
          have hfl := HR.out.1
          by_cases h92 : c = 92
          · subst h92
            have hcl2 := HR.out.2.1
            rw [closeK_esc hcl] at hcl2
            have HC := Lib.hid hcl2
            clear hcl hcl2
            go_wp2_with (go_quiet (fail))
            go_roundw
            case measure => rw [(show RScan _ bk s (j + 2) from by first | exact ((show RScan (wr.drewN _) bk s j from HR.out.2.2.1).next).next | exact (((show RScan (wr.drewN _) bk s j from HR.out.2.2.1).next).drewN _).next).at, HR.out.2.2.1.at]; omega
            case rel => exact ⟨j + 2, f', by omega, by omega, Lib.hid ⟨by omega, HC.out, by first | exact ((show RScan (wr.drewN _) bk s j from HR.out.2.2.1).next).next | exact (((show RScan (wr.drewN _) bk s j from HR.out.2.2.1).next).drewN _).next, by first | exact grownIn_set (grownIn_set (HR.out.2.2.2.drewN _) rfl _) rfl _ | exact grownIn_set ((grownIn_set (HR.out.2.2.2.drewN _) rfl _).drewN _) rfl _⟩⟩
          · have q2 : ((c.toNat : Int) == 92) = false := byte_ne h92
            have hcl2 := HR.out.2.1
            rw [closeK_on hcl h34 h92] at hcl2
            have HC := Lib.hid hcl2
            clear hcl hcl2
            go_wp2_with (go_quiet (fail))
            go_roundw
            case measure => rw [(show RScan (wr.drewN _) bk s j from HR.out.2.2.1).next.at, HR.out.2.2.1.at]; omega
            case rel => exact ⟨j + 1, f', by omega, by omega, Lib.hid ⟨by omega, HC.out, (show RScan (wr.drewN _) bk s j from HR.out.2.2.1).next, grownIn_set (HR.out.2.2.2.drewN _) rfl _⟩⟩
      · have i4 : ¬ (j : Int) < (s.size : Int) := by omega
        have i5 : (s.size : Int) ≤ (j : Int) := by omega
        have hJj : J = j := by rw [← HR.out.2.1]; exact closeK_end (by rw [List.getElem?_eq_none (by have := HS.out.2.1; omega)])
        have hVV : V = (none, s.size) := by
          rw [← HS.out.2.2.2.1, HS.out.2.1]
          exact valR_open HS.out.2.2.2.2.1 HS.out.2.2.2.2.2 (by have := HS.out.2.1; omega)
        have HX := Lib.hid hVV
        clear hVV hJj
        go_wp2_with (go_quiet (fail))
        refine bodyPost_ret (v := .tuple #[.string ⟨#[]⟩, .bool false]) (by simp [results, Tryz.results118, go_sem]) rfl ?_
        rw [HX.out]
        exact ⟨rfl, by first | exact (show RScan (wr.drewN _) bk s j from HR.out.2.2.1).set | exact (show RScan ((wr.drewN _).drewN _) bk s j from HR.out.2.2.1).set, Nat.le_refl _, by first | exact grownIn_set (HR.out.2.2.2.drewN _) rfl _ | exact grownIn_set ((HR.out.2.2.2.drewN _).drewN _) rfl _⟩
  · have hVV : V = (none, k0) := by rw [← hV]; exact valR_no hq
    rw [hV]
    have HV := Lib.hid hVV
    by_cases hlt0 : k0 < s.size
    · obtain ⟨c, hc⟩ : ∃ c, s[k0]'hlt0 = c := ⟨_, rfl⟩
      have hcn : c ≠ 34 := fun e => hq (by rw [toList_at hlt0, hc, e])
      have q1 : ((c.toNat : Int) == 34) = false := byte_ne hcn
      have i1 : (k0 : Int) < (s.size : Int) := by omega
      have i2 : ¬ s.size ≤ k0 := (by omega); have i2d : decide (s.size ≤ k0) = false := (by simpa using i2)
      have HS := Lib.hid hS
      clear hS hV hVV hq hsz
      go_enter Tryz.func118, Tryz.ntmps118
      go_wp2_with (go_quiet (fail))
      refine bodyPost_ret (v := .tuple #[.string ⟨#[]⟩, .bool false]) (by simp [results, Tryz.results118, go_sem]) rfl ?_
      rw [HV.out]
      exact ⟨rfl, HS.out, hk0, (GrownIn.refl _ w).drewN _⟩
    · have i2 : s.size ≤ k0 := (by omega); have i2d : decide (s.size ≤ k0) = true := (by simpa using i2)
      have HS := Lib.hid hS
      clear hS hV hVV hq hsz
      go_enter Tryz.func118, Tryz.ntmps118
      go_wp2_with (go_quiet (fail))
      refine bodyPost_ret (v := .tuple #[.string ⟨#[]⟩, .bool false]) (by simp [results, Tryz.results118, go_sem]) rfl ?_
      rw [HV.out]
      exact ⟨rfl, HS.out, hk0, (GrownIn.refl _ w).drewN _⟩
end Go.Proofs.YtchggapclmdpaaaGreatDoor
