/- The scanner of labels.Parse: a value, whatever stands there. The scanner of labels.Parse: a label, whatever stands there. -/
import Derived.Test.YtchggapclmdpaaaGreatDoorGl
import Derived.Test.YtchggapclmdpaaaGreatDoorGo
namespace Go.Proofs.YtchggapclmdpaaaGreatDoor
open Go.RowKit Go.Lib

/-- Where a quoted text ends, from j on. -/
def closeK : Nat → List UInt8 → Nat → Nat
  | 0, _, j => j
  | f + 1, l, j => match l[j]? with
    | none => j
    | some c => if c = 34 then j else if c = 92 then closeK f l (j + 2) else closeK f l (j + 1)
theorem closeK_end {f : Nat} {l : List UInt8} {j : Nat} (h : l[j]? = none) : closeK f l j = j := by
  cases f with
  | zero => rfl
  | succ f => rw [closeK, h]
theorem closeK_q {f : Nat} {l : List UInt8} {j : Nat} (h : l[j]? = some 34) : closeK f l j = j := by
  cases f with
  | zero => rfl
  | succ f => rw [closeK, h]; rfl
theorem closeK_esc {f : Nat} {l : List UInt8} {j : Nat} (h : l[j]? = some 92) : closeK (f + 1) l j = closeK f l (j + 2) := by rw [closeK, h]; rfl
theorem closeK_on {f : Nat} {l : List UInt8} {j : Nat} {c : UInt8} (h : l[j]? = some c) (h1 : c ≠ 34) (h2 : c ≠ 92) : closeK (f + 1) l j = closeK f l (j + 1) := by rw [closeK, h]; simp only [if_neg h1, if_neg h2]
/-- A value, and where it then stands. -/
def valR (l : List UInt8) (k : Nat) : Option (List UInt8) × Nat :=
  if l[k]? = some 34 then
    (if l.length ≤ closeK (l.length + 1) l (k + 1) then (none, l.length)
    else match unqR (closeK (l.length + 1) l (k + 1) - k + 1) ((l.take (closeK (l.length + 1) l (k + 1) + 1)).drop (k + 1)) [] with
      | none => (none, k)
      | some v => (some v, closeK (l.length + 1) l (k + 1) + 1))
  else (none, k)
theorem valR_no {l : List UInt8} {k : Nat} (h : l[k]? ≠ some 34) : valR l k = (none, k) := by unfold valR; rw [if_neg h]
theorem valR_open {l : List UInt8} {k : Nat} (h : l[k]? = some 34) {J : Nat} (hJ : closeK (l.length + 1) l (k + 1) = J) (h2 : l.length ≤ J) : valR l k = (none, l.length) := by unfold valR; rw [if_pos h, hJ, if_pos h2]
theorem valR_bad {l : List UInt8} {k : Nat} (h : l[k]? = some 34) {J : Nat} (hJ : closeK (l.length + 1) l (k + 1) = J) (h2 : ¬ l.length ≤ J) (h3 : unqR (J - k + 1) ((l.take (J + 1)).drop (k + 1)) [] = none) : valR l k = (none, k) := by unfold valR; rw [if_pos h, hJ, if_neg h2, h3]
theorem valR_good {l : List UInt8} {k : Nat} (h : l[k]? = some 34) {J : Nat} (hJ : closeK (l.length + 1) l (k + 1) = J) (h2 : ¬ l.length ≤ J) {v : List UInt8} (h3 : unqR (J - k + 1) ((l.take (J + 1)).drop (k + 1)) [] = some v) : valR l k = (some v, J + 1) := by unfold valR; rw [if_pos h, hJ, if_neg h2, h3]
/-- What a value leaves. -/
def ValPost (V : Option (List UInt8) × Nat) (bk : Nat) (s : ByteArray) (w : World) (e : Ending) (w' : World) : Prop :=
  (match V.1 with
    | some v => e = .returned (.tuple #[.string ⟨v.toArray⟩, .bool true])
    | none => e = .returned (.tuple #[.string ⟨#[]⟩, .bool false])) ∧ Scan w' bk s V.2 ∧ V.2 ≤ s.size ∧ GrownIn (fun b => b = bk) w w'
theorem unq2_some {t : List UInt8} {W : World} {e : Ending} {w' : World} (h : Unq2Post (some t) W e w') : ∃ n : Int, e = .returned (.tuple #[.string ⟨t.toArray⟩, .int .u16 0, .int .i64 n]) ∧ Below W.heap.size W w' := by
  obtain ⟨⟨t', n, h1, h2⟩ | ⟨h1, _⟩, hb⟩ := h
  · obtain rfl := Option.some.inj h1
    exact ⟨n, h2, hb⟩
  · cases h1
theorem unq2_none {W : World} {e : Ending} {w' : World} (h : Unq2Post none W e w') : ∃ n : Int, e = .returned (.tuple #[.string ⟨#[]⟩, .int .u16 42, .int .i64 n]) ∧ Below W.heap.size W w' := by
  obtain ⟨⟨t', n, h1, h2⟩ | ⟨_, n, h2⟩, hb⟩ := h
  · cases h1
  · exact ⟨n, h2, hb⟩
theorem toList_at {s : ByteArray} {k : Nat} (h : k < s.size) : s.data.toList[k]? = some (s[k]'h) := by
  rw [List.getElem?_eq_getElem (by rw [Array.length_toList]; exact h)]
  rfl
set_option maxHeartbeats 8000000 in
set_option maxRecDepth 100000 in
theorem value_any (K : Nat) (a b : Addr) (bk : Nat) (s : ByteArray) (k0 : Nat) (w : World) (hE : LaidE K a b w) (hbK : K ≤ bk) (hS : Scan w bk s k0) (hk0 : k0 ≤ s.size) (hbig : s.size ≤ 1000000) :
    Calls Tryz.prog 138 #[.pointer (some ⟨bk, 0, none⟩)] w (ValPost (valR s.data.toList k0) bk s w) := by
  have hsz : s.size = s.data.toList.length := (Array.length_toList).symm
  have hEg : ∀ W, GrownIn (fun b => b = bk) w W → LaidE K a b W := fun W hg => hE.grown hg (fun k hk => by subst hk; exact hbK)
  obtain ⟨V, hV⟩ : ∃ V, valR s.data.toList k0 = V := ⟨_, rfl⟩
  have c0 := hS.c0
  have c1 := hS.c1
  have f1 := hS.f1
  have i0 : (0 : Int) ≤ (k0 : Int) := by omega
  by_cases hq : s.data.toList[k0]? = some 34
  · have hlt0 : k0 < s.size := by
      have := (List.getElem?_eq_some_iff.1 hq).1
      omega
    have hs0 : s[k0]'hlt0 = 34 := by
      have := toList_at hlt0
      rw [hq] at this
      exact (Option.some.inj this).symm
    have i1 : (k0 : Int) < (s.size : Int) := by omega
    have i2 : ((k0 : Int) == (s.size : Int)) = false := by rw [beq_eq_false_iff_ne]; omega
    obtain ⟨J, hJ⟩ : ∃ J, closeK (s.data.toList.length + 1) s.data.toList (k0 + 1) = J := ⟨_, rfl⟩
    rw [hV]
    have HS := Lib.hid (show _ ∧ _ ∧ _ ∧ _ ∧ _ ∧ _ from ⟨hS, hsz, hEg, hV, hq, hJ⟩)
    clear hS hsz hEg hV hq hJ hE
    go_enter Tryz.func138, Tryz.ntmps138
    go_wp2_with (go_quiet (fail))
    clear c0 c1 f1
    go_loopw [] (fun wr => ∃ j f : Nat, k0 + 1 ≤ j ∧ j ≤ s.size + 1 ∧ Hid (s.size + 1 ≤ j + f ∧ closeK f s.data.toList j = J ∧ Scan wr bk s j ∧ GrownIn (fun b => b = bk) w wr)) (fun wr => s.size + 2 - atOf wr bk)
    case atStart =>
      exact ⟨k0 + 1, s.size + 1, Nat.le_refl _, by omega, Lib.hid ⟨by omega, by have := HS.out.2.2.2.2.2; rw [← HS.out.2.1] at this; exact this, (show Scan (w.drewN _) bk s k0 from HS.out.1).next, grownIn_set (S := fun b => b = bk) ((GrownIn.refl (fun b => b = bk) w).drewN _) rfl _⟩⟩
    case round =>
      obtain ⟨j, f, hj0, hj1, HR⟩ := hrel
      have c0 := HR.out.2.2.1.c0
      have c1 := HR.out.2.2.1.c1
      have f1 := HR.out.2.2.1.f1
      have i3 : (0 : Int) ≤ (j : Int) := by omega
      by_cases hlt : j < s.size
      · have i4 : (j : Int) < (s.size : Int) := by omega
        obtain ⟨c, hc⟩ : ∃ c, s[j]'hlt = c := ⟨_, rfl⟩
        have hcl := toList_at hlt
        rw [hc] at hcl
        by_cases h34 : c = 34
        · subst h34
          have hJj : j = J := by rw [← HR.out.2.1]; exact (closeK_q hcl).symm
          subst hJj
          have i5 : ¬ (s.size : Int) ≤ (j : Int) := by omega
          have hext : (s.extract k0 (j + 1)).data.toList = 34 :: ((s.data.toList.take (j + 1)).drop (k0 + 1)) := by
            rw [extract_data]
            have h1 : (s.data.toList.take (j + 1))[k0]? = some 34 := by rw [List.getElem?_take_of_lt (by omega)]; exact HS.out.2.2.2.2.1
            obtain ⟨h2, h3⟩ := List.getElem?_eq_some_iff.1 h1
            rw [List.drop_eq_getElem_cons h2, h3]
          have hrl : ((s.data.toList.take (j + 1)).drop (k0 + 1)).length + 1 = j - k0 + 1 := by
            rw [List.length_drop, List.length_take]
            have := HS.out.2.1
            omega
          have hun : ∀ W, GrownIn (fun b => b = bk) w W → Calls Tryz.prog 159 #[.string (s.extract k0 (j + 1))] W (Unq2Post (unqR (j - k0 + 1) ((s.data.toList.take (j + 1)).drop (k0 + 1)) []) W) := fun W hg => by
            have := unquote2_any K a b (s.extract k0 (j + 1)) _ W (HS.out.2.2.1 W hg) hext (by rw [ByteArray.size_extract]; omega)
            rw [hrl] at this
            exact this
          cases hR : unqR (j - k0 + 1) ((s.data.toList.take (j + 1)).drop (k0 + 1)) [] with
          | none =>
            have hVV : V = (none, k0) := by
              rw [← HS.out.2.2.2.1]
              exact valR_bad HS.out.2.2.2.2.1 HS.out.2.2.2.2.2 (by have := HS.out.2.1; omega) hR
            rw [hR] at hun
            have HUN := Lib.hid (show _ ∧ _ from ⟨hun, hVV⟩)
            clear hun hVV hR hext hrl hcl
            go_wp2_with (go_quiet (fail))
            have i6 : (0 : Int) ≤ (j : Int) + 1 := by omega
            have i7 : (k0 : Int) ≤ (j : Int) + 1 := by omega
            have i8 : (j : Int) + 1 ≤ (s.size : Int) := by omega
            go_region_held3 (fun w' => w'.cell? ⟨bk, 0, none⟩ = some (.string s) ∧ w'.cell? ⟨bk, 1, none⟩ = some (.int .i64 ((j : Int) + 1))) (first | exact k6 | exact Scan.cs (Scan.drew (Scan.next (Scan.drewN HR.out.2.2.1 _))) | go_keep)
              (first | (go_at_call 159; refine (HUN.out.1 _ ((grownIn_set (HR.out.2.2.2.drewN _) (by exact rfl) _).drewN 1)).mono ?_; intro e w' hpost; obtain ⟨n1, rfl, hbw⟩ := unq2_none hpost; have k6 := cell_seen2 hbw (by assumption); have HB1 := Lib.hid (show Scan w' bk s (j + 1) ∧ GrownIn (fun b => b = bk) w w' from ⟨(((HR.out.2.2.1.drewN _).next).drew).below hbw, grownIn_below ((grownIn_set (HR.out.2.2.2.drewN _) (by exact rfl) _).drewN 1) hbw⟩); clear hbw hpost))
            have f2 := HB1.out.1.f1
            go_wp2_with (go_quiet (fail))
            refine bodyPost_ret (v := .tuple #[.string ⟨#[]⟩, .bool false]) (by simp [results, Tryz.results138, go_sem]) rfl ?_
            rw [HUN.out.2]
            exact ⟨rfl, (show Scan _ bk s (j + 1) from HB1.out.1).set, by show k0 ≤ s.size; omega, grownIn_set HB1.out.2 rfl _⟩
          | some t =>
            have hVV : V = (some t, j + 1) := by
              rw [← HS.out.2.2.2.1]
              exact valR_good HS.out.2.2.2.2.1 HS.out.2.2.2.2.2 (by have := HS.out.2.1; omega) hR
            rw [hR] at hun
            have HUN := Lib.hid (show _ ∧ _ from ⟨hun, hVV⟩)
            clear hun hVV hR hext hrl hcl
            go_wp2_with (go_quiet (fail))
            have i6 : (0 : Int) ≤ (j : Int) + 1 := by omega
            have i7 : (k0 : Int) ≤ (j : Int) + 1 := by omega
            have i8 : (j : Int) + 1 ≤ (s.size : Int) := by omega
            go_region_held3 (fun w' => w'.cell? ⟨bk, 0, none⟩ = some (.string s) ∧ w'.cell? ⟨bk, 1, none⟩ = some (.int .i64 ((j : Int) + 1))) (first | exact k6 | exact Scan.cs (Scan.drew (Scan.next (Scan.drewN HR.out.2.2.1 _))) | go_keep)
              (first | (go_at_call 159; refine (HUN.out.1 _ ((grownIn_set (HR.out.2.2.2.drewN _) (by exact rfl) _).drewN 1)).mono ?_; intro e w' hpost; obtain ⟨n1, rfl, hbw⟩ := unq2_some hpost; have k6 := cell_seen2 hbw (by assumption); have HB1 := Lib.hid (show Scan w' bk s (j + 1) ∧ GrownIn (fun b => b = bk) w w' from ⟨(((HR.out.2.2.1.drewN _).next).drew).below hbw, grownIn_below ((grownIn_set (HR.out.2.2.2.drewN _) (by exact rfl) _).drewN 1) hbw⟩); clear hbw hpost))
            go_wp2
            refine bodyPost_ret (v := .tuple #[.string ⟨t.toArray⟩, .bool true]) (by simp [results, Tryz.results138, go_sem]) rfl ?_
            rw [HUN.out.2]
            exact ⟨rfl, HB1.out.1, by show j + 1 ≤ s.size; omega, HB1.out.2⟩
        · have q1 : ((c.toNat : Int) == 34) = false := byte_ne h34
          obtain ⟨f', rfl⟩ : ∃ f', f = f' + 1 := ⟨f - 1, by have := HR.out.1; omega⟩
          have hfl := HR.out.1
          by_cases h92 : c = 92
          · subst h92
            have hcl2 := HR.out.2.1
            rw [closeK_esc hcl] at hcl2
            have HC := Lib.hid hcl2
            clear hcl hcl2
            go_wp2_with (go_quiet (fail))
            go_roundw
            case measure => rw [(show Scan _ bk s (j + 2) from by first | exact ((show Scan (wr.drewN _) bk s j from HR.out.2.2.1).next).next | exact (((show Scan (wr.drewN _) bk s j from HR.out.2.2.1).next).drewN _).next).at, HR.out.2.2.1.at]; omega
            case rel => exact ⟨j + 2, f', by omega, by omega, Lib.hid ⟨by omega, HC.out, by first | exact ((show Scan (wr.drewN _) bk s j from HR.out.2.2.1).next).next | exact (((show Scan (wr.drewN _) bk s j from HR.out.2.2.1).next).drewN _).next, by first | exact grownIn_set (grownIn_set (HR.out.2.2.2.drewN _) rfl _) rfl _ | exact grownIn_set ((grownIn_set (HR.out.2.2.2.drewN _) rfl _).drewN _) rfl _⟩⟩
          · have q2 : ((c.toNat : Int) == 92) = false := byte_ne h92
            have hcl2 := HR.out.2.1
            rw [closeK_on hcl h34 h92] at hcl2
            have HC := Lib.hid hcl2
            clear hcl hcl2
            go_wp2_with (go_quiet (fail))
            go_roundw
            case measure => rw [(show Scan (wr.drewN _) bk s j from HR.out.2.2.1).next.at, HR.out.2.2.1.at]; omega
            case rel => exact ⟨j + 1, f', by omega, by omega, Lib.hid ⟨by omega, HC.out, (show Scan (wr.drewN _) bk s j from HR.out.2.2.1).next, grownIn_set (HR.out.2.2.2.drewN _) rfl _⟩⟩
      · have i4 : ¬ (j : Int) < (s.size : Int) := by omega
        have i5 : (s.size : Int) ≤ (j : Int) := by omega
        have hJj : J = j := by rw [← HR.out.2.1]; exact closeK_end (by rw [List.getElem?_eq_none (by have := HS.out.2.1; omega)])
        have hVV : V = (none, s.size) := by
          rw [← HS.out.2.2.2.1, HS.out.2.1]
          exact valR_open HS.out.2.2.2.2.1 HS.out.2.2.2.2.2 (by have := HS.out.2.1; omega)
        have HX := Lib.hid hVV
        clear hVV hJj
        go_wp2_with (go_quiet (fail))
        refine bodyPost_ret (v := .tuple #[.string ⟨#[]⟩, .bool false]) (by simp [results, Tryz.results138, go_sem]) rfl ?_
        rw [HX.out]
        exact ⟨rfl, by first | exact (show Scan (wr.drewN _) bk s j from HR.out.2.2.1).set | exact (show Scan ((wr.drewN _).drewN _) bk s j from HR.out.2.2.1).set, Nat.le_refl _, by first | exact grownIn_set (HR.out.2.2.2.drewN _) rfl _ | exact grownIn_set ((HR.out.2.2.2.drewN _).drewN _) rfl _⟩
  · have hVV : V = (none, k0) := by rw [← hV]; exact valR_no hq
    rw [hV]
    have HV := Lib.hid hVV
    by_cases hlt0 : k0 < s.size
    · obtain ⟨c, hc⟩ : ∃ c, s[k0]'hlt0 = c := ⟨_, rfl⟩
      have hcn : c ≠ 34 := fun e => hq (by rw [toList_at hlt0, hc, e])
      have q1 : ((c.toNat : Int) == 34) = false := byte_ne hcn
      have i1 : (k0 : Int) < (s.size : Int) := by omega
      have i2 : ((k0 : Int) == (s.size : Int)) = false := by rw [beq_eq_false_iff_ne]; omega
      have HS := Lib.hid hS
      clear hS hEg hV hE hVV hq hsz
      go_enter Tryz.func138, Tryz.ntmps138
      go_wp2_with (go_quiet (fail))
      refine bodyPost_ret (v := .tuple #[.string ⟨#[]⟩, .bool false]) (by simp [results, Tryz.results138, go_sem]) rfl ?_
      rw [HV.out]
      exact ⟨rfl, HS.out, hk0, (GrownIn.refl _ w).drewN _⟩
    · have i2 : ((k0 : Int) == (s.size : Int)) = true := by rw [show k0 = s.size by omega]; simp
      have HS := Lib.hid hS
      clear hS hEg hV hE hVV hq hsz
      go_enter Tryz.func138, Tryz.ntmps138
      go_wp2_with (go_quiet (fail))
      refine bodyPost_ret (v := .tuple #[.string ⟨#[]⟩, .bool false]) (by simp [results, Tryz.results138, go_sem]) rfl ?_
      rw [HV.out]
      exact ⟨rfl, HS.out, hk0, (GrownIn.refl _ w).drewN _⟩
end Go.Proofs.YtchggapclmdpaaaGreatDoor
namespace Go.Proofs.YtchggapclmdpaaaGreatDoor
open Go.RowKit Go.Lib

/-- A label, and where it then stands. -/
def labR (l : List UInt8) (k : Nat) : Option Lb × Nat :=
  if (l.take (nameK l k)).drop k = [] then (none, nameK l k)
  else if signB l (nameK l k) 61 = false then (none, signK l (nameK l k) 61)
  else match valR l (signK l (nameK l k) 61) with
    | (some v, k2) => (some ⟨⟨((l.take (nameK l k)).drop k).toArray⟩, ⟨v.toArray⟩⟩, k2)
    | (none, k2) => (none, k2)
/-- What a label leaves. -/
def LabPost (V : Option Lb × Nat) (bk : Nat) (s : ByteArray) (w : World) (e : Ending) (w' : World) : Prop :=
  (match V.1 with
    | some x => e = .returned (.tuple #[.agg #[.string x.nm, .string x.vl], .bool true])
    | none => ∃ x y : ByteArray, e = .returned (.tuple #[.agg #[.string x, .string y], .bool false])) ∧ Scan w' bk s V.2 ∧ V.2 ≤ s.size ∧ GrownIn (fun b => b = bk) w w'
theorem bytes_eta (s : ByteArray) : (⟨s.data.toList.toArray⟩ : ByteArray) = s := by cases s; rfl
set_option maxHeartbeats 4000000 in
set_option maxRecDepth 100000 in
theorem label_noname (bk : Nat) (s nm : ByteArray) (k0 k1 : Nat) (w : World) (hS : Scan w bk s k0) (hk : k0 ≤ s.size) (hbig : s.size ≤ 1000000)
    (hk1 : nameK s.data.toList k0 = k1) (hn : s.extract k0 k1 = nm) (hne : (nm.toList == []) = true) :
    Calls Tryz.prog 115 #[.pointer (some ⟨bk, 0, none⟩)] w fun e w' => (∃ x y : ByteArray, e = .returned (.tuple #[.agg #[.string x, .string y], .bool false])) ∧ Scan w' bk s k1 ∧ k1 ≤ s.size ∧ GrownIn (fun b => b = bk) w w' := by
  have hbk := hS.lt
  have hname := fun W (h : Scan W bk s k0) => sname_any bk s k0 W h hk (by omega)
  rw [hk1, hn] at hname
  have hS0 := hS.alloc (.cells #[.string ByteArray.empty, .string ByteArray.empty] 94)
  have hB0 := labBox_new w ByteArray.empty ByteArray.empty
  have hG0 : GrownIn (fun b => b = bk ∨ w.heap.size ≤ b) w (w.alloc (.cells #[.string ByteArray.empty, .string ByteArray.empty] 94)) := (GrownIn.refl _ w).alloc _
  have hne1 : w.heap.size ≠ bk := by omega
  have hne2 : bk ≠ w.heap.size := by omega
  have HH := Lib.hid (show _ ∧ _ ∧ _ ∧ _ from ⟨hS0, hB0, hG0, hname⟩)
  have HN := Lib.hid (show _ ∧ _ from ⟨hne1, hne2⟩)
  clear hS0 hB0 hG0 hname hS hk1 hn hbk hne1 hne2
  go_enter Tryz.func115, Tryz.ntmps115
  go_wp2_with (go_at_call 137; refine (HH.out.2.2.2 _ HH.out.1).mono ?_; rintro e w1 ⟨rfl, hS1, _, hk1, hg1⟩; have H1 := Lib.hid (show _ ∧ _ ∧ _ ∧ _ from ⟨hS1, HH.out.2.1.grown hg1 HN.out.1, HH.out.2.2.1.trans hg1 (fun _ _ h => .inl h), hk1⟩); obtain ⟨c0, c1, f0, f1⟩ := H1.out.2.1.all; clear hS1 hg1 hk1)
  have hfin := ((H1.out.2.1.set0 nm).set0 nm).set1 ByteArray.empty
  have hs3 := ((H1.out.1.other (p := ⟨w.heap.size, 0, none⟩) HN.out.2 (.string nm)).other (p := ⟨w.heap.size, 0, none⟩) HN.out.2 (.string nm)).other (p := ⟨w.heap.size, 1, none⟩) HN.out.2 (.string ByteArray.empty)
  have hg3 := grownIn_set (grownIn_set (grownIn_set H1.out.2.2.1 (p := ⟨w.heap.size, 0, none⟩) (.inr (Nat.le_refl _)) (.string nm)) (p := ⟨w.heap.size, 0, none⟩) (.inr (Nat.le_refl _)) (.string nm)) (p := ⟨w.heap.size, 1, none⟩) (.inr (Nat.le_refl _)) (.string ByteArray.empty)
  have k0 := hfin.c0
  have k1 := hfin.c1
  refine bodyPost_ret (v := .tuple #[.agg #[.string nm, .string ByteArray.empty], .bool false]) ?_ rfl ⟨⟨_, _, rfl⟩, hs3, H1.out.2.2.2, hg3.mono fun k hk h => h.elim id (fun h => by omega)⟩
  clear hfin hs3 hg3 c0 c1 f0 f1
  generalize ((w1.setCell ⟨w.heap.size, 0, none⟩ (.string nm)).setCell ⟨w.heap.size, 0, none⟩ (.string nm)).setCell ⟨w.heap.size, 1, none⟩ (.string ByteArray.empty) = wf at k0 k1 ⊢
  simp [results, Tryz.results115, go_sem, k0, k1]
set_option maxHeartbeats 4000000 in
set_option maxRecDepth 100000 in
theorem label_nosign (bk : Nat) (s nm : ByteArray) (k0 k1 k2 : Nat) (w : World) (hS : Scan w bk s k0) (hk : k0 ≤ s.size) (hbig : s.size ≤ 1000000)
    (hk1 : nameK s.data.toList k0 = k1) (hn : s.extract k0 k1 = nm) (hne : (nm.toList == []) = false) (hsg : signB s.data.toList k1 61 = false) (hk2 : signK s.data.toList k1 61 = k2) :
    Calls Tryz.prog 115 #[.pointer (some ⟨bk, 0, none⟩)] w fun e w' => (∃ x y : ByteArray, e = .returned (.tuple #[.agg #[.string x, .string y], .bool false])) ∧ Scan w' bk s k2 ∧ k2 ≤ s.size ∧ GrownIn (fun b => b = bk) w w' := by
  have hbk := hS.lt
  have hname := fun W (h : Scan W bk s k0) => sname_any bk s k0 W h hk (by omega)
  rw [hk1, hn] at hname
  have hsign := fun W (h : Scan W bk s k1) (h1 : k1 ≤ s.size) => sign_any bk s k1 61 W h h1 (by omega)
  rw [hsg, hk2] at hsign
  have hS0 := hS.alloc (.cells #[.string ByteArray.empty, .string ByteArray.empty] 94)
  have hB0 := labBox_new w ByteArray.empty ByteArray.empty
  have hG0 : GrownIn (fun b => b = bk ∨ w.heap.size ≤ b) w (w.alloc (.cells #[.string ByteArray.empty, .string ByteArray.empty] 94)) := (GrownIn.refl _ w).alloc _
  have hne1 : w.heap.size ≠ bk := by omega
  have hne2 : bk ≠ w.heap.size := by omega
  have HH := Lib.hid (show _ ∧ _ ∧ _ ∧ _ ∧ _ from ⟨hS0, hB0, hG0, hname, hsign⟩)
  have HN := Lib.hid (show _ ∧ _ from ⟨hne1, hne2⟩)
  clear hS0 hB0 hG0 hname hsign hS hk1 hn hsg hk2 hbk hne1 hne2
  go_enter Tryz.func115, Tryz.ntmps115
  go_wp2_with (first
    | (go_at_call 137; refine (HH.out.2.2.2.1 _ HH.out.1).mono ?_; rintro e w1 ⟨rfl, hS1, _, hk1, hg1⟩; have H1 := Lib.hid (show _ ∧ _ ∧ _ ∧ _ from ⟨hS1, HH.out.2.1.grown hg1 HN.out.1, HH.out.2.2.1.trans hg1 (fun _ _ h => .inl h), hk1⟩); obtain ⟨c0, c1, f0, f1⟩ := H1.out.2.1.all; clear hS1 hg1 hk1)
    | (go_at_call 114; refine (HH.out.2.2.2.2 _ (H1.out.1.other HN.out.2 _) H1.out.2.2.2).mono ?_; rintro e w2 ⟨rfl, hS2, hk2, hg2⟩; have H2 := Lib.hid (show _ ∧ _ ∧ _ ∧ _ from ⟨hS2, (H1.out.2.1.set0 nm).grown hg2 HN.out.1, (grownIn_set H1.out.2.2.1 (.inr (Nat.le_refl _)) _).trans hg2 (fun _ _ h => .inl h), hk2⟩); obtain ⟨d0, d1, g0, g1⟩ := H2.out.2.1.all; clear hS2 hg2 hk2))
  have hfin := (H2.out.2.1.set0 nm).set1 ByteArray.empty
  have hs3 := (H2.out.1.other (p := ⟨w.heap.size, 0, none⟩) HN.out.2 (.string nm)).other (p := ⟨w.heap.size, 1, none⟩) HN.out.2 (.string ByteArray.empty)
  have hg3 := grownIn_set (grownIn_set H2.out.2.2.1 (p := ⟨w.heap.size, 0, none⟩) (.inr (Nat.le_refl _)) (.string nm)) (p := ⟨w.heap.size, 1, none⟩) (.inr (Nat.le_refl _)) (.string ByteArray.empty)
  have k0 := hfin.c0
  have k1 := hfin.c1
  refine bodyPost_ret (v := .tuple #[.agg #[.string nm, .string ByteArray.empty], .bool false]) ?_ rfl ⟨⟨_, _, rfl⟩, hs3, H2.out.2.2.2, hg3.mono fun k hk h => h.elim id (fun h => by omega)⟩
  clear hfin hs3 hg3 c0 c1 f0 f1 d0 d1 g0 g1
  generalize (w2.setCell ⟨w.heap.size, 0, none⟩ (.string nm)).setCell ⟨w.heap.size, 1, none⟩ (.string ByteArray.empty) = wf at k0 k1 ⊢
  simp [results, Tryz.results115, go_sem, k0, k1]
theorem skipP_le {l : List UInt8} {k : Nat} (h : k ≤ l.length) : k ≤ skipP l k ∧ skipP l k ≤ l.length := by
  unfold skipP
  have := List.takeWhile_sublist (fun x : UInt8 => x == 32) (l := l.drop k)
  have h2 := this.length_le
  rw [List.length_drop] at h2
  omega
theorem signK_le (l : List UInt8) (k : Nat) (c : UInt8) (h : k ≤ l.length) : signK l k c ≤ l.length := by
  have h1 := skipP_le h
  unfold signK
  split
  · rename_i h2
    have h3 : l[skipP l k]? = some c := by simpa using h2
    have h4 := (List.getElem?_eq_some_iff.1 h3).1
    exact (skipP_le (k := skipP l k + 1) (by omega)).2
  · exact h1.2
theorem nameEnd_le (l : List UInt8) (k : Nat) : ∀ (f j : Nat), j ≤ nameEnd l k f j ∧ nameEnd l k f j ≤ j + f
  | 0, j => ⟨Nat.le_refl _, Nat.le_refl _⟩
  | f + 1, j => by
    unfold nameEnd
    split
    · have := nameEnd_le l k f (j + 1)
      omega
    · omega
theorem nameK_le (s : ByteArray) (k : Nat) (h : k ≤ s.size) : nameK s.data.toList k ≤ s.data.toList.length := by
  have := (nameEnd_le s.data.toList k (s.data.toList.length - k) k).2
  have h2 : s.data.toList.length = s.size := Array.length_toList
  unfold nameK
  omega
set_option maxHeartbeats 2000000 in
set_option maxRecDepth 100000 in
theorem label_value2 (bk : Nat) (s nm vl : ByteArray) (isv : Bool) (k0 k1 k2 k3 : Nat) (w : World) (hS : Scan w bk s k0) (hk : k0 ≤ s.size) (hbig : s.size ≤ 1000000)
    (hk1 : nameK s.data.toList k0 = k1) (hn : s.extract k0 k1 = nm) (hne : (nm.toList == []) = false) (hsg : signB s.data.toList k1 61 = true) (hk2 : signK s.data.toList k1 61 = k2)
    (_ : k2 ≤ s.size)
    (hval : ∀ W, GrownIn (fun k => k = bk ∨ w.heap.size ≤ k) w W → Scan W bk s k2 → Calls Tryz.prog 138 #[.pointer (some ⟨bk, 0, none⟩)] W fun e w' => e = .returned (.tuple #[.string vl, .bool isv]) ∧ Scan w' bk s k3 ∧ k3 ≤ s.size ∧ GrownIn (fun b => b = bk) W w') :
    Calls Tryz.prog 115 #[.pointer (some ⟨bk, 0, none⟩)] w fun e w' => e = .returned (.tuple #[.agg #[.string nm, .string vl], .bool isv]) ∧ Scan w' bk s k3 ∧ k3 ≤ s.size ∧ GrownIn (fun b => b = bk) w w' := by
  have hbk := hS.lt
  have hname := fun W (h : Scan W bk s k0) => sname_any bk s k0 W h hk (by omega)
  rw [hk1, hn] at hname
  have hsign := fun W (h : Scan W bk s k1) (h1 : k1 ≤ s.size) => sign_any bk s k1 61 W h h1 (by omega)
  rw [hsg, hk2] at hsign
  have hS0 := hS.alloc (.cells #[.string ByteArray.empty, .string ByteArray.empty] 94)
  have hB0 := labBox_new w ByteArray.empty ByteArray.empty
  have hG0 : GrownIn (fun b => b = bk ∨ w.heap.size ≤ b) w (w.alloc (.cells #[.string ByteArray.empty, .string ByteArray.empty] 94)) := (GrownIn.refl _ w).alloc _
  have hne1 : w.heap.size ≠ bk := by omega
  have hne2 : bk ≠ w.heap.size := by omega
  have HH := Lib.hid (show _ ∧ _ ∧ _ ∧ _ ∧ _ ∧ _ from ⟨hS0, hB0, hG0, hname, hsign, hval⟩)
  have HN := Lib.hid (show _ ∧ _ from ⟨hne1, hne2⟩)
  clear hS0 hB0 hG0 hname hsign hval hS hk1 hn hsg hk2 hbk hne1 hne2
  go_enter Tryz.func115, Tryz.ntmps115
  go_wp2_with (first
    | (go_at_call 137; refine (HH.out.2.2.2.1 _ HH.out.1).mono ?_; rintro e w1 ⟨rfl, hS1, _, hk1, hg1⟩; have H1 := Lib.hid (show _ ∧ _ ∧ _ ∧ _ from ⟨hS1, HH.out.2.1.grown hg1 HN.out.1, HH.out.2.2.1.trans hg1 (fun _ _ h => .inl h), hk1⟩); obtain ⟨c0, c1, f0, f1⟩ := H1.out.2.1.all; clear hS1 hg1 hk1)
    | (go_at_call 114; refine (HH.out.2.2.2.2.1 _ (H1.out.1.other HN.out.2 _) H1.out.2.2.2).mono ?_; rintro e w2 ⟨rfl, hS2, _, hg2⟩; have H2 := Lib.hid (show _ ∧ _ ∧ _ from ⟨hS2, (H1.out.2.1.set0 nm).grown hg2 HN.out.1, (grownIn_set H1.out.2.2.1 (.inr (Nat.le_refl _)) _).trans hg2 (fun _ _ h => .inl h)⟩); obtain ⟨d0, d1, g0, g1⟩ := H2.out.2.1.all; clear hS2 hg2)
    | (go_at_call 138; refine (HH.out.2.2.2.2.2 _ H2.out.2.2 H2.out.1).mono ?_; rintro e w3 ⟨rfl, hS3, hk3, hg3⟩; have H3 := Lib.hid (show _ ∧ _ ∧ _ ∧ _ from ⟨hS3, H2.out.2.1.grown hg3 HN.out.1, H2.out.2.2.trans hg3 (fun _ _ h => .inl h), hk3⟩); obtain ⟨e0, e1, h0, h1⟩ := H3.out.2.1.all; clear hS3 hg3 hk3))
  have hfin := ((H3.out.2.1.set1 vl).set0 nm).set1 vl
  have hs3 := ((H3.out.1.other (p := ⟨w.heap.size, 1, none⟩) HN.out.2 (.string vl)).other (p := ⟨w.heap.size, 0, none⟩) HN.out.2 (.string nm)).other (p := ⟨w.heap.size, 1, none⟩) HN.out.2 (.string vl)
  have hg3 := grownIn_set (grownIn_set (grownIn_set H3.out.2.2.1 (p := ⟨w.heap.size, 1, none⟩) (.inr (Nat.le_refl _)) (.string vl)) (p := ⟨w.heap.size, 0, none⟩) (.inr (Nat.le_refl _)) (.string nm)) (p := ⟨w.heap.size, 1, none⟩) (.inr (Nat.le_refl _)) (.string vl)
  have k0 := hfin.c0
  have k1 := hfin.c1
  refine bodyPost_ret (v := .tuple #[.agg #[.string nm, .string vl], .bool isv]) ?_ rfl ⟨rfl, hs3, H3.out.2.2.2, hg3.mono fun k hk h => h.elim id (fun h => by omega)⟩
  clear hfin hs3 hg3 e0 e1 h0 h1 d0 d1 g0 g1 c0 c1 f0 f1
  generalize ((w3.setCell ⟨w.heap.size, 1, none⟩ (.string vl)).setCell ⟨w.heap.size, 0, none⟩ (.string nm)).setCell ⟨w.heap.size, 1, none⟩ (.string vl) = wf at k0 k1 ⊢
  simp [results, Tryz.results115, go_sem, k0, k1]
theorem label_any (K : Nat) (a b : Addr) (bk : Nat) (s : ByteArray) (k0 : Nat) (w : World) (hE : LaidE K a b w) (hbK : K ≤ bk) (hS : Scan w bk s k0) (hk0 : k0 ≤ s.size) (hbig : s.size ≤ 1000000) :
    Calls Tryz.prog 115 #[.pointer (some ⟨bk, 0, none⟩)] w (LabPost (labR s.data.toList k0) bk s w) := by
  have hnm : (s.extract k0 (nameK s.data.toList k0)).data.toList = (s.data.toList.take (nameK s.data.toList k0)).drop k0 := extract_data _ _ _
  have hb : ∀ t : ByteArray, (t.toList == []) = decide (t.data.toList = []) := fun t => by rw [ByteArray.toList_eq]; cases t.data.toList <;> rfl
  by_cases h1 : (s.data.toList.take (nameK s.data.toList k0)).drop k0 = []
  · have hl : labR s.data.toList k0 = (none, nameK s.data.toList k0) := by unfold labR; rw [if_pos h1]
    rw [hl]
    exact label_noname bk s _ k0 _ w hS hk0 hbig rfl rfl (by rw [hb, hnm, h1]; rfl)
  · have hne : ((s.extract k0 (nameK s.data.toList k0)).toList == []) = false := by rw [hb, hnm]; exact decide_eq_false h1
    cases h2 : signB s.data.toList (nameK s.data.toList k0) 61 with
    | false =>
      have hl : labR s.data.toList k0 = (none, signK s.data.toList (nameK s.data.toList k0) 61) := by unfold labR; rw [if_neg h1, if_pos h2]
      rw [hl]
      exact label_nosign bk s _ k0 _ _ w hS hk0 hbig rfl rfl hne h2 rfl
    | true =>
      have hEg : ∀ W, GrownIn (fun k => k = bk ∨ w.heap.size ≤ k) w W → LaidE K a b W := fun W hg => hE.grown hg (fun k hk => by have := hE.size; rcases hk with rfl | hk <;> omega)
      obtain ⟨V, hV⟩ : ∃ V, valR s.data.toList (signK s.data.toList (nameK s.data.toList k0) 61) = V := ⟨_, rfl⟩
      have hnk : s.extract k0 (nameK s.data.toList k0) = (⟨((s.data.toList.take (nameK s.data.toList k0)).drop k0).toArray⟩ : ByteArray) := by rw [← hnm, bytes_eta]
      obtain ⟨v, k2⟩ := V
      have hval : ∀ W, GrownIn (fun k => k = bk ∨ w.heap.size ≤ k) w W → Scan W bk s (signK s.data.toList (nameK s.data.toList k0) 61) → signK s.data.toList (nameK s.data.toList k0) 61 ≤ s.size → Calls Tryz.prog 138 #[.pointer (some ⟨bk, 0, none⟩)] W (ValPost (v, k2) bk s W) := fun W hg hW hle => by
        rw [← hV]
        exact value_any K a b bk s _ W (hEg W hg) hbK hW hle hbig
      have hsk := signK_le s.data.toList (nameK s.data.toList k0) 61 (nameK_le s k0 hk0)
      rw [show s.data.toList.length = s.size from Array.length_toList] at hsk
      cases v with
      | some v =>
        have hl : labR s.data.toList k0 = (some ⟨⟨((s.data.toList.take (nameK s.data.toList k0)).drop k0).toArray⟩, ⟨v.toArray⟩⟩, k2) := by unfold labR; rw [if_neg h1, if_neg (by rw [h2]; decide), hV]
        rw [hl, ← hnk]
        exact label_value2 bk s _ ⟨v.toArray⟩ true k0 _ _ k2 w hS hk0 hbig rfl rfl hne h2 rfl hsk (fun W hg hW => (hval W hg hW hsk).mono fun e w' h => ⟨h.1, h.2.1, h.2.2.1, h.2.2.2⟩)
      | none =>
        have hl : labR s.data.toList k0 = (none, k2) := by unfold labR; rw [if_neg h1, if_neg (by rw [h2]; decide), hV]
        rw [hl]
        exact (label_value2 bk s _ ⟨#[]⟩ false k0 _ _ k2 w hS hk0 hbig rfl rfl hne h2 rfl hsk (fun W hg hW => (hval W hg hW hsk).mono fun e w' h => ⟨h.1, h.2.1, h.2.2.1, h.2.2.2⟩)).mono fun e w' h => ⟨⟨_, _, h.1⟩, h.2⟩
end Go.Proofs.YtchggapclmdpaaaGreatDoor
