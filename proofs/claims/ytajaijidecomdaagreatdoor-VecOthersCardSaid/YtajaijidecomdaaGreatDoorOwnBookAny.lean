/- Book.Own at a book that holds any lists: what each field's own function does is handed in. Written by a program of mine (mkownany.py). -/
import Derived.Test.YtajaijidecomdaaGreatDoorG16
import Derived.Test.YtajaijidecomdaaGreatDoorG02
namespace Go.Proofs.YtajaijidecomdaaGreatDoor
open Go.RowKit Go.Lib
/-- The functions that Book.Own asks, field by field. -/
def ownF : List FuncId := [60, 61, 62, 63, 64, 65, 66, 67, 68, 69, 70, 71, 72, 73, 74, 75, 76, 77, 78, 79, 80, 81, 82, 83, 84, 85, 86, 87, 88, 89, 90, 91]
/-- What field k's function does at v. -/
def OwnAt (k : Nat) (v : Value) (S : Nat → Prop) (w1 : World) : Prop := ∀ f, ownF[k]? = some f → Calls Tryz.prog f #[v] w1 fun e w' => e = .returned (.bool true) ∧ GrownIn S w1 w' 
theorem OwnAt.call {k : Nat} {v : Value} {S : Nat → Prop} {w1 : World} (h : OwnAt k v S w1) {f : FuncId} (hf : ownF[k]? = some f) : Calls Tryz.prog f #[v] w1 fun e w' => e = .returned (.bool true) ∧ GrownIn S w1 w' := h f hf
set_option maxHeartbeats 1000000 in
theorem ownAt_nil (k : Nat) (hk : k < 32) (S : Nat → Prop) (w1 : World) : OwnAt k (.slice none 0 0) S w1 := by
  intro f hf
  have hb : Calls Tryz.prog f #[.slice none 0 0] w1 fun e w' => e = .returned (.bool true) ∧ Below w1.heap.size w1 w' := by
    rcases (show k = 0 ∨ k = 1 ∨ k = 2 ∨ k = 3 ∨ k = 4 ∨ k = 5 ∨ k = 6 ∨ k = 7 ∨ k = 8 ∨ k = 9 ∨ k = 10 ∨ k = 11 ∨ k = 12 ∨ k = 13 ∨ k = 14 ∨ k = 15 ∨ k = 16 ∨ k = 17 ∨ k = 18 ∨ k = 19 ∨ k = 20 ∨ k = 21 ∨ k = 22 ∨ k = 23 ∨ k = 24 ∨ k = 25 ∨ k = 26 ∨ k = 27 ∨ k = 28 ∨ k = 29 ∨ k = 30 ∨ k = 31 by omega) with rfl | rfl | rfl | rfl | rfl | rfl | rfl | rfl | rfl | rfl | rfl | rfl | rfl | rfl | rfl | rfl | rfl | rfl | rfl | rfl | rfl | rfl | rfl | rfl | rfl | rfl | rfl | rfl | rfl | rfl | rfl | rfl
    · obtain rfl := Option.some.inj hf; exact (ownBytes_nil w1).mono fun _ _ ⟨h1, h2⟩ => ⟨h1, by rw [h2]; exact Below.refl _ _⟩
    · obtain rfl := Option.some.inj hf; exact (ownTexts_nil w1).mono fun _ _ ⟨h1, h2⟩ => ⟨h1, by rw [h2]; exact Below.refl _ _⟩
    · obtain rfl := Option.some.inj hf; exact (ownInts_nil w1).mono fun _ _ ⟨h1, h2⟩ => ⟨h1, by rw [h2]; exact Below.refl _ _⟩
    · obtain rfl := Option.some.inj hf; exact (ownLongs_nil w1).mono fun _ _ ⟨h1, h2⟩ => ⟨h1, by rw [h2]; exact Below.refl _ _⟩
    · obtain rfl := Option.some.inj hf; exact (ownNumbers_nil w1).mono fun _ _ ⟨h1, h2⟩ => ⟨h1, by rw [h2]; exact Below.refl _ _⟩
    · obtain rfl := Option.some.inj hf; exact (ownNums_nil w1).mono fun _ _ ⟨h1, h2⟩ => ⟨h1, by rw [h2]; exact Below.refl _ _⟩
    · obtain rfl := Option.some.inj hf; exact (ownWords_nil w1).mono fun _ _ ⟨h1, h2⟩ => ⟨h1, by rw [h2]; exact Below.refl _ _⟩
    · obtain rfl := Option.some.inj hf; exact (ownTypes_nil w1).mono fun _ _ ⟨h1, h2⟩ => ⟨h1, by rw [h2]; exact Below.refl _ _⟩
    · obtain rfl := Option.some.inj hf; exact (ownErrs_nil w1).mono fun _ _ ⟨h1, h2⟩ => ⟨h1, by rw [h2]; exact Below.refl _ _⟩
    · obtain rfl := Option.some.inj hf; exact (ownLabels_nil w1).mono fun _ _ ⟨h1, h2⟩ => ⟨h1, by rw [h2]; exact Below.refl _ _⟩
    · obtain rfl := Option.some.inj hf; exact (ownSamples_nil w1).mono fun _ _ ⟨h1, h2⟩ => ⟨h1, by rw [h2]; exact Below.refl _ _⟩
    · obtain rfl := Option.some.inj hf; exact (ownMatchers_nil w1).mono fun _ _ ⟨h1, h2⟩ => ⟨h1, by rw [h2]; exact Below.refl _ _⟩
    · obtain rfl := Option.some.inj hf; exact (ownIntervals_nil w1).mono fun _ _ ⟨h1, h2⟩ => ⟨h1, by rw [h2]; exact Below.refl _ _⟩
    · obtain rfl := Option.some.inj hf; exact (ownPlaces_nil w1).mono fun _ _ ⟨h1, h2⟩ => ⟨h1, by rw [h2]; exact Below.refl _ _⟩
    · obtain rfl := Option.some.inj hf; exact (ownMetas_nil w1).mono fun _ _ ⟨h1, h2⟩ => ⟨h1, by rw [h2]; exact Below.refl _ _⟩
    · obtain rfl := Option.some.inj hf; exact (ownFiles_nil w1).mono fun _ _ ⟨h1, h2⟩ => ⟨h1, by rw [h2]; exact Below.refl _ _⟩
    · obtain rfl := Option.some.inj hf; exact (ownTokens_nil w1).mono fun _ _ ⟨h1, h2⟩ => ⟨h1, by rw [h2]; exact Below.refl _ _⟩
    · obtain rfl := Option.some.inj hf; exact (ownSets_nil w1).mono fun _ _ ⟨h1, h2⟩ => ⟨h1, by rw [h2]; exact Below.refl _ _⟩
    · obtain rfl := Option.some.inj hf; exact (ownRows_nil w1).mono fun _ _ ⟨h1, h2⟩ => ⟨h1, by rw [h2]; exact Below.refl _ _⟩
    · obtain rfl := Option.some.inj hf; exact (ownLists_nil w1).mono fun _ _ ⟨h1, h2⟩ => ⟨h1, by rw [h2]; exact Below.refl _ _⟩
    · obtain rfl := Option.some.inj hf; exact (ownIntLists_nil w1).mono fun _ _ ⟨h1, h2⟩ => ⟨h1, by rw [h2]; exact Below.refl _ _⟩
    · obtain rfl := Option.some.inj hf; exact (ownElems_nil w1).mono fun _ _ ⟨h1, h2⟩ => ⟨h1, by rw [h2]; exact Below.refl _ _⟩
    · obtain rfl := Option.some.inj hf; exact (ownSeries_nil w1).mono fun _ _ ⟨h1, h2⟩ => ⟨h1, by rw [h2]; exact Below.refl _ _⟩
    · obtain rfl := Option.some.inj hf; exact (ownPuts_nil w1).mono fun _ _ ⟨h1, h2⟩ => ⟨h1, by rw [h2]; exact Below.refl _ _⟩
    · obtain rfl := Option.some.inj hf; exact (ownLasts_nil w1).mono fun _ _ ⟨h1, h2⟩ => ⟨h1, by rw [h2]; exact Below.refl _ _⟩
    · obtain rfl := Option.some.inj hf; exact (ownTombs_nil w1).mono fun _ _ ⟨h1, h2⟩ => ⟨h1, by rw [h2]; exact Below.refl _ _⟩
    · obtain rfl := Option.some.inj hf; exact (ownChunks_nil w1).mono fun _ _ ⟨h1, h2⟩ => ⟨h1, by rw [h2]; exact Below.refl _ _⟩
    · obtain rfl := Option.some.inj hf; exact (ownEntries_nil w1).mono fun _ _ ⟨h1, h2⟩ => ⟨h1, by rw [h2]; exact Below.refl _ _⟩
    · obtain rfl := Option.some.inj hf; exact (ownMutations_nil w1).mono fun _ _ ⟨h1, h2⟩ => ⟨h1, by rw [h2]; exact Below.refl _ _⟩
    · obtain rfl := Option.some.inj hf; exact ownBools_nil w1
    · obtain rfl := Option.some.inj hf; exact (ownNodes_nil w1).mono fun _ _ ⟨h1, h2⟩ => ⟨h1, by rw [h2]; exact Below.refl _ _⟩
    · obtain rfl := Option.some.inj hf; exact (ownJsons_nil w1).mono fun _ _ ⟨h1, h2⟩ => ⟨h1, by rw [h2]; exact Below.refl _ _⟩
  refine hb.mono fun _ _ ⟨h1, h2⟩ => ⟨h1, (GrownIn.of_below h2).mono (fun b hb h => by omega)⟩
/-- So far only blocks of the first k fields have turned. -/
def SoFar (S : Nat → Nat → Prop) (k b : Nat) : Prop := ∃ j, j < k ∧ S j b
theorem soFar_next {S : Nat → Nat → Prop} {w w1 w2 : World} {k : Nat} (h : GrownIn (SoFar S k) w w1) (g : GrownIn (S k) w1 w2) : GrownIn (SoFar S (k + 1)) w w2 :=
  (h.mono (T := SoFar S (k + 1)) fun _ _ ⟨j, hj, hs⟩ => ⟨j, by omega, hs⟩).trans g fun _ _ hs => ⟨k, by omega, hs⟩
set_option maxHeartbeats 8000000 in
set_option maxRecDepth 100000 in
theorem bookOwn_any (bk : Nat) (S : Nat → Nat → Prop) (V : Nat → Value) (w : World) (cs : Array Value) (hb : Bk w bk cs) (hcs : ∀ k, k < 32 → cs[k]? = some (V k)) (hn : ∀ k, k < 32 → ¬ S k bk)
    (ho : ∀ k, k < 32 → ∀ w1, GrownIn (SoFar S k) w w1 → OwnAt k (V k) (S k) w1) :
    Calls Tryz.prog 21 #[.pointer (some ⟨bk, 0, none⟩)] w fun e w' => e = .returned (.bool true) ∧ GrownIn (SoFar S 32) w w' := by
  have HO := Lib.hid (show _ ∧ _ ∧ _ ∧ _ from ⟨hb, hcs, hn, ho⟩)
  have H0 := Lib.hid (show _ ∧ _ from ⟨hb, (GrownIn.refl (SoFar S 0) w)⟩)
  clear hb hcs hn ho
  go_enter Tryz.func21, Tryz.ntmps21
  have ck := (H0.out.1.cell 0).trans (HO.out.2.1 0 (by omega))
  go_wp2_with fail
  refine ((HO.out.2.2.2 0 (by omega) _ H0.out.2).call rfl).mono ?_
  clear ck
  rintro e w1 ⟨rfl, hg⟩
  have H1 := Lib.hid (show _ ∧ _ from ⟨H0.out.1.kept hg (HO.out.2.2.1 0 (by omega)), soFar_next H0.out.2 hg⟩)
  clear hg
  have ck := (H1.out.1.cell 1).trans (HO.out.2.1 1 (by omega))
  go_wp2_with fail
  refine ((HO.out.2.2.2 1 (by omega) _ H1.out.2).call rfl).mono ?_
  clear ck
  rintro e w2 ⟨rfl, hg⟩
  have H2 := Lib.hid (show _ ∧ _ from ⟨H1.out.1.kept hg (HO.out.2.2.1 1 (by omega)), soFar_next H1.out.2 hg⟩)
  clear hg
  have ck := (H2.out.1.cell 2).trans (HO.out.2.1 2 (by omega))
  go_wp2_with fail
  refine ((HO.out.2.2.2 2 (by omega) _ H2.out.2).call rfl).mono ?_
  clear ck
  rintro e w3 ⟨rfl, hg⟩
  have H3 := Lib.hid (show _ ∧ _ from ⟨H2.out.1.kept hg (HO.out.2.2.1 2 (by omega)), soFar_next H2.out.2 hg⟩)
  clear hg
  have ck := (H3.out.1.cell 3).trans (HO.out.2.1 3 (by omega))
  go_wp2_with fail
  refine ((HO.out.2.2.2 3 (by omega) _ H3.out.2).call rfl).mono ?_
  clear ck
  rintro e w4 ⟨rfl, hg⟩
  have H4 := Lib.hid (show _ ∧ _ from ⟨H3.out.1.kept hg (HO.out.2.2.1 3 (by omega)), soFar_next H3.out.2 hg⟩)
  clear hg
  have ck := (H4.out.1.cell 4).trans (HO.out.2.1 4 (by omega))
  go_wp2_with fail
  refine ((HO.out.2.2.2 4 (by omega) _ H4.out.2).call rfl).mono ?_
  clear ck
  rintro e w5 ⟨rfl, hg⟩
  have H5 := Lib.hid (show _ ∧ _ from ⟨H4.out.1.kept hg (HO.out.2.2.1 4 (by omega)), soFar_next H4.out.2 hg⟩)
  clear hg
  have ck := (H5.out.1.cell 5).trans (HO.out.2.1 5 (by omega))
  go_wp2_with fail
  refine ((HO.out.2.2.2 5 (by omega) _ H5.out.2).call rfl).mono ?_
  clear ck
  rintro e w6 ⟨rfl, hg⟩
  have H6 := Lib.hid (show _ ∧ _ from ⟨H5.out.1.kept hg (HO.out.2.2.1 5 (by omega)), soFar_next H5.out.2 hg⟩)
  clear hg
  have ck := (H6.out.1.cell 6).trans (HO.out.2.1 6 (by omega))
  go_wp2_with fail
  refine ((HO.out.2.2.2 6 (by omega) _ H6.out.2).call rfl).mono ?_
  clear ck
  rintro e w7 ⟨rfl, hg⟩
  have H7 := Lib.hid (show _ ∧ _ from ⟨H6.out.1.kept hg (HO.out.2.2.1 6 (by omega)), soFar_next H6.out.2 hg⟩)
  clear hg
  have ck := (H7.out.1.cell 7).trans (HO.out.2.1 7 (by omega))
  go_wp2_with fail
  refine ((HO.out.2.2.2 7 (by omega) _ H7.out.2).call rfl).mono ?_
  clear ck
  rintro e w8 ⟨rfl, hg⟩
  have H8 := Lib.hid (show _ ∧ _ from ⟨H7.out.1.kept hg (HO.out.2.2.1 7 (by omega)), soFar_next H7.out.2 hg⟩)
  clear hg
  have ck := (H8.out.1.cell 8).trans (HO.out.2.1 8 (by omega))
  go_wp2_with fail
  refine ((HO.out.2.2.2 8 (by omega) _ H8.out.2).call rfl).mono ?_
  clear ck
  rintro e w9 ⟨rfl, hg⟩
  have H9 := Lib.hid (show _ ∧ _ from ⟨H8.out.1.kept hg (HO.out.2.2.1 8 (by omega)), soFar_next H8.out.2 hg⟩)
  clear hg
  have ck := (H9.out.1.cell 9).trans (HO.out.2.1 9 (by omega))
  go_wp2_with fail
  refine ((HO.out.2.2.2 9 (by omega) _ H9.out.2).call rfl).mono ?_
  clear ck
  rintro e w10 ⟨rfl, hg⟩
  have H10 := Lib.hid (show _ ∧ _ from ⟨H9.out.1.kept hg (HO.out.2.2.1 9 (by omega)), soFar_next H9.out.2 hg⟩)
  clear hg
  have ck := (H10.out.1.cell 10).trans (HO.out.2.1 10 (by omega))
  go_wp2_with fail
  refine ((HO.out.2.2.2 10 (by omega) _ H10.out.2).call rfl).mono ?_
  clear ck
  rintro e w11 ⟨rfl, hg⟩
  have H11 := Lib.hid (show _ ∧ _ from ⟨H10.out.1.kept hg (HO.out.2.2.1 10 (by omega)), soFar_next H10.out.2 hg⟩)
  clear hg
  have ck := (H11.out.1.cell 11).trans (HO.out.2.1 11 (by omega))
  go_wp2_with fail
  refine ((HO.out.2.2.2 11 (by omega) _ H11.out.2).call rfl).mono ?_
  clear ck
  rintro e w12 ⟨rfl, hg⟩
  have H12 := Lib.hid (show _ ∧ _ from ⟨H11.out.1.kept hg (HO.out.2.2.1 11 (by omega)), soFar_next H11.out.2 hg⟩)
  clear hg
  have ck := (H12.out.1.cell 12).trans (HO.out.2.1 12 (by omega))
  go_wp2_with fail
  refine ((HO.out.2.2.2 12 (by omega) _ H12.out.2).call rfl).mono ?_
  clear ck
  rintro e w13 ⟨rfl, hg⟩
  have H13 := Lib.hid (show _ ∧ _ from ⟨H12.out.1.kept hg (HO.out.2.2.1 12 (by omega)), soFar_next H12.out.2 hg⟩)
  clear hg
  have ck := (H13.out.1.cell 13).trans (HO.out.2.1 13 (by omega))
  go_wp2_with fail
  refine ((HO.out.2.2.2 13 (by omega) _ H13.out.2).call rfl).mono ?_
  clear ck
  rintro e w14 ⟨rfl, hg⟩
  have H14 := Lib.hid (show _ ∧ _ from ⟨H13.out.1.kept hg (HO.out.2.2.1 13 (by omega)), soFar_next H13.out.2 hg⟩)
  clear hg
  have ck := (H14.out.1.cell 14).trans (HO.out.2.1 14 (by omega))
  go_wp2_with fail
  refine ((HO.out.2.2.2 14 (by omega) _ H14.out.2).call rfl).mono ?_
  clear ck
  rintro e w15 ⟨rfl, hg⟩
  have H15 := Lib.hid (show _ ∧ _ from ⟨H14.out.1.kept hg (HO.out.2.2.1 14 (by omega)), soFar_next H14.out.2 hg⟩)
  clear hg
  have ck := (H15.out.1.cell 15).trans (HO.out.2.1 15 (by omega))
  go_wp2_with fail
  refine ((HO.out.2.2.2 15 (by omega) _ H15.out.2).call rfl).mono ?_
  clear ck
  rintro e w16 ⟨rfl, hg⟩
  have H16 := Lib.hid (show _ ∧ _ from ⟨H15.out.1.kept hg (HO.out.2.2.1 15 (by omega)), soFar_next H15.out.2 hg⟩)
  clear hg
  have ck := (H16.out.1.cell 16).trans (HO.out.2.1 16 (by omega))
  go_wp2_with fail
  refine ((HO.out.2.2.2 16 (by omega) _ H16.out.2).call rfl).mono ?_
  clear ck
  rintro e w17 ⟨rfl, hg⟩
  have H17 := Lib.hid (show _ ∧ _ from ⟨H16.out.1.kept hg (HO.out.2.2.1 16 (by omega)), soFar_next H16.out.2 hg⟩)
  clear hg
  have ck := (H17.out.1.cell 17).trans (HO.out.2.1 17 (by omega))
  go_wp2_with fail
  refine ((HO.out.2.2.2 17 (by omega) _ H17.out.2).call rfl).mono ?_
  clear ck
  rintro e w18 ⟨rfl, hg⟩
  have H18 := Lib.hid (show _ ∧ _ from ⟨H17.out.1.kept hg (HO.out.2.2.1 17 (by omega)), soFar_next H17.out.2 hg⟩)
  clear hg
  have ck := (H18.out.1.cell 18).trans (HO.out.2.1 18 (by omega))
  go_wp2_with fail
  refine ((HO.out.2.2.2 18 (by omega) _ H18.out.2).call rfl).mono ?_
  clear ck
  rintro e w19 ⟨rfl, hg⟩
  have H19 := Lib.hid (show _ ∧ _ from ⟨H18.out.1.kept hg (HO.out.2.2.1 18 (by omega)), soFar_next H18.out.2 hg⟩)
  clear hg
  have ck := (H19.out.1.cell 19).trans (HO.out.2.1 19 (by omega))
  go_wp2_with fail
  refine ((HO.out.2.2.2 19 (by omega) _ H19.out.2).call rfl).mono ?_
  clear ck
  rintro e w20 ⟨rfl, hg⟩
  have H20 := Lib.hid (show _ ∧ _ from ⟨H19.out.1.kept hg (HO.out.2.2.1 19 (by omega)), soFar_next H19.out.2 hg⟩)
  clear hg
  have ck := (H20.out.1.cell 20).trans (HO.out.2.1 20 (by omega))
  go_wp2_with fail
  refine ((HO.out.2.2.2 20 (by omega) _ H20.out.2).call rfl).mono ?_
  clear ck
  rintro e w21 ⟨rfl, hg⟩
  have H21 := Lib.hid (show _ ∧ _ from ⟨H20.out.1.kept hg (HO.out.2.2.1 20 (by omega)), soFar_next H20.out.2 hg⟩)
  clear hg
  have ck := (H21.out.1.cell 21).trans (HO.out.2.1 21 (by omega))
  go_wp2_with fail
  refine ((HO.out.2.2.2 21 (by omega) _ H21.out.2).call rfl).mono ?_
  clear ck
  rintro e w22 ⟨rfl, hg⟩
  have H22 := Lib.hid (show _ ∧ _ from ⟨H21.out.1.kept hg (HO.out.2.2.1 21 (by omega)), soFar_next H21.out.2 hg⟩)
  clear hg
  have ck := (H22.out.1.cell 22).trans (HO.out.2.1 22 (by omega))
  go_wp2_with fail
  refine ((HO.out.2.2.2 22 (by omega) _ H22.out.2).call rfl).mono ?_
  clear ck
  rintro e w23 ⟨rfl, hg⟩
  have H23 := Lib.hid (show _ ∧ _ from ⟨H22.out.1.kept hg (HO.out.2.2.1 22 (by omega)), soFar_next H22.out.2 hg⟩)
  clear hg
  have ck := (H23.out.1.cell 23).trans (HO.out.2.1 23 (by omega))
  go_wp2_with fail
  refine ((HO.out.2.2.2 23 (by omega) _ H23.out.2).call rfl).mono ?_
  clear ck
  rintro e w24 ⟨rfl, hg⟩
  have H24 := Lib.hid (show _ ∧ _ from ⟨H23.out.1.kept hg (HO.out.2.2.1 23 (by omega)), soFar_next H23.out.2 hg⟩)
  clear hg
  have ck := (H24.out.1.cell 24).trans (HO.out.2.1 24 (by omega))
  go_wp2_with fail
  refine ((HO.out.2.2.2 24 (by omega) _ H24.out.2).call rfl).mono ?_
  clear ck
  rintro e w25 ⟨rfl, hg⟩
  have H25 := Lib.hid (show _ ∧ _ from ⟨H24.out.1.kept hg (HO.out.2.2.1 24 (by omega)), soFar_next H24.out.2 hg⟩)
  clear hg
  have ck := (H25.out.1.cell 25).trans (HO.out.2.1 25 (by omega))
  go_wp2_with fail
  refine ((HO.out.2.2.2 25 (by omega) _ H25.out.2).call rfl).mono ?_
  clear ck
  rintro e w26 ⟨rfl, hg⟩
  have H26 := Lib.hid (show _ ∧ _ from ⟨H25.out.1.kept hg (HO.out.2.2.1 25 (by omega)), soFar_next H25.out.2 hg⟩)
  clear hg
  have ck := (H26.out.1.cell 26).trans (HO.out.2.1 26 (by omega))
  go_wp2_with fail
  refine ((HO.out.2.2.2 26 (by omega) _ H26.out.2).call rfl).mono ?_
  clear ck
  rintro e w27 ⟨rfl, hg⟩
  have H27 := Lib.hid (show _ ∧ _ from ⟨H26.out.1.kept hg (HO.out.2.2.1 26 (by omega)), soFar_next H26.out.2 hg⟩)
  clear hg
  have ck := (H27.out.1.cell 27).trans (HO.out.2.1 27 (by omega))
  go_wp2_with fail
  refine ((HO.out.2.2.2 27 (by omega) _ H27.out.2).call rfl).mono ?_
  clear ck
  rintro e w28 ⟨rfl, hg⟩
  have H28 := Lib.hid (show _ ∧ _ from ⟨H27.out.1.kept hg (HO.out.2.2.1 27 (by omega)), soFar_next H27.out.2 hg⟩)
  clear hg
  have ck := (H28.out.1.cell 28).trans (HO.out.2.1 28 (by omega))
  go_wp2_with fail
  refine ((HO.out.2.2.2 28 (by omega) _ H28.out.2).call rfl).mono ?_
  clear ck
  rintro e w29 ⟨rfl, hg⟩
  have H29 := Lib.hid (show _ ∧ _ from ⟨H28.out.1.kept hg (HO.out.2.2.1 28 (by omega)), soFar_next H28.out.2 hg⟩)
  clear hg
  have ck := (H29.out.1.cell 29).trans (HO.out.2.1 29 (by omega))
  go_wp2_with fail
  refine ((HO.out.2.2.2 29 (by omega) _ H29.out.2).call rfl).mono ?_
  clear ck
  rintro e w30 ⟨rfl, hg⟩
  have H30 := Lib.hid (show _ ∧ _ from ⟨H29.out.1.kept hg (HO.out.2.2.1 29 (by omega)), soFar_next H29.out.2 hg⟩)
  clear hg
  have ck := (H30.out.1.cell 30).trans (HO.out.2.1 30 (by omega))
  go_wp2_with fail
  refine ((HO.out.2.2.2 30 (by omega) _ H30.out.2).call rfl).mono ?_
  clear ck
  rintro e w31 ⟨rfl, hg⟩
  have H31 := Lib.hid (show _ ∧ _ from ⟨H30.out.1.kept hg (HO.out.2.2.1 30 (by omega)), soFar_next H30.out.2 hg⟩)
  clear hg
  have ck := (H31.out.1.cell 31).trans (HO.out.2.1 31 (by omega))
  go_wp2_with fail
  refine ((HO.out.2.2.2 31 (by omega) _ H31.out.2).call rfl).mono ?_
  clear ck
  rintro e w32 ⟨rfl, hg⟩
  have H32 := Lib.hid (show _ ∧ _ from ⟨H31.out.1.kept hg (HO.out.2.2.1 31 (by omega)), soFar_next H31.out.2 hg⟩)
  clear hg
  go_wp2
  go_ret
  exact ⟨rfl, H32.out.2⟩
end Go.Proofs.YtajaijidecomdaaGreatDoor
