/- Book.Own at a book that holds lists of one kind alone (Labels). Written by a program of mine (mkown.py). -/
import Derived.Test.YtchggapclmdpaaaGreatDoorOwnNil
import Derived.Test.YtchggapclmdpaaaGreatDoorGb
namespace Go.Proofs.YtchggapclmdpaaaGreatDoor
open Go.RowKit Go.Lib
set_option maxHeartbeats 4000000 in
set_option maxRecDepth 100000 in
theorem bookOwn_Labels (bk BL m c : Nat) (S : Nat → Prop) (w : World) (cs : Array Value) (hb : Bk w bk cs) (hcs : ∀ k, k < 32 → cs[k]? = some (if k = 9 then .slice (some ⟨BL, 0, none⟩) m c else .slice none 0 0))
    (hn : ¬ S bk) (ho : Calls Tryz.prog 79 #[.slice (some ⟨BL, 0, none⟩) m c] w fun e w' => e = .returned (.bool true) ∧ GrownIn S w w') :
    Calls Tryz.prog 28 #[.pointer (some ⟨bk, 0, none⟩)] w fun e w' => e = .returned (.bool true) ∧ GrownIn S w w' := by
  have HO := Lib.hid ho
  have HB := Lib.hid hb
  have HN := Lib.hid hn
  clear ho hn

  have c0 := (hb.cell 0).trans (hcs 0 (by omega))
  have c1 := (hb.cell 1).trans (hcs 1 (by omega))
  have c2 := (hb.cell 2).trans (hcs 2 (by omega))
  have c3 := (hb.cell 3).trans (hcs 3 (by omega))
  have c4 := (hb.cell 4).trans (hcs 4 (by omega))
  have c5 := (hb.cell 5).trans (hcs 5 (by omega))
  have c6 := (hb.cell 6).trans (hcs 6 (by omega))
  have c7 := (hb.cell 7).trans (hcs 7 (by omega))
  have c8 := (hb.cell 8).trans (hcs 8 (by omega))
  have c9 := (hb.cell 9).trans (hcs 9 (by omega))
  have c10 := (hb.cell 10).trans (hcs 10 (by omega))
  have c11 := (hb.cell 11).trans (hcs 11 (by omega))
  have c12 := (hb.cell 12).trans (hcs 12 (by omega))
  have c13 := (hb.cell 13).trans (hcs 13 (by omega))
  have c14 := (hb.cell 14).trans (hcs 14 (by omega))
  have c15 := (hb.cell 15).trans (hcs 15 (by omega))
  have c16 := (hb.cell 16).trans (hcs 16 (by omega))
  have c17 := (hb.cell 17).trans (hcs 17 (by omega))
  have c18 := (hb.cell 18).trans (hcs 18 (by omega))
  have c19 := (hb.cell 19).trans (hcs 19 (by omega))
  have c20 := (hb.cell 20).trans (hcs 20 (by omega))
  have c21 := (hb.cell 21).trans (hcs 21 (by omega))
  have c22 := (hb.cell 22).trans (hcs 22 (by omega))
  have c23 := (hb.cell 23).trans (hcs 23 (by omega))
  have c24 := (hb.cell 24).trans (hcs 24 (by omega))
  have c25 := (hb.cell 25).trans (hcs 25 (by omega))
  have c26 := (hb.cell 26).trans (hcs 26 (by omega))
  have c27 := (hb.cell 27).trans (hcs 27 (by omega))
  have c28 := (hb.cell 28).trans (hcs 28 (by omega))
  have c29 := (hb.cell 29).trans (hcs 29 (by omega))
  have c30 := (hb.cell 30).trans (hcs 30 (by omega))
  have c31 := (hb.cell 31).trans (hcs 31 (by omega))
  simp (config := { decide := true }) only [if_true, if_false] at c0 c1 c2 c3 c4 c5 c6 c7 c8 c9 c10 c11 c12 c13 c14 c15 c16 c17 c18 c19 c20 c21 c22 c23 c24 c25 c26 c27 c28 c29 c30 c31
  have HC := Lib.hid hcs
  clear hb hcs
  go_enter Tryz.func28, Tryz.ntmps28
  go_wp2_with fail
  refine (ownBytes_nil _).mono ?_
  rintro e w' ⟨rfl, rfl⟩
  go_wp2_with fail
  refine (ownTexts_nil _).mono ?_
  rintro e w' ⟨rfl, rfl⟩
  go_wp2_with fail
  refine (ownInts_nil _).mono ?_
  rintro e w' ⟨rfl, rfl⟩
  go_wp2_with fail
  refine (ownLongs_nil _).mono ?_
  rintro e w' ⟨rfl, rfl⟩
  go_wp2_with fail
  refine (ownNumbers_nil _).mono ?_
  rintro e w' ⟨rfl, rfl⟩
  go_wp2_with fail
  refine (ownNums_nil _).mono ?_
  rintro e w' ⟨rfl, rfl⟩
  go_wp2_with fail
  refine (ownWords_nil _).mono ?_
  rintro e w' ⟨rfl, rfl⟩
  go_wp2_with fail
  refine (ownTypes_nil _).mono ?_
  rintro e w' ⟨rfl, rfl⟩
  go_wp2_with fail
  refine (ownErrs_nil _).mono ?_
  rintro e w' ⟨rfl, rfl⟩
  go_wp2_with fail
  refine HO.out.mono ?_
  rintro e w1 ⟨rfl, hw⟩
  have HW := Lib.hid hw
  have hb1 := HB.out.kept hw HN.out
  clear hw c0 c1 c2 c3 c4 c5 c6 c7 c8 c9 c10 c11 c12 c13 c14 c15 c16 c17 c18 c19 c20 c21 c22 c23 c24 c25 c26 c27 c28 c29 c30 c31
  have c10 := (hb1.cell 10).trans (HC.out 10 (by omega))
  have c11 := (hb1.cell 11).trans (HC.out 11 (by omega))
  have c12 := (hb1.cell 12).trans (HC.out 12 (by omega))
  have c13 := (hb1.cell 13).trans (HC.out 13 (by omega))
  have c14 := (hb1.cell 14).trans (HC.out 14 (by omega))
  have c15 := (hb1.cell 15).trans (HC.out 15 (by omega))
  have c16 := (hb1.cell 16).trans (HC.out 16 (by omega))
  have c17 := (hb1.cell 17).trans (HC.out 17 (by omega))
  have c18 := (hb1.cell 18).trans (HC.out 18 (by omega))
  have c19 := (hb1.cell 19).trans (HC.out 19 (by omega))
  have c20 := (hb1.cell 20).trans (HC.out 20 (by omega))
  have c21 := (hb1.cell 21).trans (HC.out 21 (by omega))
  have c22 := (hb1.cell 22).trans (HC.out 22 (by omega))
  have c23 := (hb1.cell 23).trans (HC.out 23 (by omega))
  have c24 := (hb1.cell 24).trans (HC.out 24 (by omega))
  have c25 := (hb1.cell 25).trans (HC.out 25 (by omega))
  have c26 := (hb1.cell 26).trans (HC.out 26 (by omega))
  have c27 := (hb1.cell 27).trans (HC.out 27 (by omega))
  have c28 := (hb1.cell 28).trans (HC.out 28 (by omega))
  have c29 := (hb1.cell 29).trans (HC.out 29 (by omega))
  have c30 := (hb1.cell 30).trans (HC.out 30 (by omega))
  have c31 := (hb1.cell 31).trans (HC.out 31 (by omega))
  simp (config := { decide := true }) only [if_false] at c10 c11 c12 c13 c14 c15 c16 c17 c18 c19 c20 c21 c22 c23 c24 c25 c26 c27 c28 c29 c30 c31
  clear hb1
  go_wp2_with fail
  refine (ownSamples_nil _).mono ?_
  rintro e w' ⟨rfl, rfl⟩
  go_wp2_with fail
  refine (ownMatchers_nil _).mono ?_
  rintro e w' ⟨rfl, rfl⟩
  go_wp2_with fail
  refine (ownIntervals_nil _).mono ?_
  rintro e w' ⟨rfl, rfl⟩
  go_wp2_with fail
  refine (ownPlaces_nil _).mono ?_
  rintro e w' ⟨rfl, rfl⟩
  go_wp2_with fail
  refine (ownMetas_nil _).mono ?_
  rintro e w' ⟨rfl, rfl⟩
  go_wp2_with fail
  refine (ownFiles_nil _).mono ?_
  rintro e w' ⟨rfl, rfl⟩
  go_wp2_with fail
  refine (ownTokens_nil _).mono ?_
  rintro e w' ⟨rfl, rfl⟩
  go_wp2_with fail
  refine (ownSets_nil _).mono ?_
  rintro e w' ⟨rfl, rfl⟩
  go_wp2_with fail
  refine (ownRows_nil _).mono ?_
  rintro e w' ⟨rfl, rfl⟩
  go_wp2_with fail
  refine (ownLists_nil _).mono ?_
  rintro e w' ⟨rfl, rfl⟩
  go_wp2_with fail
  refine (ownIntLists_nil _).mono ?_
  rintro e w' ⟨rfl, rfl⟩
  go_wp2_with fail
  refine (ownElems_nil _).mono ?_
  rintro e w' ⟨rfl, rfl⟩
  go_wp2_with fail
  refine (ownSeries_nil _).mono ?_
  rintro e w' ⟨rfl, rfl⟩
  go_wp2_with fail
  refine (ownPuts_nil _).mono ?_
  rintro e w' ⟨rfl, rfl⟩
  go_wp2_with fail
  refine (ownLasts_nil _).mono ?_
  rintro e w' ⟨rfl, rfl⟩
  go_wp2_with fail
  refine (ownTombs_nil _).mono ?_
  rintro e w' ⟨rfl, rfl⟩
  go_wp2_with fail
  refine (ownChunks_nil _).mono ?_
  rintro e w' ⟨rfl, rfl⟩
  go_wp2_with fail
  refine (ownEntries_nil _).mono ?_
  rintro e w' ⟨rfl, rfl⟩
  go_wp2_with fail
  refine (ownMutations_nil _).mono ?_
  rintro e w' ⟨rfl, rfl⟩
  go_wp2_with fail
  refine (ownBools_nil _).mono ?_
  rintro e w2 ⟨rfl, hw2⟩
  have d30 := (hw2.cell (p := ⟨bk, 30, none⟩) (World.block_lt_of_cell? _ _ c30)).trans c30
  have d31 := (hw2.cell (p := ⟨bk, 31, none⟩) (World.block_lt_of_cell? _ _ c31)).trans c31
  have HW2 := Lib.hid (HW.out.trans (GrownIn.of_below hw2) (fun k hk h => by have := HW.out.size; omega))
  clear hw2 c30 c31
  go_wp2_with fail
  refine (ownNodes_nil _).mono ?_
  rintro e w' ⟨rfl, rfl⟩
  go_wp2_with fail
  refine (ownJsons_nil _).mono ?_
  rintro e w' ⟨rfl, rfl⟩
  go_wp2
  go_ret
  exact ⟨rfl, HW2.out⟩
end Go.Proofs.YtchggapclmdpaaaGreatDoor
