/- labels.Parse: the set that a text tells. -/
import Derived.Test.YtchggapclmdpaaaGreatDoorLbs8
import Derived.Test.YtchggapclmdpaaaGreatDoorRefSet
namespace Go.Proofs.YtchggapclmdpaaaGreatDoor
open Go.RowKit Go.Lib

/-- What Parse leaves. -/
def ParPost (R : List Lb × Int × Nat) (w : World) (e : Ending) (w' : World) : Prop :=
  ∃ v, e = .returned (.tuple #[v, .int .u16 R.2.1, .int .i64 R.2.2]) ∧ w'.ownsRow w.heap.size 94 2 v R.1.length (R.1.flatMap Lb.cells) ∧ Below w.heap.size w w'
set_option maxHeartbeats 4000000 in
set_option maxRecDepth 100000 in
theorem parse_any (K : Nat) (a b : Addr) (s : ByteArray) (w : World) (hE : LaidE K a b w) (hbig : s.size ≤ 1000000) :
    Calls Tryz.prog 10 #[.string s] w (ParPost (parR s.data.toList) w) := by
  have hsz : s.data.toList.length = s.size := Array.length_toList
  have hS0 : Scan (w.alloc (.cells #[.string s, .int .i64 0] 97)) w.heap.size s 0 := heap_alloc_new w _
  have hb0 : Below w.heap.size w (w.alloc (.cells #[.string s, .int .i64 0] 97)) := (Below.refl _ _).alloc (Nat.le_refl _) _
  have hlb := labels_any K a b w.heap.size s _ (hE.below hb0 hE.size) hE.size hS0 hbig
  obtain ⟨R, hR⟩ : ∃ R, parR s.data.toList = R := ⟨_, rfl⟩
  rw [hR]
  unfold parR at hR
  obtain ⟨V, hV⟩ : ∃ V, lsTop s.data.toList = V := ⟨_, rfl⟩
  rw [hV] at hR hlb
  obtain ⟨ol, k⟩ := V
  cases ol with
  | none =>
    have HL := Lib.hid (show _ ∧ ([], 70, k) = R from ⟨hlb, hR⟩)
    clear hlb hR hV hE hS0 hb0 hsz
    go_enter Tryz.func10, Tryz.ntmps10
    go_wp2_with fail
    refine HL.out.1.mono ?_
    rintro e w1 ⟨⟨v, rfl⟩, hS1, hk1, hg1⟩
    have c0 := hS1.c0
    have c1 := hS1.c1
    have hb1 : Below w.heap.size w w1 := ((Below.refl _ w).alloc (Nat.le_refl _) (.cells #[.string s, .int .i64 0] 97)).trans (hg1.below (fun k hk => by omega) (by simp))
    have H1 := Lib.hid hb1
    clear hS1 hk1 hg1 hb1
    go_wp2_with (go_quiet (fail))
    refine bodyPost_ret (v := .tuple #[.slice none 0 0, .int .u16 70, .int .i64 k]) (by simp [results, Tryz.results10, go_sem]) rfl ?_
    rw [← HL.out.2]
    exact ⟨_, rfl, World.ownsRow_nil _ _ _ _, by first | exact H1.out | exact below_drewN H1.out _⟩
  | some l =>
    have HL := Lib.hid (show _ ∧ (if setE l = 0 then (setL l, 0, 0) else ([], setE l, s.data.toList.length)) = R ∧ _ from ⟨hlb, hR, hsz⟩)
    clear hlb hR hV hE hS0 hb0 hsz
    go_enter Tryz.func10, Tryz.ntmps10
    go_wp2_with fail
    refine HL.out.1.mono ?_
    rintro e w1 ⟨⟨v, rfl, ho1, hl1⟩, hS1, hk1, hg1⟩
    have hb1 : Below w.heap.size w w1 := ((Below.refl _ w).alloc (Nat.le_refl _) (.cells #[.string s, .int .i64 0] 97)).trans (hg1.below (fun k hk => by omega) (by simp))
    obtain ⟨A1, c1, rfl, hL1, _⟩ := own_arg ho1 rfl
    have hset := set_any A1 l.length c1 l w1 hL1 (by omega)
    have H1 := Lib.hid (show _ ∧ _ from ⟨hb1, hset⟩)
    clear hS1 hk1 hg1 hb1 ho1 hL1 hset
    go_wp2_with fail
    refine H1.out.2.mono ?_
    rintro e w2 ⟨v2, rfl, hb2, hbad, hgood⟩
    have hbw := H1.out.1.trans (hb2.mono H1.out.1.size)
    by_cases h0 : setE l = 0
    · have hR2 : (setL l, (0 : Int), 0) = R := by have := HL.out.2.1; rwa [if_pos h0] at this
      have ho2 := owns_base (hgood h0) H1.out.1.size
      obtain ⟨A2, c2, rfl, _, _⟩ := own_arg ho2 rfl
      have H2 := Lib.hid (show _ ∧ _ ∧ _ from ⟨hbw, hR2, ho2⟩)
      clear hbw hR2 ho2 hb2 hbad hgood
      rw [h0]
      go_wp2
      refine bodyPost_ret (v := .tuple #[.slice A2 (setL l).length c2, .int .u16 0, .int .i64 0]) (by simp [results, Tryz.results10, go_sem]) rfl ?_
      rw [← H2.out.2.1]
      exact ⟨_, rfl, H2.out.2.2, H2.out.1⟩
    · have hR2 : ([], setE l, s.size) = R := by have := HL.out.2.1; rwa [if_neg h0, HL.out.2.2] at this
      obtain rfl := hbad h0
      obtain ⟨E, hE⟩ : ∃ E, setE l = E := ⟨_, rfl⟩
      rw [hE] at hR2 h0
      rw [hE]
      have hne : (E != 0) = true := by rw [bne_iff_ne]; exact h0
      have H2 := Lib.hid (show _ ∧ _ from ⟨hbw, hR2⟩)
      clear hbw hR2 hb2 hbad hgood hE
      go_wp2
      refine bodyPost_ret (v := .tuple #[.slice none 0 0, .int .u16 E, .int .i64 s.size]) (by simp [results, Tryz.results10, go_sem]) rfl ?_
      rw [← H2.out.2]
      exact ⟨_, rfl, World.ownsRow_nil _ _ _ _, H2.out.1⟩
end Go.Proofs.YtchggapclmdpaaaGreatDoor
