/- The document's Without and In. -/
import Derived.Test.YtglafbfbgjihbaaGreatWithout2
import Derived.Deep.RegionWith
import Derived.Test.YtglafbfbgjihbaaGreatCovB
import Derived.Test.YtglafbfbgjihbaaGreatCloneInterval
import Derived.BigQuiet
import Derived.Deep.RegionHeld3
namespace Go.Proofs.YtglafbfbgjihbaaGreat
open Go.RowKit Go.Lib

set_option maxHeartbeats 1000000 in
theorem refIn_any (A : Option Addr) (n c B : Nat) (l : List (Int × Int)) (t : Int) (w : World) (hL : Lst encI 2 w B A n l) (hbig : n ≤ 1000000000) :
    Calls Tryz.prog 57 #[.int .i64 t, .slice A n c] w fun e w' => e = .returned (.bool (covB l t)) ∧ w' = w := by
  have HL := Lib.hid hL
  clear hL
  go_enter Tryz.func57, Tryz.ntmps57
  go_wp2
  go_loop [5] (fun i => ∃ k : Nat, k ≤ n ∧ i = .int .i64 k ∧ Hid (covB (l.take k) t = false)) (fun i => n - (intOf i).toNat)
  case atStart => exact ⟨0, Nat.zero_le _, rfl, Lib.hid rfl⟩
  case round =>
    obtain ⟨k, hk, rfl, HF⟩ := hrel
    by_cases hlt : k < n
    · obtain ⟨b, off, x, rfl, hbb, hx, hc⟩ := HL.out.at hlt
      have c0 := hc 0 _ rfl
      have c1 := hc 1 _ rfl
      simp only [Nat.add_zero] at c0
      have HX := Lib.hid hx
      clear hx hc
      by_cases h1 : x.1 ≤ t
      · by_cases h2 : t ≤ x.2
        · go_wp2
          go_ret
          exact ⟨by rw [covB_mem HX.out ⟨h1, h2⟩]; rfl, rfl⟩
        · go_wp2
          go_round
          case measure => simp [intOf]; omega
          case rel => exact ⟨k + 1, hlt, by simp, Lib.hid (by rw [covB_succ HX.out, HF.out]; simp; omega)⟩
      · go_wp2
        go_round
        case measure => simp [intOf]; omega
        case rel => exact ⟨k + 1, hlt, by simp, Lib.hid (by rw [covB_succ HX.out, HF.out]; simp; omega)⟩
    · have hf := HF.out
      rw [List.take_of_length_le (by have := HL.out.1; omega)] at hf
      have HF2 := Lib.hid hf
      clear hf
      go_wp2
      go_ret
      exact ⟨by rw [HF2.out]; rfl, rfl⟩

theorem filter_len (s : List (Int × Int)) (p : Int × Int → Bool) (k : Nat) : ((s.take k).filter p).length ≤ s.length := by
  have h1 := List.length_filter_le p (s.take k)
  have h2 : (s.take k).length ≤ s.length := by rw [List.length_take]; omega
  omega
set_option maxHeartbeats 2000000 in
set_option maxRecDepth 100000 in
theorem refWithout_any (A A' : Option Addr) (n c n' c' : Nat) (s l : List (Int × Int)) (w : World) (hS : Lst encS 2 w w.heap.size A n s) (hn : n ≤ 1000000) (hL : Lst encI 2 w w.heap.size A' n' l) (hn' : n' ≤ 1000000) :
    Calls Tryz.prog 21 #[.slice A n c, .slice A' n' c'] w (PutS (withoutS s l) w) := by
  obtain ⟨i0, hi, hz0, hz1, hz2⟩ := info_parts Tryz.infoSample
  have HI := Lib.hid (show _ ∧ _ ∧ _ ∧ _ from ⟨hi, hz0, hz1, hz2⟩)
  have HS := Lib.hid (show _ ∧ _ from ⟨hS, hL⟩)
  clear hS hL hi hz0 hz1 hz2
  go_enter Tryz.func21, Tryz.ntmps21
  go_wp2
  go_loopw [5, 6, 7] (fun v iv _ wr => ∃ k : Nat, k ≤ n ∧ iv = .int .i64 k ∧ Hid (wr.ownsRow w.heap.size 94 2 v (withoutS (s.take k) l).length ((withoutS (s.take k) l).flatMap encS) ∧ Below w.heap.size w wr)) (fun _ iv _ _ => n - (intOf iv).toNat)
  case atStart => exact ⟨0, Nat.zero_le _, rfl, Lib.hid ⟨World.ownsRow_nil _ _ _ _, Below.refl _ _⟩⟩
  case round =>
    obtain ⟨k, hk, rfl, HR⟩ := hrel
    by_cases hlt : k < n
    · obtain ⟨b, off, x, rfl, hb, hx, hc⟩ := HS.out.1.at hlt
      have c0 := (HR.out.2.cell (p := ⟨b, off + k * 2 + 0, none⟩) hb).trans (hc 0 _ rfl)
      have c1 := (HR.out.2.cell (p := ⟨b, off + k * 2 + 1, none⟩) hb).trans (hc 1 _ rfl)
      simp only [Nat.add_zero] at c0
      have hin := refIn_any A' n' c' w.heap.size l x.1 wr (HS.out.2.below HR.out.2) (by omega)
      have hsu : withoutS (s.take (k + 1)) l = withoutS (s.take k) l ++ (if (!covB l x.1) then [x] else []) := filter_succ (fun x => !covB l x.1) hx
      have hfl : (withoutS (s.take k) l).length ≤ n := by have := filter_len s (fun x => !covB l x.1) k; have := HS.out.1.1; unfold withoutS; omega
      have HX := Lib.hid (show _ ∧ _ ∧ _ from ⟨hin, hsu, hfl⟩)
      clear hc hx hin hsu hfl
      cases hcv : covB l x.1 with
      | true =>
        rw [hcv] at HX
        go_wp2_with fail
        refine HX.out.1.mono ?_
        rintro e w' ⟨rfl, rfl⟩
        have hrow := HR.out
        have he : withoutS (s.take (k + 1)) l = withoutS (s.take k) l := by rw [HX.out.2.1]; simp
        rw [← he] at hrow
        have HN := Lib.hid hrow
        clear hrow he
        go_wp2
        go_roundw
        case measure => simp [intOf]; omega
        case rel => exact ⟨k + 1, hlt, by simp, HN⟩
      | false =>
        rw [hcv] at HX
        go_wp2_with fail
        refine HX.out.1.mono ?_
        rintro e w' ⟨rfl, rfl⟩
        obtain ⟨hi, hz0, hz1, hz2⟩ := HI.out
        have hfl := HX.out.2.2
        have hsz := HR.out.2.size
        obtain ⟨r, hr⟩ : ∃ r, withoutS (s.take k) l = r := ⟨_, rfl⟩
        have hrow := HR.out
        rw [hr] at hrow hfl
        have HR2 := Lib.hid hrow
        have HRR := Lib.hid hr
        clear hrow hr
        go_wp2_with (at_builtin; refine wpList_append_own _ rfl _ _ 22 rfl w.heap.size 94 i0 _ 2 16 Tryz.underlying22 hi hz0 hz1 hz2 rfl (by omega) _ r.length (r.flatMap encS) rfl (HR2.out.1.alloc _) ⟨w'.heap.size, 0, none⟩ 1 1 (encS x) rfl rfl (fun j u h => cells_newL _ (encS x) _ j u h) (fun u hu => oneSample [x] u (by simpa using hu)) (by unfold maxLen; omega) (by omega) (by simp; omega) ?_)
        intro v2 w2 ho2 hg2 _
        have hb2 : Below w.heap.size w w2 := (HR2.out.2.alloc HR2.out.2.size _).grown hg2 (by simp; omega) (fun b hb => (HR2.out.1.lt b hb).1)
        have hr2 : w2.ownsRow w.heap.size 94 2 v2 (withoutS (s.take (k + 1)) l).length ((withoutS (s.take (k + 1)) l).flatMap encS) := by
          rw [HX.out.2.1, HRR.out]
          simpa using ho2
        have HN := Lib.hid (show _ ∧ _ from ⟨hr2, hb2⟩)
        clear hi hz0 hz1 hz2 ho2 hg2 hb2 hr2
        go_wp2
        go_roundw
        case measure => simp [intOf]; omega
        case rel => exact ⟨k + 1, hlt, by simp, HN⟩
    · have hrow := HR.out
      rw [List.take_of_length_le (by have := HS.out.1.1; omega)] at hrow
      have HN := Lib.hid hrow
      clear hrow HR
      go_wp2
      go_ret
      exact ⟨_, rfl, HN.out.1, HN.out.2⟩

theorem lst_one {W : World} {b : Nat} {y : Int × Int} {fz : Nat × Nat} (h : W.heap[b]? = some (.cells #[.int .i64 y.1, .int .i64 y.2] 25 fz)) : Lst encI 2 W W.heap.size (some ⟨b, 0, none⟩) 1 [y] :=
  lst_block h rfl rfl encI_len
set_option maxHeartbeats 2000000 in
set_option maxRecDepth 100000 in
theorem refWithin_any (A : Option Addr) (n c : Nat) (s : List (Int × Int)) (y : Int × Int) (w : World) (hS : Lst encS 2 w w.heap.size A n s) (hn : n ≤ 1000000) :
    Calls Tryz.prog 22 #[.slice A n c, .agg #[.int .i64 y.1, .int .i64 y.2]] w (PutS (withinS s [y]) w) := by
  obtain ⟨i0, hi, hz0, hz1, hz2⟩ := info_parts Tryz.infoSample
  have HI := Lib.hid (show _ ∧ _ ∧ _ ∧ _ from ⟨hi, hz0, hz1, hz2⟩)
  have HS := Lib.hid hS
  clear hS hi hz0 hz1 hz2
  go_enter Tryz.func22, Tryz.ntmps22
  go_wp2
  have hbx : Below w.heap.size w (w.alloc (.cells #[.int .i64 y.1, .int .i64 y.2] 25)) := (Below.refl _ _).alloc (Nat.le_refl _) _
  have hc0 : (w.alloc (.cells #[.int .i64 y.1, .int .i64 y.2] 25)).cell? ⟨w.heap.size, 0, none⟩ = some (.int .i64 y.1) := by simp
  have hc1 : (w.alloc (.cells #[.int .i64 y.1, .int .i64 y.2] 25)).cell? ⟨w.heap.size, 1, none⟩ = some (.int .i64 y.2) := by simp
  have hsx : (w.alloc (.cells #[.int .i64 y.1, .int .i64 y.2] 25)).heap.size = w.heap.size + 1 := by simp
  generalize w.alloc (.cells #[.int .i64 y.1, .int .i64 y.2] 25) = w0 at hbx hc0 hc1 hsx ⊢
  have H0 := Lib.hid (show _ ∧ _ ∧ _ ∧ _ from ⟨hbx, hc0, hc1, hsx⟩)
  clear hbx hc0 hc1 hsx
  go_loopw [5, 6, 7] (fun v iv _ wr => ∃ k : Nat, k ≤ n ∧ iv = .int .i64 k ∧ Hid (wr.ownsRow (w.heap.size + 1) 94 2 v (withinS (s.take k) [y]).length ((withinS (s.take k) [y]).flatMap encS) ∧ Below (w.heap.size + 1) w0 wr)) (fun _ iv _ _ => n - (intOf iv).toNat)
  case atStart => exact ⟨0, Nat.zero_le _, rfl, Lib.hid ⟨World.ownsRow_nil _ _ _ _, Below.refl _ _⟩⟩
  case round =>
    obtain ⟨k, hk, rfl, HR⟩ := hrel
    have hsz := HR.out.2.size
    have hs0 := H0.out.2.2.2
    by_cases hlt : k < n
    · obtain ⟨b, off, x, rfl, hb, hx, hc⟩ := HS.out.at hlt
      have c0 := ((HR.out.2.cell (p := ⟨b, off + k * 2 + 0, none⟩) (by show b < _; omega)).trans (H0.out.1.cell (p := ⟨b, off + k * 2 + 0, none⟩) hb)).trans (hc 0 _ rfl)
      have c1 := ((HR.out.2.cell (p := ⟨b, off + k * 2 + 1, none⟩) (by show b < _; omega)).trans (H0.out.1.cell (p := ⟨b, off + k * 2 + 1, none⟩) hb)).trans (hc 1 _ rfl)
      simp only [Nat.add_zero] at c0
      have e0 := (HR.out.2.cell (p := ⟨w.heap.size, 0, none⟩) (Nat.lt_succ_self _)).trans H0.out.2.1
      have e1 := (HR.out.2.cell (p := ⟨w.heap.size, 1, none⟩) (Nat.lt_succ_self _)).trans H0.out.2.2.1
      have hsu : withinS (s.take (k + 1)) [y] = withinS (s.take k) [y] ++ (if covB [y] x.1 then [x] else []) := filter_succ (fun x => covB [y] x.1) hx
      have hfl : (withinS (s.take k) [y]).length ≤ n := by have := filter_len s (fun x => covB [y] x.1) k; have := HS.out.1; unfold withinS; omega
      have HX := Lib.hid (show _ ∧ _ from ⟨hsu, hfl⟩)
      have i1 : (0 : Int) ≤ (k : Int) := by omega
      have i2 : (k : Int) < (n : Int) := by omega
      clear hc hx hsu hfl
      go_wp2_with fail
      have hone : Lst encI 2 (wr.drew.alloc (.cells #[.int .i64 y.1, .int .i64 y.2] 25)) (wr.drew.alloc (.cells #[.int .i64 y.1, .int .i64 y.2] 25)).heap.size (some ⟨wr.heap.size, 0, none⟩) 1 [y] := lst_one (b := wr.heap.size) (heap_alloc_new wr.drew _)
      have hcall := refIn_any _ 1 1 _ [y] x.1 _ hone (by decide)
      have hb3 : Below (w.heap.size + 1) w0 (wr.drew.alloc (.cells #[.int .i64 y.1, .int .i64 y.2] 25)) := (below_drewN HR.out.2 1).alloc (by show _ ≤ wr.heap.size; omega) _
      have ho3 := (show wr.drew.ownsRow _ _ _ _ _ _ from HR.out.1).alloc (.cells #[.int .i64 y.1, .int .i64 y.2] 25)
      have HC := Lib.hid (show _ ∧ _ ∧ _ from ⟨hcall, hb3, ho3⟩)
      clear hone hcall hb3 ho3
      have nb : b ≠ wr.heap.size := by omega
      have nw : w.heap.size ≠ wr.heap.size := by omega
      have nb' : wr.heap.size ≠ b := by omega
      have nw' : wr.heap.size ≠ w.heap.size := by omega
      go_region_held3 (fun w' => w'.cell? ⟨b, off + k * 2, none⟩ = some (.int .i64 x.1) ∧ w'.cell? ⟨w.heap.size, 0, none⟩ = some (.int .i64 y.1) ∧ w'.cell? ⟨w.heap.size, 1, none⟩ = some (.int .i64 y.2)) (go_keep)
        (first | (go_at_call 57; refine HC.out.1.mono ?_; rintro e w' ⟨rfl, rfl⟩))
      have hb4 : Below (w.heap.size + 1) w0 (wr.alloc (.cells #[.int .i64 y.1, .int .i64 y.2] 25)).drew := HC.out.2.1
      have ho4 : (wr.alloc (.cells #[.int .i64 y.1, .int .i64 y.2] 25)).drew.ownsRow (w.heap.size + 1) 94 2 u5 (withinS (s.take k) [y]).length ((withinS (s.take k) [y]).flatMap encS) := HC.out.2.2
      have c3 : (wr.alloc (.cells #[.int .i64 y.1, .int .i64 y.2] 25)).drew.cell? ⟨b, off + k * 2, none⟩ = some (.int .i64 x.1) := (World.cell?_alloc_lt wr _ _ (by show b < _; omega)).trans c0
      have c4 : (wr.alloc (.cells #[.int .i64 y.1, .int .i64 y.2] 25)).drew.cell? ⟨b, off + k * 2 + 1, none⟩ = some (.int .u64 x.2) := (World.cell?_alloc_lt wr _ _ (by show b < _; omega)).trans c1
      clear c0 c1 e0 e1 nb nw nb' nw' HC
      generalize (wr.alloc (.cells #[.int .i64 y.1, .int .i64 y.2] 25)).drew = w3 at hb4 ho4 c3 c4 ⊢
      have hs4 := hb4.size
      obtain ⟨r, hr⟩ : ∃ r, withinS (s.take k) [y] = r := ⟨_, rfl⟩
      have hfl := HX.out.2
      rw [hr] at ho4 hfl
      have H4 := Lib.hid (show _ ∧ _ from ⟨ho4, hb4⟩)
      have HRR := Lib.hid hr
      clear ho4 hb4 hr
      cases hcv : covB [y] x.1 with
      | false =>
        have he : withinS (s.take (k + 1)) [y] = r := by rw [HX.out.1, hcv, HRR.out]; simp
        have HN := Lib.hid (show w3.ownsRow (w.heap.size + 1) 94 2 u5 (withinS (s.take (k + 1)) [y]).length ((withinS (s.take (k + 1)) [y]).flatMap encS) ∧ Below (w.heap.size + 1) w0 w3 by rw [he]; exact H4.out)
        clear he hcv
        go_wp2
        go_roundw
        case measure => simp [intOf]; omega
        case rel => exact ⟨k + 1, hlt, by simp, HN⟩
      | true =>
        have he : withinS (s.take (k + 1)) [y] = r ++ [x] := by rw [HX.out.1, hcv, HRR.out]; simp
        have HE := Lib.hid he
        obtain ⟨hi, hz0, hz1, hz2⟩ := HI.out
        clear he hcv
        go_wp2_with (at_builtin; refine wpList_append_own _ rfl _ _ 22 rfl (w.heap.size + 1) 94 i0 _ 2 16 Tryz.underlying22 hi hz0 hz1 hz2 rfl (by omega) _ r.length (r.flatMap encS) rfl (H4.out.1.alloc _) ⟨w3.heap.size, 0, none⟩ 1 1 (encS x) rfl rfl (fun j u h => cells_newL _ (encS x) _ j u h) (fun u hu => oneSample [x] u (by simpa using hu)) (by unfold maxLen; omega) (by omega) (by simp; omega) ?_)
        intro v2 w2 ho2 hg2 _
        have hb2 : Below (w.heap.size + 1) w0 w2 := (H4.out.2.alloc (by omega) _).grown hg2 (by simp; omega) (fun b hb => (H4.out.1.lt b hb).1)
        have hr2 : w2.ownsRow (w.heap.size + 1) 94 2 v2 (withinS (s.take (k + 1)) [y]).length ((withinS (s.take (k + 1)) [y]).flatMap encS) := by
          rw [HE.out]
          simpa using ho2
        have HN := Lib.hid (show _ ∧ _ from ⟨hr2, hb2⟩)
        clear hi hz0 hz1 hz2 ho2 hg2 hb2 hr2
        go_wp2
        go_roundw
        case measure => simp [intOf]; omega
        case rel => exact ⟨k + 1, hlt, by simp, HN⟩
    · have hrow := HR.out
      rw [List.take_of_length_le (by have := HS.out.1; omega)] at hrow
      have HN := Lib.hid (show _ ∧ _ from ⟨owns_base hrow.1 (Nat.le_succ w.heap.size), H0.out.1.trans (hrow.2.mono (by omega))⟩)
      clear hrow HR
      go_wp2
      go_ret
      exact ⟨_, rfl, HN.out.1, HN.out.2⟩
end Go.Proofs.YtglafbfbgjihbaaGreat
