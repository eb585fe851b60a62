/- MergeSamples' walk. -/
import Derived.Test.YtglafbfbgjihbaaLents
import Derived.Test.YtglafbfbgjihbaaKnown17
import Derived.Test.YtglafbfbgjihbaaRefSams
import Derived.Test.YtglafbfbgjihbaaTwo
import Derived.Test.YtglafbfbgjihbaaOwnBookS
namespace Go.Proofs.Ytglafbfbgjihbaa
open Go.RowKit Go.Lib

theorem flat_succ {ls : List (List (Int × Int))} {i : Nat} {xs : List (Int × Int)} (h : ls[i]? = some xs) : (ls.take (i + 1)).flatten.length = (ls.take i).flatten.length + xs.length := by
  obtain ⟨hi, e⟩ := List.getElem?_eq_some_iff.1 h
  rw [List.take_succ_eq_append_getElem hi, e, List.flatten_append, List.length_append]
  simp
theorem tagAll_length : ∀ (i : Nat) (ls : List (List (Int × Int))), (tagAll i ls).length = ls.flatten.length
  | _, [] => rfl
  | i, xs :: r => by rw [tagAll, List.length_append, tags_length, sortS_length, tagAll_length (i + 1) r, List.flatten_cons, List.length_append]
theorem mem_flat_len {ls : List (List (Int × Int))} {xs : List (Int × Int)} (h : xs ∈ ls) : xs.length ≤ ls.flatten.length := by
  induction ls with
  | nil => cases h
  | cons y r ih =>
    rw [List.flatten_cons, List.length_append]
    rcases List.mem_cons.1 h with rfl | h
    · omega
    · have := ih h; omega
theorem samples_row (m : Nat) (hstab : SortsStable m) (A : Option Addr) (n c : Nat) (ls : List (List (Int × Int))) (w : World) (hls : Lls w w.heap.size A n ls) (hm : ∀ xs ∈ ls, xs.length ≤ m) (hm2 : m ≤ 100000) (hn : n ≤ 100000) (hall : ls.flatten.length ≤ 100000) :
    Calls Try.prog 19 #[.slice A n c] w (RowPost (ls.flatten.foldl putIn []) w) := by
  refine (samples_any m hstab A n c ls w hls hm hm2 hn (by rw [tagAll_length]; exact hall)).mono ?_
  rintro e w' ⟨v, h1, h2, h3⟩
  rw [samples_law] at h2
  exact ⟨v, h1, h2, h3⟩
theorem _root_.Go.Proofs.Ytglafbfbgjihbaa.Lls.grow {w W : World} {A : Option Addr} {n : Nat} {ls : List (List (Int × Int))} (h : Lls w w.heap.size A n ls) (hb : Below w.heap.size w W) : Lls W W.heap.size A n ls :=
  ⟨h.1, fun h0 => by
    obtain ⟨b, off, e, hlt, hc⟩ := h.2 h0
    refine ⟨b, off, e, Nat.lt_of_lt_of_le hlt hb.size, fun k xs hx => ?_⟩
    obtain ⟨Ak, ck, h1, h2, h3⟩ := hc k xs hx
    exact ⟨Ak, ck, (hb.cell (p := ⟨b, off + k, none⟩) hlt).trans h1, (h2.below hb).more hb.size, h3⟩⟩
set_option maxHeartbeats 4000000 in
set_option maxRecDepth 100000 in
theorem mergeSam_any (A : Option Addr) (n c : Nat) (ls : List (List (Int × Int))) (w : World) (hls : Lls w w.heap.size A n ls) (hlen : ∀ xs ∈ ls, xs.length ≤ 140737488355328) (hn63 : n ≤ 140737488355328) :
    Calls Try.prog 5 #[.slice A n c] w fun e w' => e = .returned (.bool true) ∧ Below w.heap.size w w' := by
  have HL := Lib.hid (show _ ∧ _ from ⟨hls, hlen⟩)
  clear hls hlen
  go_enter Try.func5, Try.ntmps5
  go_wp2
  go_loop [3, 4] (fun nv iv => ∃ i s : Nat, i ≤ n ∧ iv = .int .i64 i ∧ nv = .int .i64 s ∧ Hid (s = n + (ls.take i).flatten.length) ∧ (0 < i → s ≤ 140737488355328 + 3000)) (fun _ iv => n - (intOf iv).toNat)
  case atStart => exact ⟨0, n, Nat.zero_le _, rfl, rfl, Lib.hid (by simp), fun h => absurd h (by omega)⟩
  case round =>
    obtain ⟨i, s, hi, rfl, rfl, HS, hs63⟩ := hrel
    by_cases hlt : i < n
    · by_cases hs3 : s ≤ 3000
      · obtain ⟨xs, hxs⟩ : ∃ xs, ls[i]? = some xs := ⟨_, List.getElem?_eq_getElem (by have := HL.out.1.1; omega)⟩
        obtain ⟨b, off, rfl, hb, hc⟩ := HL.out.1.2 (by omega)
        obtain ⟨Ai, ci, h1, _, _⟩ := hc i xs hxs
        have hxl := HL.out.2 xs (List.mem_of_getElem? hxs)
        have hsu := flat_succ hxs
        obtain ⟨m, hm⟩ : ∃ m, xs.length = m := ⟨_, rfl⟩
        rw [hm] at h1 hxl hsu
        have HSU := Lib.hid hsu
        clear hc hxs hsu hm
        go_wp2
        go_round
        case measure => simp [intOf]; omega
        case rel => exact ⟨i + 1, s + m, hlt, by simp, by simp, Lib.hid (by rw [HSU.out, HS.out]; omega), fun _ => by omega⟩
      · have hs3' : (3000 : Int) < (s : Int) := by omega
        go_wp2
        go_ret
        exact ⟨rfl, Below.refl _ _⟩
    · obtain rfl : i = n := by omega
      have htk : ls.take i = ls := List.take_of_length_le (by have := HL.out.1.1; omega)
      have hsum := HS.out
      rw [htk] at hsum
      by_cases hs3 : s ≤ 3000
      · have hf : ls.flatten.length ≤ 3000 := by omega
        have hi3 : i ≤ 3000 := by omega
        clear HS htk hsum
        obtain ⟨i1, hif, hz0, hz1, hz2⟩ := info_parts Try.infoSamples
        have HI := Lib.hid (show _ ∧ _ ∧ _ ∧ _ from ⟨hif, hz0, hz1, hz2⟩)
        have HFL := Lib.hid hf
        clear hif hz0 hz1 hz2
        go_wp2
        go_loopw [5, 6, 7] (fun v iv _ wr => ∃ (k : Nat) (Xs : List (Nat × Nat × Nat)), k ≤ i ∧ iv = .int .i64 k ∧ Hid (Lents wr w.heap.size 0 (ls.take k) v Xs ∧ Below w.heap.size w wr)) (fun _ iv _ _ => i - (intOf iv).toNat)
        case atStart => exact ⟨0, [], Nat.zero_le _, rfl, Lib.hid ⟨Lents.nil _ _, Below.refl _ _⟩⟩
        case round =>
          obtain ⟨k, Xs, hk, rfl, HR⟩ := hrel
          by_cases hlt2 : k < i
          · obtain ⟨xs, hxs⟩ : ∃ xs, ls[k]? = some xs := ⟨_, List.getElem?_eq_getElem (by have := HL.out.1.1; omega)⟩
            obtain ⟨b, off, rfl, hb, hc⟩ := HL.out.1.2 (by omega)
            obtain ⟨Ai, ci, h1, h2, h3⟩ := hc k xs hxs
            have c0 := (HR.out.2.cell (p := ⟨b, off + k, none⟩) hb).trans h1
            have hxl := mem_flat_len (List.mem_of_getElem? hxs)
            have hlent := lentSample_any Ai xs.length ci xs wr ((h2.below HR.out.2).more HR.out.2.size) h3 (by omega)
            have htk : (ls.take k).length = k := by rw [List.length_take]; have := HL.out.1.1; omega
            have hsu : ls.take (k + 1) = ls.take k ++ [xs] := by
              obtain ⟨hk1, e⟩ := List.getElem?_eq_some_iff.1 hxs
              rw [List.take_succ_eq_append_getElem hk1, e]
            have HX := Lib.hid (show _ ∧ _ ∧ _ from ⟨hlent, htk, hsu⟩)
            clear hc h1 h2 h3 hxs hlent htk hsu
            go_wp2_with fail
            refine HX.out.1.mono ?_
            rintro e w1 ⟨g, cg, rfl, ho1, hb1⟩
            have hs1 := hb1.size
            have H1 := Lib.hid (show _ ∧ _ from ⟨ho1, hb1⟩)
            clear ho1 hb1 c0
            obtain ⟨hif, hz0, hz1, hz2⟩ := HI.out
            have hown0 := HR.out.1.own
            have hown1 := owns_below hown0 H1.out.2
            rw [HX.out.2.1] at hown1
            have HO := Lib.hid hown1
            have hsz0 := HR.out.2.size
            clear hown0 hown1
            go_wp2_with (at_builtin; refine wpList_append_full _ rfl _ _ 41 rfl w.heap.size 73 i1 _ 1 24 Try.underlying41 hif hz0 hz1 hz2 rfl (by omega) _ k (Xs.map valS) rfl (HO.out.alloc _) ⟨w1.heap.size, 0, none⟩ 1 1 [.slice (some ⟨g, 0, none⟩) xs.length cg] rfl rfl (cells_one w1 _ _) (by simp [Value.oneCell']) (by omega) (by unfold maxLen; omega) (by omega) (by simp; omega) ?_)
            intro g2 cap w2 ho2 hg2 _ _
            have hba : Below w1.heap.size w1 (w1.alloc (.cells #[.slice (some ⟨g, 0, none⟩) xs.length cg] 73)) := (Below.refl _ _).alloc (Nat.le_refl _) _
            have hnew : Lents w2 w.heap.size 0 (ls.take (k + 1)) (.slice (some ⟨g2, 0, none⟩) (k + 1) cap) (Xs ++ [(g, xs.length, cg)]) := by
              rw [HX.out.2.2]
              exact HR.out.1.step hsz0 H1.out.1 H1.out.2 hba (by rw [HX.out.2.1]; exact ho2) hg2
            have hbn : Below w.heap.size w w2 := ((HR.out.2.trans (H1.out.2.mono hsz0)).alloc (by omega) _).grown hg2 (by simp; omega) (fun x hx => (HO.out.lt x hx).1)
            have H2 := Lib.hid (show _ ∧ _ from ⟨hnew, hbn⟩)
            clear hif hz0 hz1 hz2 ho2 hg2 hba hnew hbn
            go_wp2
            go_roundw
            case measure => simp [intOf]; omega
            case rel => exact ⟨k + 1, _, hlt2, by simp, H2⟩
          · obtain rfl : k = i := by omega
            have hkl : ls.take k = ls := List.take_of_length_le (by have := HL.out.1.1; omega)
            have hR := HR.out
            rw [hkl] at hR
            obtain ⟨Av, nv, cv, hv⟩ : ∃ Av nv cv, u5 = .slice Av nv cv := by
              obtain ⟨A', c', e, _⟩ := owns_slice hR.1.own
              exact ⟨A', _, c', e⟩
            subst hv
            obtain ⟨hnv, hlls⟩ := hR.1.lls
            have hnk : nv = k := by rw [hnv]; exact HL.out.1.1
            subst hnk
            have hRl : (ls.flatten.foldl putIn []).length ≤ 3000 := Nat.le_trans (putIns_len _) HFL.out
            have hcall := fun (W : World) (hB : Below wr.heap.size wr W) => samples_row 100000 (sortsStable 100000 (by omega)) Av nv cv ls W (hR.1.below hB).lls.2 (fun xs hxs => by have := mem_flat_len hxs; have := HFL.out; omega) (by omega) (by omega) (by have := HFL.out; omega)
            have href := fun (W : World) (hB : Below w.heap.size w W) => refSamples_any A nv c ls W (HL.out.1.grow hB) (by omega) (by have := HFL.out; omega)
            obtain ⟨R, hRR⟩ : ∃ R, ls.flatten.foldl putIn [] = R := ⟨_, rfl⟩
            rw [hRR] at hcall hRl href
            have HC := Lib.hid hcall
            have HREF := Lib.hid href
            have H3 := Lib.hid hR
            clear hcall hR hRR href HR hkl hlls hnv
            obtain ⟨w0, rfl⟩ : ∃ w0 : World, w0 = wr := ⟨_, rfl⟩
            go_wp2_with fail
            refine (HC.out _ (Below.refl _ _)).mono ?_
            rintro e w1 ⟨va, rfl, hoa, hb1⟩
            have hs1 := hb1.size
            have H4 := Lib.hid (show _ ∧ _ from ⟨hoa, hb1⟩)
            clear hoa hb1
            go_wp2_with fail
            refine (HC.out _ H4.out.2).mono ?_
            rintro e w2 ⟨vb, rfl, hob, hb2⟩
            have hs2 := hb2.size
            have hb02 := H4.out.2.trans (hb2.mono H4.out.2.size)
            have hsw := H3.out.2.size
            have hdis : ∀ b, va.ownBlock = some b → vb.ownBlock ≠ some b := fun b h1 h2 => by have := (H4.out.1.lt b h1).2; have := (hob.lt b h2).1; omega
            have hfa : ∀ (j : Nat) x, Xs[j]? = some x → va.ownBlock ≠ some x.1 := fun j x hx e => by have := H3.out.1.lt (Nat.zero_le _) hx; have := (H4.out.1.lt _ e).1; omega
            have hfb : ∀ (j : Nat) x, Xs[j]? = some x → vb.ownBlock ≠ some x.1 := fun j x hx e => by have := H3.out.1.lt (Nat.zero_le _) hx; have := (hob.lt _ e).1; omega
            have H5 := Lib.hid (show Lents w2 w.heap.size 0 ls (.slice Av nv cv) Xs ∧ w2.ownsRow w.heap.size 129 2 va R.length (R.flatMap encS) ∧ w2.ownsRow w.heap.size 129 2 vb R.length (R.flatMap encS) ∧ Below w.heap.size w w2 from
              ⟨H3.out.1.below hb02, owns_base (owns_below H4.out.1 hb2) hsw, owns_base hob (by omega), H3.out.2.trans (hb02.mono hsw)⟩)
            have HD := Lib.hid (show _ ∧ _ ∧ _ from ⟨hdis, hfa, hfb⟩)
            clear hob hb2 hb02 hdis hfa hfb H3 H4 HC hs1 hs2 hsw
            go_wp2
            go_loopw [10, 11] (fun iv _ wr => ∃ k : Nat, k ≤ nv ∧ iv = .int .i64 k ∧ Hid (Lents wr w.heap.size k ls (.slice Av nv cv) Xs ∧ wr.ownsRow w.heap.size 129 2 va R.length (R.flatMap encS) ∧ wr.ownsRow w.heap.size 129 2 vb R.length (R.flatMap encS) ∧ Below w.heap.size w wr)) (fun iv _ _ => nv - (intOf iv).toNat)
            case atStart => exact ⟨0, Nat.zero_le _, rfl, H5⟩
            case round =>
              clear H5
              obtain ⟨k, hk, rfl, H5⟩ := hrel
              by_cases hlt3 : k < nv
              · obtain ⟨xs, hxs⟩ : ∃ xs, ls[k]? = some xs := ⟨_, List.getElem?_eq_getElem (by have := HL.out.1.1; omega)⟩
                obtain ⟨x, hx⟩ : ∃ x, Xs[k]? = some x := ⟨_, List.getElem?_eq_getElem (by have := H5.out.1.len; have := HL.out.1.1; omega)⟩
                obtain ⟨b, off, rfl, hb, hc⟩ := HL.out.1.2 (by omega)
                obtain ⟨Ai, ci, h1, h2, h3⟩ := hc k xs hxs
                have hrow := H5.out.1.each k x xs (Nat.le_refl _) hx hxs
                obtain ⟨gv, hgv, _⟩ : ∃ g, Av = some ⟨g, 0, none⟩ ∧ True := by
                  rcases H5.out.1.own.2 with ⟨_, h0⟩ | ⟨g, _, _, e, _⟩
                  · have := HL.out.1.1; omega
                  · injection e with e _ _; exact ⟨g, e, trivial⟩
                subst hgv
                have c0 := (H5.out.2.2.2.cell (p := ⟨b, off + k, none⟩) hb).trans h1
                have c1 : wr.cell? ⟨gv, k, none⟩ = some (.slice (some ⟨x.1, 0, none⟩) xs.length x.2.2) := by
                  have := owns_cell H5.out.1.own (g := gv) rfl (t := k) (u := valS x) (by rw [List.getElem?_map, hx]; rfl)
                  unfold valS at this
                  rwa [hrow.1] at this
                have hxl := mem_flat_len (List.mem_of_getElem? hxs)
                have hcap : xs.length + 2 ≤ x.2.2 ∧ x.2.2 ≤ maxLen := ⟨(owns_cap hrow.2).2, (owns_cap hrow.2).1⟩
                obtain ⟨A', c', e', _, hLx⟩ := ownsRow_lst hrow.2 (by simp) encS_len
                have eA : A' = some ⟨x.1, 0, none⟩ := by injection e' with e1 _ _; exact e1.symm
                subst eA
                have hwhole := fun q => wholeSample_q x.1 x.2.2 Ai xs.length ci xs (wr.drewN q) (hLx.keep fun _ _ => rfl) hcap.1 (((h2.below H5.out.2.2.2).more H5.out.2.2.2.size).keep fun _ _ => rfl) (by omega)
                obtain ⟨cur, hcur, hcsz⟩ : ∃ cur, wr.heap[x.1]? = some (.cells cur 129 (0, 0)) ∧ cur.size = x.2.2 * 2 := by
                  rcases hrow.2.2 with ⟨h, _⟩ | ⟨_, _, cur, h, _, hh, _, _, hs, _⟩
                  · cases h
                  · cases h; exact ⟨cur, hh, hs⟩
                have hspoil := fun q => spoilSample_any x.1 xs.length x.2.2 cur (wr.drewN q) hcur hcsz (by omega) hcap.2
                have HQ := Lib.hid (show _ ∧ _ ∧ _ from ⟨hwhole, hspoil, hx⟩)
                have i1 : (0 : Int) ≤ (k : Int) := by omega
                have i2 : (k : Int) < (nv : Int) := by omega
                clear hc h1 h2 h3 hxs hx hrow hLx hwhole hspoil hcur hcsz e'
                have hwq := fun q => HQ.out.1 q
                go_wp2_with (go_quiet (first | (go_at_call 20; refine Calls.quiet_of (hwq _))))
                clear hwq
                refine (HQ.out.2.1 nq).mono ?_
                rintro e w3 ⟨rfl, hg3⟩
                have hxx := HQ.out.2.2
                have hty := H5.out.1.typed k x (Nat.le_refl _) hxx
                have hown3 : w3.ownsRow w.heap.size 73 1 (.slice (some ⟨gv, 0, none⟩) nv cv) ls.length (Xs.map valS) :=
                  (show (wr.drewN nq).ownsRow _ _ _ _ _ _ from H5.out.1.own).kept hg3 (apart_of fun b hb e => H5.out.1.alone (Nat.le_refl _) hxx (by rw [hb, e]))
                have hL3 : Lents w3 w.heap.size (k + 1) ls (.slice (some ⟨gv, 0, none⟩) nv cv) Xs := H5.out.1.keep (by omega) hown3 (fun j y hj hy => hg3.block _ (H5.out.1.lt (by omega) hy) (fun e => by
                  injection e with e
                  exact H5.out.1.apart j k y x (by omega) hy hxx e))
                have ha3 : w3.ownsRow w.heap.size 129 2 va R.length (R.flatMap encS) := (show (wr.drewN nq).ownsRow _ _ _ _ _ _ from H5.out.2.1).kept hg3 (apart_of fun b hb e => HD.out.2.1 k x hxx (by rw [hb, e]))
                have hb3 : w3.ownsRow w.heap.size 129 2 vb R.length (R.flatMap encS) := (show (wr.drewN nq).ownsRow _ _ _ _ _ _ from H5.out.2.2.1).kept hg3 (apart_of fun b hb e => HD.out.2.2 k x hxx (by rw [hb, e]))
                have hbl3 : Below w.heap.size w w3 := (below_drewN H5.out.2.2.2 nq).grown hg3 H5.out.2.2.2.size (fun b hb => by injection hb with hb; have := hty.1; omega)
                have H6 := Lib.hid (show _ ∧ _ ∧ _ ∧ _ from ⟨hL3, ha3, hb3, hbl3⟩)
                clear hg3 hxx hty hown3 hL3 ha3 hb3 hbl3 c0 c1
                go_wp2
                go_roundw
                case measure => simp [intOf]; omega
                case rel => exact ⟨k + 1, hlt3, by simp, H6⟩
              · obtain rfl : k = nv := by omega
                have hB5 := H5.out.2.2.2.size
                go_wp2_with fail
                refine (HREF.out _ H5.out.2.2.2).mono ?_
                rintro e w7 ⟨vr, rfl, hor, hb7⟩
                have hsz7 := hb7.size
                have H7 := Lib.hid (show Below w.heap.size w w7 ∧ w7.ownsRow w.heap.size 129 2 va R.length (R.flatMap encS) ∧ w7.ownsRow w.heap.size 129 2 vb R.length (R.flatMap encS) ∧ w7.ownsRow w.heap.size 129 2 vr R.length (R.flatMap encS) from
                  ⟨H5.out.2.2.2.trans (hb7.mono hB5), owns_below H5.out.2.1 hb7, owns_below H5.out.2.2.1 hb7, owns_base hor hB5⟩)
                have HDI := Lib.hid HD.out.1
                clear hor hb7 HREF HD H5 HI hB5
                obtain ⟨Aa, ca, rfl, _, _⟩ := owns_slice H7.out.2.1
                obtain ⟨Ab, cb, rfl, _, _⟩ := owns_slice H7.out.2.2.1
                obtain ⟨Ar, cr, rfl, _, _⟩ := owns_slice H7.out.2.2.2
                obtain ⟨rl, hrl⟩ : ∃ rl, R.length = rl := ⟨_, rfl⟩
                rw [hrl] at hRl
                rw [hrl] at H7 HDI ⊢
                have HRL := Lib.hid hrl
                clear hrl
                go_wp2_with fail
                have hbk : Bk (w7.alloc (.cells nils 64)) w7.heap.size nils := ⟨heap_alloc_new _ _, rfl⟩
                have hb8 : Below w7.heap.size w7 (w7.alloc (.cells nils 64)) := (Below.refl _ _).alloc (Nat.le_refl _) _
                change Calls _ _ _ (w7.alloc (.cells nils 64)) _
                generalize w7.alloc (.cells nils 64) = w8 at hbk hb8 ⊢
                have hsz78 := hb8.size
                have hsz07 := H7.out.1.size
                have H8 := Lib.hid (show _ ∧ _ ∧ _ ∧ _ ∧ _ from ⟨hbk, H7.out.1.trans (hb8.mono hsz07), owns_below H7.out.2.1 hb8, owns_below H7.out.2.2.1 hb8, owns_below H7.out.2.2.2 hb8⟩)
                clear hbk hb8
                refine (bookSamples w7.heap.size w.heap.size 0 nils (.slice none 0 0) Aa rl ca [] w8 H8.out.1 rfl (World.ownsRow_nil _ _ _ _) (by simp [Value.ownBlock]) (by omega) (by omega)).mono ?_
                rintro e w9 ⟨rfl, g9, c9, ho9, hk9, hgr9, hli9⟩
                have hbk8 := H8.out.1.lt
                have hg9 : w8.heap.size ≤ g9 := by
                  rcases hli9 with h | h
                  · cases h
                  · exact h
                have hg9l := (ho9.lt g9 rfl).2
                have hsz89 := hgr9.size
                have hS9 : ∀ k, (k = w7.heap.size ∨ (Value.slice none 0 0).ownBlock = some k) → k = w7.heap.size := fun k h => h.elim id (fun h => by cases h)
                have ha9 := hgr9.owns H8.out.2.2.1 (fun k hk h => by have h1 := hS9 k h; have h2 := (H7.out.2.1.lt k hk).2; omega)
                have hb9 := hgr9.owns H8.out.2.2.2.1 (fun k hk h => by have h1 := hS9 k h; have h2 := (H7.out.2.2.1.lt k hk).2; omega)
                have hr9 := hgr9.owns H8.out.2.2.2.2 (fun k hk h => by have h1 := hS9 k h; have h2 := (H7.out.2.2.2.lt k hk).2; omega)
                have hne9 : g9 ≠ w7.heap.size := by omega
                have hB9 : Below w.heap.size w w9 := H8.out.2.1.trans (hgr9.below (fun k h => by have := hS9 k h; omega) (by omega))
                have H9 := Lib.hid (show _ ∧ _ ∧ _ ∧ _ ∧ _ ∧ _ from ⟨hk9, hB9, ha9, hb9, hr9, ho9⟩)
                clear ha9 hb9 hr9 hgr9 hli9 hk9 ho9 hS9 hB9
                go_wp2_with fail
                refine (bookSamples w7.heap.size w.heap.size 1 _ (.slice (some ⟨g9, 0, none⟩) (0 + 1) c9) Ab rl cb _ w9 H9.out.1 rfl H9.out.2.2.2.2.2 (by simp [Value.ownBlock]; exact hne9) (by omega) (by omega)).mono ?_
                rintro e w10 ⟨rfl, g10, c10, ho10, hk10, hgr10, hli10⟩
                have hsz910 := hgr10.size
                have hg10l := (ho10.lt g10 rfl).2
                have hg10 : w8.heap.size ≤ g10 := by
                  rcases hli10 with h | h
                  · simp [Value.ownBlock] at h; omega
                  · omega
                have hS10 : ∀ k, (k = w7.heap.size ∨ (Value.slice (some ⟨g9, 0, none⟩) (0 + 1) c9).ownBlock = some k) → w7.heap.size ≤ k := fun k h => h.elim (fun h => by omega) (fun h => by simp [Value.ownBlock] at h; omega)
                have ha10 := hgr10.owns H9.out.2.2.1 (fun k hk h => by have h1 := hS10 k h; have h2 := (H7.out.2.1.lt k hk).2; omega)
                have hb10 := hgr10.owns H9.out.2.2.2.1 (fun k hk h => by have h1 := hS10 k h; have h2 := (H7.out.2.2.1.lt k hk).2; omega)
                have hr10 := hgr10.owns H9.out.2.2.2.2.1 (fun k hk h => by have h1 := hS10 k h; have h2 := (H7.out.2.2.2.lt k hk).2; omega)
                have hB10 : Below w.heap.size w w10 := H9.out.2.1.trans (hgr10.below (fun k h => by have := hS10 k h; omega) (by omega))
                have HL10 : Last w w10 w7.heap.size _ (.slice Aa rl ca) (.slice Ab rl cb) (.slice (some ⟨g10, 0, none⟩) 2 c10) (.slice Ar rl cr) R := ⟨hk10, hB10, by rw [HRL.out]; exact ha10, by rw [HRL.out]; exact hb10, by rw [HRL.out]; exact hr10, ho10⟩
                have H10 := Lib.hid HL10
                clear ha10 hb10 hr10 hgr10 hli10 hk10 ho10 hS10 hB10 HL10
                go_wp2_with fail
                refine (known17 _).mono ?_
                rintro e w11 ⟨rfl, hb11⟩
                have H11 := Lib.hid (H10.out.step hb11)
                clear hb11
                go_wp2_with fail
                refine (same_own H11.out.one H11.out.ref (by have := HRL.out; omega) rfl).mono ?_
                rintro e w12 ⟨rfl, hb12⟩
                have H12 := Lib.hid (H11.out.step hb12)
                clear hb12
                go_wp2_with fail
                refine (same_own H12.out.two H12.out.ref (by have := HRL.out; omega) rfl).mono ?_
                rintro e w14 ⟨rfl, hb14⟩
                have H14 := Lib.hid (H12.out.step hb14)
                clear hb14
                go_wp2_with fail
                have hla := fun b (h : (Value.slice Aa rl ca).ownBlock = some b) => (H7.out.2.1.lt b h)
                have hlb := fun b (h : (Value.slice Ab rl cb).ownBlock = some b) => (H7.out.2.2.1.lt b h)
                have hLs : Lists w14 w.heap.size 129 2 g10 2 (two (.slice Aa rl ca) (.slice Ab rl cb)) (fun j => if j = 0 then R.length else R.length) :=
                  lists_two H14.out.one H14.out.two HDI.out (owns_cell H14.out.list (g := g10) rfl rfl) (owns_cell H14.out.list (g := g10) rfl rfl) (fun h => by have := hla _ h; omega) (fun h => by have := hlb _ h; omega)
                have hg10' := (H14.out.list.lt g10 rfl).2
                have hw14 := H14.out.old.size
                refine (bookOwn_Samples w7.heap.size g10 2 c10 (Among 2 (two (.slice Aa rl ca) (.slice Ab rl cb))) w14 _ H14.out.book ?_ ?_ (ownSamples_any w.heap.size g10 2 c10 _ _ w14 hLs hw14 hg10' (by omega) (fun j hj => by have := HRL.out; split <;> omega))).mono ?_
                · intro k hk
                  by_cases h2 : k = 10
                  · subst h2
                    simp [nils]
                  · rw [if_neg h2, Array.getElem?_setIfInBounds, if_neg (fun h => h2 h.symm), Array.getElem?_setIfInBounds, if_neg (fun h => h2 h.symm)]
                    exact nils_at hk
                · rintro ⟨j, hj, h⟩
                  rcases (show j = 0 ∨ j = 1 by omega) with rfl | rfl
                  · have := hla _ h; omega
                  · have := hlb _ h; omega
                · rintro e w15 ⟨rfl, hg15⟩
                  have hB15 : Below w.heap.size w w15 := H14.out.old.trans (hg15.below (by
                    rintro k ⟨j, hj, h⟩
                    rcases (show j = 0 ∨ j = 1 by omega) with rfl | rfl
                    · have := hla _ h; omega
                    · have := hlb _ h; omega) hw14)
                  have HE := Lib.hid hB15
                  clear hg15 hB15 hLs hla hlb
                  go_wp2
                  go_ret
                  exact ⟨rfl, HE.out⟩
      · have hs3' : (3000 : Int) < (s : Int) := by omega
        clear HS htk hsum
        go_wp2
        go_ret
        exact ⟨rfl, Below.refl _ _⟩
end Go.Proofs.Ytglafbfbgjihbaa
