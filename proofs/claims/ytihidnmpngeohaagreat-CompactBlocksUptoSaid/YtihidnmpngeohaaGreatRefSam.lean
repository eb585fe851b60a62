/- The document's answer for samples: a sample at its place; all samples of all lists. -/
import Derived.Test.YtihidnmpngeohaaGreatG07
import Derived.Test.YtihidnmpngeohaaGreatG09
import Derived.Laws.AppendOwnNone
import Derived.BigQuiet
import Derived.Outline
namespace Go.Proofs.YtihidnmpngeohaaGreat
open Go.RowKit Go.Lib

/-- What a function hands back that makes a row of samples of its own. -/
def RowPost (r : List (Int × Int)) (w : World) (e : Ending) (w' : World) : Prop := ∃ v, e = .returned v ∧ w'.ownsRow w.heap.size 95 2 v r.length (r.flatMap encS) ∧ Below w.heap.size w w'
theorem putIn_nil (s : Int × Int) : putIn [] s = [s] := rfl
theorem putIn_same {l : List (Int × Int)} {s x : Int × Int} {k : Nat} (hk : cut l s.1 l.length = k) (hx : l[k]? = some x) (h : x.1 = s.1) : putIn l s = l.take k ++ [s] ++ l.drop (k + 1) := by
  unfold putIn; rw [hk]; simp only [hx, if_pos h, List.append_assoc, List.singleton_append]
theorem putIn_other {l : List (Int × Int)} {s x : Int × Int} {k : Nat} (hk : cut l s.1 l.length = k) (hx : l[k]? = some x) (h : ¬ x.1 = s.1) : putIn l s = l.take k ++ [s] ++ l.drop k := by
  unfold putIn; rw [hk]; simp only [hx, if_neg h, List.append_assoc, List.singleton_append]
theorem putIn_last {l : List (Int × Int)} {s : Int × Int} (hk : cut l s.1 l.length = l.length) : putIn l s = l ++ [s] := by
  unfold putIn; rw [hk]; simp
theorem putIn_len (l : List (Int × Int)) (s : Int × Int) : (putIn l s).length ≤ l.length + 1 := by
  have h := cut_le l s.1 l.length
  obtain ⟨k, hk⟩ : ∃ k, cut l s.1 l.length = k := ⟨_, rfl⟩
  rw [hk] at h
  cases hx : l[k]? with
  | none =>
    have : l.length ≤ k := by simpa using hx
    rw [putIn_last (by omega)]; simp
  | some x =>
    have hkl := (List.getElem?_eq_some_iff.1 hx).1
    by_cases q : x.1 = s.1
    · rw [putIn_same hk hx q]; simp; omega
    · rw [putIn_other hk hx q]; simp; omega
set_option maxHeartbeats 2000000 in
set_option maxRecDepth 100000 in
theorem into_nil (s : Int × Int) (w : World) : Calls Tryz.prog 146 #[.slice none 0 0, .agg #[.int .i64 s.1, .int .u64 s.2]] w (RowPost [s] w) := by
  obtain ⟨i0, hi, hz0, hz1, hz2⟩ := info_parts Tryz.infoSample
  go_enter Tryz.func146, Tryz.ntmps146
  go_wp2
  have hbx := (Below.refl w.heap.size w).alloc (Nat.le_refl _) (.cells #[.int .i64 s.1, .int .u64 s.2] 95)
  have hcx0 : (w.alloc (.cells #[.int .i64 s.1, .int .u64 s.2] 95)).cell? ⟨w.heap.size, 0, none⟩ = some (.int .i64 s.1) := by simp
  have hcx1 : (w.alloc (.cells #[.int .i64 s.1, .int .u64 s.2] 95)).cell? ⟨w.heap.size, 1, none⟩ = some (.int .u64 s.2) := by simp
  have hsx : (w.alloc (.cells #[.int .i64 s.1, .int .u64 s.2] 95)).heap.size = w.heap.size + 1 := by simp
  generalize w.alloc (.cells #[.int .i64 s.1, .int .u64 s.2] 95) = wb at hbx hcx0 hcx1 hsx ⊢
  have HX := Lib.hid (show _ ∧ _ from ⟨hbx, hsx⟩)
  clear hbx hsx
  go_loopw [5] (fun v wr => v = .int .i64 0 ∧ ∃ q, wr = wb.drewN q) (fun _ _ => 0)
  case atStart => exact ⟨rfl, 0, rfl⟩
  case round =>
    obtain ⟨rfl, q, rfl⟩ := hrel
    go_wp2_with (first | go_quiet (fail) | (at_builtin; refine wpList_append_own_none rfl _ _ 90 rfl w.heap.size 95 i0 2 Tryz.underlying90 hi _ 0 [] rfl (World.ownsRow_nil _ _ _ _) rfl ?_) | (at_builtin; refine wpList_append_own _ rfl _ _ 90 rfl w.heap.size 95 i0 _ 2 16 Tryz.underlying90 hi hz0 hz1 hz2 rfl (by omega) _ 0 [] rfl (World.ownsRow_nil _ _ _ _) ⟨wb.heap.size, 0, none⟩ 1 1 (encS s) rfl rfl (fun j u h => cells_newL _ (encS s) _ j u h) (fun u hu => oneSample [s] u (by simpa using hu)) (by unfold maxLen; omega) (by omega) (by have := HX.out.2; simp; omega) ?_))
    intro v2 w2 ho2 hg2 _
    have hb2 : Below w.heap.size w w2 := ((below_drewN HX.out.1 (q + nq)).alloc HX.out.1.size (.cells #[.int .i64 s.1, .int .u64 s.2] 95)).grown hg2 (by have := HX.out.2; simp; omega) (fun _ h => by cases h)
    have d0 : w2.cell? ⟨w.heap.size, 0, none⟩ = some (.int .i64 s.1) := by
      refine (World.cell?_of_block (hg2.block w.heap.size (by have := HX.out.2; simp; omega) (fun h => by cases h))).trans ?_
      rw [World.cell?_alloc_lt _ _ _ (by have := HX.out.2; simp; omega)]
      exact hcx0
    obtain ⟨A2, c2, rfl, _, _⟩ := owns_slice ho2
    have H2 := Lib.hid (show _ ∧ _ from ⟨ho2, hb2⟩)
    clear ho2 hg2 hb2 hcx0 hcx1
    go_wp2_with (first | go_quiet (fail) | (at_builtin; refine wpList_append_own_none rfl _ _ 90 rfl w.heap.size 95 i0 2 Tryz.underlying90 hi _ 1 (encS s) rfl H2.out.1 rfl ?_))
    go_ret
    exact ⟨_, rfl, by rw [List.flatMap_singleton]; exact H2.out.1, below_drewN H2.out.2 _⟩
/-- Does the search go on below k? -/
def goOn (l : List (Int × Int)) (t : Int) : Nat → Bool
  | 0 => false
  | k + 1 => match l[k]? with | some x => decide (t ≤ x.1) | none => false
theorem goOn_at {l : List (Int × Int)} {t : Int} {k : Nat} {x : Int × Int} (hx : l[k]? = some x) : goOn l t (k + 1) = decide (t ≤ x.1) := by rw [goOn, hx]
set_option maxHeartbeats 4000000 in
set_option maxRecDepth 100000 in
theorem into_some (g n c B : Nat) (l : List (Int × Int)) (s : Int × Int) (w : World) (ho : w.ownsRow B 95 2 (.slice (some ⟨g, 0, none⟩) n c) n (l.flatMap encS)) (hn : n ≤ 1000000) :
    Calls Tryz.prog 146 #[.slice (some ⟨g, 0, none⟩) n c, .agg #[.int .i64 s.1, .int .u64 s.2]] w (RowPost (putIn l s) w) := by
  obtain ⟨i0, hi, hz0, hz1, hz2⟩ := info_parts Tryz.infoSample
  have hll := owns_len ho encS_len (by omega)
  have hcap := owns_cap ho
  have hc63 : c ≤ 9223372036854775807 := hcap.1
  have hnc := hcap.2
  have HL := Lib.hid (show _ ∧ _ from ⟨ho, hll⟩)
  clear ho hll hcap
  go_enter Tryz.func146, Tryz.ntmps146
  go_wp2
  have hbx := (Below.refl w.heap.size w).alloc (Nat.le_refl _) (.cells #[.int .i64 s.1, .int .u64 s.2] 95)
  have hcx0 : (w.alloc (.cells #[.int .i64 s.1, .int .u64 s.2] 95)).cell? ⟨w.heap.size, 0, none⟩ = some (.int .i64 s.1) := by simp
  have hcx1 : (w.alloc (.cells #[.int .i64 s.1, .int .u64 s.2] 95)).cell? ⟨w.heap.size, 1, none⟩ = some (.int .u64 s.2) := by simp
  have hsx : (w.alloc (.cells #[.int .i64 s.1, .int .u64 s.2] 95)).heap.size = w.heap.size + 1 := by simp
  have hox := HL.out.1.alloc (.cells #[.int .i64 s.1, .int .u64 s.2] 95)
  generalize w.alloc (.cells #[.int .i64 s.1, .int .u64 s.2] 95) = wb at hbx hcx0 hcx1 hsx hox ⊢
  have HX := Lib.hid (show _ ∧ _ ∧ _ from ⟨hbx, hsx, hox⟩)
  clear hbx hsx hox
  go_loopw [5] (fun v wr => ∃ k q : Nat, k ≤ n ∧ v = .int .i64 k ∧ wr = wb.drewN q ∧ Hid (cut l s.1 l.length = cut l s.1 k)) (fun v _ => (intOf v).toNat)
  case atStart => exact ⟨n, 0, Nat.le_refl _, rfl, rfl, Lib.hid (by rw [HL.out.2])⟩
  case round =>
    obtain ⟨k, q, hk, rfl, rfl, HK⟩ := hrel
    go_upto_region 2 with (fail)
    obtain ⟨bb, hbb⟩ : ∃ bb : Bool, goOn l s.1 k = bb := ⟨_, rfl⟩
    have HBB := Lib.hid hbb
    go_cut [21] from 9 to 23 (fun s21 wc => ∃ q', s21 = .bool bb ∧ wc = wb.drewN q')
    case first =>
      cases k with
      | zero =>
        obtain rfl : bb = false := by rw [← HBB.out]; rfl
        clear hbb
        go_wp2_with (go_quiet (fail))
        go_meet
        exact ⟨_, rfl, World.drewN_drewN _ _ _⟩
      | succ kp =>
        obtain ⟨x, hx⟩ : ∃ x, l[kp]? = some x := ⟨_, List.getElem?_eq_getElem (by have := HL.out.2; omega)⟩
        have d0 : wb.cell? ⟨g, kp * 2, none⟩ = some (.int .i64 x.1) := owns_at HX.out.2.2 encS_len hx (j := 0) rfl
        rw [goOn_at hx] at hbb
        have i1 : (0 : Int) < (kp : Int) + 1 := by omega
        have i2 : (0 : Int) ≤ (kp : Int) := by omega
        have i3 : (kp : Int) < (n : Int) := by omega
        clear hx
        by_cases hge : s.1 ≤ x.1
        · obtain rfl : bb = true := by rw [← hbb]; exact decide_eq_true hge
          clear hbb
          go_wp2_with (go_quiet (fail))
          go_meet
          exact ⟨_, rfl, by first | rfl | exact World.drewN_drewN _ _ _⟩
        · obtain rfl : bb = false := by rw [← hbb]; exact decide_eq_false hge
          clear hbb
          go_wp2_with (go_quiet (fail))
          go_meet
          exact ⟨_, rfl, by first | rfl | exact World.drewN_drewN _ _ _⟩
    case rest =>
      clear hbb
      obtain ⟨q', rfl, rfl⟩ := hcut
      cases bb with
      | true =>
        obtain ⟨x, kp, rfl, hx, hge⟩ : ∃ x kp, k = kp + 1 ∧ l[kp]? = some x ∧ s.1 ≤ x.1 := by
          have h := HBB.out
          cases k with
          | zero => cases h
          | succ kp =>
            obtain ⟨x, hx⟩ : ∃ x, l[kp]? = some x := ⟨_, List.getElem?_eq_getElem (by have := HL.out.2; omega)⟩
            rw [goOn_at hx] at h
            exact ⟨x, kp, rfl, hx, of_decide_eq_true h⟩
        have HK2 : Hid (cut l s.1 l.length = cut l s.1 kp) := Lib.hid (by rw [HK.out, cut_go hx hge])
        clear hx
        go_wp2
        go_roundw
        case measure => simp [intOf]
        case rel => exact ⟨kp, _, by omega, (by first | rfl | go_num), rfl, HK2⟩
      | false =>
        have hcut : cut l s.1 l.length = k := by
          rw [HK.out]
          cases k with
          | zero => rfl
          | succ kp =>
            obtain ⟨x, hx⟩ : ∃ x, l[kp]? = some x := ⟨_, List.getElem?_eq_getElem (by have := HL.out.2; omega)⟩
            have h := HBB.out
            rw [goOn_at hx] at h
            exact cut_stop hx (of_decide_eq_false h)
        have HC := Lib.hid hcut
        clear hcut HK HBB
        have hsrc := (ownsRow_lst HL.out.1 HL.out.2 encS_len)
        obtain ⟨_, _, hv, _, hLs⟩ := hsrc
        cases hv
        have hn1 : ∀ j u, ((l.take k).flatMap encS)[j]? = some u → (wb.drewN q').cell? ((⟨g, 0, none⟩ : Addr).add j) = some u := (((hLs.take hk).below HX.out.1).flat encS_len)
        have HN1 := Lib.hid hn1
        clear hLs hn1
        go_wp2_with (first | go_quiet (fail) | (at_builtin; refine wpList_append_own _ rfl _ _ 90 rfl (w.heap.size + 1) 95 i0 _ 2 16 Tryz.underlying90 hi hz0 hz1 hz2 rfl (by omega) _ 0 [] rfl (World.ownsRow_nil _ _ _ _) ⟨g, 0, none⟩ k c ((l.take k).flatMap encS) rfl (by rw [flatMap_length encS_len, List.length_take]; have := HL.out.2; omega) HN1.out (oneSample _) (by unfold maxLen; omega) (by omega) (by show _ ≤ wb.heap.size; have := HX.out.2.1; omega) ?_))
        intro v1 w1 ho1 hg1 _
        have hb1 : Below (w.heap.size + 1) wb w1 := (below_drewN (Below.refl _ _) q').grown hg1 (by show _ ≤ wb.heap.size; have := HX.out.2.1; omega) (fun _ h => by cases h)
        have hs1 := hb1.size
        have d0 := (hb1.cell (p := ⟨w.heap.size, 0, none⟩) (Nat.lt_succ_self _)).trans hcx0
        have d1 := (hb1.cell (p := ⟨w.heap.size, 1, none⟩) (Nat.lt_succ_self _)).trans hcx1
        have H1 := Lib.hid (show _ ∧ _ from ⟨ho1, hb1⟩)
        have HCX := Lib.hid hcx0
        have hz1' := HX.out.2.1
        clear ho1 hg1 hb1 hcx0 hcx1 HN1
        go_wp2_with (first | go_quiet (fail) | (at_builtin; refine wpList_append_own _ rfl _ _ 90 rfl (w.heap.size + 1) 95 i0 _ 2 16 Tryz.underlying90 hi hz0 hz1 hz2 rfl (by omega) _ k ((l.take k).flatMap encS) rfl (H1.out.1.alloc _) ⟨w1.heap.size, 0, none⟩ 1 1 (encS s) rfl rfl (fun j u h => cells_newL _ (encS s) _ j u h) (fun u hu => oneSample [s] u (by simpa using hu)) (by unfold maxLen; omega) (by omega) (by simp; omega) ?_))
        intro v2 w2 ho2 hg2 _
        have hb2 : Below (w.heap.size + 1) wb w2 := (H1.out.2.alloc (by omega) _).grown hg2 (by simp; omega) (fun b hb => (H1.out.1.lt b hb).1)
        have hs2 := hb2.size
        have d0 := (hb2.cell (p := ⟨w.heap.size, 0, none⟩) (Nat.lt_succ_self _)).trans HCX.out
        obtain ⟨A2, c2, rfl, _, _⟩ := owns_slice ho2
        have hbw : Below w.heap.size w w2 := HX.out.1.trans (hb2.mono (by omega))
        have H2 := Lib.hid (show _ ∧ _ ∧ _ from ⟨ho2, hb2, hbw⟩)
        clear ho2 hg2 hb2 hbw H1 HCX
        by_cases hkn : k < n
        · obtain ⟨x, hx⟩ : ∃ x, l[k]? = some x := ⟨_, List.getElem?_eq_getElem (by have := HL.out.2; omega)⟩
          obtain ⟨_, _, hv, _, hLs⟩ := ownsRow_lst HL.out.1 HL.out.2 encS_len
          cases hv
          have hLs2 := hLs.below H2.out.2.2
          obtain ⟨b, off, y, hab, hbb, hy, hc⟩ := hLs2.at hkn
          cases hab
          obtain rfl : x = y := by rw [hx] at hy; exact Option.some.inj hy
          have e0 := hc 0 _ rfl
          simp only [Nat.zero_add, Nat.add_zero] at e0
          have hsuf : ∀ i, i ≤ n → ∀ j u, ((l.drop i).flatMap encS)[j]? = some u → w2.cell? ((⟨g, i * 2, none⟩ : Addr).add j) = some u := fun i hi j u hu => by
            have h1 := hLs2.flat encS_len (i * 2 + j) u (by
              conv => lhs; rw [← List.take_append_drop i l, List.flatMap_append]
              have hl1 : ((l.take i).flatMap encS).length = i * 2 := by rw [flatMap_length encS_len, List.length_take]; have := HL.out.2; omega
              rw [List.getElem?_append_right (by omega), hl1, Nat.add_sub_cancel_left]; exact hu)
            rw [← h1]
            simp only [Addr.add, Nat.zero_add]
            by_cases q1 : j = 0
            · subst q1; by_cases q2 : i * 2 = 0 <;> simp [q2]
            · have q3 : i * 2 + j ≠ 0 := by omega
              simp [q1, q3]
          have HS := Lib.hid (show _ ∧ _ from ⟨hsuf, hx⟩)
          clear hLs hLs2 hc hy hx hsuf hbb
          by_cases hxs : x.1 = s.1
          · have z1 : (x.1 == s.1) = true := by rw [beq_iff_eq]; exact hxs
            have hput := putIn_same HC.out HS.out.2 hxs
            have HP := Lib.hid hput
            clear hput
            by_cases hck : c = k + 1
            · have HNK := Lib.hid (show n = k + 1 by omega)
              go_wp2_with (first | go_quiet (fail) | (at_builtin; go_loud (refine wpList_append_own _ rfl _ _ 90 rfl (w.heap.size + 1) 95 i0 _ 2 16 Tryz.underlying90 hi hz0 hz1 hz2 rfl (by omega) _ (k + 1) ((l.take k).flatMap encS ++ encS s) rfl H2.out.1 ⟨g, 0, none⟩ (n - (k + 1)) 0 [] (by first | rfl | (show Value.slice _ _ _ = Value.slice _ _ _; simp [hck])) (by have := HNK.out; simp; omega) (fun j u h => by simp at h) (fun u h => by simp at h) (by unfold maxLen; omega) (by omega) (by show _ ≤ w2.heap.size; omega) ?_)))
              intro v3 w3 ho3 hg3 _
              have hb3 := (below_drewN H2.out.2.2 nq).grown hg3 (by show _ ≤ w2.heap.size; omega) (fun b hb => by have := (H2.out.1.lt b hb).1; omega)
              have hl0 : l.drop (k + 1) = [] := List.drop_eq_nil_of_le (by have := HL.out.2; have := HNK.out; omega)
              have hr3 : w3.ownsRow w.heap.size 95 2 v3 (putIn l s).length ((putIn l s).flatMap encS) := by
                rw [HP.out, hl0, List.append_nil, List.length_append, List.length_take, List.flatMap_append, List.flatMap_singleton]
                rw [show min k l.length + [s].length = k + 1 + (n - (k + 1)) by have := HL.out.2; have := HNK.out; simp; omega]
                simpa using owns_base ho3 (Nat.le_succ _)
              have HF := Lib.hid (show _ ∧ _ from ⟨hr3, hb3⟩)
              clear ho3 hg3 hb3 hl0 hr3
              go_wp2
              go_ret
              exact ⟨_, rfl, HF.out.1, HF.out.2⟩
            · go_wp2_with (first | go_quiet (fail) | (at_builtin; go_loud (refine wpList_append_own _ rfl _ _ 90 rfl (w.heap.size + 1) 95 i0 _ 2 16 Tryz.underlying90 hi hz0 hz1 hz2 rfl (by omega) _ (k + 1) ((l.take k).flatMap encS ++ encS s) rfl H2.out.1 ⟨g, (k + 1) * 2, none⟩ (n - (k + 1)) (c - (k + 1)) ((l.drop (k + 1)).flatMap encS) (by first | rfl | (show Value.slice _ _ _ = Value.slice _ _ _; simp [hck])) (by rw [flatMap_length encS_len, List.length_drop]; have := HL.out.2; omega) (HS.out.1 (k + 1) hkn) (oneSample _) (by unfold maxLen; omega) (by omega) (by show _ ≤ w2.heap.size; omega) ?_)))
              intro v3 w3 ho3 hg3 _
              have hb3 := (below_drewN H2.out.2.2 nq).grown hg3 (by show _ ≤ w2.heap.size; omega) (fun b hb => by have := (H2.out.1.lt b hb).1; omega)
              have hr3 : w3.ownsRow w.heap.size 95 2 v3 (putIn l s).length ((putIn l s).flatMap encS) := by
                rw [HP.out, List.length_append, List.length_append, List.length_take, List.length_drop, List.flatMap_append, List.flatMap_append, List.flatMap_singleton]
                rw [show min k l.length + [s].length + (l.length - (k + 1)) = k + 1 + (n - (k + 1)) by have := HL.out.2; simp; omega]
                simpa using owns_base ho3 (Nat.le_succ _)
              have HF := Lib.hid (show _ ∧ _ from ⟨hr3, hb3⟩)
              clear ho3 hg3 hb3 hr3
              go_wp2
              go_ret
              exact ⟨_, rfl, HF.out.1, HF.out.2⟩
          · have z1 : (x.1 == s.1) = false := by rw [beq_eq_false_iff_ne]; exact hxs
            have z2 : decide (x.1 = s.1) = false := decide_eq_false hxs
            have hput := putIn_other HC.out HS.out.2 hxs
            have HP := Lib.hid hput
            have hck : ¬ c = k := by omega
            clear hput
            go_wp2_with (first | go_quiet (fail) | (at_builtin; go_loud (refine wpList_append_own _ rfl _ _ 90 rfl (w.heap.size + 1) 95 i0 _ 2 16 Tryz.underlying90 hi hz0 hz1 hz2 rfl (by omega) _ (k + 1) ((l.take k).flatMap encS ++ encS s) rfl H2.out.1 ⟨g, k * 2, none⟩ (n - k) (c - k) ((l.drop k).flatMap encS) (by first | rfl | (show Value.slice _ _ _ = Value.slice _ _ _; simp [hck])) (by rw [flatMap_length encS_len, List.length_drop]; have := HL.out.2; omega) (HS.out.1 k hk) (oneSample _) (by unfold maxLen; omega) (by omega) (by show _ ≤ w2.heap.size; omega) ?_)))
            intro v3 w3 ho3 hg3 _
            have hb3 := (below_drewN H2.out.2.2 nq).grown hg3 (by show _ ≤ w2.heap.size; omega) (fun b hb => by have := (H2.out.1.lt b hb).1; omega)
            have hr3 : w3.ownsRow w.heap.size 95 2 v3 (putIn l s).length ((putIn l s).flatMap encS) := by
              rw [HP.out, List.length_append, List.length_append, List.length_take, List.length_drop, List.flatMap_append, List.flatMap_append, List.flatMap_singleton]
              rw [show min k l.length + [s].length + (l.length - k) = k + 1 + (n - k) by have := HL.out.2; simp; omega]
              simpa using owns_base ho3 (Nat.le_succ _)
            have HF := Lib.hid (show _ ∧ _ from ⟨hr3, hb3⟩)
            clear ho3 hg3 hb3 hr3
            go_wp2
            go_ret
            exact ⟨_, rfl, HF.out.1, HF.out.2⟩
        · obtain rfl : k = n := by omega
          have hput := putIn_last (l := l) (s := s) (by rw [HC.out, HL.out.2])
          have hlk : l.take k = l := List.take_of_length_le (by have := HL.out.2; omega)
          have HP := Lib.hid (show _ ∧ _ from ⟨hput, hlk⟩)
          clear hput hlk
          by_cases hck : c = k
          · go_wp2_with (first | go_quiet (fail) | (at_builtin; go_loud (refine wpList_append_own _ rfl _ _ 90 rfl (w.heap.size + 1) 95 i0 _ 2 16 Tryz.underlying90 hi hz0 hz1 hz2 rfl (by omega) _ (k + 1) ((l.take k).flatMap encS ++ encS s) rfl H2.out.1 ⟨g, 0, none⟩ 0 0 [] (by first | rfl | (show Value.slice _ _ _ = Value.slice _ _ _; simp [hck])) rfl (fun j u h => by simp at h) (fun u h => by simp at h) (by unfold maxLen; omega) (by omega) (by show _ ≤ w2.heap.size; omega) ?_)))
            intro v3 w3 ho3 hg3 _
            have hb3 := (below_drewN H2.out.2.2 nq).grown hg3 (by show _ ≤ w2.heap.size; omega) (fun b hb => by have := (H2.out.1.lt b hb).1; omega)
            have hr3 : w3.ownsRow w.heap.size 95 2 v3 (putIn l s).length ((putIn l s).flatMap encS) := by
              have h := owns_base ho3 (Nat.le_succ _)
              rw [HP.out.2] at h
              rw [HP.out.1, List.length_append, List.flatMap_append, List.flatMap_singleton]
              rw [show l.length + [s].length = k + 1 + 0 by have := HL.out.2; simp; omega]
              simpa using h
            have HF := Lib.hid (show _ ∧ _ from ⟨hr3, hb3⟩)
            clear ho3 hg3 hb3 hr3
            go_wp2
            go_ret
            exact ⟨_, rfl, HF.out.1, HF.out.2⟩
          · go_wp2_with (first | go_quiet (fail) | (at_builtin; go_loud (refine wpList_append_own _ rfl _ _ 90 rfl (w.heap.size + 1) 95 i0 _ 2 16 Tryz.underlying90 hi hz0 hz1 hz2 rfl (by omega) _ (k + 1) ((l.take k).flatMap encS ++ encS s) rfl H2.out.1 ⟨g, k * 2, none⟩ 0 (c - k) [] (by first | rfl | (show Value.slice _ _ _ = Value.slice _ _ _; simp [hck])) rfl (fun j u h => by simp at h) (fun u h => by simp at h) (by unfold maxLen; omega) (by omega) (by show _ ≤ w2.heap.size; omega) ?_)))
            intro v3 w3 ho3 hg3 _
            have hb3 := (below_drewN H2.out.2.2 nq).grown hg3 (by show _ ≤ w2.heap.size; omega) (fun b hb => by have := (H2.out.1.lt b hb).1; omega)
            have hr3 : w3.ownsRow w.heap.size 95 2 v3 (putIn l s).length ((putIn l s).flatMap encS) := by
              have h := owns_base ho3 (Nat.le_succ _)
              rw [HP.out.2] at h
              rw [HP.out.1, List.length_append, List.flatMap_append, List.flatMap_singleton]
              rw [show l.length + [s].length = k + 1 + 0 by have := HL.out.2; simp; omega]
              simpa using h
            have HF := Lib.hid (show _ ∧ _ from ⟨hr3, hb3⟩)
            clear ho3 hg3 hb3 hr3
            go_wp2
            go_ret
            exact ⟨_, rfl, HF.out.1, HF.out.2⟩
end Go.Proofs.YtihidnmpngeohaaGreat
