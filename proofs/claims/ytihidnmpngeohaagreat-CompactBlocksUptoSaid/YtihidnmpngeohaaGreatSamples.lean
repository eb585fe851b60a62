/- merge.Samples. -/
import Derived.Test.YtihidnmpngeohaaGreatG09
namespace Go.Proofs.YtihidnmpngeohaaGreat
open Go.RowKit Go.Lib

theorem grownBy_drewN {a w : World} {r : Option Nat} (h : a.grownBy w r) (n : Nat) : a.grownBy (w.drewN n) r := ⟨h.os, h.tape, h.output, h.size, h.block⟩
/-- At the second loop's head. -/
def LoopTwo (w0 w2 : World) (qb g : Nat) (all : List Tg) (v : Value) (wr : World) : Prop :=
  ∃ (P : List Tg) (ss : List Src) (qv : Value) (l : List It), Line wr w0.heap.size w2.heap.size qb qv l ss ∧ P ++ sortT (ss.flatMap Src.flow) = sortT all ∧ (ss.flatMap Src.flow).length ≤ g ∧
    wr.ownsRow w2.heap.size 95 2 v (collapse P).length ((collapse P).flatMap encS) ∧ Below w0.heap.size w0 wr ∧ w2.heap.size ≤ wr.heap.size
/-- What merge.Samples hands back. -/
def SamplesPost (all : List Tg) (w : World) (e : Ending) (w' : World) : Prop :=
  ∃ v, e = .returned v ∧ w'.ownsRow w.heap.size 95 2 v (collapse (sortT all)).length ((collapse (sortT all)).flatMap encS) ∧ Below w.heap.size w w'
/-- What slices.SortStableFunc leaves at a row of samples. -/
def StablePost (B n : Nat) (A : Option Addr) (c : Nat) (l : List (Int × Int)) (w : World) (e : Ending) (w' : World) : Prop :=
  e = .returned (.tuple #[]) ∧ w'.ownsRow B 95 2 (.slice A n c) n ((sortS l).flatMap encS) ∧ w.grownBy w' (Value.slice A n c).ownBlock
def SortsStable (m : Nat) : Prop := ∀ (A : Option Addr) (n c : Nat) (l : List (Int × Int)) (w : World) (B : Nat), w.ownsRow B 95 2 (.slice A n c) n (l.flatMap encS) → n ≤ m →
  Calls Tryz.prog 103 #[.slice A n c, .func (.func 104) #[] #[]] w (StablePost B n A c l w)
set_option maxHeartbeats 4000000 in
set_option maxRecDepth 100000 in
theorem samples_any (m : Nat) (hstab : SortsStable m) (A : Option Addr) (n c : Nat) (ls : List (List (Int × Int))) (w : World) (hls : Lls w w.heap.size A n ls) (hm : ∀ xs ∈ ls, xs.length ≤ m) (hm2 : m ≤ 100000) (hn : n ≤ 100000) (hall : (tagAll 0 ls).length ≤ 100000) :
    Calls Tryz.prog 39 #[.slice A n c] w (SamplesPost (tagAll 0 ls) w) := by
  have HL := Lib.hid (show _ ∧ _ from ⟨hls, hm⟩)
  have HST := Lib.hid hstab
  clear hls hm hstab
  obtain ⟨all, hal⟩ : ∃ all, tagAll 0 ls = all := ⟨_, rfl⟩
  rw [hal] at hall ⊢
  have HAL := Lib.hid hal
  clear hal
  go_enter Tryz.func39, Tryz.ntmps39
  go_wp2
  go_loopw [4, 5, 6, 7, 8, 18] (fun _ _ _ _ _ i wr => ∃ k : Nat, k ≤ n ∧ i = .int .i64 k ∧ Below w.heap.size w wr ∧ w.heap.size + 2 ≤ wr.heap.size ∧
    Hid (∃ (ss : List Src) (qv : Value) (l : List It), Line wr w.heap.size wr.heap.size (w.heap.size + 1) qv l ss ∧ (ss.flatMap Src.flow).Perm (tagAll 0 (ls.take k)) ∧ (∀ s ∈ ss, s.it.rank < (k : Int)) ∧ ss.length ≤ k)) (fun _ _ _ _ _ i _ => n - (intOf i).toNat)
  case atStart =>
    refine ⟨0, Nat.zero_le _, rfl, ((Below.refl _ _).alloc (Nat.le_refl _) _).alloc (by simp) _, by simp, Lib.hid ⟨[], _, [], ⟨⟨by have h := heap_alloc_new (w.alloc (.cells #[] 172)) (.cells #[.slice (some ⟨w.heap.size, 0, none⟩) 0 0] 162); simpa using h, ?_, by omega⟩, List.Perm.refl _, fun i x y _ h => by simp at h, fun s h => by simp at h, fun s h => by simp at h, List.nodup_nil, List.nodup_nil⟩, by simp [tagAll], fun s h => by simp at h, Nat.le_refl _⟩⟩
    exact (World.ownsRow_made w #[] 0 (Nat.le_refl _) (Nat.zero_le _) (by simp)).alloc _
  case round =>
    obtain ⟨k, hk, rfl, hbl, hsz, HR⟩ := hrel
    by_cases hlt : k < n
    · obtain ⟨xs, hxs⟩ : ∃ xs, ls[k]? = some xs := ⟨_, List.getElem?_eq_getElem (by have := HL.out.1.1; omega)⟩
      obtain ⟨b, off, rfl, hb, hc⟩ := HL.out.1.2 (by omega)
      obtain ⟨Ak, ck, h1, h2, h3⟩ := hc k xs hxs
      have c0 := (hbl.cell (p := ⟨b, off + k, none⟩) hb).trans h1
      have hxm := HL.out.2 xs (List.mem_of_getElem? hxs)
      have hcl := cloneSample Ak xs.length ck xs wr ((h2.below hbl).more hbl.size) h3 (by omega)
      have HX := Lib.hid (show _ ∧ _ from ⟨hxs, hcl⟩)
      clear hc h1 h2 h3 hxs hcl
      go_wp2_with fail
      refine HX.out.2.mono ?_
      rintro e w1 ⟨v1, rfl, ho1, hb1⟩
      obtain ⟨A1, c1, rfl, hnc1, _⟩ := owns_slice ho1
      have hsz1 := hb1.size
      have H1 := Lib.hid (show _ ∧ _ from ⟨ho1, hb1⟩)
      clear ho1 hb1 c0
      go_wp2_with fail
      have hcb : (w1.alloc (.cells #[.slice A1 xs.length c1, .int .i64 (k : Int)] 165)).heap[w1.heap.size]? = some (.cells #[.slice A1 xs.length c1, .int .i64 (k : Int)] 165 (0, 0)) := heap_alloc_new w1 _
      have hb2 : Below wr.heap.size wr (w1.alloc (.cells #[.slice A1 xs.length c1, .int .i64 (k : Int)] 165)) := H1.out.2.alloc hsz1 _
      have ho2 := H1.out.1.alloc (.cells #[.slice A1 xs.length c1, .int .i64 (k : Int)] 165)
      have hs2 : (w1.alloc (.cells #[.slice A1 xs.length c1, .int .i64 (k : Int)] 165)).heap.size = w1.heap.size + 1 := by simp
      generalize w1.alloc (.cells #[.slice A1 xs.length c1, .int .i64 (k : Int)] 165) = wa at hcb hb2 ho2 hs2 ⊢
      have hstc := HST.out A1 xs.length c1 xs wa wr.heap.size ho2 hxm
      refine hstc.mono ?_
      rintro e w3 ⟨rfl, ho3, hg3⟩
      have hrow := OutRow.of_own ho2
      have hcb3 : w3.heap[w1.heap.size]? = some (.cells #[.slice A1 xs.length c1, .int .i64 (k : Int)] 165 (0, 0)) := by
        refine (hg3.block w1.heap.size (by omega) (fun e => ?_)).trans hcb
        obtain ⟨_, cs, fz, h'⟩ := hrow _ e.symm
        rw [hcb] at h'
        injection h' with h'
        injection h' with _ h'
        revert h'; decide
      have hs3 := hg3.size
      obtain ⟨ss, qv, l, hLine, hperm, hrk, hsl⟩ := HR.out
      have hL3 := (hLine.below hb2).out hg3 hrow
      have hbx3 : Below w.heap.size w w3 := (hbl.trans (hb2.mono hbl.size)).grown hg3 (by have := hbl.size; omega) (fun g hg => by have := (hrow g hg).1; have := hbl.size; omega)
      have hC3 : ∀ U, w3.heap.size ≤ U → Cur w3 w.heap.size U w1.heap.size k (sortS xs) := fun U hU => by
        have hl3 := sortS_length xs
        exact cur_new (by have := hbl.size; omega) hcb3 ho3 hU
      have hcur : ∀ s ∈ ss, s.it.cur < wr.heap.size := fun s hs => (hLine.curs s hs).lt
      have d0 : w3.cell? ⟨w1.heap.size, 0, none⟩ = some (.slice A1 xs.length c1) := by rw [cell_of_row w3 _ 0 _ _ _ hcb3]; rfl
      have H3 := Lib.hid (show _ ∧ _ ∧ _ ∧ _ ∧ _ ∧ _ ∧ _ from ⟨hL3, hperm, hrk, hsl, hbx3, hC3, hcur⟩)
      clear hcb hb2 ho2 hstc ho3 hg3 hrow hcb3 hLine hL3 hperm hrk hsl hbx3 hC3 hcur
      go_wp2_with fail
      cases hso : sortS xs with
      | nil =>
        have HSO := Lib.hid hso
        clear hso
        have hN : Cur w3 w.heap.size w3.heap.size w1.heap.size k [] := by rw [← HSO.out]; exact H3.out.2.2.2.2.2.1 _ (Nat.le_refl _)
        refine (next_none _ _ _ _ _ hN).mono ?_
        rintro e w4 ⟨rfl, hb4⟩
        have hb5 : Below w3.heap.size w3 (w4.alloc (.cells #[.int .i64 0, .int .u64 0] 95)) := hb4.alloc hb4.size _
        have HE : Hid (Below w.heap.size w (w4.alloc (.cells #[.int .i64 0, .int .u64 0] 95)) ∧ w.heap.size + 2 ≤ (w4.alloc (.cells #[.int .i64 0, .int .u64 0] 95)).heap.size ∧
            ∃ (ss : List Src) (qv : Value) (l : List It), Line (w4.alloc (.cells #[.int .i64 0, .int .u64 0] 95)) w.heap.size (w4.alloc (.cells #[.int .i64 0, .int .u64 0] 95)).heap.size (w.heap.size + 1) qv l ss ∧ (ss.flatMap Src.flow).Perm (tagAll 0 (ls.take (k + 1))) ∧ (∀ s ∈ ss, s.it.rank < ((k + 1 : Nat) : Int)) ∧ ss.length ≤ k + 1) := by
          refine Lib.hid ⟨H3.out.2.2.2.2.1.trans (hb5.mono H3.out.2.2.2.2.1.size), by have := hb5.size; omega, ss, qv, l, (H3.out.1.below hb5).mono (by have := hb5.size; omega), ?_, fun s hs => by have := H3.out.2.2.1 s hs; omega, Nat.le_succ_of_le H3.out.2.2.2.1⟩
          rw [tagAll_take HX.out.1, HSO.out]
          simpa [tagsFrom] using H3.out.2.1
        clear hb4 hb5 hN d0
        go_wp2_with fail
        go_roundw
        case measure => simp [intOf]; omega
        case rel => exact ⟨k + 1, hlt, by simp, HE.out.1, HE.out.2.1, Lib.hid HE.out.2.2⟩
      | cons y r =>
        have HSO := Lib.hid hso
        clear hso
        have hN : Cur w3 w.heap.size w3.heap.size w1.heap.size k (y :: r) := by rw [← HSO.out]; exact H3.out.2.2.2.2.2.1 _ (Nat.le_refl _)
        refine (next_some _ _ _ _ _ _ _ hN).mono ?_
        rintro e w4 ⟨rfl, hc4, hg4⟩
        have hty := hN.type
        have hL4 := H3.out.1.next hg4 hty (fun s hs e => by have := H3.out.2.2.2.2.2.2 s hs; omega)
        have hbx4 := H3.out.2.2.2.2.1.grown hg4 H3.out.2.2.2.2.1.size (fun g hg => by injection hg with hg; have := hbl.size; omega)
        have hs4 := hg4.size
        have H4 := Lib.hid (show _ ∧ _ ∧ _ from ⟨hc4, hL4, hbx4⟩)
        clear hN hc4 hg4 hty hL4 hbx4 d0
        go_wp2_with fail
        have hb5 : Below w4.heap.size w4 (w4.alloc (.cells #[.int .i64 y.1, .int .u64 y.2] 95)) := (Below.refl _ _).alloc (Nat.le_refl _) _
        have hL5 := H4.out.2.1.below hb5
        have hC5 : Cur (w4.alloc (.cells #[.int .i64 y.1, .int .u64 y.2] 95)) w.heap.size w3.heap.size w1.heap.size k r := H4.out.1.out (r := none) (World.grownBy_alloc _ _ _) (fun g hg => by cases hg)
        have hbx5 := H4.out.2.2.trans (hb5.mono H4.out.2.2.size)
        have hs5 := hb5.size
        have hlm : l.length < 1000000 := by
          have h1 := H3.out.1.perm.length_eq
          have h2 := H3.out.2.2.2.1
          simp only [List.length_map] at h1
          omega
        have hpush := heapPush w.heap.size (w.heap.size + 1) qv l ⟨y.1, y.2, k, w1.heap.size⟩ _ hL5.queue hlm hbx5.size hL5.heap
        unfold It.boxed at hpush
        refine hpush.mono ?_
        rintro e w8 ⟨rfl, qv8, l8, hq8, hp8, hh8, hk8⟩
        have hs8 := hk8.size
        have hri : Rises (y :: r) := by rw [← HSO.out]; exact sortS_rises xs
        have HE : Hid (Below w.heap.size w w8 ∧ w.heap.size + 2 ≤ w8.heap.size ∧
            ∃ (ss : List Src) (qv : Value) (l : List It), Line w8 w.heap.size w8.heap.size (w.heap.size + 1) qv l ss ∧ (ss.flatMap Src.flow).Perm (tagAll 0 (ls.take (k + 1))) ∧ (∀ s ∈ ss, s.it.rank < ((k + 1 : Nat) : Int)) ∧ ss.length ≤ k + 1) := by
          refine Lib.hid ⟨hbx5.trans ⟨hk8.os, hk8.tape, hk8.output, hk8.size, fun b hb => hk8.block b (by have := hbx5.size; omega) (.inl hb)⟩, by have := hbx5.size; omega, ⟨⟨y.1, y.2, k, w1.heap.size⟩, 0, r⟩ :: ss, qv8, l8, ?_, ?_, ?_, ?_⟩
          · exact ((hL5.mono (by omega : wr.heap.size ≤ w3.heap.size)).push (s := ⟨⟨y.1, y.2, k, w1.heap.size⟩, 0, r⟩) hC5 hri (fun u hu e => by have := H3.out.2.2.2.2.2.2 u hu; simp at e; omega) (fun u hu e => by have := H3.out.2.2.1 u hu; simp at e; omega) hq8 hp8 hh8 hk8).mono (by omega)
          · rw [tagAll_take HX.out.1, HSO.out, List.flatMap_cons]
            exact List.perm_append_comm.trans (H3.out.2.1.append_right _)
          · intro s hs
            rcases List.mem_cons.1 hs with rfl | hs
            · simp; omega
            · have := H3.out.2.2.1 s hs; omega
          · have := H3.out.2.2.2.1; simp; omega
        clear hpush hb5 hL5 hC5 hbx5 hq8 hp8 hh8 hk8 hri
        go_wp2_with fail
        go_roundw
        case measure => simp [intOf]; omega
        case rel => exact ⟨k + 1, hlt, by simp, HE.out.1, HE.out.2.1, Lib.hid HE.out.2.2⟩
    · obtain rfl : k = n := by omega
      have hL0 : ∃ (ss : List Src) (qv : Value) (l : List It), Line wr w.heap.size wr.heap.size (w.heap.size + 1) qv l ss ∧ (ss.flatMap Src.flow).Perm all := by
        obtain ⟨ss, qv, l, h1, h2, _⟩ := HR.out
        refine ⟨ss, qv, l, h1, ?_⟩
        rw [List.take_of_length_le (by have := HL.out.1.1; omega), HAL.out] at h2
        exact h2
      clear hsz
      obtain ⟨w2, rfl⟩ : ∃ w2 : World, w2 = wr := ⟨_, rfl⟩
      obtain ⟨qb, hqb⟩ : ∃ qb, w.heap.size + 1 = qb := ⟨_, rfl⟩
      rw [hqb] at hL0
      have HQB := Lib.hid hqb
      have HL0 := Lib.hid hL0
      have hw02 := hbl.size
      clear hL0
      go_wp2
      rw [hqb]
      clear hqb
      go_loopg [9, 10, 11, 12, 13] all.length (fun gg v _ _ _ _ wz => Hid (LoopTwo w w2 qb gg all v wz))
      case atStart =>
        obtain ⟨ss, qv, l, h1, h2⟩ := HL0.out
        exact Lib.hid ⟨[], ss, qv, l, h1, by rw [List.nil_append]; exact sortT_congr h2, by rw [h2.length_eq]; exact Nat.le_refl _, World.ownsRow_nil _ _ _ _, hbl, Nat.le_refl _⟩
      case round =>
        clear hbl
        obtain ⟨P, ss, qv, l, hLine, hP, hfl, hout, hbl, hsz⟩ := hrel.out
        have hq0 := hLine.queue.cell
        have H := Lib.hid (show _ ∧ _ ∧ _ ∧ _ ∧ _ from ⟨hLine, hP, hfl, hout, hbl⟩)
        have hPl : (collapse P).length ≤ 100000 := by
          have h1 := collapse_len P
          have h2 := congrArg List.length hP
          rw [List.length_append, (sortT_perm all).length_eq] at h2
          omega
        clear hLine hP hout hbl hrel
        obtain ⟨Ao, co, rfl, hco, _⟩ := owns_slice H.out.2.2.2.1
        by_cases hs : l = []
        · subst hs
          have hss : ss = [] := by
            have := H.out.1.perm.length_eq
            simpa using this.symm
          subst hss
          have hPa : P = sortT all := by
            have := H.out.2.1
            rw [List.flatMap_nil, show sortT [] = [] by simp [sortT], List.append_nil] at this
            exact this
          subst hPa
          go_wp2_with fail
          refine (H.out.1.queue.len _).mono ?_
          rintro e w' ⟨rfl, rfl⟩
          rw [show (([] : List It).length : Int) = 0 from rfl]
          go_wp2_with fail
          go_ret
          exact ⟨_, rfl, owns_base H.out.2.2.2.1 hw02, H.out.2.2.2.2⟩
        · obtain ⟨x, hx⟩ : ∃ x, l[0]? = some x := ⟨_, List.getElem?_eq_getElem (List.length_pos_iff.2 hs)⟩
          have hll : 0 < (l.length : Int) := by have := List.length_pos_iff.2 hs; omega
          have hlm : l.length ≤ 100000 := by
            have h1 := H.out.1.perm.length_eq
            have h3 : ∀ ss : List Src, ss.length ≤ (ss.flatMap Src.flow).length := by
              intro ss
              induction ss with
              | nil => simp
              | cons s ss ih => rw [List.flatMap_cons, List.length_append, List.length_cons]; simp only [Src.flow, List.length_cons]; omega
            have h4 := h3 ss
            have h5 := congrArg List.length H.out.2.1
            rw [List.length_append, (sortT_perm _).length_eq, (sortT_perm _).length_eq] at h5
            simp only [List.length_map] at h1
            omega
          have HX := Lib.hid hx
          clear hx hs
          go_wp2_with fail
          refine (H.out.1.queue.len _).mono ?_
          rintro e w' ⟨rfl, hw'⟩
          subst hw'
          go_wp2_with fail
          refine (heapPop w.heap.size qb qv l x _ H.out.1.queue (by omega) HX.out H.out.1.heap).mono ?_
          rintro e w1 ⟨rfl, qv1, l1, hq1, hp1, hh1, hk1⟩
          obtain ⟨s, ss', hsx, hperm, hL1, hc1, hok, hne, hnr, hsort⟩ := H.out.1.pop HX.out hq1 hp1 hh1 hk1
          have hbx1 : Below w.heap.size w w1 := H.out.2.2.2.2.trans ⟨hk1.os, hk1.tape, hk1.output, hk1.size, fun k hk => hk1.block k (by have := H.out.2.2.2.2.size; omega) (.inl hk)⟩
          have ho1 := hk1.owns H.out.2.2.2.1 QT.sample
          have hP1 : P ++ s.tg :: sortT (tagsFrom x.rank (s.i + 1) s.rest ++ ss'.flatMap Src.flow) = sortT all := by rw [← hsort]; exact H.out.2.1
          have hsz1 := hk1.size
          have hfl1 : s.rest.length + (ss'.flatMap Src.flow).length + 1 ≤ gk := by have h1 := flow_length hperm; have h2 := H.out.2.2.1; omega
          have hU1 : w2.heap.size ≤ w1.heap.size := Nat.le_trans hsz hsz1
          have H1 := Lib.hid (show _ ∧ _ ∧ _ ∧ _ ∧ _ ∧ _ ∧ _ ∧ _ ∧ _ from ⟨hL1, hc1, hok, hne, hnr, hP1, ho1, hbx1, hsx⟩)
          have hl1m : l1.length < 1000000 := by have := hp1.length_eq; rw [List.length_append, List.length_singleton] at this; omega
          have hta := Tryz.assertItem
          clear hL1 hc1 hok hne hnr hP1 ho1 hbx1 hsx hsort hperm hk1 hq1 hp1 hh1
          obtain ⟨o, hop⟩ : ∃ o, collapse P = o := ⟨_, rfl⟩
          rw [hop] at hPl ⊢
          have HO := Lib.hid hop
          clear hop
          unfold It.boxed
          rcases (show o = [] ∨ ∃ o' y, o = o' ++ [y] by
            rcases List.eq_nil_or_concat o with h | ⟨o', y, h⟩
            · exact .inl h
            · exact .inr ⟨o', y, by rw [h, List.concat_eq_append]⟩) with rfl | ⟨o', y, rfl⟩
          · obtain ⟨i0, hi, hz0, hz1, hz2⟩ := info_parts Tryz.infoSample
            have ho1 := H1.out.2.2.2.2.2.2.1
            rw [HO.out] at ho1
            have HO1 := Lib.hid ho1
            clear ho1
            go_wp2_with (first | go_quiet (fail) | (at_builtin; refine wpList_append_own _ rfl _ _ 90 rfl w2.heap.size 95 i0 _ 2 16 Tryz.underlying90 hi hz0 hz1 hz2 rfl (by omega) _ 0 [] rfl (by exact (HO1.out.alloc _).alloc _) ⟨w1.heap.size + 1, 0, none⟩ 1 1 (encS (x.t, x.v)) rfl rfl ?c1 ?c2 (by unfold maxLen; omega) (by omega) ?c3 ?_))
            case c1 => first | exact cells_at _ (by simp) (encS (x.t, x.v)) _ | exact fun j u h => h
            case c2 => exact fun u hu => by simp only [encS, List.mem_cons, List.not_mem_nil, or_false] at hu; rcases hu with rfl | rfl <;> rfl
            case c3 => first | (simp; omega) | omega
            intro v5 w5 hown5 hg5 _
            have hg15 : w1.grownBy w5 (Value.slice Ao 0 co).ownBlock := by
              refine ⟨hg5.os, hg5.tape, hg5.output, by have := hg5.size; simp at this; omega, fun b hb hn => ?_⟩
              refine (hg5.block b (by simp; omega) hn).trans ?_
              rw [Below.heap_alloc _ _ _ (by simp; omega)]
              exact Below.heap_alloc _ _ _ hb
            have hr : OutRow w1 w2.heap.size (Value.slice Ao 0 co).ownBlock := OutRow.of_own HO1.out
            have hbox5 : w5.heap[w1.heap.size]? = some (.cells #[.int .i64 x.t, .int .u64 x.v, .int .i64 x.rank, .func (.func 105) #[.pointer (some ⟨x.cur, 0, none⟩)] #[]] 172 (0, 0)) := by
              refine (hg5.block w1.heap.size (by simp; omega) (fun e => ?_)).trans ?_
              · have := (HO1.out.lt _ e.symm).2; omega
              · rw [Below.heap_alloc _ _ _ (by simp)]
                exact heap_alloc_new w1 _
            have hown5 : w5.ownsRow w2.heap.size 95 2 v5 (outStep (collapse P) (x.t, x.v)).length ((outStep (collapse P) (x.t, x.v)).flatMap encS) := by
              rw [HO.out, outStep_nil]; simpa using hown5
            clear hi hz0 hz1 hz2 hg5
            have hsz5 := hg15.size
            have hl5 := H1.out.1.out hg15 hr
            have hc5 := H1.out.2.1.out hg15 hr
            have hb5 : Below w.heap.size w w5 := H1.out.2.2.2.2.2.2.2.1.grown hg15 H1.out.2.2.2.2.2.2.2.1.size (fun g hg => Nat.le_trans hw02 (hr g hg).1)
            have hxlt := H1.out.2.1.lt
            have b0 : w5.cell? ⟨w1.heap.size, 0, none⟩ = some (.int .i64 x.t) := by rw [cell_of_row w5 _ 0 _ _ _ hbox5]; rfl
            have b1 : w5.cell? ⟨w1.heap.size, 1, none⟩ = some (.int .u64 x.v) := by rw [cell_of_row w5 _ 1 _ _ _ hbox5]; rfl
            have b2 : w5.cell? ⟨w1.heap.size, 2, none⟩ = some (.int .i64 x.rank) := by rw [cell_of_row w5 _ 2 _ _ _ hbox5]; rfl
            have b3 : w5.cell? ⟨w1.heap.size, 3, none⟩ = some (.func (.func 105) #[.pointer (some ⟨x.cur, 0, none⟩)] #[]) := by rw [cell_of_row w5 _ 3 _ _ _ hbox5]; rfl
            have hb1lt : w1.heap.size < w5.heap.size := (Array.getElem?_eq_some_iff.1 hbox5).1
            have hcol : collapse (P ++ [s.tg]) = outStep (collapse P) (x.t, x.v) := by rw [collapse_snoc]; unfold Src.tg; rw [H1.out.2.2.2.2.2.2.2.2]
            have H5 := Lib.hid (show _ ∧ _ ∧ _ ∧ _ ∧ _ ∧ _ from ⟨hl5, hc5, hown5, hb5, hcol, hbox5⟩)
            clear hg15 hr hbox5 hown5 hl5 hc5 hb5 hcol
            go_wp2_with fail
            cases hrest : s.rest with
            | nil =>
              have HN := Lib.hid (show Cur w5 w.heap.size w2.heap.size x.cur x.rank [] by rw [← hrest]; exact H5.out.2.1)
              have HRS := Lib.hid hrest
              clear hrest
              refine (next_none _ _ _ _ _ HN.out).mono ?_
              rintro e w6 ⟨rfl, hb6⟩
              have hend : LoopTwo w w2 qb (gk - 1) all v5 (w6.alloc (.cells #[.int .i64 0, .int .u64 0] 95)) := by
                have hb7 : Below w5.heap.size w5 (w6.alloc (.cells #[.int .i64 0, .int .u64 0] 95)) := hb6.alloc hb6.size _
                have hb7g : w5.grownBy (w6.alloc (.cells #[.int .i64 0, .int .u64 0] 95)) none := ⟨hb7.os, hb7.tape, hb7.output, hb7.size, fun k hk _ => hb7.block k hk⟩
                refine ⟨P ++ [s.tg], ss', qv1, l1, H5.out.1.out hb7g (fun g hg => by cases hg), ?_, ?_, ?_, H5.out.2.2.2.1.trans (hb7.mono H5.out.2.2.2.1.size), by have := hb7.size; omega⟩
                · have h1 := H1.out.2.2.2.2.2.1
                  rw [HRS.out] at h1
                  simpa [tagsFrom] using h1
                · have h1 := hfl1; rw [HRS.out] at h1; simp at h1; omega
                · rw [H5.out.2.2.2.2.1]; exact owns_below H5.out.2.2.1 hb7
              have HE := Lib.hid hend
              have hgk : gk - 1 < gk := by omega
              clear hend hb6 HN b0 b1 b2 b3
              go_wp2_with fail
              go_roundg (gk - 1)
              case measure => omega
              case rel => exact HE
            | cons y r =>
              have HN := Lib.hid (show Cur w5 w.heap.size w2.heap.size x.cur x.rank (y :: r) by rw [← hrest]; exact H5.out.2.1)
              have HRS := Lib.hid hrest
              clear hrest
              refine (next_some _ _ _ _ _ _ _ HN.out).mono ?_
              rintro e w6 ⟨rfl, hc6, hg6⟩
              have hty := HN.out.type
              have hl6 := H5.out.1.next hg6 hty H1.out.2.2.2.1
              have ho6 := owns_next H5.out.2.2.1 hg6 hty
              have hbx6 := H5.out.2.2.2.1.grown hg6 H5.out.2.2.2.1.size (fun g hg => by injection hg with hg; have := HN.out.1; omega)
              have hbox6 := (hg6.block w1.heap.size hb1lt (fun e => by injection e with e; omega)).trans H5.out.2.2.2.2.2
              have hsz6 := hg6.size
              have HH6 := Lib.hid (show _ ∧ _ ∧ _ ∧ _ ∧ _ from ⟨hc6, hl6, ho6, hbx6, hbox6⟩)
              have b0' : w6.cell? ⟨w1.heap.size, 0, none⟩ = some (.int .i64 x.t) := by rw [cell_of_row w6 _ 0 _ _ _ hbox6]; rfl
              have b1' : w6.cell? ⟨w1.heap.size, 1, none⟩ = some (.int .u64 x.v) := by rw [cell_of_row w6 _ 1 _ _ _ hbox6]; rfl
              have b2' : w6.cell? ⟨w1.heap.size, 2, none⟩ = some (.int .i64 x.rank) := by rw [cell_of_row w6 _ 2 _ _ _ hbox6]; rfl
              have b3' : w6.cell? ⟨w1.heap.size, 3, none⟩ = some (.func (.func 105) #[.pointer (some ⟨x.cur, 0, none⟩)] #[]) := by rw [cell_of_row w6 _ 3 _ _ _ hbox6]; rfl
              have hb1lt6 : w1.heap.size < w6.heap.size := by omega
              clear hc6 hg6 hty hl6 ho6 hbx6 hbox6 HN b0 b1 b2 b3
              go_wp2_with fail
              have hb7g : w6.grownBy (w6.alloc (.cells #[.int .i64 y.1, .int .u64 y.2] 95)) none := World.grownBy_alloc _ _ _
              have hl7 := HH6.out.2.1.out hb7g (fun g hg => by cases hg)
              have hc7 := HH6.out.1.out hb7g (fun g hg => by cases hg)
              have ho7 := HH6.out.2.2.1.kept hb7g (by cases Value.ownBlock v5 <;> simp)
              have hbx7 := HH6.out.2.2.2.1.alloc HH6.out.2.2.2.1.size (.cells #[.int .i64 y.1, .int .u64 y.2] 95)
              have hpush := heapPush w.heap.size qb qv1 l1 ⟨y.1, y.2, x.rank, x.cur⟩ _ hl7.queue hl1m hbx7.size hl7.heap
              unfold It.boxed at hpush
              refine hpush.mono ?_
              rintro e w8 ⟨rfl, qv8, l8, hq8, hp8, hh8, hk8⟩
              have hend : LoopTwo w w2 qb (gk - 1) all v5 w8 := by
                have hL8 := hl7.push (s := ⟨⟨y.1, y.2, x.rank, x.cur⟩, s.i + 1, r⟩) hc7 (by
                  have h1 := H1.out.2.2.1
                  unfold Src.ok at h1
                  rw [HRS.out] at h1
                  exact (List.pairwise_cons.1 h1).2) H1.out.2.2.2.1 H1.out.2.2.2.2.1 hq8 hp8 hh8 hk8
                refine ⟨P ++ [s.tg], _, qv8, l8, hL8, ?_, ?_, ?_, hbx7.trans ⟨hk8.os, hk8.tape, hk8.output, hk8.size, fun k hk => hk8.block k (by have := hbx7.size; omega) (.inl hk)⟩, by have := hk8.size; simp at this; omega⟩
                · have h1 := H1.out.2.2.2.2.2.1
                  rw [HRS.out] at h1
                  rw [List.append_assoc]
                  exact h1
                · have h1 := hfl1; rw [HRS.out] at h1; simp only [List.flatMap_cons, List.length_append, Src.flow, List.length_cons, tags_length] at h1 ⊢; omega
                · rw [H5.out.2.2.2.2.1]; exact hk8.owns ho7 QT.sample
              have HE := Lib.hid hend
              have hgk : gk - 1 < gk := by omega
              clear hend hpush hl7 hc7 ho7 hbx7 hb7g hq8 hp8 hh8 hk8 b0' b1' b2' b3'
              go_wp2_with fail
              go_roundg (gk - 1)
              case measure => omega
              case rel => exact HE
          · have ho1 := H1.out.2.2.2.2.2.2.1
            rw [HO.out] at ho1
            obtain ⟨go, cv, hv, _, hgo⟩ := ho1.form (by simp)
            injection hv with hv1 hv2 hv3
            subst hv1 hv3
            obtain ⟨q, hq⟩ : ∃ q, o'.length = q := ⟨_, rfl⟩
            have hol : (o' ++ [y]).length = q + 1 := by simp [hq]
            rw [hol] at ho1 hPl ⊢
            have cy0 := owns_at ho1 encS_len (i := q) (x := y) (by rw [← hq]; simp) (j := 0) rfl
            have cy1 := owns_at ho1 encS_len (i := q) (x := y) (by rw [← hq]; simp) (j := 1) rfl
            simp only [Nat.add_zero] at cy0
            have fy0 := ho1.frozenAt (q * 2)
            have fy1 := ho1.frozenAt (q * 2 + 1)
            have HO1 := Lib.hid ho1
            have HQL := Lib.hid (show _ ∧ _ from ⟨hq, hol⟩)
            clear hv2 hq hol
            have hq0 : (0 : Int) ≤ (q : Int) := by omega
            have hw1 : IntKind.i64.wrap ((q : Int) + 1 - 1) = q := by rw [show (q : Int) + 1 - 1 = q by omega]; exact IntWalk.i64_in _ (by omega)
            by_cases hyx : y.1 = x.t
            · have hyxb : (y.1 == x.t) = true := by simpa using hyx
              have HYX := Lib.hid hyx
              clear hyx
              go_wp2_with (go_quiet (fail))
              have hown2 : ((w1.alloc (.cells #[.int .i64 x.t, .int .u64 x.v, .int .i64 x.rank, .func (.func 105) #[.pointer (some ⟨x.cur, 0, none⟩)] #[]] 172)).drewN nq).ownsRow w2.heap.size 95 2 (.slice (some ⟨go, 0, none⟩) (q + 1) co) (q + 1) ((o' ++ [y]).flatMap encS) := HO1.out.alloc _
              have hgr2 : w1.grownBy ((w1.alloc (.cells #[.int .i64 x.t, .int .u64 x.v, .int .i64 x.rank, .func (.func 105) #[.pointer (some ⟨x.cur, 0, none⟩)] #[]] 172)).drewN nq) (some go) := grownBy_drewN (World.grownBy_alloc _ _ _) nq
              have hbox2 : ((w1.alloc (.cells #[.int .i64 x.t, .int .u64 x.v, .int .i64 x.rank, .func (.func 105) #[.pointer (some ⟨x.cur, 0, none⟩)] #[]] 172)).drewN nq).heap[w1.heap.size]? = some (.cells #[.int .i64 x.t, .int .u64 x.v, .int .i64 x.rank, .func (.func 105) #[.pointer (some ⟨x.cur, 0, none⟩)] #[]] 172 (0, 0)) := heap_alloc_new w1 _
              generalize (w1.alloc (.cells #[.int .i64 x.t, .int .u64 x.v, .int .i64 x.rank, .func (.func 105) #[.pointer (some ⟨x.cur, 0, none⟩)] #[]] 172)).drewN nq = wq at hown2 hgr2 hbox2 ⊢
              have hst := owns_set2 hown2 encS_len (i := q) (by rw [HQL.out.2]; omega) (x := (x.t, x.v)) rfl
              have hset : (o' ++ [y]).set q (x.t, x.v) = o' ++ [(x.t, x.v)] := by rw [List.set_append_right _ _ (by rw [HQL.out.1]; omega), HQL.out.1, Nat.sub_self]; rfl
              rw [hset] at hst
              have hg15 := grownBy_trans hgr2 hst.2
              have hbox5 := (hst.2.block w1.heap.size (Array.getElem?_eq_some_iff.1 hbox2).1 (fun e => by injection e with e; omega)).trans hbox2
              have hown5 := hst.1
              have hr : OutRow w1 w2.heap.size (some go) := OutRow.of_own HO1.out
              clear hown2 hgr2 hbox2 hst hset
              generalize (wq.setCell ⟨go, q * 2, none⟩ (.int .i64 x.t)).setCell ⟨go, q * 2 + 1, none⟩ (.int .u64 x.v) = w5 at hg15 hbox5 hown5 ⊢
              have hown5 : w5.ownsRow w2.heap.size 95 2 (.slice (some ⟨go, 0, none⟩) (q + 1) co) (outStep (collapse P) (x.t, x.v)).length ((outStep (collapse P) (x.t, x.v)).flatMap encS) := by
                rw [HO.out, outStep_same o' y (x.t, x.v) HYX.out, show (o' ++ [(x.t, x.v)]).length = q + 1 by rw [List.length_append, HQL.out.1]; rfl]; exact hown5
              have hsz5 := hg15.size
              have hl5 := H1.out.1.out hg15 hr
              have hc5 := H1.out.2.1.out hg15 hr
              have hb5 : Below w.heap.size w w5 := H1.out.2.2.2.2.2.2.2.1.grown hg15 H1.out.2.2.2.2.2.2.2.1.size (fun g hg => Nat.le_trans hw02 (hr g hg).1)
              have hxlt := H1.out.2.1.lt
              have b0 : w5.cell? ⟨w1.heap.size, 0, none⟩ = some (.int .i64 x.t) := by rw [cell_of_row w5 _ 0 _ _ _ hbox5]; rfl
              have b1 : w5.cell? ⟨w1.heap.size, 1, none⟩ = some (.int .u64 x.v) := by rw [cell_of_row w5 _ 1 _ _ _ hbox5]; rfl
              have b2 : w5.cell? ⟨w1.heap.size, 2, none⟩ = some (.int .i64 x.rank) := by rw [cell_of_row w5 _ 2 _ _ _ hbox5]; rfl
              have b3 : w5.cell? ⟨w1.heap.size, 3, none⟩ = some (.func (.func 105) #[.pointer (some ⟨x.cur, 0, none⟩)] #[]) := by rw [cell_of_row w5 _ 3 _ _ _ hbox5]; rfl
              have hb1lt : w1.heap.size < w5.heap.size := (Array.getElem?_eq_some_iff.1 hbox5).1
              have hcol : collapse (P ++ [s.tg]) = outStep (collapse P) (x.t, x.v) := by rw [collapse_snoc]; unfold Src.tg; rw [H1.out.2.2.2.2.2.2.2.2]
              have H5 := Lib.hid (show _ ∧ _ ∧ _ ∧ _ ∧ _ ∧ _ from ⟨hl5, hc5, hown5, hb5, hcol, hbox5⟩)
              clear hg15 hr hbox5 hown5 hl5 hc5 hb5 hcol
              cases hrest : s.rest with
              | nil =>
                have HN := Lib.hid (show Cur w5 w.heap.size w2.heap.size x.cur x.rank [] by rw [← hrest]; exact H5.out.2.1)
                have HRS := Lib.hid hrest
                clear hrest
                refine (next_none _ _ _ _ _ HN.out).mono ?_
                rintro e w6 ⟨rfl, hb6⟩
                have hend : LoopTwo w w2 qb (gk - 1) all (Value.slice (some ⟨go, 0, none⟩) (q + 1) co) (w6.alloc (.cells #[.int .i64 0, .int .u64 0] 95)) := by
                  have hb7 : Below w5.heap.size w5 (w6.alloc (.cells #[.int .i64 0, .int .u64 0] 95)) := hb6.alloc hb6.size _
                  have hb7g : w5.grownBy (w6.alloc (.cells #[.int .i64 0, .int .u64 0] 95)) none := ⟨hb7.os, hb7.tape, hb7.output, hb7.size, fun k hk _ => hb7.block k hk⟩
                  refine ⟨P ++ [s.tg], ss', qv1, l1, H5.out.1.out hb7g (fun g hg => by cases hg), ?_, ?_, ?_, H5.out.2.2.2.1.trans (hb7.mono H5.out.2.2.2.1.size), by have := hb7.size; omega⟩
                  · have h1 := H1.out.2.2.2.2.2.1
                    rw [HRS.out] at h1
                    simpa [tagsFrom] using h1
                  · have h1 := hfl1; rw [HRS.out] at h1; simp at h1; omega
                  · rw [H5.out.2.2.2.2.1]; exact owns_below H5.out.2.2.1 hb7
                have HE := Lib.hid hend
                have hgk : gk - 1 < gk := by omega
                clear hend hb6 HN b0 b1 b2 b3
                go_wp2_with fail
                go_roundg (gk - 1)
                case measure => omega
                case rel => exact HE
              | cons y r =>
                have HN := Lib.hid (show Cur w5 w.heap.size w2.heap.size x.cur x.rank (y :: r) by rw [← hrest]; exact H5.out.2.1)
                have HRS := Lib.hid hrest
                clear hrest
                refine (next_some _ _ _ _ _ _ _ HN.out).mono ?_
                rintro e w6 ⟨rfl, hc6, hg6⟩
                have hty := HN.out.type
                have hl6 := H5.out.1.next hg6 hty H1.out.2.2.2.1
                have ho6 := owns_next H5.out.2.2.1 hg6 hty
                have hbx6 := H5.out.2.2.2.1.grown hg6 H5.out.2.2.2.1.size (fun g hg => by injection hg with hg; have := HN.out.1; omega)
                have hbox6 := (hg6.block w1.heap.size hb1lt (fun e => by injection e with e; omega)).trans H5.out.2.2.2.2.2
                have hsz6 := hg6.size
                have HH6 := Lib.hid (show _ ∧ _ ∧ _ ∧ _ ∧ _ from ⟨hc6, hl6, ho6, hbx6, hbox6⟩)
                have b0' : w6.cell? ⟨w1.heap.size, 0, none⟩ = some (.int .i64 x.t) := by rw [cell_of_row w6 _ 0 _ _ _ hbox6]; rfl
                have b1' : w6.cell? ⟨w1.heap.size, 1, none⟩ = some (.int .u64 x.v) := by rw [cell_of_row w6 _ 1 _ _ _ hbox6]; rfl
                have b2' : w6.cell? ⟨w1.heap.size, 2, none⟩ = some (.int .i64 x.rank) := by rw [cell_of_row w6 _ 2 _ _ _ hbox6]; rfl
                have b3' : w6.cell? ⟨w1.heap.size, 3, none⟩ = some (.func (.func 105) #[.pointer (some ⟨x.cur, 0, none⟩)] #[]) := by rw [cell_of_row w6 _ 3 _ _ _ hbox6]; rfl
                have hb1lt6 : w1.heap.size < w6.heap.size := by omega
                clear hc6 hg6 hty hl6 ho6 hbx6 hbox6 HN b0 b1 b2 b3
                go_wp2_with fail
                have hb7g : w6.grownBy (w6.alloc (.cells #[.int .i64 y.1, .int .u64 y.2] 95)) none := World.grownBy_alloc _ _ _
                have hl7 := HH6.out.2.1.out hb7g (fun g hg => by cases hg)
                have hc7 := HH6.out.1.out hb7g (fun g hg => by cases hg)
                have ho7 := HH6.out.2.2.1.kept hb7g (by cases Value.ownBlock (Value.slice (some ⟨go, 0, none⟩) (q + 1) co) <;> simp)
                have hbx7 := HH6.out.2.2.2.1.alloc HH6.out.2.2.2.1.size (.cells #[.int .i64 y.1, .int .u64 y.2] 95)
                have hpush := heapPush w.heap.size qb qv1 l1 ⟨y.1, y.2, x.rank, x.cur⟩ _ hl7.queue hl1m hbx7.size hl7.heap
                unfold It.boxed at hpush
                refine hpush.mono ?_
                rintro e w8 ⟨rfl, qv8, l8, hq8, hp8, hh8, hk8⟩
                have hend : LoopTwo w w2 qb (gk - 1) all (Value.slice (some ⟨go, 0, none⟩) (q + 1) co) w8 := by
                  have hL8 := hl7.push (s := ⟨⟨y.1, y.2, x.rank, x.cur⟩, s.i + 1, r⟩) hc7 (by
                    have h1 := H1.out.2.2.1
                    unfold Src.ok at h1
                    rw [HRS.out] at h1
                    exact (List.pairwise_cons.1 h1).2) H1.out.2.2.2.1 H1.out.2.2.2.2.1 hq8 hp8 hh8 hk8
                  refine ⟨P ++ [s.tg], _, qv8, l8, hL8, ?_, ?_, ?_, hbx7.trans ⟨hk8.os, hk8.tape, hk8.output, hk8.size, fun k hk => hk8.block k (by have := hbx7.size; omega) (.inl hk)⟩, by have := hk8.size; simp at this; omega⟩
                  · have h1 := H1.out.2.2.2.2.2.1
                    rw [HRS.out] at h1
                    rw [List.append_assoc]
                    exact h1
                  · have h1 := hfl1; rw [HRS.out] at h1; simp only [List.flatMap_cons, List.length_append, Src.flow, List.length_cons, tags_length] at h1 ⊢; omega
                  · rw [H5.out.2.2.2.2.1]; exact hk8.owns ho7 QT.sample
                have HE := Lib.hid hend
                have hgk : gk - 1 < gk := by omega
                clear hend hpush hl7 hc7 ho7 hbx7 hb7g hq8 hp8 hh8 hk8 b0' b1' b2' b3'
                go_wp2_with fail
                go_roundg (gk - 1)
                case measure => omega
                case rel => exact HE
            · have hyxb : (y.1 == x.t) = false := by simpa using hyx
              have HNEW := Lib.hid (outStep_new o' y (x.t, x.v) hyx)
              clear hyx
              obtain ⟨i0, hi, hz0, hz1, hz2⟩ := info_parts Tryz.infoSample
              clear ho1
              go_wp2_with (first | go_quiet (fail) | (at_builtin; refine wpList_append_own _ rfl _ _ 90 rfl w2.heap.size 95 i0 _ 2 16 Tryz.underlying90 hi hz0 hz1 hz2 rfl (by omega) _ (q + 1) ((o' ++ [y]).flatMap encS) rfl (by exact (HO1.out.alloc _).alloc _) ⟨w1.heap.size + 1, 0, none⟩ 1 1 (encS (x.t, x.v)) rfl rfl ?c1 ?c2 (by unfold maxLen; omega) (by omega) ?c3 ?_))
              case c1 => first | exact cells_at _ (by simp) (encS (x.t, x.v)) _ | exact fun j u h => h
              case c2 => exact fun u hu => by simp only [encS, List.mem_cons, List.not_mem_nil, or_false] at hu; rcases hu with rfl | rfl <;> rfl
              case c3 => first | (simp; omega) | omega
              intro v5 w5 hown5 hg5 _
              have hg15 : w1.grownBy w5 (Value.slice (some ⟨go, 0, none⟩) (q + 1) co).ownBlock := by
                refine ⟨hg5.os, hg5.tape, hg5.output, by have := hg5.size; simp at this; omega, fun b hb hn => ?_⟩
                refine (hg5.block b (by simp; omega) hn).trans ?_
                rw [Below.heap_alloc _ _ _ (by simp; omega)]
                exact Below.heap_alloc _ _ _ hb
              have hr : OutRow w1 w2.heap.size (Value.slice (some ⟨go, 0, none⟩) (q + 1) co).ownBlock := OutRow.of_own HO1.out
              have hbox5 : w5.heap[w1.heap.size]? = some (.cells #[.int .i64 x.t, .int .u64 x.v, .int .i64 x.rank, .func (.func 105) #[.pointer (some ⟨x.cur, 0, none⟩)] #[]] 172 (0, 0)) := by
                refine (hg5.block w1.heap.size (by simp; omega) (fun e => ?_)).trans ?_
                · have := (HO1.out.lt _ e.symm).2; omega
                · rw [Below.heap_alloc _ _ _ (by simp)]
                  exact heap_alloc_new w1 _
              have hown5 : w5.ownsRow w2.heap.size 95 2 v5 (outStep (collapse P) (x.t, x.v)).length ((outStep (collapse P) (x.t, x.v)).flatMap encS) := by
                rw [HO.out, HNEW.out, show (o' ++ [y] ++ [(x.t, x.v)]).length = q + 1 + 1 by rw [List.length_append, HQL.out.2]; rfl]; simpa using hown5
              clear hi hz0 hz1 hz2 hg5
              have hsz5 := hg15.size
              have hl5 := H1.out.1.out hg15 hr
              have hc5 := H1.out.2.1.out hg15 hr
              have hb5 : Below w.heap.size w w5 := H1.out.2.2.2.2.2.2.2.1.grown hg15 H1.out.2.2.2.2.2.2.2.1.size (fun g hg => Nat.le_trans hw02 (hr g hg).1)
              have hxlt := H1.out.2.1.lt
              have b0 : w5.cell? ⟨w1.heap.size, 0, none⟩ = some (.int .i64 x.t) := by rw [cell_of_row w5 _ 0 _ _ _ hbox5]; rfl
              have b1 : w5.cell? ⟨w1.heap.size, 1, none⟩ = some (.int .u64 x.v) := by rw [cell_of_row w5 _ 1 _ _ _ hbox5]; rfl
              have b2 : w5.cell? ⟨w1.heap.size, 2, none⟩ = some (.int .i64 x.rank) := by rw [cell_of_row w5 _ 2 _ _ _ hbox5]; rfl
              have b3 : w5.cell? ⟨w1.heap.size, 3, none⟩ = some (.func (.func 105) #[.pointer (some ⟨x.cur, 0, none⟩)] #[]) := by rw [cell_of_row w5 _ 3 _ _ _ hbox5]; rfl
              have hb1lt : w1.heap.size < w5.heap.size := (Array.getElem?_eq_some_iff.1 hbox5).1
              have hcol : collapse (P ++ [s.tg]) = outStep (collapse P) (x.t, x.v) := by rw [collapse_snoc]; unfold Src.tg; rw [H1.out.2.2.2.2.2.2.2.2]
              have H5 := Lib.hid (show _ ∧ _ ∧ _ ∧ _ ∧ _ ∧ _ from ⟨hl5, hc5, hown5, hb5, hcol, hbox5⟩)
              clear hg15 hr hbox5 hown5 hl5 hc5 hb5 hcol
              go_wp2_with fail
              cases hrest : s.rest with
              | nil =>
                have HN := Lib.hid (show Cur w5 w.heap.size w2.heap.size x.cur x.rank [] by rw [← hrest]; exact H5.out.2.1)
                have HRS := Lib.hid hrest
                clear hrest
                refine (next_none _ _ _ _ _ HN.out).mono ?_
                rintro e w6 ⟨rfl, hb6⟩
                have hend : LoopTwo w w2 qb (gk - 1) all v5 (w6.alloc (.cells #[.int .i64 0, .int .u64 0] 95)) := by
                  have hb7 : Below w5.heap.size w5 (w6.alloc (.cells #[.int .i64 0, .int .u64 0] 95)) := hb6.alloc hb6.size _
                  have hb7g : w5.grownBy (w6.alloc (.cells #[.int .i64 0, .int .u64 0] 95)) none := ⟨hb7.os, hb7.tape, hb7.output, hb7.size, fun k hk _ => hb7.block k hk⟩
                  refine ⟨P ++ [s.tg], ss', qv1, l1, H5.out.1.out hb7g (fun g hg => by cases hg), ?_, ?_, ?_, H5.out.2.2.2.1.trans (hb7.mono H5.out.2.2.2.1.size), by have := hb7.size; omega⟩
                  · have h1 := H1.out.2.2.2.2.2.1
                    rw [HRS.out] at h1
                    simpa [tagsFrom] using h1
                  · have h1 := hfl1; rw [HRS.out] at h1; simp at h1; omega
                  · rw [H5.out.2.2.2.2.1]; exact owns_below H5.out.2.2.1 hb7
                have HE := Lib.hid hend
                have hgk : gk - 1 < gk := by omega
                clear hend hb6 HN b0 b1 b2 b3
                go_wp2_with fail
                go_roundg (gk - 1)
                case measure => omega
                case rel => exact HE
              | cons y r =>
                have HN := Lib.hid (show Cur w5 w.heap.size w2.heap.size x.cur x.rank (y :: r) by rw [← hrest]; exact H5.out.2.1)
                have HRS := Lib.hid hrest
                clear hrest
                refine (next_some _ _ _ _ _ _ _ HN.out).mono ?_
                rintro e w6 ⟨rfl, hc6, hg6⟩
                have hty := HN.out.type
                have hl6 := H5.out.1.next hg6 hty H1.out.2.2.2.1
                have ho6 := owns_next H5.out.2.2.1 hg6 hty
                have hbx6 := H5.out.2.2.2.1.grown hg6 H5.out.2.2.2.1.size (fun g hg => by injection hg with hg; have := HN.out.1; omega)
                have hbox6 := (hg6.block w1.heap.size hb1lt (fun e => by injection e with e; omega)).trans H5.out.2.2.2.2.2
                have hsz6 := hg6.size
                have HH6 := Lib.hid (show _ ∧ _ ∧ _ ∧ _ ∧ _ from ⟨hc6, hl6, ho6, hbx6, hbox6⟩)
                have b0' : w6.cell? ⟨w1.heap.size, 0, none⟩ = some (.int .i64 x.t) := by rw [cell_of_row w6 _ 0 _ _ _ hbox6]; rfl
                have b1' : w6.cell? ⟨w1.heap.size, 1, none⟩ = some (.int .u64 x.v) := by rw [cell_of_row w6 _ 1 _ _ _ hbox6]; rfl
                have b2' : w6.cell? ⟨w1.heap.size, 2, none⟩ = some (.int .i64 x.rank) := by rw [cell_of_row w6 _ 2 _ _ _ hbox6]; rfl
                have b3' : w6.cell? ⟨w1.heap.size, 3, none⟩ = some (.func (.func 105) #[.pointer (some ⟨x.cur, 0, none⟩)] #[]) := by rw [cell_of_row w6 _ 3 _ _ _ hbox6]; rfl
                have hb1lt6 : w1.heap.size < w6.heap.size := by omega
                clear hc6 hg6 hty hl6 ho6 hbx6 hbox6 HN b0 b1 b2 b3
                go_wp2_with fail
                have hb7g : w6.grownBy (w6.alloc (.cells #[.int .i64 y.1, .int .u64 y.2] 95)) none := World.grownBy_alloc _ _ _
                have hl7 := HH6.out.2.1.out hb7g (fun g hg => by cases hg)
                have hc7 := HH6.out.1.out hb7g (fun g hg => by cases hg)
                have ho7 := HH6.out.2.2.1.kept hb7g (by cases Value.ownBlock v5 <;> simp)
                have hbx7 := HH6.out.2.2.2.1.alloc HH6.out.2.2.2.1.size (.cells #[.int .i64 y.1, .int .u64 y.2] 95)
                have hpush := heapPush w.heap.size qb qv1 l1 ⟨y.1, y.2, x.rank, x.cur⟩ _ hl7.queue hl1m hbx7.size hl7.heap
                unfold It.boxed at hpush
                refine hpush.mono ?_
                rintro e w8 ⟨rfl, qv8, l8, hq8, hp8, hh8, hk8⟩
                have hend : LoopTwo w w2 qb (gk - 1) all v5 w8 := by
                  have hL8 := hl7.push (s := ⟨⟨y.1, y.2, x.rank, x.cur⟩, s.i + 1, r⟩) hc7 (by
                    have h1 := H1.out.2.2.1
                    unfold Src.ok at h1
                    rw [HRS.out] at h1
                    exact (List.pairwise_cons.1 h1).2) H1.out.2.2.2.1 H1.out.2.2.2.2.1 hq8 hp8 hh8 hk8
                  refine ⟨P ++ [s.tg], _, qv8, l8, hL8, ?_, ?_, ?_, hbx7.trans ⟨hk8.os, hk8.tape, hk8.output, hk8.size, fun k hk => hk8.block k (by have := hbx7.size; omega) (.inl hk)⟩, by have := hk8.size; simp at this; omega⟩
                  · have h1 := H1.out.2.2.2.2.2.1
                    rw [HRS.out] at h1
                    rw [List.append_assoc]
                    exact h1
                  · have h1 := hfl1; rw [HRS.out] at h1; simp only [List.flatMap_cons, List.length_append, Src.flow, List.length_cons, tags_length] at h1 ⊢; omega
                  · rw [H5.out.2.2.2.2.1]; exact hk8.owns ho7 QT.sample
                have HE := Lib.hid hend
                have hgk : gk - 1 < gk := by omega
                clear hend hpush hl7 hc7 ho7 hbx7 hb7g hq8 hp8 hh8 hk8 b0' b1' b2' b3'
                go_wp2_with fail
                go_roundg (gk - 1)
                case measure => omega
                case rel => exact HE
end Go.Proofs.YtihidnmpngeohaaGreat
