/- slices.IndexFunc and slices.DeleteFunc at rows of Elems, for any predicate that lays blocks of its own alone. Written off a master by mk2.py. -/
import Derived.Test.YtajaijidecomdaaGreatDoorG10
import Derived.Deep.DeepCutAuto
import Derived.OwnWalk
import Derived.WalkLawsBesides
namespace Go.Proofs.YtajaijidecomdaaGreatDoor
open Go.RowKit Go.Lib

/-- What a predicate does in a world. -/
def PredElem (gf : Nat) (lb : Array Value) (p : Ev → Bool) (l : List Ev) (W : World) : Prop :=
  ∀ x ∈ l, Calls Tryz.prog gf (#[.agg #[.slice x.A x.n x.c, .int .u64 x.v.toNat]] ++ lb) W fun e w' => e = .returned (.bool (p x)) ∧ Below W.heap.size W w'
def idxElem (p : Ev → Bool) (l : List (Ev)) : Int := match l.findIdx? p with | some i => (i : Int) | none => -1
theorem idxElem_none {p : Ev → Bool} {l : List (Ev)} (h : ∀ x ∈ l, p x = false) : idxElem p l = -1 := by
  unfold idxElem
  rw [List.findIdx?_eq_none_iff.2 h]
theorem idxElem_some {p : Ev → Bool} {l : List (Ev)} {k : Nat} {x : Ev} (hx : l[k]? = some x) (h : p x = true) (hb : ∀ j y, j < k → l[j]? = some y → p y = false) : idxElem p l = k := by
  obtain ⟨hk1, hk2⟩ := List.getElem?_eq_some_iff.1 hx
  unfold idxElem
  have e : l.findIdx? p = some k := by
    rw [List.findIdx?_eq_some_iff_getElem]
    refine ⟨hk1, by rw [hk2]; exact h, fun j hj => ?_⟩
    rw [hb j _ hj (List.getElem?_eq_getElem (by omega))]
    simp
  rw [e]
set_option maxHeartbeats 2000000 in
set_option maxRecDepth 100000 in
theorem indexFuncElem (gf : Nat) (lb : Array Value) (eg : ∀ args w, (callFunc gf args).run Tryz.prog w = .ok (.enter gf args) w) (p : Ev → Bool) (A : Option Addr) (n c : Nat) (l : List (Ev)) (w : World)
    (hL : Lst encEv 2 w w.heap.size A n l) (hn : n ≤ 1099511627776) (hp : ∀ W, Below w.heap.size w W → PredElem gf lb p l W) :
    Calls Tryz.prog 198 #[.slice A n c, .func (.func gf) #[] lb] w fun e w' => e = .returned (.int .i64 (idxElem p l)) ∧ Below w.heap.size w w' := by
  have HL := Lib.hid hL
  have HP := Lib.hid hp
  clear hL hp
  go_enter Tryz.func198, Tryz.ntmps198
  go_wp2
  go_loopw [8] (fun i wr => ∃ k : Nat, k ≤ n ∧ i = .int .i64 k ∧ Below w.heap.size w wr ∧ Hid (∀ j y, j < k → l[j]? = some y → p y = false)) (fun i _ => n - (intOf i).toNat)
  case atStart => exact ⟨0, Nat.zero_le _, rfl, Below.refl _ _, Lib.hid (fun j y h => absurd h (by omega))⟩
  case round =>
    obtain ⟨k, hk, rfl, hbl, HB⟩ := hrel
    by_cases hlt : k < n
    · obtain ⟨b, off, x, rfl, hb, hx, hc⟩ := HL.out.at hlt
      have c0 := (hbl.cell (p := ⟨b, off + k * 2 + 0, none⟩) hb).trans (hc 0 _ rfl)
      have c1 := (hbl.cell (p := ⟨b, off + k * 2 + 1, none⟩) hb).trans (hc 1 _ rfl)
      simp only [Nat.add_zero] at c0
      have hcall := HP.out wr hbl x (List.mem_of_getElem? hx)
      have HX := Lib.hid hx
      clear hc hx
      cases hpx : p x with
      | true =>
        rw [hpx] at hcall
        have HC := Lib.hid hcall
        have HPX := Lib.hid hpx
        clear hcall hpx
        go_wp2_with fail
        refine HC.out.mono ?_
        rintro e w' ⟨rfl, hb'⟩
        go_wp2
        go_ret
        exact ⟨by rw [idxElem_some HX.out HPX.out HB.out]; rfl, hbl.trans (hb'.mono hbl.size)⟩
      | false =>
        rw [hpx] at hcall
        have HC := Lib.hid hcall
        have HPX := Lib.hid hpx
        clear hcall hpx
        go_wp2_with fail
        refine HC.out.mono ?_
        rintro e w' ⟨rfl, hb'⟩
        go_wp2
        go_roundw
        case measure => simp [intOf]; omega
        case rel => exact ⟨k + 1, hlt, by simp, hbl.trans (hb'.mono hbl.size), Lib.hid (fun j y hj hy => by
          by_cases hjk : j = k
          · subst hjk
            rw [HX.out] at hy
            injection hy with hy
            rw [← hy]; exact HPX.out
          · exact HB.out j y (by omega) hy)⟩
    · obtain rfl : k = n := by omega
      go_wp2
      go_ret
      exact ⟨by rw [idxElem_none fun x hx => by
        obtain ⟨j, hj, e⟩ := List.getElem_of_mem hx
        exact HB.out j x (by have := HL.out.1; omega) (by rw [List.getElem?_eq_getElem hj, e])]; rfl, hbl⟩
theorem zeroElem (W : World) : (zeroValue 90).run Tryz.prog W = .ok (.agg #[.slice none 0 0, .int .u64 0]) W := by kernel_rfl
/-- While it goes: the first i elements are those of the first j that stay, those from j on are as they were. -/
def KeptElem (p : Ev → Bool) (l ys : List (Ev)) (i j : Nat) : Prop :=
  ys.length = l.length ∧ ys.take i = (l.take j).filter (fun x => !p x) ∧ ys.drop j = l.drop j ∧ i < j ∧ i = ((l.take j).filter (fun x => !p x)).length
theorem KeptElem.skip {p : Ev → Bool} {l ys : List (Ev)} {i j : Nat} {x : Ev} (h : KeptElem p l ys i j) (hx : l[j]? = some x) (hp : p x = true) : KeptElem p l ys i (j + 1) := by
  obtain ⟨h1, h2, h3, h4, h5⟩ := h
  obtain ⟨hj, hxj⟩ := List.getElem?_eq_some_iff.1 hx
  have ht : l.take (j + 1) = l.take j ++ [x] := by rw [List.take_succ_eq_append_getElem hj, hxj]
  have hf : (l.take (j + 1)).filter (fun x => !p x) = (l.take j).filter (fun x => !p x) := by rw [ht, List.filter_append]; simp [hp]
  refine ⟨h1, by rw [hf]; exact h2, ?_, by omega, by rw [hf]; exact h5⟩
  rw [show j + 1 = j + 1 from rfl, ← List.drop_drop, ← List.drop_drop, h3]
theorem KeptElem.keep {p : Ev → Bool} {l ys : List (Ev)} {i j : Nat} {x : Ev} (h : KeptElem p l ys i j) (hx : l[j]? = some x) (hp : p x = false) : KeptElem p l (ys.set i x) (i + 1) (j + 1) := by
  obtain ⟨h1, h2, h3, h4, h5⟩ := h
  obtain ⟨hj, hxj⟩ := List.getElem?_eq_some_iff.1 hx
  have ht : l.take (j + 1) = l.take j ++ [x] := by rw [List.take_succ_eq_append_getElem hj, hxj]
  have hf : (l.take (j + 1)).filter (fun x => !p x) = (l.take j).filter (fun x => !p x) ++ [x] := by rw [ht, List.filter_append]; simp [hp]
  refine ⟨by simpa using h1, ?_, ?_, by omega, by rw [hf]; simp [← h5]⟩
  · rw [take_set_next _ _ _ (by omega), h2, hf]
  · rw [List.drop_set_of_lt (by omega), ← List.drop_drop, ← List.drop_drop, h3]
theorem KeptElem.start {p : Ev → Bool} {l : List (Ev)} {k : Nat} {x : Ev} (hx : l[k]? = some x) (hp : p x = true) (hb : ∀ j y, j < k → l[j]? = some y → p y = false) : KeptElem p l l k (k + 1) := by
  obtain ⟨hj, hxj⟩ := List.getElem?_eq_some_iff.1 hx
  have ht : l.take (k + 1) = l.take k ++ [x] := by rw [List.take_succ_eq_append_getElem hj, hxj]
  have hk : (l.take k).filter (fun x => !p x) = l.take k := List.filter_eq_self.2 fun y hy => by
    obtain ⟨j, hj', e⟩ := List.getElem_of_mem hy
    rw [List.length_take] at hj'
    rw [hb j y (by omega) (by rw [← e, List.getElem_take]; exact List.getElem?_eq_getElem (by omega))]; rfl
  have hf : (l.take (k + 1)).filter (fun x => !p x) = l.take k := by rw [ht, List.filter_append, hk]; simp [hp]
  exact ⟨rfl, by rw [hf], rfl, by omega, by rw [hf, List.length_take]; omega⟩
theorem KeptElem.end_ {p : Ev → Bool} {l ys : List (Ev)} {i : Nat} (h : KeptElem p l ys i l.length) : ys.take i = l.filter (fun x => !p x) ∧ i = (l.filter (fun x => !p x)).length := by
  obtain ⟨h1, h2, h3, h4, h5⟩ := h
  rw [List.take_length] at h2 h5
  exact ⟨h2, h5⟩
theorem firstElem {p : Ev → Bool} {l : List (Ev)} (h : ¬ ∀ x ∈ l, p x = false) : ∃ (k : Nat) (x : Ev), l[k]? = some x ∧ p x = true ∧ ∀ (j : Nat) y, j < k → l[j]? = some y → p y = false := by
  cases hq : l.findIdx? p with
  | none => exact absurd (List.findIdx?_eq_none_iff.1 hq) h
  | some k =>
    obtain ⟨hk, h1, h2⟩ := List.findIdx?_eq_some_iff_getElem.1 hq
    refine ⟨k, _, List.getElem?_eq_getElem hk, h1, fun j y hj hy => ?_⟩
    have := h2 j hj
    obtain ⟨hj', e⟩ := List.getElem?_eq_some_iff.1 hy
    rw [← e]
    simpa using this
set_option maxHeartbeats 4000000 in
set_option maxRecDepth 100000 in
theorem deleteFuncElem (gf : Nat) (lb : Array Value) (eg : ∀ args w, (callFunc gf args).run Tryz.prog w = .ok (.enter gf args) w) (p : Ev → Bool) (A : Option Addr) (n c : Nat) (l : List (Ev)) (w : World) (B : Nat)
    (ho : w.ownsRow B 90 2 (.slice A n c) n (l.flatMap encEv)) (hn : n ≤ 1099511627776) (hp : ∀ W, w.grownBy W (Value.slice A n c).ownBlock → PredElem gf lb p l W) :
    Calls Tryz.prog 153 #[.slice A n c, .func (.func gf) #[] lb] w fun e w' => e = .returned (.slice A (l.filter (fun x => !p x)).length c) ∧
      w'.ownsRow B 90 2 (.slice A (l.filter (fun x => !p x)).length c) (l.filter (fun x => !p x)).length ((l.filter (fun x => !p x)).flatMap encEv) ∧ w.grownBy w' (Value.slice A n c).ownBlock := by
  have hll := owns_len ho encEv_len (by omega)
  have hL : Lst encEv 2 w w.heap.size A n l := by
    obtain ⟨A', c', e, _, h⟩ := ownsRow_lst ho hll encEv_len
    injection e with e1 e2 e3
    rw [e1]; exact h
  have hIF := indexFuncElem gf lb eg p A n c l w hL hn (fun W hb => hp W ⟨hb.os, hb.tape, hb.output, hb.size, fun k hk _ => hb.block k hk⟩)
  have HO := Lib.hid ho
  have HP := Lib.hid hp
  have HLL := Lib.hid hll
  have HIF := Lib.hid hIF
  clear ho hp hll hL hIF
  by_cases hany : ∀ x ∈ l, p x = false
  · have hfil : l.filter (fun x => !p x) = l := List.filter_eq_self.2 fun x hx => by rw [hany x hx]; rfl
    rw [hfil, HLL.out]
    have HI := Lib.hid (idxElem_none hany)
    clear hfil hany
    go_enter Tryz.func153, Tryz.ntmps153
    go_wp2_with fail
    refine HIF.out.mono ?_
    rw [HI.out]
    rintro e w' ⟨rfl, hb'⟩
    go_wp2
    go_ret
    exact ⟨rfl, owns_below HO.out hb', ⟨hb'.os, hb'.tape, hb'.output, hb'.size, fun k hk _ => hb'.block k hk⟩⟩
  · obtain ⟨k0, x0, hx0, hp0, hb0⟩ := firstElem hany
    have hk0 := (List.getElem?_eq_some_iff.1 hx0).1
    have hk0n : k0 < n := by have := HLL.out; omega
    have HI := Lib.hid (idxElem_some hx0 hp0 hb0)
    have HK := Lib.hid (KeptElem.start hx0 hp0 hb0)
    obtain ⟨g, rfl, hg⟩ := owns_some' HO.out (by omega)
    obtain ⟨_, hcn⟩ := owns_cap HO.out
    have hne1 : ((k0 : Int) == -1) = false := beq_eq_false_iff_ne.2 (by omega)
    clear hany hx0 hp0 hb0 hk0
    go_enter Tryz.func153, Tryz.ntmps153
    go_wp2_with fail
    refine HIF.out.mono ?_
    rw [HI.out]
    rintro e w1 ⟨rfl, hb1⟩
    have H1 := Lib.hid (show _ ∧ _ from ⟨owns_below HO.out hb1, (⟨hb1.os, hb1.tape, hb1.output, hb1.size, fun k hk _ => hb1.block k hk⟩ : w.grownBy w1 (some g))⟩)
    clear hb1
    go_wp2
    go_loopw [5, 6, 7] (fun s5 s6 _ wr => ∃ (i j : Nat) (ys : List (Ev)), s5 = .int .i64 i ∧ s6 = .int .i64 j ∧ i < j ∧ j ≤ n ∧ Hid (KeptElem p l ys i j ∧ wr.ownsRow B 90 2 (.slice (some ⟨g, 0, none⟩) n c) n (ys.flatMap encEv) ∧ w.grownBy wr (some g))) (fun _ s6 _ _ => n - (intOf s6).toNat)
    case atStart => exact ⟨k0, k0 + 1, l, rfl, by simp, by omega, by omega, Lib.hid ⟨HK.out, H1.out.1, H1.out.2⟩⟩
    case round =>
      obtain ⟨i, j, ys, rfl, rfl, hij, hj, HR⟩ := hrel
      by_cases hlt : j < n
      · obtain ⟨x, hx⟩ : ∃ x, l[j]? = some x := ⟨_, List.getElem?_eq_getElem (by have := HLL.out; omega)⟩
        have hyx : ys[j]? = some x := by
          have h3 := HR.out.1.2.2.1
          have h4 := congrArg (fun z => z[0]?) h3
          simpa [List.getElem?_drop, hx] using h4
        have c0 := owns_at HR.out.2.1 encEv_len hyx (j := 0) rfl
        have c1 := owns_at HR.out.2.1 encEv_len hyx (j := 1) rfl
        simp only [Nat.add_zero] at c0
        have HX := Lib.hid hx
        have hgr : w.grownBy (wr.alloc (.cells #[.slice x.A x.n x.c, .int .u64 x.v.toNat] 90)) (some g) := grownBy_trans HR.out.2.2 (World.grownBy_alloc _ _ _)
        have hcall := HP.out _ hgr x (List.mem_of_getElem? hx)
        clear hx hyx hgr
        cases hpx : p x with
        | true =>
          rw [hpx] at hcall
          have HC := Lib.hid hcall
          have HPX := Lib.hid hpx
          clear hcall hpx
          go_wp2_with fail
          refine HC.out.mono ?_
          rintro e w' ⟨rfl, hb'⟩
          have hb2 : Below wr.heap.size wr w' := ((Below.refl _ wr).alloc (Nat.le_refl _) _).trans (hb'.mono (by simp))
          have HB := Lib.hid (show _ ∧ _ ∧ _ from ⟨HR.out.1.skip HX.out HPX.out, owns_below HR.out.2.1 hb2, grownBy_below HR.out.2.2 hb2⟩)
          clear hb' hb2 c0 c1
          go_wp2
          go_roundw
          case measure => simp [intOf]; omega
          case rel => exact ⟨i, j + 1, ys, rfl, by simp, by omega, hlt, HB⟩
        | false =>
          rw [hpx] at hcall
          have HC := Lib.hid hcall
          have HPX := Lib.hid hpx
          clear hcall hpx
          go_wp2_with fail
          refine HC.out.mono ?_
          rintro e w' ⟨rfl, hb'⟩
          have hb2 : Below wr.heap.size wr w' := ((Below.refl _ wr).alloc (Nat.le_refl _) _).trans (hb'.mono (by simp))
          have ho2 := owns_below HR.out.2.1 hb2
          have hyl : ys.length = n := HR.out.1.1.trans HLL.out
          obtain ⟨y, hy⟩ : ∃ y, ys[i]? = some y := ⟨_, List.getElem?_eq_getElem (by omega)⟩
          have d0 := owns_at ho2 encEv_len hy (j := 0) rfl
          have d1 := owns_at ho2 encEv_len hy (j := 1) rfl
          simp only [Nat.add_zero] at d0
          have f0 := ho2.frozenAt (i * 2)
          have f1 := ho2.frozenAt (i * 2 + 1)
          have b0 : w'.cell? ⟨wr.heap.size, 0, none⟩ = some (.slice x.A x.n x.c) := (hb'.cell (p := ⟨wr.heap.size, 0, none⟩) (by simp)).trans (by rw [cell_of_row _ _ _ _ _ _ (heap_alloc_new wr _)]; rfl)
          have b1 : w'.cell? ⟨wr.heap.size, 1, none⟩ = some (.int .u64 x.v.toNat) := (hb'.cell (p := ⟨wr.heap.size, 1, none⟩) (by simp)).trans (by rw [cell_of_row _ _ _ _ _ _ (heap_alloc_new wr _)]; rfl)
          have hst := owns_set2 ho2 encEv_len (i := i) (by omega) (x := x) rfl
          have HB := Lib.hid (show _ ∧ _ ∧ _ from ⟨HR.out.1.keep HX.out HPX.out, hst.1, grownBy_trans (grownBy_below HR.out.2.2 hb2) hst.2⟩)
          clear hb' hb2 c0 c1 ho2 hyl hy hst
          go_wp2
          go_roundw
          case measure => simp [intOf]; omega
          case rel => exact ⟨i + 1, j + 1, _, by simp, by simp, by omega, hlt, HB⟩
      · obtain rfl : j = n := by omega
        have hK := HR.out.1
        rw [← HLL.out] at hK
        have HE := Lib.hid hK.end_
        obtain ⟨w5, hrun, hown5, hg5⟩ := run_clear_own (P := Tryz.prog) (c := c - i) HR.out.2.1 (i := i) (by omega) 33 0 Tryz.underlying33 _ zeroElem rfl (by simp [Value.cells, Value.oneCell']) (by omega)
        rw [flatMap_take encEv_len, HE.out.1] at hown5
        have H5 := Lib.hid (show _ ∧ _ from ⟨hown5, grownBy_trans HR.out.2.2 hg5⟩)
        have hcl : ∀ ty, (Builtin.clear_ #[33] ty #[.slice (some ⟨g, i * 2, none⟩) (j - i) (c - i)]).run Tryz.prog wr = .ok (.tuple #[]) w5 := fun ty => hrun
        clear hrun hown5 hg5 hK
        go_wp2
        go_ret
        rw [← HE.out.2]
        exact ⟨rfl, H5.out.1, H5.out.2⟩
end Go.Proofs.YtajaijidecomdaaGreatDoor
