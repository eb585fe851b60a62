/- VecParts of chapter 25. -/
import Derived.Test.YtajaijidecomdaaGreatDoorG44
import Derived.Test.YtajaijidecomdaaGreatDoorG47
namespace Go.Proofs.YtajaijidecomdaaGreatDoor
open Go.RowKit Go.Lib

theorem keeps_not (kf : List Lb → ByteArray) (b : List El) (x : El) : keeps kf b false x = !keeps kf b true x := by
  unfold keeps
  cases inB kf (kf x.1) b <;> rfl
theorem sift_self (kf : List Lb → ByteArray) (a : List El) : siftL kf a a false = [] := by
  unfold siftL
  refine List.filter_eq_nil_iff.2 fun x hx => ?_
  have h : inB kf (kf x.1) a = true := by
    unfold inB
    exact List.any_eq_true.2 ⟨x, hx, by simp⟩
  unfold keeps
  rw [h]
  decide
theorem sift_parts (kf : List Lb → ByteArray) (a b : List El) : srtL (srtL (siftL kf a b true) ++ srtL (siftL kf a b false)) = srtL a := by
  have h : siftL kf a b false = a.filter fun x => !keeps kf b true x := by
    unfold siftL
    exact List.filter_congr fun x _ => keeps_not kf b x
  rw [h]
  exact FL.sort_parts elL_tot (keeps kf b true) a
theorem fine_el {es os : List Ev} {w : World} {A : Option Addr} {n c : Nat} (hE : Els w w.heap.size A n c es) (h : ∀ z ∈ os, z.el ∈ es.map Ev.el) : ∀ z ∈ os, Fine z.l := fun z hz => by
  obtain ⟨y, hy, e⟩ := List.mem_map.1 (h z hz)
  have h2 := (hE.each y hy).fine
  have h3 : y.l = z.l := congrArg Prod.fst e
  rw [h3] at h2
  exact h2
theorem mem_sift {kf : List Lb → ByteArray} {a b : List El} {i : Bool} {x : El} (h : x ∈ srtL (siftL kf a b i)) : x ∈ a := (List.mem_filter.1 ((srt_perm _).mem_iff.1 h)).1
theorem len_sift (kf : List Lb → ByteArray) (a b : List El) (i : Bool) : (srtL (siftL kf a b i)).length ≤ a.length := by
  rw [FL.sortE_len elL_tot]
  exact List.length_filter_le _ _
/-- The call's own copy of the matching stands. -/
structure KB (w : World) (m : Mv) (W : World) : Prop where
  old : Below w.heap.size w W
  box : MB W w.heap.size m
  lt : w.heap.size < W.heap.size
theorem KB.step {w W W' : World} {m : Mv} (h : KB w m W) (hb : Below W.heap.size W W') : KB w m W' := ⟨h.old.trans (hb.mono h.old.size), (hb.block _ h.lt).trans h.box, Nat.lt_of_lt_of_le h.lt hb.size⟩
theorem KB.new (w : World) (m : Mv) : KB w m (w.alloc (.cells #[.int .u8 m.card, .bool m.on, .slice m.LA m.Ln m.Lc, .slice m.IA m.In m.Ic] 80)) := ⟨(Below.refl _ _).alloc (Nat.le_refl _) _, heap_alloc_new _ _, by simp⟩
theorem KB.frozen {w W : World} {m : Mv} (h : KB w m W) : W.frozen? ⟨w.heap.size, 0, none⟩ = false := by
  unfold World.frozen?
  rw [show W.heap[w.heap.size]? = _ from h.box]
  rfl
theorem KB.set {w W : World} {m : Mv} (h : KB w m W) (k : Int) : KB w { m with card := k } (W.setCell ⟨w.heap.size, 0, none⟩ (.int .u8 k)) := by
  have hb : W.heap[w.heap.size]? = some (.cells #[.int .u8 m.card, .bool m.on, .slice m.LA m.Ln m.Lc, .slice m.IA m.In m.Ic] 80 (0, 0)) := h.box
  have hlt := h.lt
  have h' : W.heap[w.heap.size] = .cells #[.int .u8 m.card, .bool m.on, .slice m.LA m.Ln m.Lc, .slice m.IA m.In m.Ic] 80 (0, 0) := by simpa [Array.getElem?_eq_getElem hlt] using hb
  refine ⟨h.old.setCell (Nat.le_refl _) _, ?_, ?_⟩
  · show (W.heap.modify w.heap.size _)[w.heap.size]? = _
    rw [Array.getElem?_eq_getElem (by simpa using hlt), Array.getElem_modify_self, h']
    rfl
  · show w.heap.size < (W.heap.modify w.heap.size _).size
    simpa using hlt
theorem EBig.on {w W : World} {y : Ev} (h : EBig w y) (hb : Below w.heap.size w W) : EBig W y := ⟨Lst.more (Lst.below h.lst hb) hb.size, h.nil, h.few, h.txt⟩
set_option maxHeartbeats 16000000 in
set_option maxRecDepth 100000 in
theorem vecParts_any (m : Mv) (A B : Option Addr) (na ca nb cb : Nat) (xs bs : List Ev) (w : World) (hM : MRaw w m) (hLA : Lst encEv 2 w w.heap.size A na xs) (hnA : A = none → na = 0 ∧ ca = 0) (hna : na ≤ 140737488355328) (hTA : ∀ y ∈ xs, EBig w y)
    (hLB : Lst encEv 2 w w.heap.size B nb bs) (hnB : B = none → nb = 0 ∧ cb = 0) (hnb : nb ≤ 140737488355328) (hTB : ∀ y ∈ bs, EBig w y) :
    Calls Tryz.prog 6 #[valM m, .slice A na ca, .slice B nb cb] w fun e w' => e = .returned (.bool true) ∧ Below w.heap.size w w' := by
  have hma : ∀ W, Below w.heap.size w W → Calls Tryz.prog 13 #[.slice A na ca] W (MuchPost W na xs) := fun W hb => much_any A na ca xs W (Lst.more (Lst.below hLA hb) hb.size) hna fun y hy => (hTA y hy).on hb
  have hmb : ∀ W, Below w.heap.size w W → Calls Tryz.prog 13 #[.slice B nb cb] W (MuchPost W nb bs) := fun W hb => much_any B nb cb bs W (Lst.more (Lst.below hLB hb) hb.size) hnb fun y hy => (hTB y hy).on hb
  have hk0 := KB.new w m
  have hlg := fun W => long_any m W
  have hvm : valM m = .agg #[.int .u8 m.card, .bool m.on, .slice m.LA m.Ln m.Lc, .slice m.IA m.In m.Ic] := rfl
  simp only [hvm] at hlg
  rw [hvm]
  obtain ⟨m0, m1, m2, m3⟩ := hk0.box.cells
  cases h1 : muchB na xs with
  | true =>
    have HC := Lib.hid (show _ ∧ _ from ⟨hma, hk0⟩)
    clear hma hmb hk0 hlg hM hLA hTA hLB hTB hvm
    go_enter Tryz.func6, Tryz.ntmps6
    go_wp2_with fail
    refine (HC.out.1 _ HC.out.2.old).mono ?_
    rintro e w1 ⟨rfl, hq⟩
    rw [h1]
    have H1 := Lib.hid (HC.out.2.step (below_drewLabel hq))
    clear hq
    go_wp2
    go_ret
    exact ⟨rfl, H1.out.old⟩
  | false =>
    cases h2 : muchB nb bs with
    | true =>
      have HC := Lib.hid (show _ ∧ _ ∧ _ from ⟨hma, hmb, hk0⟩)
      clear hma hmb hk0 hlg hM hLA hTA hLB hTB hvm
      go_enter Tryz.func6, Tryz.ntmps6
      go_wp2_with fail
      refine (HC.out.1 _ HC.out.2.2.old).mono ?_
      rintro e w1 ⟨rfl, hq⟩
      rw [h1]
      have H1 := Lib.hid (HC.out.2.2.step (below_drewLabel hq))
      clear hq
      go_wp2_with fail
      refine (HC.out.2.1 _ H1.out.old).mono ?_
      rintro e w2 ⟨rfl, hq⟩
      rw [h2]
      have H2 := Lib.hid (H1.out.step (below_drewLabel hq))
      clear hq
      go_wp2
      go_ret
      exact ⟨rfl, H2.out.old⟩
    | false =>
      cases h3 : longB m with
      | true =>
        have HC := Lib.hid (show _ ∧ _ ∧ _ ∧ _ from ⟨hma, hmb, hk0, hlg⟩)
        clear hma hmb hk0 hlg hM hLA hTA hLB hTB hvm
        go_enter Tryz.func6, Tryz.ntmps6
        go_wp2_with fail
        refine (HC.out.1 _ HC.out.2.2.1.old).mono ?_
        rintro e w1 ⟨rfl, hq⟩
        rw [h1]
        have H1 := Lib.hid (HC.out.2.2.1.step (below_drewLabel hq))
        clear hq
        go_wp2_with fail
        refine (HC.out.2.1 _ H1.out.old).mono ?_
        rintro e w2 ⟨rfl, hq⟩
        rw [h2]
        have H2 := Lib.hid (H1.out.step (below_drewLabel hq))
        clear hq
        obtain ⟨c0, c1, c2, c3⟩ := H2.out.box.cells
        go_wp2_with fail
        refine (HC.out.2.2.2 _).mono ?_
        rintro e w3 ⟨rfl, hq⟩
        rw [h3]
        have H3 := Lib.hid (H2.out.step hq)
        clear hq
        go_wp2
        go_ret
        exact ⟨rfl, H3.out.old⟩
      | false =>
        have HC := Lib.hid (show _ ∧ _ ∧ _ ∧ _ from ⟨hma, hmb, hk0, hlg⟩)
        clear hma hmb hk0 hlg hvm
        have HI := Lib.hid (show _ ∧ _ ∧ _ from ⟨(muchB_els hLA hnA hTA h1).1, (muchB_els hLB hnB hTB h2).1, hM.mat h3 0⟩)
        have hna1 : na ≤ 1000 := (muchB_els hLA hnA hTA h1).2.1
        have hnb1 : nb ≤ 1000 := (muchB_els hLB hnB hTB h2).2.1
        have hv1 : ∀ W, Below w.heap.size w W → Calls Tryz.prog 24 #[.int .u8 14, .bool false, .agg #[.int .u8 0, .bool m.on, .slice m.LA m.Ln m.Lc, .slice m.IA m.In m.Ic], .slice A na ca, .slice B nb cb] W (DonePost (vecSift (keyT m.on m.ls) true (xs.map Ev.el) (bs.map Ev.el)) W) := fun W hb => vectors_sift true false { m with card := 0 } rfl A B na ca nb cb xs bs W (HI.out.1.on hb) (HI.out.2.1.on hb) (HI.out.2.2.on hb)
        have hv2 : ∀ W, Below w.heap.size w W → Calls Tryz.prog 24 #[.int .u8 16, .bool false, .agg #[.int .u8 0, .bool m.on, .slice m.LA m.Ln m.Lc, .slice m.IA m.In m.Ic], .slice A na ca, .slice B nb cb] W (DonePost (vecSift (keyT m.on m.ls) false (xs.map Ev.el) (bs.map Ev.el)) W) := fun W hb => vectors_sift false false { m with card := 0 } rfl A B na ca nb cb xs bs W (HI.out.1.on hb) (HI.out.2.1.on hb) (HI.out.2.2.on hb)
        have hv3 : ∀ W, Below w.heap.size w W → Calls Tryz.prog 24 #[.int .u8 15, .bool false, .agg #[.int .u8 0, .bool m.on, .slice m.LA m.Ln m.Lc, .slice m.IA m.In m.Ic], .slice A na ca, .slice A na ca] W (DonePost (vecOr (keyT m.on m.ls) (xs.map Ev.el) (xs.map Ev.el)) W) := fun W hb => vectors_or false { m with card := 0 } rfl A A na ca na ca xs xs W (HI.out.1.on hb) (HI.out.1.on hb) (HI.out.2.2.on hb) (by omega)
        have hsrt := fun W (hb : Below w.heap.size w W) => sorted_any A na ca xs W (HI.out.1.on hb)
        obtain ⟨rx, hrx⟩ : ∃ r, vecSift (keyT m.on m.ls) true (xs.map Ev.el) (bs.map Ev.el) = r := ⟨_, rfl⟩
        obtain ⟨ry, hry⟩ : ∃ r, vecSift (keyT m.on m.ls) false (xs.map Ev.el) (bs.map Ev.el) = r := ⟨_, rfl⟩
        obtain ⟨rz, hrz⟩ : ∃ r, vecOr (keyT m.on m.ls) (xs.map Ev.el) (xs.map Ev.el) = r := ⟨_, rfl⟩
        rw [hrx] at hv1
        rw [hry] at hv2
        rw [hrz] at hv3
        have HV := Lib.hid (show _ ∧ _ ∧ _ ∧ _ from ⟨hv1, hv2, hv3, hsrt⟩)
        have HR := Lib.hid (show _ ∧ _ ∧ _ from ⟨hrx, hry, hrz⟩)
        clear hv1 hv2 hv3 hsrt hrx hry hrz
        clear hM hLA hTA hLB hTB hna hnb hnA hnB
        go_enter Tryz.func6, Tryz.ntmps6
        go_wp2_with fail
        refine (HC.out.1 _ HC.out.2.2.1.old).mono ?_
        rintro e w1 ⟨rfl, hq⟩
        rw [h1]
        have H1 := Lib.hid (HC.out.2.2.1.step (below_drewLabel hq))
        clear hq
        go_wp2_with fail
        refine (HC.out.2.1 _ H1.out.old).mono ?_
        rintro e w2 ⟨rfl, hq⟩
        rw [h2]
        have H2 := Lib.hid (H1.out.step (below_drewLabel hq))
        clear hq
        obtain ⟨c0, c1, c2, c3⟩ := H2.out.box.cells
        go_wp2_with fail
        refine (HC.out.2.2.2 _).mono ?_
        rintro e w3 ⟨rfl, hq⟩
        rw [h3]
        have H3 := Lib.hid (H2.out.step hq)
        clear hq
        clear c0 c1 c2 c3
        obtain ⟨c0, c1, c2, c3⟩ := H3.out.box.cells
        have hfz := H3.out.frozen
        have HS := Lib.hid (H3.out.set 0)
        go_wp2_with fail
        clear c0 c1 c2 c3 hfz
        obtain ⟨w4, hw4⟩ : ∃ w', w3.setCell ⟨w.heap.size, 0, none⟩ (.int .u8 0) = w' := ⟨_, rfl⟩
        rw [hw4] at HS ⊢
        clear hw4
        refine (HV.out.1 _ HS.out.old).mono ?_
        rintro e w5 ⟨vx, ox, rfl, hox, hxe, b5⟩
        have H5 := Lib.hid (show _ ∧ _ ∧ _ from ⟨HS.out.step b5, hox, hxe⟩)
        clear hox hxe b5
        obtain ⟨c0, c1, c2, c3⟩ := H5.out.1.box.cells
        go_wp2_with fail
        clear c0 c1 c2 c3
        refine (HV.out.2.1 _ H5.out.1.old).mono ?_
        rintro e w6 ⟨vy, oy, rfl, hoy, hye, b6⟩
        have H6 := Lib.hid (show _ ∧ _ ∧ _ ∧ _ from ⟨H5.out.1.step b6, hoy, hye, H5.out.2.1.below b6⟩)
        clear hoy hye b6
        obtain ⟨c0, c1, c2, c3⟩ := H6.out.1.box.cells
        go_wp2_with fail
        clear c0 c1 c2 c3
        refine (HV.out.2.2.1 _ H6.out.1.old).mono ?_
        rintro e w7 ⟨vz, oz, rfl, hoz, hze, b7⟩
        have H7 := Lib.hid (show _ ∧ _ ∧ _ ∧ _ ∧ _ from ⟨H6.out.1.step b7, hoz, hze, H6.out.2.1.below b7, H6.out.2.2.2.below b7⟩)
        clear hoz hze b7
        go_wp2_with fail
        refine (known_any _).mono ?_
        rintro e w8 ⟨rfl, b8⟩
        have H8 := Lib.hid (show _ ∧ _ ∧ _ ∧ _ ∧ _ from ⟨H7.out.1.step b8, H7.out.2.2.2.1.below b8, H7.out.2.2.2.2.below b8, H7.out.2.1.below b8, (show _ ∧ _ ∧ _ from ⟨H5.out.2.2, H6.out.2.2.1, H7.out.2.2.1⟩)⟩)
        clear b8 H5 H6 H7
        obtain ⟨f, hf⟩ : ∃ f, (formL (xs.map Ev.el) && formL (bs.map Ev.el)) = f := ⟨_, rfl⟩
        have hRR := HR.out
        unfold vecSift at hRR
        rw [hf] at hRR
        cases f with
        | false =>
          rw [if_neg (by decide)] at hRR
          obtain ⟨rfl, rfl, _⟩ := hRR
          clear HR hf
          go_wp2
          go_ret
          exact ⟨rfl, H8.out.1.old⟩
        | true =>
          rw [if_pos rfl] at hRR
          obtain ⟨rfl, rfl, hz⟩ := hRR
          have hfa : formL (xs.map Ev.el) = true := (Bool.and_eq_true_iff.1 hf).1
          unfold vecOr at hz
          rw [hfa, Bool.and_self, if_pos rfl, sift_self, List.append_nil] at hz
          obtain rfl := hz
          clear HR hf hfa
          have hxl : xs.length = na := HI.out.1.lst.1
          have hox : ox.map Ev.el = srtL (siftL (keyT m.on m.ls) (xs.map Ev.el) (bs.map Ev.el) true) := H8.out.2.2.2.2.1
          have hoy : oy.map Ev.el = srtL (siftL (keyT m.on m.ls) (xs.map Ev.el) (bs.map Ev.el) false) := H8.out.2.2.2.2.2.1
          have hoz : oz.map Ev.el = srtL (xs.map Ev.el) := H8.out.2.2.2.2.2.2
          have lx : ox.length ≤ na := by have h := congrArg List.length hox; rw [List.length_map] at h; have h2 := len_sift (keyT m.on m.ls) (xs.map Ev.el) (bs.map Ev.el) true; rw [List.length_map] at h2; omega
          have ly : oy.length ≤ na := by have h := congrArg List.length hoy; rw [List.length_map] at h; have h2 := len_sift (keyT m.on m.ls) (xs.map Ev.el) (bs.map Ev.el) false; rw [List.length_map] at h2; omega
          have lz : oz.length = na := by have h := congrArg List.length hoz; rw [List.length_map, FL.sortE_len elL_tot, List.length_map] at h; omega
          obtain ⟨Ax, cx, rfl, hxE⟩ := done_els H8.out.2.2.1 (by omega) (fine_el HI.out.1 fun z hz => mem_sift (by rw [← hox]; exact List.mem_map.2 ⟨z, hz, rfl⟩))
          obtain ⟨Ay, cy, rfl, hyE⟩ := done_els H8.out.2.1 (by omega) (fine_el HI.out.1 fun z hz => mem_sift (by rw [← hoy]; exact List.mem_map.2 ⟨z, hz, rfl⟩))
          obtain ⟨Az, cz, rfl, hzE⟩ := done_els H8.out.2.2.2.1 (by omega) (fine_el HI.out.1 fun z hz => (srt_perm _).mem_iff.1 (by rw [← hoz]; exact List.mem_map.2 ⟨z, hz, rfl⟩))
          obtain ⟨nx, hnx⟩ : ∃ k, ox.length = k := ⟨_, rfl⟩
          obtain ⟨ny, hny⟩ : ∃ k, oy.length = k := ⟨_, rfl⟩
          rw [hnx] at hxE lx ⊢
          rw [hny] at hyE ly ⊢
          rw [lz] at hzE ⊢
          have hall : srtL ((ox ++ oy).map Ev.el) = srtL (xs.map Ev.el) := by
            rw [List.map_append, hox, hoy]
            exact sift_parts _ _ _
          have hlen : nx + ny = na := by
            have h := congrArg List.length hall
            rw [FL.sortE_len elL_tot, FL.sortE_len elL_tot, List.length_map, List.length_map, List.length_append] at h
            omega
          have HE := Lib.hid (show _ ∧ _ ∧ _ ∧ _ ∧ _ from ⟨hxE, hyE, hzE, hall, hoz⟩)
          have HO := Lib.hid H8.out.1
          clear hxE hyE hzE hall hox hoy hoz hnx hny lz H8
          obtain ⟨i0, hi, hz0, hz1, hz2⟩ := info_parts Tryz.infoElem
          have HJ := Lib.hid (show _ ∧ _ ∧ _ ∧ _ from ⟨hi, hz0, hz1, hz2⟩)
          clear hi hz0 hz1 hz2
          go_wp2_with (at_builtin; refine wpList_append_els (B := w8.heap.size) (A' := Ax) (n' := nx) (c' := cx) (src := ox) HE.out.1.lst HE.out.1.nil HJ.out.1 HJ.out.2.1 HJ.out.2.2.1 HJ.out.2.2.2 (World.ownsRow_nil _ _ _ _) (Nat.le_refl _) (by omega) (by omega) _ _ rfl rfl rfl rfl ?_)
          intro v9 w9 ho9 hg9
          have hb9 : Below w8.heap.size w8 w9 := (Below.refl _ w8).grown hg9 (Nat.le_refl _) (fun k h => by cases h)
          have H9 := Lib.hid (show _ ∧ _ from ⟨ho9, hb9⟩)
          clear ho9 hb9 hg9
          go_wp2_with (at_builtin; refine wpList_append_els (B := w8.heap.size) (A' := Ay) (n' := ny) (c' := cy) (src := oy) (HE.out.2.1.on H9.out.2).lst HE.out.2.1.nil HJ.out.1 HJ.out.2.1 HJ.out.2.2.1 HJ.out.2.2.2 H9.out.1 H9.out.2.size (by omega) (by omega) _ _ rfl rfl rfl rfl ?_)
          intro va wa hoa hga
          have hba : Below w8.heap.size w8 wa := H9.out.2.grown hga H9.out.2.size (fun k h => (H9.out.1.lt k h).1)
          obtain ⟨Aa, ca', rfl, _, _⟩ := owns_slice hoa
          have hrow : wa.ownsRow w8.heap.size 90 2 (.slice Aa na ca') na ((ox ++ oy).flatMap encEv) := by rw [List.flatMap_append]; simpa using hoa
          have haE : Els wa wa.heap.size Aa na ca' (ox ++ oy) := by
            obtain ⟨e1, e2, _⟩ := owns_lst hrow encEv_len (by omega)
            refine ⟨e1, e2, by omega, fun o ho => ?_⟩
            rcases List.mem_append.1 ho with h | h
            · exact (HE.out.1.on hba).each o h
            · exact (HE.out.2.1.on hba).each o h
          have hoA := HO.out.old
          have HA := Lib.hid (show _ ∧ _ ∧ _ from ⟨haE, hba, hoA.trans (hba.mono hoA.size)⟩)
          clear hoa hga hba hrow haE hoA
          go_wp2_with fail
          refine (HV.out.2.2.2 _ HA.out.2.2).mono ?_
          rintro e wb ⟨vb, ob, rfl, hob, hbe, bb⟩
          obtain ⟨Ab, cb', rfl, _, _⟩ := owns_slice hob.row
          obtain ⟨hbE, hbl⟩ := sorted_els (HI.out.1.on HA.out.2.2) hob hbe
          rw [hbl] at hbE ⊢
          have HB := Lib.hid (show _ ∧ _ ∧ _ ∧ _ from ⟨hbE, hbe, HA.out.1.on bb, (show _ ∧ _ from ⟨HA.out.2.2.trans (bb.mono HA.out.2.2.size), HE.out.2.2.1.on (HA.out.2.1.trans (bb.mono HA.out.2.1.size))⟩)⟩)
          clear hob hbe hbE hbl bb
          go_wp2_with fail
          refine (sorted_any Aa na ca' (ox ++ oy) _ HB.out.2.2.1).mono ?_
          rintro e wc ⟨vc, oc, rfl, hoc, hce, bc⟩
          obtain ⟨Ac, cc, rfl, _, _⟩ := owns_slice hoc.row
          obtain ⟨hcE, hcl⟩ := sorted_els HB.out.2.2.1 hoc hce
          rw [hcl] at hcE ⊢
          have hsm : oc.map Ev.el = ob.map Ev.el := by rw [hce, HE.out.2.2.2.1]; exact HB.out.2.1.symm
          have HC' := Lib.hid (show _ ∧ _ ∧ _ ∧ _ ∧ _ from ⟨hcE, HB.out.1.on bc, hsm, HB.out.2.2.2.1.trans (bc.mono HB.out.2.2.2.1.size), HB.out.2.2.2.2.on bc⟩)
          clear hoc hce hcE hcl bc hsm
          go_wp2_with fail
          refine (sameElems_true Ac Ab na cc cb' oc ob _ HC'.out.1 HC'.out.2.1 HC'.out.2.2.1).mono ?_
          rintro e wd ⟨rfl, hq⟩
          have bd := below_drewLabel hq
          have HD := Lib.hid (show _ ∧ _ ∧ _ from ⟨HC'.out.2.1.on bd, HC'.out.2.2.2.1.trans (bd.mono HC'.out.2.2.2.1.size), HC'.out.2.2.2.2.on bd⟩)
          clear hq bd
          go_wp2_with fail
          refine (sameElems_true Az Ab na cz cb' oz ob _ HD.out.2.2 HD.out.1 (HE.out.2.2.2.2.trans HB.out.2.1.symm)).mono ?_
          rintro e we ⟨rfl, hq⟩
          have be := below_drewLabel hq
          have HEE := Lib.hid (HD.out.2.1.trans (be.mono HD.out.2.1.size))
          clear hq be
          go_wp2
          go_ret
          exact ⟨rfl, HEE.out⟩
end Go.Proofs.YtajaijidecomdaaGreatDoor
