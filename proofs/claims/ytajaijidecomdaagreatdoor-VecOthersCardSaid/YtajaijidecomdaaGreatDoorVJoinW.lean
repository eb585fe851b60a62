/- vec.join at any two vectors. Written by genvjoin.py. -/
import Derived.Test.YtajaijidecomdaaGreatDoorG42
import Derived.Test.YtajaijidecomdaaGreatDoorG20
namespace Go.Proofs.YtajaijidecomdaaGreatDoor
open Go.RowKit Go.Lib
open Go.Maps (Keyed)

/-- What stands in the box of the matching. -/
def MB (w : World) (b : Nat) (m : Mv) : Prop := w.heap[b]? = some (.cells #[.int .u8 m.card, .bool m.on, .slice m.LA m.Ln m.Lc, .slice m.IA m.In m.Ic] 80 (0, 0))
theorem MB.cells {w : World} {b : Nat} {m : Mv} (h : MB w b m) : w.cell? ⟨b, 0, none⟩ = some (.int .u8 m.card) ∧ w.cell? ⟨b, 1, none⟩ = some (.bool m.on) ∧ w.cell? ⟨b, 2, none⟩ = some (.slice m.LA m.Ln m.Lc) ∧ w.cell? ⟨b, 3, none⟩ = some (.slice m.IA m.In m.Ic) := box_four h
theorem group_ex {A : Option Addr} {n c : Nat} {es : List Ev} {m : Mv} {w : World} (hE : Els w w.heap.size A n c es) (hM : Mat w w.heap.size m) :
    Calls Tryz.prog 152 #[.slice A n c, .agg #[.int .u8 m.card, .bool m.on, .slice m.LA m.Ln m.Lc, .slice m.IA m.In m.Ic]] w fun e w' => ∃ D V b, e = .returned (.map (some b)) ∧ Groups (keyT m.on m.ls) w' w.heap.size b n D V es ∧ Below w.heap.size w w' :=
  (group_any A n c es m w hE hM).mono fun _ _ ⟨D, V, h1, h2, h3⟩ => ⟨D, V, _, h1, h2, h3⟩
/-- The labels of what comes out, for any two elements that came in. -/
def ResCon (m : Mv) (plain : Bool) (resF : List Lb → List Lb → List Lb) : Prop :=
  ∀ (x z : Ev) (W : World), Eat W W.heap.size x → Eat W W.heap.size z → Mat W W.heap.size m → Calls Tryz.prog 157 #[.agg #[.int .u8 m.card, .bool m.on, .slice m.LA m.Ln m.Lc, .slice m.IA m.In m.Ic], .bool plain, .slice x.A x.n x.c, .slice z.A z.n z.c] W (ResPost (resF x.l z.l) x.l (.slice x.A x.n x.c) W)
def NumCon (op : Int) (isBool : Bool) (nf : UInt64 → UInt64 → UInt64 × Bool) : Prop :=
  ∀ (a b : UInt64) (W : World), Calls Tryz.prog 10 #[.int .u8 op, .bool isBool, .int .u64 a.toNat, .int .u64 b.toNat] W fun e w' => e = .returned (.tuple #[.int .u64 (nf a b).1.toNat, .bool (nf a b).2, .int .u16 0]) ∧ Below W.heap.size W w'
def CmpCon (op : Int) (cb : Bool) : Prop := ∀ W, Calls Tryz.prog 37 #[.int .u8 op] W fun e w' => e = .returned (.bool cb) ∧ w' = W
theorem cell_grown {a b : World} {r : Option Nat} (hg : a.grownBy b r) {p : Addr} (hp : p.block < a.heap.size) (hne : some p.block ≠ r) : b.cell? p = a.cell? p := World.cell?_of_block (w := a) (hg.block p.block hp hne)
theorem res_src {w w7 : World} {B : Nat} {x : Ev} {R : List Lb} {v : Value} (hx : Eat w w.heap.size x) (hR : Fine R) (hB : w.heap.size ≤ B) (h : (v = .slice x.A x.n x.c ∧ R = x.l) ∨ w7.ownsRow B 104 2 v R.length (R.flatMap Lb.cells)) (y : UInt64) : ∃ A n c, v = .slice A n c ∧ Src w w7 ⟨A, n, c, R, y⟩ := by
  rcases h with ⟨h1, h2⟩ | h
  · exact ⟨_, _, _, h1, .inl (by subst h2; exact ⟨hx.lst, hx.nil, hx.few, hx.sz⟩)⟩
  · obtain ⟨A, c, rfl, _, _⟩ := owns_slice h
    exact ⟨A, R.length, c, rfl, .inr ⟨owns_base h hB, hR⟩⟩
theorem one_of {α : Type} {l : List α} {z : α} (h0 : l[0]? = some z) (h1 : l.length = 1) : l = [z] := by
  match l, h1 with
  | [a], _ => simpa using h0
theorem u64_len {α : Type} {l : List α} {j : Nat} {x : α} (h : l[j]? = some x) : j < l.length := (List.getElem?_eq_some_iff.1 h).1
set_option maxHeartbeats 16000000 in
set_option maxRecDepth 100000 in
theorem join_left (op : Int) (isBool cb : Bool) (nf : UInt64 → UInt64 → UInt64 × Bool) (hnum : NumCon op isBool nf) (hcmp : CmpCon op cb) (resF : List Lb → List Lb → List Lb) (m : Mv) (hres : ResCon m (cb && !isBool) resF) (hfine : ∀ x z, Fine x → Fine z → Fine (resF x z)) (hcd : ¬ m.card = 3)
    (O M : Option Addr) (no co nm cm : Nat) (one many : List Ev) (w : World) (hO : Els w w.heap.size O no co one) (hMy : Els w w.heap.size M nm cm many) (hM : Mat w w.heap.size m) :
    Calls Tryz.prog 94 #[.int .u8 op, .bool isBool, valM m, .slice M nm cm, .slice O no co] w (DonePost (joinL (keyT m.on m.ls) m.card nf resF (one.map Ev.el) (many.map Ev.el)) w) := by
  obtain ⟨i0, hi, hz0, hz1, hz2⟩ := info_parts Tryz.infoElem
  have HI := Lib.hid (show _ ∧ _ ∧ _ ∧ _ from ⟨hi, hz0, hz1, hz2⟩)
  clear hi hz0 hz1 hz2
  obtain ⟨kf, hkf⟩ : ∃ kf, keyT m.on m.ls = kf := ⟨_, rfl⟩
  rw [hkf]
  have hc3 : (m.card == 3) = false := by first | exact beq_iff_eq.2 hcd | exact beq_eq_false_iff_ne.2 hcd
  have hb0 : Below w.heap.size w (w.alloc (.cells #[.int .u8 m.card, .bool m.on, .slice m.LA m.Ln m.Lc, .slice m.IA m.In m.Ic] 80)) := (Below.refl _ _).alloc (Nat.le_refl _) _
  have hbd := hb0.drew
  have hmb0 : MB (w.alloc (.cells #[.int .u8 m.card, .bool m.on, .slice m.LA m.Ln m.Lc, .slice m.IA m.In m.Ic] 80)) w.heap.size m := heap_alloc_new _ _
  have hsz0 : w.heap.size < (w.alloc (.cells #[.int .u8 m.card, .bool m.on, .slice m.LA m.Ln m.Lc, .slice m.IA m.In m.Ic] 80)).heap.size := by simp
  have g1 := fun W (hb : Below w.heap.size w W) => group_ex (hO.on hb) (hM.on hb)
  have g2 := fun W (hb : Below w.heap.size w W) => group_ex (hMy.on hb) (hM.on hb)
  rw [hkf] at g1 g2
  obtain ⟨m0, m1, m2, m3⟩ := hmb0.cells
  have hno := hO.few
  have hnm := hMy.few
  have hlo := hO.lst.1
  have hlm := hMy.lst.1
  have HC := Lib.hid (show _ ∧ _ ∧ _ ∧ _ ∧ _ ∧ _ ∧ _ ∧ _ from ⟨g1, g2, hbd, hmb0, hO, hMy, hM, hsz0⟩)
  have HK := Lib.hid (show _ ∧ _ ∧ _ ∧ _ ∧ _ from ⟨hnum, hcmp, hres, hfine, hkf⟩)
  have K0 := Lib.hid hmb0.cells
  clear g1 g2 hbd hb0 hmb0 hO hMy hM hnum hcmp hres hfine hsz0
  rw [show valM m = .agg #[.int .u8 m.card, .bool m.on, .slice m.LA m.Ln m.Lc, .slice m.IA m.In m.Ic] from rfl]
  go_enter Tryz.func94, Tryz.ntmps94
  go_wp2_with fail
  go_region_held3 (fun w' => w'.cell? ⟨w.heap.size, 0, none⟩ = some (.int .u8 m.card) ∧ w'.cell? ⟨w.heap.size, 1, none⟩ = some (.bool m.on) ∧ w'.cell? ⟨w.heap.size, 2, none⟩ = some (.slice m.LA m.Ln m.Lc) ∧ w'.cell? ⟨w.heap.size, 3, none⟩ = some (.slice m.IA m.In m.Ic)) (first | exact k7 | exact k6 | exact K0.out | go_keep)
    (first
      | (go_at_call 152; refine (HC.out.2.1 _ H1.out.2.2).mono ?_; rintro e w2 ⟨D2, V2, b2, rfl, hG2, hb2⟩; have hmb2 : MB w2 w.heap.size m := (hb2.block w.heap.size (Array.getElem?_eq_some_iff.1 H1.out.2.1).1).trans H1.out.2.1; have k7 := hmb2.cells; have H2 := Lib.hid (show _ ∧ _ ∧ _ ∧ _ from ⟨(H1.out.1.below hb2).base (B' := w.heap.size) (by first | (have := HC.out.2.2.1.size; exact this)), hG2.base (B' := w.heap.size) H1.out.2.2.size, hmb2, H1.out.2.2.trans (hb2.mono H1.out.2.2.size)⟩); clear hG2 hb2 hmb2)
      | (go_at_call 152; refine (HC.out.1 _ HC.out.2.2.1).mono ?_; rintro e w1 ⟨D1, V1, b1, rfl, hG1, hb1⟩; have hmb1 : MB w1 w.heap.size m := (hb1.block w.heap.size HC.out.2.2.2.2.2.2.2).trans HC.out.2.2.2.1; have k6 := hmb1.cells; have H1 := Lib.hid (show _ ∧ _ ∧ _ from ⟨hG1, hmb1, HC.out.2.2.1.trans (hb1.mono HC.out.2.2.1.size)⟩); clear hG1 hb1 hmb1))
  have hG2 := H2.out.1
  have hsz2 := H2.out.2.2.2.size
  go_wp2_with (first
    | (at_range; refine wpList_range_own _ rfl _ 240 rfl 9 33 Tryz.keyedStr Tryz.underlying240 RV b1 no D1 rfl H2.out.1.map ?_)
    | fail)
  intro w3 hrg3 hg3 hs3
  have hst3 : JSt kf m.card nf resF w w2 w3 b1 w2.heap.size no D1 one many (Maps.has D1) _ [] (.slice none 0 0) [] := ⟨hrg3, World.ownsRow_nil _ _ _ _, by simp, by simp, List.nodup_nil, by simp, fun z hz => .inl ((H2.out.1.has _).2 ⟨z, hz, rfl⟩), fun kl hk => by
    obtain ⟨z, hz, e⟩ := (H2.out.1.has kl).1 hk
    exact ⟨z, hz, e, by simp⟩, (Below.refl _ w2).grown hg3 (Nat.le_refl _) (fun j hj => by cases hj), by simp⟩
  have HR1 := Lib.hid hst3
  have hms := map_size H2.out.1.map
  clear hrg3 hg3 hst3 hG2
  go_wp2
  go_loopw [16] (fun v wr => ∃ (left : Lit → Bool) (cnt : Nat) (vis : List ByteArray) (os : List Ev), vis.length + cnt ≤ no ∧ Hid (JSt kf m.card nf resF w w2 wr b1 w2.heap.size no D1 one many left cnt vis v os)) (fun _ wr => wr.rangeLeft b1 w2.heap.size)
  case atStart => exact ⟨_, _, [], [], by simpa using hms, HR1⟩
  case round =>
    obtain ⟨left, cnt, vis, os, hcn, HR⟩ := hrel
    go_wp2_with (first
      | (at_next; refine wpList_next_ranges _ rfl _ rfl 9 Tryz.keyedStr RV Value.string (fun v : Value => v) (fun key kl h => tkeyOf_inv h) (fun v _ _ => ⟨v, rfl⟩) b1 w2.heap.size no D1 left cnt rfl HR.out.rng ?_ ?_)
      | fail)
    · intro hc0 hl0
      have hend := HR.out.end_ hl0
      have hfew := HR.out.few
      have hpl := parts_len (kf := kf) vis many HR.out.nd
      obtain ⟨A3, c3, rfl, _, _⟩ := owns_slice HR.out.row
      have hB2 : w.heap.size ≤ w2.heap.size := hsz2
      have hold := H2.out.2.2.2.trans (HR.out.old.mono hB2)
      have hels := row_els (owns_base (B' := w.heap.size) HR.out.row hB2) HR.out.src hold (by omega)
      have hd := done_any A3 os.length c3 os _ hels
      rw [← hend] at hd
      have HD := Lib.hid (show _ ∧ _ from ⟨hd, hold⟩)
      clear hend hfew hpl hels hd hold hl0
      go_wp2_with fail
      refine HD.out.1.mono ?_
      rintro e w4 ⟨v4, os4, rfl, hOO, hm4, hb4⟩
      have HF := Lib.hid (show _ ∧ _ ∧ _ from ⟨hOO.base HD.out.2.size, hm4, HD.out.2.trans (hb4.mono HD.out.2.size)⟩)
      clear hOO hm4 hb4
      go_wp2
      exact bodyPost_ret (by simp [results, Tryz.results94, go_sem]) rfl ⟨v4, os4, rfl, HF.out.1, HF.out.2.1, HF.out.2.2⟩
    · intro x cv kl yd yp w4 cnt4 hkey hlk hv hat hrg4 hlt4 hg4 hs4 hen
      obtain ⟨y0, hy0, rfl, hy0v⟩ := HR.out.fresh kl hlk
      obtain ⟨s, hs⟩ : ∃ s, kf y0.l = s := ⟨_, rfl⟩
      rw [hs] at hkey hlk hat hrg4 hy0v
      obtain rfl : s = x := (tkey_back hkey).symm
      have hcv : cv = V1 s := by
        have h1 := hat (.held (.slice none 0 0))
        rw [H2.out.1.at_] at h1
        unfold RV at hv
        injection hv with hv
        injection hv with hv _
        rw [← hv] at h1
        injection h1 with h1
        exact h1.symm
      subst hcv
      obtain ⟨hd, hnv, hrow4, hsrc4, hold4⟩ := HR.out.took hlk hg4 (Nat.le_refl _)
      have hmk : ∃ z0, (grp kf s one)[0]? = some z0 := by
        have h1 : y0 ∈ grp kf s one := List.mem_filter.2 ⟨hy0, by simp [hs]⟩
        exact ⟨_, List.getElem?_eq_getElem (List.length_pos_of_mem h1)⟩
      obtain ⟨z0, hz0⟩ := hmk
      have hgr1 := owns_below (H2.out.1.rows s) hold4
      have hgr2 := owns_below (H2.out.2.1.rows s) hold4
      obtain ⟨A1, c1, hV1, _, _⟩ := owns_slice hgr1
      obtain ⟨A2, c2, hV2, _, _⟩ := owns_slice hgr2
      have hat2 := H2.out.2.1.at_ s
      obtain ⟨q1, hq1⟩ : ∃ q, (grp kf s one).length = q := ⟨_, rfl⟩
      obtain ⟨q2, hq2⟩ : ∃ q, (grp kf s many).length = q := ⟨_, rfl⟩
      rw [hV1, hq1] at hgr1
      rw [hV2, hq2] at hgr2 hat2
      rw [hq1] at hV1
      have hq1p : 0 < q1 := by rw [← hq1]; exact (List.getElem?_eq_some_iff.1 hz0).1
      obtain ⟨gg, rfl, hgg⟩ := owns_some' hgr1 hq1p
      have l0 := owns_at hgr1 encEv_len hz0 (j := 0) rfl
      have l1 := owns_at hgr1 encEv_len hz0 (j := 1) rfl
      simp only [Nat.zero_mul, Nat.zero_add] at l0 l1
      have hmb4 : MB w4 w.heap.size m := (hold4.block _ (Array.getElem?_eq_some_iff.1 H2.out.2.2.1).1).trans H2.out.2.2.1
      obtain ⟨c0m, c1m, c2m, c3m⟩ := hmb4.cells
      have hmap4 := ownsMap_below H2.out.2.1.map hold4
      have hko := tkey_of s (by rw [← hs, ← hkf]; exact keyT_size (HC.out.2.2.2.2.1.each y0 hy0).fine m.on m.ls)
      have hq1e := grpE_len (kf := kf) s one
      have hq2e := grpE_len (kf := kf) s many
      have hq2n : q2 ≤ 100000 := by have := grp_len (kf := kf) s many; omega
      have hlk2 := look_held hmap4 Tryz.keyedStr Tryz.underlying240 (Tryz.zeroElems _) hko hat2
      have H4 := Lib.hid (show _ ∧ _ ∧ _ ∧ _ ∧ _ ∧ _ ∧ _ from ⟨hrg4, hrow4, hsrc4, hold4, hgr1, hgr2, hmb4⟩)
      have HX := Lib.hid (show _ ∧ _ ∧ _ ∧ _ ∧ _ ∧ _ ∧ _ from ⟨hd, hnv, hz0, hq1, hq2, hlt4, hy0⟩)
      have hbad : (1 < q1 ∨ m.card = 0 ∧ 1 < q2) → joinL kf m.card nf resF (one.map Ev.el) (many.map Ev.el) = (251, []) := fun h => join_bad (z := y0.el) (List.mem_map.2 ⟨y0, hy0, rfl⟩) (by
        show 1 < (grpE kf (kf y0.l) _).length ∨ m.card = 0 ∧ 1 < (grpE kf (kf y0.l) _).length
        rw [hs, hq1e, hq2e, hq1, hq2]; exact h)
      have hgg2 : gg < w2.heap.size := ((H2.out.1.rows s).lt gg (by rw [hV1]; rfl)).2
      have hl2 : Lst encEv 2 w2 w2.heap.size A2 q2 (grp kf s many) := by
        have h := H2.out.2.1.rows s
        rw [hV2, hq2] at h
        exact (owns_lst h encEv_len (by omega)).1
      have hz2 : w2.cell? ⟨gg, 0, none⟩ = some (.slice z0.A z0.n z0.c) ∧ w2.cell? ⟨gg, 1, none⟩ = some (.int .u64 z0.v.toNat) := ⟨(hold4.cell (p := ⟨gg, 0, none⟩) hgg2).symm.trans l0, (hold4.cell (p := ⟨gg, 1, none⟩) hgg2).symm.trans l1⟩
      have hzm : z0 ∈ one := grp_mem (List.mem_of_getElem? hz0)
      have HZ := Lib.hid (show _ ∧ _ ∧ _ ∧ _ from ⟨hgg2, hl2, hz2, hzm⟩)
      have HB := Lib.hid hbad
      have hold5 : Below w.heap.size w w4 := H2.out.2.2.2.trans (hold4.mono hsz2)
      have H5 := Lib.hid hold5
      rw [hV1] at hen
      try rw [hV1]
      clear hkey hlk hv hat hrg4 hg4 hs4 hy0v hd hnv hrow4 hsrc4 hold4 hz0 hgr1 hgr2 hat2 hmb4 hmap4 hko hbad hq1e hq2e hlt4 hq1 hq2 hold5
      by_cases h1 : 1 < q1
      · have e1 : (1 : Int) < (q1 : Int) := by omega
        have hj := HB.out (.inl h1)
        go_wp2
        try rw [hj]
        exact bodyPost_ret (v := .tuple #[.slice none 0 0, .int .u16 251]) (by simp [results, Tryz.results94, go_sem]) rfl ⟨.slice none 0 0, [], rfl, OutEv.nil _ _, rfl, H5.out⟩
      · have e1 : ¬ (1 : Int) < (q1 : Int) := by omega
        have e1' : (q1 : Int) ≤ 1 := by omega
        have e0 : (0 : Int) < (q1 : Int) := by omega
        cases hc0 : (m.card == 0) with
        | true =>
          by_cases h2 : 1 < q2
          · have e2 : (1 : Int) < (q2 : Int) := by omega
            have hj := HB.out (.inr ⟨by simpa using hc0, h2⟩)
            go_wp2
            try rw [hj]
            exact bodyPost_ret (v := .tuple #[.slice none 0 0, .int .u16 251]) (by simp [results, Tryz.results94, go_sem]) rfl ⟨.slice none 0 0, [], rfl, OutEv.nil _ _, rfl, H5.out⟩
          · have e2 : ¬ (1 : Int) < (q2 : Int) := by omega
            have e2' : (q2 : Int) ≤ 1 := by omega
            have hgood : m.card = 0 → q2 ≤ 1 := fun _ => by omega
            have hin0 : JIn kf m.card nf resF w w2 w4 b1 w2.heap.size no D1 (fun z => left z && !z.sameKey (tLit s)) cnt4 (grp kf s many) z0 os 0 u16 os := ⟨H4.out.1, H4.out.2.1, H4.out.2.2.1, by simp, H4.out.2.2.2.1, Nat.le_refl _⟩
            have HIN := Lib.hid hin0
            clear hin0
            obtain ⟨hlk5, hlk6⟩ : (Instr.lookup 240 (.map (some b2)) (.string s) false).run Tryz.prog w4 = .ok (.slice A2 q2 c2) w4 ∧ True := ⟨hlk2, trivial⟩
            go_wp2_with fail
            clear hlk2 hlk5 hlk6 hen
            go_loopw [16, 65] (fun v' iv wz => ∃ (j : Nat) (os' : List Ev), j ≤ q2 ∧ iv = .int .i64 j ∧ Hid (JIn kf m.card nf resF w w2 wz b1 w2.heap.size no D1 (fun z => left z && !z.sameKey (tLit s)) cnt4 (grp kf s many) z0 os j v' os')) (fun _ iv _ => q2 - (intOf iv).toNat)
            case atStart => exact ⟨0, os, Nat.zero_le _, rfl, HIN⟩
            case round =>
              obtain ⟨j, os', hj, rfl, HJ⟩ := hrel
              by_cases hlt : j < q2
              · obtain ⟨bx, ox, x, rfl, hbx, hx, hcx⟩ := HZ.out.2.1.at hlt
                have d0 := (HJ.out.old.cell (p := ⟨bx, ox + j * 2 + 0, none⟩) hbx).trans (hcx 0 _ rfl)
                have d1 := (HJ.out.old.cell (p := ⟨bx, ox + j * 2 + 1, none⟩) hbx).trans (hcx 1 _ rfl)
                simp only [Nat.add_zero] at d0
                have l0 := (HJ.out.old.cell (p := ⟨gg, 0, none⟩) HZ.out.1).trans HZ.out.2.2.1.1
                have l1 := (HJ.out.old.cell (p := ⟨gg, 1, none⟩) HZ.out.1).trans HZ.out.2.2.1.2
                have hmbz : MB wr w.heap.size m := (HJ.out.old.block _ (Array.getElem?_eq_some_iff.1 H2.out.2.2.1).1).trans H2.out.2.2.1
                obtain ⟨c0m, c1m, c2m, c3m⟩ := hmbz.cells
                have hxm : x ∈ many := grp_mem (List.mem_of_getElem? hx)
                have hszz := HJ.out.old.size
                have hmbl : w.heap.size < w2.heap.size := (Array.getElem?_eq_some_iff.1 H2.out.2.2.1).1
                have hoz : Below w.heap.size w wr := H2.out.2.2.2.trans (HJ.out.old.mono hsz2)
                have hgw : gg < wr.heap.size := Nat.lt_of_lt_of_le HZ.out.1 hszz
                have hgn : gg ≠ wr.heap.size := by omega
                have hgn' : wr.heap.size ≠ gg := by omega
                have hwn : w.heap.size ≠ wr.heap.size := by omega
                have hwn' : wr.heap.size ≠ w.heap.size := by omega
                have hww : w.heap.size < wr.heap.size := by omega
                have hnx := fun W => HK.out.1 x.v z0.v W
                obtain ⟨y, hy⟩ : ∃ y, (nf x.v z0.v).1 = y := ⟨_, rfl⟩
                obtain ⟨ok, hok⟩ : ∃ ok, (nf x.v z0.v).2 = ok := ⟨_, rfl⟩
                rw [hy, hok] at hnx
                have hpe : pairE m.card nf resF x.el z0.el = if ok then some (resF x.l z0.l, y) else none := by
                  unfold pairE
                  rw [if_neg hcd]
                  show (if (nf x.v z0.v).2 = true then some (resF x.l z0.l, (nf x.v z0.v).1) else none) = _
                  rw [hok, hy]
                have HX2 := Lib.hid (show _ ∧ _ ∧ _ ∧ _ ∧ _ ∧ _ from ⟨hx, hxm, hpe, hnx, hmbz, hoz⟩)
                clear hx hcx hxm hpe hnx hmbz hoz hy hok
                go_wp2_with (go_quiet (fail))
                refine (HX2.out.2.2.2.1 _).mono ?_
                rintro e w6 ⟨rfl, hb6⟩
                have hb6z : Below wr.heap.size wr w6 := (below_drewN ((Below.refl _ wr).alloc (Nat.le_refl _) _) _).trans (hb6.mono (by simp))
                have hxb6 : w6.heap[wr.heap.size]? = some (.cells #[.slice x.A x.n x.c, .int .u64 x.v.toNat] 90 (0, 0)) := (hb6.block wr.heap.size (by simp)).trans (heap_alloc_new wr _)
                have hs6 : wr.heap.size < w6.heap.size := (Array.getElem?_eq_some_iff.1 hxb6).1
                have H6 := Lib.hid (show _ ∧ _ from ⟨hb6z, hxb6⟩)
                clear hb6 hb6z hxb6 d0 d1
                cases ok with
                | false =>
                  go_wp2
                  go_roundw
                  case measure => simp [intOf]; omega
                  case rel => exact ⟨j + 1, os', hlt, by simp, Lib.hid (HJ.out.skip HX2.out.1 H6.out.1 (by rw [HX2.out.2.2.1]; rfl))⟩
                | true =>
                  have hb6z := H6.out.1
                  have hb6w : Below w.heap.size w w6 := HX2.out.2.2.2.2.2.trans (hb6z.mono (by omega))
                  have KP : ∀ w' : World, (∀ p : Addr, p.block < w6.heap.size → (p.block < w2.heap.size ∨ p.block = wr.heap.size) → w'.cell? p = w6.cell? p) → w'.cell? ⟨w.heap.size, 0, none⟩ = some (.int .u8 m.card) ∧ w'.cell? ⟨w.heap.size, 1, none⟩ = some (.bool m.on) ∧ w'.cell? ⟨w.heap.size, 2, none⟩ = some (.slice m.LA m.Ln m.Lc) ∧ w'.cell? ⟨w.heap.size, 3, none⟩ = some (.slice m.IA m.In m.Ic) ∧ w'.cell? ⟨wr.heap.size, 0, none⟩ = some (.slice x.A x.n x.c) ∧ w'.cell? ⟨wr.heap.size, 1, none⟩ = some (.int .u64 x.v.toNat) ∧ w'.cell? ⟨gg, 0, none⟩ = some (.slice z0.A z0.n z0.c) := fun w' h => by
                    have hm6 : MB w6 w.heap.size m := (hb6z.block _ hww).trans HX2.out.2.2.2.2.1
                    obtain ⟨a0, a1, a2, a3⟩ := hm6.cells
                    obtain ⟨b0, b1, _, _⟩ := box_two H6.out.2
                    have hg6 : w6.cell? ⟨gg, 0, none⟩ = some (.slice z0.A z0.n z0.c) := (hb6z.cell (p := ⟨gg, 0, none⟩) hgw).trans l0
                    have hgg2 := HZ.out.1
                    have hwl : w.heap.size < w6.heap.size := by omega
                    have hgl : gg < w6.heap.size := by omega
                    exact ⟨(h ⟨w.heap.size, 0, none⟩ hwl (.inl hmbl)).trans a0, (h ⟨w.heap.size, 1, none⟩ hwl (.inl hmbl)).trans a1, (h ⟨w.heap.size, 2, none⟩ hwl (.inl hmbl)).trans a2, (h ⟨w.heap.size, 3, none⟩ hwl (.inl hmbl)).trans a3, (h ⟨wr.heap.size, 0, none⟩ hs6 (.inr rfl)).trans b0, (h ⟨wr.heap.size, 1, none⟩ hs6 (.inr rfl)).trans b1, (h ⟨gg, 0, none⟩ hgl (.inl hgg2)).trans hg6⟩
                  have K6 := Lib.hid (KP w6 (fun _ _ _ => rfl))
                  have hxE := HC.out.2.2.2.2.2.1.each x HX2.out.2.1
                  have hzE := HC.out.2.2.2.2.1.each z0 HZ.out.2.2.2
                  have hrc : ∀ plain, (cb && !isBool) = plain → ∀ W, Below w.heap.size w W → Calls Tryz.prog 157 #[.agg #[.int .u8 m.card, .bool m.on, .slice m.LA m.Ln m.Lc, .slice m.IA m.In m.Ic], .bool plain, .slice x.A x.n x.c, .slice z0.A z0.n z0.c] W (ResPost (resF x.l z0.l) x.l (.slice x.A x.n x.c) W) := fun plain hp W hb => by
                    rw [← hp]; exact HK.out.2.2.1 x z0 W (hxE.on hb) (hzE.on hb) (HC.out.2.2.2.2.2.2.1.on hb)
                  have hfR := HK.out.2.2.2.1 x.l z0.l hxE.fine hzE.fine
                  have hjf := HJ.out.few
                  have hof : os.length ≤ 100000 := by have h1 := HR.out.few; have h2 := parts_len (kf := kf) vis many HR.out.nd; omega
                  have HV := Lib.hid (show _ ∧ _ ∧ _ ∧ _ ∧ _ from ⟨hrc, hfR, KP, hb6w, hxE⟩)
                  have hs6' : w2.heap.size ≤ w6.heap.size := by omega
                  clear hb6z hb6w KP hxE hzE hrc hfR l0 l1 c0m c1m c2m c3m
                  obtain ⟨hi, hz0', hz1', hz2'⟩ := HI.out
                  cases hcb : cb with
                  | true =>
                    have hrc := HV.out.1 _ rfl
                    rw [hcb, Bool.true_and] at hrc
                    have HRC := Lib.hid hrc
                    clear hrc
                    go_wp2_with fail
                    go_region_held3 (fun w' => w'.cell? ⟨w.heap.size, 0, none⟩ = some (.int .u8 m.card) ∧ w'.cell? ⟨w.heap.size, 1, none⟩ = some (.bool m.on) ∧ w'.cell? ⟨w.heap.size, 2, none⟩ = some (.slice m.LA m.Ln m.Lc) ∧ w'.cell? ⟨w.heap.size, 3, none⟩ = some (.slice m.IA m.In m.Ic) ∧ w'.cell? ⟨wr.heap.size, 0, none⟩ = some (.slice x.A x.n x.c) ∧ w'.cell? ⟨wr.heap.size, 1, none⟩ = some (.int .u64 x.v.toNat) ∧ w'.cell? ⟨gg, 0, none⟩ = some (.slice z0.A z0.n z0.c)) (first | exact k9 | exact k7 | exact K6.out | go_keep)
                      (first
                        | (go_at_call 37; refine (HK.out.2.1 _).mono ?_; rintro e w' ⟨rfl, hw⟩; rw [hw, hcb]; clear hw w')
                        | (go_at_call 157; refine (HRC.out _ HV.out.2.2.2.1.drew).mono ?_; rintro e w7 ⟨v7, rfl, hb7, hr7⟩; have hb67 : Below w6.heap.size w6 w7 := ((Below.refl _ w6).drew).trans hb7; have k7 := HV.out.2.2.1 w7 (fun p hp _ => hb67.cell hp); obtain ⟨A7, n7, c7, rfl, hsrc7⟩ := res_src HV.out.2.2.2.2 HV.out.2.1 HV.out.2.2.2.1.size hr7 y; have H7 := Lib.hid (show _ ∧ _ ∧ _ from ⟨hb67, hsrc7, owns_below HJ.out.row (H6.out.1.trans (hb67.mono (by omega)))⟩); have hs7 := hb67.size; clear hb7 hr7 hb67 hsrc7)
                        | (refine step_append_lies _ (by rfl) _ _ _ (by rfl) w2.heap.size 90 i0 _ 2 32 Tryz.underlying33 hi hz0' hz1' hz2' rfl (by omega) _ os'.length (os'.flatMap encEv) (by rfl) (by exact H7.out.2.2.alloc _) ⟨w7.heap.size, 0, none⟩ 1 1 [.slice A7 n7 c7, .int .u64 y.toNat] (by rfl) (by rfl) (by exact cells_newL w7 [.slice A7 n7 c7, .int .u64 y.toNat] _) (by simp [Value.oneCell']) (by omega) (by unfold maxLen; omega) (by omega) (by simp; omega) (w7.heap.size + 1) (by simp) ?_; intro g8 c8 w8 hown8 hg8 hl8 hlt8; have k9 := HV.out.2.2.1 w8 (fun p hp h => (cell_grown hg8 (by simp; omega) (fun e => by have h1 := HJ.out.row.lt _ e.symm; rcases h with h | h <;> omega)).trans (by rw [World.cell?_of_block (w := w7) (heap_alloc_old w7 _ (by omega))]; exact H7.out.1.cell hp)); have H8 := Lib.hid (show _ ∧ _ from ⟨hown8, hg8⟩); clear hown8 hg8 hl8 hlt8)
                        | fail)
                    have HN := Lib.hid (HJ.out.add (o := ⟨A7, n7, c7, resF x.l z0.l, y⟩) HX2.out.1 ((H6.out.1.trans (H7.out.1.mono (by omega))).alloc (by omega) (.cells #[.slice A7 n7 c7, .int .u64 y.toNat] 90)) (H7.out.2.1.below ((Below.refl _ w7).alloc (Nat.le_refl _) _)) H8.out.1 H8.out.2 (by rw [HX2.out.2.2.1]; rfl))
                    clear hi hz0' hz1' hz2'
                    go_wp2
                    go_roundw
                    case measure => simp [intOf]; omega
                    case rel => exact ⟨j + 1, _, hlt, by simp, HN⟩
                  | false =>
                    have hrc := HV.out.1 _ rfl
                    rw [hcb, Bool.false_and] at hrc
                    have HRC := Lib.hid hrc
                    clear hrc
                    go_wp2_with fail
                    refine wp_region_noPanic ?_
                    refine wp_region_held_drew (S := fun w' => w'.cell? ⟨w.heap.size, 0, none⟩ = some (.int .u8 m.card) ∧ w'.cell? ⟨w.heap.size, 1, none⟩ = some (.bool m.on) ∧ w'.cell? ⟨w.heap.size, 2, none⟩ = some (.slice m.LA m.Ln m.Lc) ∧ w'.cell? ⟨w.heap.size, 3, none⟩ = some (.slice m.IA m.In m.Ic) ∧ w'.cell? ⟨wr.heap.size, 0, none⟩ = some (.slice x.A x.n x.c) ∧ w'.cell? ⟨wr.heap.size, 1, none⟩ = some (.int .u64 x.v.toNat) ∧ w'.cell? ⟨gg, 0, none⟩ = some (.slice z0.A z0.n z0.c)) (by kernel_rfl) K6.out (fun hHeld => ?_)
                    refine wpAnyH_take (i := 0) (v := u16) rfl (by kernel_rfl) (by kernel_rfl) (by kernel_rfl) (fun _ _ _ h => h) (Or.inl ⟨by rfl, ?_⟩) (by assumption) ?_
                    · intro w' hSw; (try dsimp only at hSw); go_simp; try with_reducible rfl
                    try simp only [Act.put, List.getElem_toArray, List.getElem_cons_zero, List.getElem_cons_succ, List.setIfInBounds_toArray, List.set_cons_zero, List.set_cons_succ]
                    refine wpAnyH_take (i := 1) (v := .agg #[.int .u8 m.card, .bool m.on, .slice m.LA m.Ln m.Lc, .slice m.IA m.In m.Ic]) rfl (by kernel_rfl) (by kernel_rfl) (by kernel_rfl) (fun _ _ _ h => h) (Or.inl ⟨by rfl, ?_⟩) (by assumption) ?_
                    · intro w' hSw; (try dsimp only at hSw); go_simp; try with_reducible rfl
                    try simp only [Act.put, List.getElem_toArray, List.getElem_cons_zero, List.getElem_cons_succ, List.setIfInBounds_toArray, List.set_cons_zero, List.set_cons_succ]
                    refine wpAnyH_take (i := 2) (v := .int .u8 op) rfl (by kernel_rfl) (by kernel_rfl) (by kernel_rfl) (fun _ _ _ h => h) (Or.inl ⟨by rfl, ?_⟩) (by assumption) ?_
                    · intro w' hSw; (try dsimp only at hSw); go_simp; try with_reducible rfl
                    try simp only [Act.put, List.getElem_toArray, List.getElem_cons_zero, List.getElem_cons_succ, List.setIfInBounds_toArray, List.set_cons_zero, List.set_cons_succ]
                    refine wpAnyH_take (i := 8) (v := .pointer (some ⟨wr.heap.size, 0, none⟩)) rfl (by kernel_rfl) (by kernel_rfl) (by kernel_rfl) (fun _ _ _ h => h) (Or.inl ⟨by rfl, ?_⟩) (by assumption) ?_
                    · intro w' hSw; (try dsimp only at hSw); go_simp; try with_reducible rfl
                    try simp only [Act.put, List.getElem_toArray, List.getElem_cons_zero, List.getElem_cons_succ, List.setIfInBounds_toArray, List.set_cons_zero, List.set_cons_succ]
                    refine wpAnyH_take (i := 9) (v := .slice x.A x.n x.c) rfl (by kernel_rfl) (by kernel_rfl) (by kernel_rfl) (fun _ _ _ h => h) (Or.inl ⟨by rfl, ?_⟩) (by assumption) ?_
                    · intro w' hSw; (try dsimp only at hSw); go_simp; try with_reducible rfl
                    try simp only [Act.put, List.getElem_toArray, List.getElem_cons_zero, List.getElem_cons_succ, List.setIfInBounds_toArray, List.set_cons_zero, List.set_cons_succ]
                    refine wpAnyH_take (i := 10) (v := .slice (some ⟨gg, 0, none⟩) q1 c1) rfl (by kernel_rfl) (by kernel_rfl) (by kernel_rfl) (fun _ _ _ h => h) (Or.inl ⟨by rfl, ?_⟩) (by assumption) ?_
                    · intro w' hSw; (try dsimp only at hSw); go_simp; try with_reducible rfl
                    try simp only [Act.put, List.getElem_toArray, List.getElem_cons_zero, List.getElem_cons_succ, List.setIfInBounds_toArray, List.set_cons_zero, List.set_cons_succ]
                    refine wpAnyH_take (i := 11) (v := .pointer (some ⟨gg, 0, none⟩)) rfl (by kernel_rfl) (by kernel_rfl) (by kernel_rfl) (fun _ _ _ h => h) (Or.inl ⟨by rfl, ?_⟩) (by assumption) ?_
                    · intro w' hSw; (try dsimp only at hSw); go_simp; try with_reducible rfl
                    try simp only [Act.put, List.getElem_toArray, List.getElem_cons_zero, List.getElem_cons_succ, List.setIfInBounds_toArray, List.set_cons_zero, List.set_cons_succ]
                    refine wpAnyH_take (i := 12) (v := .pointer (some ⟨gg, 0, none⟩)) rfl (by kernel_rfl) (by kernel_rfl) (by kernel_rfl) (fun _ _ _ h => h) (Or.inl ⟨by rfl, ?_⟩) (by assumption) ?_
                    · intro w' hSw; (try dsimp only at hSw); go_simp; try with_reducible rfl
                    try simp only [Act.put, List.getElem_toArray, List.getElem_cons_zero, List.getElem_cons_succ, List.setIfInBounds_toArray, List.set_cons_zero, List.set_cons_succ]
                    refine wpAnyH_take (i := 13) (v := .slice z0.A z0.n z0.c) rfl (by kernel_rfl) (by kernel_rfl) (by kernel_rfl) (fun _ _ _ h => h) (Or.inl ⟨by rfl, ?_⟩) (by assumption) ?_
                    · intro w' hSw; (try dsimp only at hSw); go_simp; try with_reducible rfl
                    try simp only [Act.put, List.getElem_toArray, List.getElem_cons_zero, List.getElem_cons_succ, List.setIfInBounds_toArray, List.set_cons_zero, List.set_cons_succ]
                    refine wpAnyH_take (i := 15) (v := .int .u64 y.toNat) rfl (by kernel_rfl) (by kernel_rfl) (by kernel_rfl) (fun _ _ _ h => h) (Or.inl ⟨by rfl, ?_⟩) (by assumption) ?_
                    · intro w' hSw; (try dsimp only at hSw); go_simp; try with_reducible rfl
                    try simp only [Act.put, List.getElem_toArray, List.getElem_cons_zero, List.getElem_cons_succ, List.setIfInBounds_toArray, List.set_cons_zero, List.set_cons_succ]
                    refine wpAnyH_ready (rs := [3]) (by kernel_rfl) (by simp) ?_
                    refine AllReadyH.cons rfl (fun K hK => ?_) AllReadyH.nil
                    go_simp
                    go_at_call 37
                    refine (HK.out.2.1 _).mono ?_
                    rintro e w' ⟨rfl, hw⟩
                    rw [hw, hcb]
                    clear hw w'
                    go_wp2_with fail
                    refine hK.out _ _ ?_ (fun hHeld => ?_)
                    · exact K6.out
                    clear hK K
                    try simp only [Act.put, List.getElem_toArray, List.getElem_cons_zero, List.getElem_cons_succ, List.setIfInBounds_toArray, List.set_cons_zero, List.set_cons_succ]
                    refine wpAnyH_take (i := 4) (v := .bool false) rfl (by kernel_rfl) (by kernel_rfl) (by kernel_rfl) (fun _ _ _ h => h) (Or.inl ⟨by rfl, ?_⟩) (by assumption) ?_
                    · intro w' hSw; (try dsimp only at hSw); go_simp; try with_reducible rfl
                    try simp only [Act.put, List.getElem_toArray, List.getElem_cons_zero, List.getElem_cons_succ, List.setIfInBounds_toArray, List.set_cons_zero, List.set_cons_succ]
                    refine wpAnyH_take (i := 5) (v := undef) rfl (by kernel_rfl) (by kernel_rfl) (by kernel_rfl) (fun _ _ _ h => h) (Or.inr ⟨by rfl, rfl⟩) (by assumption) ?_
                    try simp only [Act.put, List.getElem_toArray, List.getElem_cons_zero, List.getElem_cons_succ, List.setIfInBounds_toArray, List.set_cons_zero, List.set_cons_succ]
                    refine wpAnyH_take (i := 6) (v := undef) rfl (by kernel_rfl) (by kernel_rfl) (by kernel_rfl) (fun _ _ _ h => h) (Or.inr ⟨by rfl, rfl⟩) (by assumption) ?_
                    try simp only [Act.put, List.getElem_toArray, List.getElem_cons_zero, List.getElem_cons_succ, List.setIfInBounds_toArray, List.set_cons_zero, List.set_cons_succ]
                    refine wpAnyH_take (i := 7) (v := .bool false) rfl (by kernel_rfl) (by kernel_rfl) (by kernel_rfl) (fun _ _ _ h => h) (Or.inl ⟨by rfl, ?_⟩) (by assumption) ?_
                    · intro w' hSw; (try dsimp only at hSw); go_simp; try with_reducible rfl
                    try simp only [Act.put, List.getElem_toArray, List.getElem_cons_zero, List.getElem_cons_succ, List.setIfInBounds_toArray, List.set_cons_zero, List.set_cons_succ]
                    refine wpAnyH_ready (rs := [14]) (by kernel_rfl) (by simp) ?_
                    refine AllReadyH.cons rfl (fun K hK => ?_) AllReadyH.nil
                    go_simp
                    go_at_call 157
                    refine (HRC.out _ HV.out.2.2.2.1.drew).mono ?_
                    rintro e w7 ⟨v7, rfl, hb7, hr7⟩
                    have hb67 : Below w6.heap.size w6 w7 := ((Below.refl _ w6).drew).trans hb7
                    have k7 := HV.out.2.2.1 w7 (fun p hp _ => hb67.cell hp)
                    obtain ⟨A7, n7, c7, rfl, hsrc7⟩ := res_src HV.out.2.2.2.2 HV.out.2.1 HV.out.2.2.2.1.size hr7 y
                    have H7 := Lib.hid (show _ ∧ _ ∧ _ from ⟨hb67, hsrc7, owns_below HJ.out.row (H6.out.1.trans (hb67.mono (by omega)))⟩)
                    have hs7 := hb67.size
                    clear hb7 hr7 hb67 hsrc7
                    go_wp2_with fail
                    refine hK.out _ _ ?_ (fun hHeld => ?_)
                    · exact k7
                    clear hK K
                    try simp only [Act.put, List.getElem_toArray, List.getElem_cons_zero, List.getElem_cons_succ, List.setIfInBounds_toArray, List.set_cons_zero, List.set_cons_succ]
                    refine wpAnyH_take (i := 16) (v := .agg #[.slice A7 n7 c7, .int .u64 y.toNat]) rfl (by kernel_rfl) (by kernel_rfl) (by kernel_rfl) (fun _ _ _ h => h) (Or.inl ⟨by rfl, ?_⟩) (by assumption) ?_
                    · intro w' hSw; (try dsimp only at hSw); go_simp; try with_reducible rfl
                    try simp only [Act.put, List.getElem_toArray, List.getElem_cons_zero, List.getElem_cons_succ, List.setIfInBounds_toArray, List.set_cons_zero, List.set_cons_succ]
                    have k8 := HV.out.2.2.1 (w7.alloc (.cells #[.slice A7 n7 c7, .int .u64 y.toNat] 90)) (fun p hp _ => (World.cell?_of_block (w := w7) (heap_alloc_old w7 _ (by omega))).trans (H7.out.1.cell hp))
                    refine wpAnyH_ready (rs := [17]) (by kernel_rfl) (by simp) ?_
                    refine AllReadyH.cons rfl (fun K hK => ?_) AllReadyH.nil
                    go_simp
                    refine hK.out _ _ ?_ (fun hHeld => ?_)
                    · exact k8
                    clear hK K
                    try simp only [Act.put, List.getElem_toArray, List.getElem_cons_zero, List.getElem_cons_succ, List.setIfInBounds_toArray, List.set_cons_zero, List.set_cons_succ]
                    refine wpAnyH_ready (rs := [18]) (by kernel_rfl) (by simp) ?_
                    refine AllReadyH.cons rfl (fun K hK => ?_) AllReadyH.nil
                    refine step_append_lies _ (by rfl) _ _ _ (by rfl) w2.heap.size 90 i0 _ 2 32 Tryz.underlying33 hi hz0' hz1' hz2' rfl (by omega) _ os'.length (os'.flatMap encEv) (by rfl) (by exact H7.out.2.2.alloc _) ⟨w7.heap.size, 0, none⟩ 1 1 [.slice A7 n7 c7, .int .u64 y.toNat] (by rfl) (by rfl) (by exact cells_newL w7 [.slice A7 n7 c7, .int .u64 y.toNat] _) (by simp [Value.oneCell']) (by omega) (by unfold maxLen; omega) (by omega) (by simp; omega) (w7.heap.size + 1) (by simp) ?_; intro g8 c8 w8 hown8 hg8 hl8 hlt8; have k9 := HV.out.2.2.1 w8 (fun p hp h => (cell_grown hg8 (by simp; omega) (fun e => by have h1 := HJ.out.row.lt _ e.symm; rcases h with h | h <;> omega)).trans (by rw [World.cell?_of_block (w := w7) (heap_alloc_old w7 _ (by omega))]; exact H7.out.1.cell hp)); have H8 := Lib.hid (show _ ∧ _ from ⟨hown8, hg8⟩); clear hown8 hg8 hl8 hlt8
                    refine hK.out _ _ ?_ (fun hHeld => ?_)
                    · exact k9
                    clear hK K
                    try simp only [Act.put, List.getElem_toArray, List.getElem_cons_zero, List.getElem_cons_succ, List.setIfInBounds_toArray, List.set_cons_zero, List.set_cons_succ]
                    refine wpAnyH_take (i := 19) (v := .slice (some ⟨g8, 0, none⟩) (os'.length + 1) c8) rfl (by kernel_rfl) (by kernel_rfl) (by kernel_rfl) (fun _ _ _ h => h) (Or.inl ⟨by rfl, ?_⟩) (by assumption) ?_
                    · intro w' hSw; (try dsimp only at hSw); go_simp; try with_reducible rfl
                    try simp only [Act.put, List.getElem_toArray, List.getElem_cons_zero, List.getElem_cons_succ, List.setIfInBounds_toArray, List.set_cons_zero, List.set_cons_succ]
                    refine wpAnyH_done (by kernel_rfl) ?_ _
                    refine NoPanic.normal ?_
                    have HN := Lib.hid (HJ.out.add (o := ⟨A7, n7, c7, resF x.l z0.l, y⟩) HX2.out.1 ((H6.out.1.trans (H7.out.1.mono (by omega))).alloc (by omega) (.cells #[.slice A7 n7 c7, .int .u64 y.toNat] 90)) (H7.out.2.1.below ((Below.refl _ w7).alloc (Nat.le_refl _) _)) H8.out.1 H8.out.2 (by rw [HX2.out.2.2.1]; rfl))
                    clear hi hz0' hz1' hz2'
                    go_wp2
                    go_roundw
                    case measure => simp [intOf]; omega
                    case rel => exact ⟨j + 1, _, hlt, by simp, HN⟩
              · obtain rfl : j = q2 := by omega
                have hel := HJ.out.el
                rw [List.take_of_length_le (by rw [HX.out.2.2.2.2.1]; exact Nat.le_refl _)] at hel
                have h1s := one_of HX.out.2.2.1 (show (grp kf s one).length = 1 by rw [HX.out.2.2.2.1]; omega)
                have hk1 : grpE kf s (one.map Ev.el) = [z0.el] := by rw [← grp_grpE, h1s]; rfl
                have hel2 : os'.map Ev.el = os.map Ev.el ++ outK kf m.card nf resF (one.map Ev.el) (many.map Ev.el) s := by
                  rw [hel, outK_of hk1, ← grp_grpE, List.filterMap_map]
                  rfl
                have hdone := HR.out.done_ HX.out.1 HX.out.2.1 HJ.out.rng HJ.out.row HJ.out.src hel2 (by rw [HX.out.2.2.2.1]; omega) (fun h => by rw [HX.out.2.2.2.2.1]; exact hgood h) HJ.out.old (by rw [HX.out.2.2.2.2.1]; exact HJ.out.few)
                have HE := Lib.hid hdone
                have hltc := HX.out.2.2.2.2.2.1
                clear hel h1s hk1 hel2 hdone
                go_wp2
                go_roundw
                case measure =>
                  rw [HJ.out.rng.left_eq, HR.out.rng.left_eq]; exact hltc
                case rel => exact ⟨_, cnt4, vis ++ [s], os', by simp; omega, HE⟩
        | false =>
          have hgood : m.card = 0 → q2 ≤ 1 := fun h => by rw [h] at hc0; cases hc0
          have hin0 : JIn kf m.card nf resF w w2 w4 b1 w2.heap.size no D1 (fun z => left z && !z.sameKey (tLit s)) cnt4 (grp kf s many) z0 os 0 u16 os := ⟨H4.out.1, H4.out.2.1, H4.out.2.2.1, by simp, H4.out.2.2.2.1, Nat.le_refl _⟩
          have HIN := Lib.hid hin0
          clear hin0
          obtain ⟨hlk5, hlk6⟩ : (Instr.lookup 240 (.map (some b2)) (.string s) false).run Tryz.prog w4 = .ok (.slice A2 q2 c2) w4 ∧ True := ⟨hlk2, trivial⟩
          go_wp2_with fail
          clear hlk2 hlk5 hlk6 hen
          go_loopw [16, 65] (fun v' iv wz => ∃ (j : Nat) (os' : List Ev), j ≤ q2 ∧ iv = .int .i64 j ∧ Hid (JIn kf m.card nf resF w w2 wz b1 w2.heap.size no D1 (fun z => left z && !z.sameKey (tLit s)) cnt4 (grp kf s many) z0 os j v' os')) (fun _ iv _ => q2 - (intOf iv).toNat)
          case atStart => exact ⟨0, os, Nat.zero_le _, rfl, HIN⟩
          case round =>
            obtain ⟨j, os', hj, rfl, HJ⟩ := hrel
            by_cases hlt : j < q2
            · obtain ⟨bx, ox, x, rfl, hbx, hx, hcx⟩ := HZ.out.2.1.at hlt
              have d0 := (HJ.out.old.cell (p := ⟨bx, ox + j * 2 + 0, none⟩) hbx).trans (hcx 0 _ rfl)
              have d1 := (HJ.out.old.cell (p := ⟨bx, ox + j * 2 + 1, none⟩) hbx).trans (hcx 1 _ rfl)
              simp only [Nat.add_zero] at d0
              have l0 := (HJ.out.old.cell (p := ⟨gg, 0, none⟩) HZ.out.1).trans HZ.out.2.2.1.1
              have l1 := (HJ.out.old.cell (p := ⟨gg, 1, none⟩) HZ.out.1).trans HZ.out.2.2.1.2
              have hmbz : MB wr w.heap.size m := (HJ.out.old.block _ (Array.getElem?_eq_some_iff.1 H2.out.2.2.1).1).trans H2.out.2.2.1
              obtain ⟨c0m, c1m, c2m, c3m⟩ := hmbz.cells
              have hxm : x ∈ many := grp_mem (List.mem_of_getElem? hx)
              have hszz := HJ.out.old.size
              have hmbl : w.heap.size < w2.heap.size := (Array.getElem?_eq_some_iff.1 H2.out.2.2.1).1
              have hoz : Below w.heap.size w wr := H2.out.2.2.2.trans (HJ.out.old.mono hsz2)
              have hgw : gg < wr.heap.size := Nat.lt_of_lt_of_le HZ.out.1 hszz
              have hgn : gg ≠ wr.heap.size := by omega
              have hgn' : wr.heap.size ≠ gg := by omega
              have hwn : w.heap.size ≠ wr.heap.size := by omega
              have hwn' : wr.heap.size ≠ w.heap.size := by omega
              have hww : w.heap.size < wr.heap.size := by omega
              have hnx := fun W => HK.out.1 x.v z0.v W
              obtain ⟨y, hy⟩ : ∃ y, (nf x.v z0.v).1 = y := ⟨_, rfl⟩
              obtain ⟨ok, hok⟩ : ∃ ok, (nf x.v z0.v).2 = ok := ⟨_, rfl⟩
              rw [hy, hok] at hnx
              have hpe : pairE m.card nf resF x.el z0.el = if ok then some (resF x.l z0.l, y) else none := by
                unfold pairE
                rw [if_neg hcd]
                show (if (nf x.v z0.v).2 = true then some (resF x.l z0.l, (nf x.v z0.v).1) else none) = _
                rw [hok, hy]
              have HX2 := Lib.hid (show _ ∧ _ ∧ _ ∧ _ ∧ _ ∧ _ from ⟨hx, hxm, hpe, hnx, hmbz, hoz⟩)
              clear hx hcx hxm hpe hnx hmbz hoz hy hok
              go_wp2_with (go_quiet (fail))
              refine (HX2.out.2.2.2.1 _).mono ?_
              rintro e w6 ⟨rfl, hb6⟩
              have hb6z : Below wr.heap.size wr w6 := (below_drewN ((Below.refl _ wr).alloc (Nat.le_refl _) _) _).trans (hb6.mono (by simp))
              have hxb6 : w6.heap[wr.heap.size]? = some (.cells #[.slice x.A x.n x.c, .int .u64 x.v.toNat] 90 (0, 0)) := (hb6.block wr.heap.size (by simp)).trans (heap_alloc_new wr _)
              have hs6 : wr.heap.size < w6.heap.size := (Array.getElem?_eq_some_iff.1 hxb6).1
              have H6 := Lib.hid (show _ ∧ _ from ⟨hb6z, hxb6⟩)
              clear hb6 hb6z hxb6 d0 d1
              cases ok with
              | false =>
                go_wp2
                go_roundw
                case measure => simp [intOf]; omega
                case rel => exact ⟨j + 1, os', hlt, by simp, Lib.hid (HJ.out.skip HX2.out.1 H6.out.1 (by rw [HX2.out.2.2.1]; rfl))⟩
              | true =>
                have hb6z := H6.out.1
                have hb6w : Below w.heap.size w w6 := HX2.out.2.2.2.2.2.trans (hb6z.mono (by omega))
                have KP : ∀ w' : World, (∀ p : Addr, p.block < w6.heap.size → (p.block < w2.heap.size ∨ p.block = wr.heap.size) → w'.cell? p = w6.cell? p) → w'.cell? ⟨w.heap.size, 0, none⟩ = some (.int .u8 m.card) ∧ w'.cell? ⟨w.heap.size, 1, none⟩ = some (.bool m.on) ∧ w'.cell? ⟨w.heap.size, 2, none⟩ = some (.slice m.LA m.Ln m.Lc) ∧ w'.cell? ⟨w.heap.size, 3, none⟩ = some (.slice m.IA m.In m.Ic) ∧ w'.cell? ⟨wr.heap.size, 0, none⟩ = some (.slice x.A x.n x.c) ∧ w'.cell? ⟨wr.heap.size, 1, none⟩ = some (.int .u64 x.v.toNat) ∧ w'.cell? ⟨gg, 0, none⟩ = some (.slice z0.A z0.n z0.c) := fun w' h => by
                  have hm6 : MB w6 w.heap.size m := (hb6z.block _ hww).trans HX2.out.2.2.2.2.1
                  obtain ⟨a0, a1, a2, a3⟩ := hm6.cells
                  obtain ⟨b0, b1, _, _⟩ := box_two H6.out.2
                  have hg6 : w6.cell? ⟨gg, 0, none⟩ = some (.slice z0.A z0.n z0.c) := (hb6z.cell (p := ⟨gg, 0, none⟩) hgw).trans l0
                  have hgg2 := HZ.out.1
                  have hwl : w.heap.size < w6.heap.size := by omega
                  have hgl : gg < w6.heap.size := by omega
                  exact ⟨(h ⟨w.heap.size, 0, none⟩ hwl (.inl hmbl)).trans a0, (h ⟨w.heap.size, 1, none⟩ hwl (.inl hmbl)).trans a1, (h ⟨w.heap.size, 2, none⟩ hwl (.inl hmbl)).trans a2, (h ⟨w.heap.size, 3, none⟩ hwl (.inl hmbl)).trans a3, (h ⟨wr.heap.size, 0, none⟩ hs6 (.inr rfl)).trans b0, (h ⟨wr.heap.size, 1, none⟩ hs6 (.inr rfl)).trans b1, (h ⟨gg, 0, none⟩ hgl (.inl hgg2)).trans hg6⟩
                have K6 := Lib.hid (KP w6 (fun _ _ _ => rfl))
                have hxE := HC.out.2.2.2.2.2.1.each x HX2.out.2.1
                have hzE := HC.out.2.2.2.2.1.each z0 HZ.out.2.2.2
                have hrc : ∀ plain, (cb && !isBool) = plain → ∀ W, Below w.heap.size w W → Calls Tryz.prog 157 #[.agg #[.int .u8 m.card, .bool m.on, .slice m.LA m.Ln m.Lc, .slice m.IA m.In m.Ic], .bool plain, .slice x.A x.n x.c, .slice z0.A z0.n z0.c] W (ResPost (resF x.l z0.l) x.l (.slice x.A x.n x.c) W) := fun plain hp W hb => by
                  rw [← hp]; exact HK.out.2.2.1 x z0 W (hxE.on hb) (hzE.on hb) (HC.out.2.2.2.2.2.2.1.on hb)
                have hfR := HK.out.2.2.2.1 x.l z0.l hxE.fine hzE.fine
                have hjf := HJ.out.few
                have hof : os.length ≤ 100000 := by have h1 := HR.out.few; have h2 := parts_len (kf := kf) vis many HR.out.nd; omega
                have HV := Lib.hid (show _ ∧ _ ∧ _ ∧ _ ∧ _ from ⟨hrc, hfR, KP, hb6w, hxE⟩)
                have hs6' : w2.heap.size ≤ w6.heap.size := by omega
                clear hb6z hb6w KP hxE hzE hrc hfR l0 l1 c0m c1m c2m c3m
                obtain ⟨hi, hz0', hz1', hz2'⟩ := HI.out
                cases hcb : cb with
                | true =>
                  have hrc := HV.out.1 _ rfl
                  rw [hcb, Bool.true_and] at hrc
                  have HRC := Lib.hid hrc
                  clear hrc
                  go_wp2_with fail
                  go_region_held3 (fun w' => w'.cell? ⟨w.heap.size, 0, none⟩ = some (.int .u8 m.card) ∧ w'.cell? ⟨w.heap.size, 1, none⟩ = some (.bool m.on) ∧ w'.cell? ⟨w.heap.size, 2, none⟩ = some (.slice m.LA m.Ln m.Lc) ∧ w'.cell? ⟨w.heap.size, 3, none⟩ = some (.slice m.IA m.In m.Ic) ∧ w'.cell? ⟨wr.heap.size, 0, none⟩ = some (.slice x.A x.n x.c) ∧ w'.cell? ⟨wr.heap.size, 1, none⟩ = some (.int .u64 x.v.toNat) ∧ w'.cell? ⟨gg, 0, none⟩ = some (.slice z0.A z0.n z0.c)) (first | exact k9 | exact k7 | exact K6.out | go_keep)
                    (first
                      | (go_at_call 37; refine (HK.out.2.1 _).mono ?_; rintro e w' ⟨rfl, hw⟩; rw [hw, hcb]; clear hw w')
                      | (go_at_call 157; refine (HRC.out _ HV.out.2.2.2.1.drew).mono ?_; rintro e w7 ⟨v7, rfl, hb7, hr7⟩; have hb67 : Below w6.heap.size w6 w7 := ((Below.refl _ w6).drew).trans hb7; have k7 := HV.out.2.2.1 w7 (fun p hp _ => hb67.cell hp); obtain ⟨A7, n7, c7, rfl, hsrc7⟩ := res_src HV.out.2.2.2.2 HV.out.2.1 HV.out.2.2.2.1.size hr7 y; have H7 := Lib.hid (show _ ∧ _ ∧ _ from ⟨hb67, hsrc7, owns_below HJ.out.row (H6.out.1.trans (hb67.mono (by omega)))⟩); have hs7 := hb67.size; clear hb7 hr7 hb67 hsrc7)
                      | (refine step_append_lies _ (by rfl) _ _ _ (by rfl) w2.heap.size 90 i0 _ 2 32 Tryz.underlying33 hi hz0' hz1' hz2' rfl (by omega) _ os'.length (os'.flatMap encEv) (by rfl) (by exact H7.out.2.2.alloc _) ⟨w7.heap.size, 0, none⟩ 1 1 [.slice A7 n7 c7, .int .u64 y.toNat] (by rfl) (by rfl) (by exact cells_newL w7 [.slice A7 n7 c7, .int .u64 y.toNat] _) (by simp [Value.oneCell']) (by omega) (by unfold maxLen; omega) (by omega) (by simp; omega) (w7.heap.size + 1) (by simp) ?_; intro g8 c8 w8 hown8 hg8 hl8 hlt8; have k9 := HV.out.2.2.1 w8 (fun p hp h => (cell_grown hg8 (by simp; omega) (fun e => by have h1 := HJ.out.row.lt _ e.symm; rcases h with h | h <;> omega)).trans (by rw [World.cell?_of_block (w := w7) (heap_alloc_old w7 _ (by omega))]; exact H7.out.1.cell hp)); have H8 := Lib.hid (show _ ∧ _ from ⟨hown8, hg8⟩); clear hown8 hg8 hl8 hlt8)
                      | fail)
                  have HN := Lib.hid (HJ.out.add (o := ⟨A7, n7, c7, resF x.l z0.l, y⟩) HX2.out.1 ((H6.out.1.trans (H7.out.1.mono (by omega))).alloc (by omega) (.cells #[.slice A7 n7 c7, .int .u64 y.toNat] 90)) (H7.out.2.1.below ((Below.refl _ w7).alloc (Nat.le_refl _) _)) H8.out.1 H8.out.2 (by rw [HX2.out.2.2.1]; rfl))
                  clear hi hz0' hz1' hz2'
                  go_wp2
                  go_roundw
                  case measure => simp [intOf]; omega
                  case rel => exact ⟨j + 1, _, hlt, by simp, HN⟩
                | false =>
                  have hrc := HV.out.1 _ rfl
                  rw [hcb, Bool.false_and] at hrc
                  have HRC := Lib.hid hrc
                  clear hrc
                  go_wp2_with fail
                  refine wp_region_noPanic ?_
                  refine wp_region_held_drew (S := fun w' => w'.cell? ⟨w.heap.size, 0, none⟩ = some (.int .u8 m.card) ∧ w'.cell? ⟨w.heap.size, 1, none⟩ = some (.bool m.on) ∧ w'.cell? ⟨w.heap.size, 2, none⟩ = some (.slice m.LA m.Ln m.Lc) ∧ w'.cell? ⟨w.heap.size, 3, none⟩ = some (.slice m.IA m.In m.Ic) ∧ w'.cell? ⟨wr.heap.size, 0, none⟩ = some (.slice x.A x.n x.c) ∧ w'.cell? ⟨wr.heap.size, 1, none⟩ = some (.int .u64 x.v.toNat) ∧ w'.cell? ⟨gg, 0, none⟩ = some (.slice z0.A z0.n z0.c)) (by kernel_rfl) K6.out (fun hHeld => ?_)
                  refine wpAnyH_take (i := 0) (v := u16) rfl (by kernel_rfl) (by kernel_rfl) (by kernel_rfl) (fun _ _ _ h => h) (Or.inl ⟨by rfl, ?_⟩) (by assumption) ?_
                  · intro w' hSw; (try dsimp only at hSw); go_simp; try with_reducible rfl
                  try simp only [Act.put, List.getElem_toArray, List.getElem_cons_zero, List.getElem_cons_succ, List.setIfInBounds_toArray, List.set_cons_zero, List.set_cons_succ]
                  refine wpAnyH_take (i := 1) (v := .agg #[.int .u8 m.card, .bool m.on, .slice m.LA m.Ln m.Lc, .slice m.IA m.In m.Ic]) rfl (by kernel_rfl) (by kernel_rfl) (by kernel_rfl) (fun _ _ _ h => h) (Or.inl ⟨by rfl, ?_⟩) (by assumption) ?_
                  · intro w' hSw; (try dsimp only at hSw); go_simp; try with_reducible rfl
                  try simp only [Act.put, List.getElem_toArray, List.getElem_cons_zero, List.getElem_cons_succ, List.setIfInBounds_toArray, List.set_cons_zero, List.set_cons_succ]
                  refine wpAnyH_take (i := 2) (v := .int .u8 op) rfl (by kernel_rfl) (by kernel_rfl) (by kernel_rfl) (fun _ _ _ h => h) (Or.inl ⟨by rfl, ?_⟩) (by assumption) ?_
                  · intro w' hSw; (try dsimp only at hSw); go_simp; try with_reducible rfl
                  try simp only [Act.put, List.getElem_toArray, List.getElem_cons_zero, List.getElem_cons_succ, List.setIfInBounds_toArray, List.set_cons_zero, List.set_cons_succ]
                  refine wpAnyH_take (i := 8) (v := .pointer (some ⟨wr.heap.size, 0, none⟩)) rfl (by kernel_rfl) (by kernel_rfl) (by kernel_rfl) (fun _ _ _ h => h) (Or.inl ⟨by rfl, ?_⟩) (by assumption) ?_
                  · intro w' hSw; (try dsimp only at hSw); go_simp; try with_reducible rfl
                  try simp only [Act.put, List.getElem_toArray, List.getElem_cons_zero, List.getElem_cons_succ, List.setIfInBounds_toArray, List.set_cons_zero, List.set_cons_succ]
                  refine wpAnyH_take (i := 9) (v := .slice x.A x.n x.c) rfl (by kernel_rfl) (by kernel_rfl) (by kernel_rfl) (fun _ _ _ h => h) (Or.inl ⟨by rfl, ?_⟩) (by assumption) ?_
                  · intro w' hSw; (try dsimp only at hSw); go_simp; try with_reducible rfl
                  try simp only [Act.put, List.getElem_toArray, List.getElem_cons_zero, List.getElem_cons_succ, List.setIfInBounds_toArray, List.set_cons_zero, List.set_cons_succ]
                  refine wpAnyH_take (i := 10) (v := .slice (some ⟨gg, 0, none⟩) q1 c1) rfl (by kernel_rfl) (by kernel_rfl) (by kernel_rfl) (fun _ _ _ h => h) (Or.inl ⟨by rfl, ?_⟩) (by assumption) ?_
                  · intro w' hSw; (try dsimp only at hSw); go_simp; try with_reducible rfl
                  try simp only [Act.put, List.getElem_toArray, List.getElem_cons_zero, List.getElem_cons_succ, List.setIfInBounds_toArray, List.set_cons_zero, List.set_cons_succ]
                  refine wpAnyH_take (i := 11) (v := .pointer (some ⟨gg, 0, none⟩)) rfl (by kernel_rfl) (by kernel_rfl) (by kernel_rfl) (fun _ _ _ h => h) (Or.inl ⟨by rfl, ?_⟩) (by assumption) ?_
                  · intro w' hSw; (try dsimp only at hSw); go_simp; try with_reducible rfl
                  try simp only [Act.put, List.getElem_toArray, List.getElem_cons_zero, List.getElem_cons_succ, List.setIfInBounds_toArray, List.set_cons_zero, List.set_cons_succ]
                  refine wpAnyH_take (i := 12) (v := .pointer (some ⟨gg, 0, none⟩)) rfl (by kernel_rfl) (by kernel_rfl) (by kernel_rfl) (fun _ _ _ h => h) (Or.inl ⟨by rfl, ?_⟩) (by assumption) ?_
                  · intro w' hSw; (try dsimp only at hSw); go_simp; try with_reducible rfl
                  try simp only [Act.put, List.getElem_toArray, List.getElem_cons_zero, List.getElem_cons_succ, List.setIfInBounds_toArray, List.set_cons_zero, List.set_cons_succ]
                  refine wpAnyH_take (i := 13) (v := .slice z0.A z0.n z0.c) rfl (by kernel_rfl) (by kernel_rfl) (by kernel_rfl) (fun _ _ _ h => h) (Or.inl ⟨by rfl, ?_⟩) (by assumption) ?_
                  · intro w' hSw; (try dsimp only at hSw); go_simp; try with_reducible rfl
                  try simp only [Act.put, List.getElem_toArray, List.getElem_cons_zero, List.getElem_cons_succ, List.setIfInBounds_toArray, List.set_cons_zero, List.set_cons_succ]
                  refine wpAnyH_take (i := 15) (v := .int .u64 y.toNat) rfl (by kernel_rfl) (by kernel_rfl) (by kernel_rfl) (fun _ _ _ h => h) (Or.inl ⟨by rfl, ?_⟩) (by assumption) ?_
                  · intro w' hSw; (try dsimp only at hSw); go_simp; try with_reducible rfl
                  try simp only [Act.put, List.getElem_toArray, List.getElem_cons_zero, List.getElem_cons_succ, List.setIfInBounds_toArray, List.set_cons_zero, List.set_cons_succ]
                  refine wpAnyH_ready (rs := [3]) (by kernel_rfl) (by simp) ?_
                  refine AllReadyH.cons rfl (fun K hK => ?_) AllReadyH.nil
                  go_simp
                  go_at_call 37
                  refine (HK.out.2.1 _).mono ?_
                  rintro e w' ⟨rfl, hw⟩
                  rw [hw, hcb]
                  clear hw w'
                  go_wp2_with fail
                  refine hK.out _ _ ?_ (fun hHeld => ?_)
                  · exact K6.out
                  clear hK K
                  try simp only [Act.put, List.getElem_toArray, List.getElem_cons_zero, List.getElem_cons_succ, List.setIfInBounds_toArray, List.set_cons_zero, List.set_cons_succ]
                  refine wpAnyH_take (i := 4) (v := .bool false) rfl (by kernel_rfl) (by kernel_rfl) (by kernel_rfl) (fun _ _ _ h => h) (Or.inl ⟨by rfl, ?_⟩) (by assumption) ?_
                  · intro w' hSw; (try dsimp only at hSw); go_simp; try with_reducible rfl
                  try simp only [Act.put, List.getElem_toArray, List.getElem_cons_zero, List.getElem_cons_succ, List.setIfInBounds_toArray, List.set_cons_zero, List.set_cons_succ]
                  refine wpAnyH_take (i := 5) (v := undef) rfl (by kernel_rfl) (by kernel_rfl) (by kernel_rfl) (fun _ _ _ h => h) (Or.inr ⟨by rfl, rfl⟩) (by assumption) ?_
                  try simp only [Act.put, List.getElem_toArray, List.getElem_cons_zero, List.getElem_cons_succ, List.setIfInBounds_toArray, List.set_cons_zero, List.set_cons_succ]
                  refine wpAnyH_take (i := 6) (v := undef) rfl (by kernel_rfl) (by kernel_rfl) (by kernel_rfl) (fun _ _ _ h => h) (Or.inr ⟨by rfl, rfl⟩) (by assumption) ?_
                  try simp only [Act.put, List.getElem_toArray, List.getElem_cons_zero, List.getElem_cons_succ, List.setIfInBounds_toArray, List.set_cons_zero, List.set_cons_succ]
                  refine wpAnyH_take (i := 7) (v := .bool false) rfl (by kernel_rfl) (by kernel_rfl) (by kernel_rfl) (fun _ _ _ h => h) (Or.inl ⟨by rfl, ?_⟩) (by assumption) ?_
                  · intro w' hSw; (try dsimp only at hSw); go_simp; try with_reducible rfl
                  try simp only [Act.put, List.getElem_toArray, List.getElem_cons_zero, List.getElem_cons_succ, List.setIfInBounds_toArray, List.set_cons_zero, List.set_cons_succ]
                  refine wpAnyH_ready (rs := [14]) (by kernel_rfl) (by simp) ?_
                  refine AllReadyH.cons rfl (fun K hK => ?_) AllReadyH.nil
                  go_simp
                  go_at_call 157
                  refine (HRC.out _ HV.out.2.2.2.1.drew).mono ?_
                  rintro e w7 ⟨v7, rfl, hb7, hr7⟩
                  have hb67 : Below w6.heap.size w6 w7 := ((Below.refl _ w6).drew).trans hb7
                  have k7 := HV.out.2.2.1 w7 (fun p hp _ => hb67.cell hp)
                  obtain ⟨A7, n7, c7, rfl, hsrc7⟩ := res_src HV.out.2.2.2.2 HV.out.2.1 HV.out.2.2.2.1.size hr7 y
                  have H7 := Lib.hid (show _ ∧ _ ∧ _ from ⟨hb67, hsrc7, owns_below HJ.out.row (H6.out.1.trans (hb67.mono (by omega)))⟩)
                  have hs7 := hb67.size
                  clear hb7 hr7 hb67 hsrc7
                  go_wp2_with fail
                  refine hK.out _ _ ?_ (fun hHeld => ?_)
                  · exact k7
                  clear hK K
                  try simp only [Act.put, List.getElem_toArray, List.getElem_cons_zero, List.getElem_cons_succ, List.setIfInBounds_toArray, List.set_cons_zero, List.set_cons_succ]
                  refine wpAnyH_take (i := 16) (v := .agg #[.slice A7 n7 c7, .int .u64 y.toNat]) rfl (by kernel_rfl) (by kernel_rfl) (by kernel_rfl) (fun _ _ _ h => h) (Or.inl ⟨by rfl, ?_⟩) (by assumption) ?_
                  · intro w' hSw; (try dsimp only at hSw); go_simp; try with_reducible rfl
                  try simp only [Act.put, List.getElem_toArray, List.getElem_cons_zero, List.getElem_cons_succ, List.setIfInBounds_toArray, List.set_cons_zero, List.set_cons_succ]
                  have k8 := HV.out.2.2.1 (w7.alloc (.cells #[.slice A7 n7 c7, .int .u64 y.toNat] 90)) (fun p hp _ => (World.cell?_of_block (w := w7) (heap_alloc_old w7 _ (by omega))).trans (H7.out.1.cell hp))
                  refine wpAnyH_ready (rs := [17]) (by kernel_rfl) (by simp) ?_
                  refine AllReadyH.cons rfl (fun K hK => ?_) AllReadyH.nil
                  go_simp
                  refine hK.out _ _ ?_ (fun hHeld => ?_)
                  · exact k8
                  clear hK K
                  try simp only [Act.put, List.getElem_toArray, List.getElem_cons_zero, List.getElem_cons_succ, List.setIfInBounds_toArray, List.set_cons_zero, List.set_cons_succ]
                  refine wpAnyH_ready (rs := [18]) (by kernel_rfl) (by simp) ?_
                  refine AllReadyH.cons rfl (fun K hK => ?_) AllReadyH.nil
                  refine step_append_lies _ (by rfl) _ _ _ (by rfl) w2.heap.size 90 i0 _ 2 32 Tryz.underlying33 hi hz0' hz1' hz2' rfl (by omega) _ os'.length (os'.flatMap encEv) (by rfl) (by exact H7.out.2.2.alloc _) ⟨w7.heap.size, 0, none⟩ 1 1 [.slice A7 n7 c7, .int .u64 y.toNat] (by rfl) (by rfl) (by exact cells_newL w7 [.slice A7 n7 c7, .int .u64 y.toNat] _) (by simp [Value.oneCell']) (by omega) (by unfold maxLen; omega) (by omega) (by simp; omega) (w7.heap.size + 1) (by simp) ?_; intro g8 c8 w8 hown8 hg8 hl8 hlt8; have k9 := HV.out.2.2.1 w8 (fun p hp h => (cell_grown hg8 (by simp; omega) (fun e => by have h1 := HJ.out.row.lt _ e.symm; rcases h with h | h <;> omega)).trans (by rw [World.cell?_of_block (w := w7) (heap_alloc_old w7 _ (by omega))]; exact H7.out.1.cell hp)); have H8 := Lib.hid (show _ ∧ _ from ⟨hown8, hg8⟩); clear hown8 hg8 hl8 hlt8
                  refine hK.out _ _ ?_ (fun hHeld => ?_)
                  · exact k9
                  clear hK K
                  try simp only [Act.put, List.getElem_toArray, List.getElem_cons_zero, List.getElem_cons_succ, List.setIfInBounds_toArray, List.set_cons_zero, List.set_cons_succ]
                  refine wpAnyH_take (i := 19) (v := .slice (some ⟨g8, 0, none⟩) (os'.length + 1) c8) rfl (by kernel_rfl) (by kernel_rfl) (by kernel_rfl) (fun _ _ _ h => h) (Or.inl ⟨by rfl, ?_⟩) (by assumption) ?_
                  · intro w' hSw; (try dsimp only at hSw); go_simp; try with_reducible rfl
                  try simp only [Act.put, List.getElem_toArray, List.getElem_cons_zero, List.getElem_cons_succ, List.setIfInBounds_toArray, List.set_cons_zero, List.set_cons_succ]
                  refine wpAnyH_done (by kernel_rfl) ?_ _
                  refine NoPanic.normal ?_
                  have HN := Lib.hid (HJ.out.add (o := ⟨A7, n7, c7, resF x.l z0.l, y⟩) HX2.out.1 ((H6.out.1.trans (H7.out.1.mono (by omega))).alloc (by omega) (.cells #[.slice A7 n7 c7, .int .u64 y.toNat] 90)) (H7.out.2.1.below ((Below.refl _ w7).alloc (Nat.le_refl _) _)) H8.out.1 H8.out.2 (by rw [HX2.out.2.2.1]; rfl))
                  clear hi hz0' hz1' hz2'
                  go_wp2
                  go_roundw
                  case measure => simp [intOf]; omega
                  case rel => exact ⟨j + 1, _, hlt, by simp, HN⟩
            · obtain rfl : j = q2 := by omega
              have hel := HJ.out.el
              rw [List.take_of_length_le (by rw [HX.out.2.2.2.2.1]; exact Nat.le_refl _)] at hel
              have h1s := one_of HX.out.2.2.1 (show (grp kf s one).length = 1 by rw [HX.out.2.2.2.1]; omega)
              have hk1 : grpE kf s (one.map Ev.el) = [z0.el] := by rw [← grp_grpE, h1s]; rfl
              have hel2 : os'.map Ev.el = os.map Ev.el ++ outK kf m.card nf resF (one.map Ev.el) (many.map Ev.el) s := by
                rw [hel, outK_of hk1, ← grp_grpE, List.filterMap_map]
                rfl
              have hdone := HR.out.done_ HX.out.1 HX.out.2.1 HJ.out.rng HJ.out.row HJ.out.src hel2 (by rw [HX.out.2.2.2.1]; omega) (fun h => by rw [HX.out.2.2.2.2.1]; exact hgood h) HJ.out.old (by rw [HX.out.2.2.2.2.1]; exact HJ.out.few)
              have HE := Lib.hid hdone
              have hltc := HX.out.2.2.2.2.2.1
              clear hel h1s hk1 hel2 hdone
              go_wp2
              go_roundw
              case measure =>
                rw [HJ.out.rng.left_eq, HR.out.rng.left_eq]; exact hltc
              case rel => exact ⟨_, cnt4, vis ++ [s], os', by simp; omega, HE⟩
end Go.Proofs.YtajaijidecomdaaGreatDoor
