/- VecOthers of chapter 25. A world that meets the row's condition on the listed variables (a table of math/bits, two of unicode/utf8): the witness. -/
import Derived.Test.YtajaijidecomdaaGreatDoorVOthSt
import Derived.Test.YtajaijidecomdaaGreatDoorG50
import Derived.Test.YtajaijidecomdaaGreatDoorRows
import Derived.Lay
import Derived.LaidHandle
import Derived.LaidLaws
import Derived.Stop.Joined
namespace Go.Proofs.YtajaijidecomdaaGreatDoor
open Go.RowKit Go.Lib

theorem lent_els {w : World} {B g n cg : Nat} {xs zs : List Ev} (h : LentEs w B xs (.slice (some ⟨g, 0, none⟩) n cg) n zs) (hly : xs.length = n) (hx : ∀ y ∈ xs, y.l.length = y.n ∧ y.n ≤ 100000 ∧ ∀ q ∈ y.l, q.nm.size ≤ 100000 ∧ q.vl.size ≤ 100000) (hn : n ≤ 100000) : Els w w.heap.size (some ⟨g, 0, none⟩) n cg zs ∧ zs.map Ev.el = xs.map Ev.el := by
  have hat : ∀ (j : Nat) z, zs[j]? = some z → ∃ y, xs[j]? = some y ∧ LentEv w B y z := fun j z hz => by
    have hj := (List.getElem?_eq_some_iff.1 hz).1
    have hl := h.len
    exact ⟨xs[j]'(by omega), List.getElem?_eq_getElem (by omega), h.each j _ z (List.getElem?_eq_getElem (by omega)) hz⟩
  refine ⟨⟨(owns_lst h.row encEv_len (by omega)).1, (fun e => by cases e), hn, fun z hz => ?_⟩, ?_⟩
  · obtain ⟨j, hj⟩ := List.mem_iff_getElem?.1 hz
    obtain ⟨y, hy, hl⟩ := hat j z hj
    have := hx y (List.mem_of_getElem? hy)
    exact hl.eat this.1 this.2.1 this.2.2
  · apply List.ext_getElem?
    intro j
    rw [List.getElem?_map, List.getElem?_map]
    by_cases hj : j < n
    · have hz : zs[j]? = some (zs[j]'(by have := h.len; omega)) := List.getElem?_eq_getElem _
      obtain ⟨y, hy, hl⟩ := hat j _ hz
      rw [hz, hy]
      simp only [Option.map_some, Ev.el, hl.lab, hl.num]
    · rw [List.getElem?_eq_none (by have := h.len; omega), List.getElem?_eq_none (by omega)]
theorem five_seen {w w' : World} (hb : Below w.heap.size w w') {p0 p1 p2 p3 p4 : Addr} {v0 v1 v2 v3 v4 : Value} (h : w.cell? p0 = some v0 ∧ w.cell? p1 = some v1 ∧ w.cell? p2 = some v2 ∧ w.cell? p3 = some v3 ∧ w.cell? p4 = some v4) : w'.cell? p0 = some v0 ∧ w'.cell? p1 = some v1 ∧ w'.cell? p2 = some v2 ∧ w'.cell? p3 = some v3 ∧ w'.cell? p4 = some v4 :=
  ⟨cell_seen hb h.1, cell_seen hb h.2.1, cell_seen hb h.2.2.1, cell_seen hb h.2.2.2.1, cell_seen hb h.2.2.2.2⟩
set_option maxHeartbeats 16000000 in
set_option maxRecDepth 100000 in
theorem vecOthers_any (m : Mv) (A : Option Addr) (n c : Nat) (xs : List Ev) (w : World) (hM : MRaw w m) (hL : Lst encEv 2 w w.heap.size A n xs) (hnA : A = none → n = 0 ∧ c = 0) (hna : n ≤ 140737488355328) (hT : ∀ y ∈ xs, EBig w y) :
    Calls Tryz.prog 9 #[valM m, .slice A n c] w fun e w' => e = .returned (.bool true) ∧ Below w.heap.size w w' := by
  have hma : ∀ W, Below w.heap.size w W → Calls Tryz.prog 13 #[.slice A n c] W (MuchPost W n xs) := fun W hb => much_any A n c xs W (Lst.more (Lst.below hL hb) hb.size) hna fun y hy => (hT y hy).on hb
  have hk0 := KB.new w m
  have hlg := fun W => long_any m W
  have hvm : valM m = .agg #[.int .u8 m.card, .bool m.on, .slice m.LA m.Ln m.Lc, .slice m.IA m.In m.Ic] := rfl
  simp only [hvm] at hlg
  rw [hvm]
  obtain ⟨m0, m1, m2, m3⟩ := hk0.box.cells
  cases h1 : muchB n xs with
  | true =>
    have HC := Lib.hid (show _ ∧ _ from ⟨hma, hk0⟩)
    clear hma hk0 hlg hM hL hT hvm
    go_enter Tryz.func9, Tryz.ntmps9
    go_wp2_with fail
    refine (HC.out.1 _ HC.out.2.old).mono ?_
    rintro e w1 ⟨rfl, hq⟩
    rw [h1]
    have H1 := Lib.hid (HC.out.2.step (below_drewLabel hq))
    clear hq
    go_wp2
    go_ret
    exact ⟨rfl, H1.out.old⟩
  | false =>
    cases h3 : longB m with
    | true =>
      have HC := Lib.hid (show _ ∧ _ ∧ _ from ⟨hma, hk0, hlg⟩)
      clear hma hk0 hlg hM hL hT hvm
      go_enter Tryz.func9, Tryz.ntmps9
      go_wp2_with fail
      refine (HC.out.1 _ HC.out.2.1.old).mono ?_
      rintro e w1 ⟨rfl, hq⟩
      rw [h1]
      have H1 := Lib.hid (HC.out.2.1.step (below_drewLabel hq))
      clear hq
      obtain ⟨c0, c1, c2, c3⟩ := H1.out.box.cells
      go_wp2_with fail
      refine (HC.out.2.2 _).mono ?_
      rintro e w3 ⟨rfl, hq⟩
      rw [h3]
      have H3 := Lib.hid (H1.out.step hq)
      clear hq
      go_wp2
      go_ret
      exact ⟨rfl, H3.out.old⟩
    | false =>
      have HC := Lib.hid (show _ ∧ _ ∧ _ from ⟨hma, hk0, hlg⟩)
      have HI := Lib.hid (show _ ∧ _ ∧ _ from ⟨(muchB_els hL hnA hT h1).1, (muchB_els hL hnA hT h1).2.2, hM.mat h3 m.card⟩)
      have hn1 : n ≤ 1000 := (muchB_els hL hnA hT h1).2.1
      clear hma hk0 hlg hvm hM hL hT hnA hna
      have hnx := HI.out.1.lst.1
      go_enter Tryz.func9, Tryz.ntmps9
      go_wp2_with fail
      refine (HC.out.1 _ HC.out.2.1.old).mono ?_
      rintro e w1 ⟨rfl, hq⟩
      rw [h1]
      have H1 := Lib.hid (HC.out.2.1.step (below_drewLabel hq))
      clear hq
      obtain ⟨c0, c1, c2, c3⟩ := H1.out.box.cells
      go_wp2_with fail
      refine (HC.out.2.2 _).mono ?_
      rintro e w3 ⟨rfl, hq⟩
      rw [h3]
      have H3 := Lib.hid (H1.out.step hq)
      clear hq c0 c1 c2 c3 m0 m1 m2 m3
      go_wp2_with fail
      refine (lentElems_any A n c xs w3 (HI.out.1.on H3.out.old).lst (by omega) (fun y hy => (HI.out.1.each y hy).on H3.out.old)).mono ?_
      rintro e w4 ⟨g, cg, zs, rfl, hle, hlr, hb4⟩
      have hez := lent_els hle hnx (fun y hy => ⟨by have := (HI.out.1.each y hy).lst.1; omega, (HI.out.1.each y hy).few, (HI.out.1.each y hy).sz⟩) (by omega)
      have hzb : ∀ z ∈ zs, ∀ b, (Value.slice z.A z.n z.c).ownBlock = some b → b < w4.heap.size := fun z hz b hb => by
        obtain ⟨j, hj⟩ := List.mem_iff_getElem?.1 hz
        have hjl := (List.getElem?_eq_some_iff.1 hj).1
        have hl := hle.len
        obtain ⟨b2, q1, _, q3⟩ := (hle.each j (xs[j]'(by omega)) z (List.getElem?_eq_getElem (by omega)) hj).blk
        rw [q1] at hb
        injection hb with hb
        omega
      have hgb := (hlr.lt g rfl).2
      have h3lt := H3.out.lt
      have hC : OthC w w3.heap.size w4.heap.size g w4.heap.size zs := ⟨h3lt, hb4.size, hgb, hzb, Nat.le_refl _⟩
      have H4 := Lib.hid (show _ ∧ _ ∧ _ ∧ _ ∧ _ from ⟨hle, hlr, hez, H3.out.step hb4, hC⟩)
      clear hle hlr hez hzb hgb hC hb4
      go_wp2_with fail
      refine (vecNegative_any (some ⟨g, 0, none⟩) n cg zs w4 H4.out.2.2.1.1).mono ?_
      rintro e w5 ⟨va, os1, rfl, hO1, he1, hb5⟩
      have H5 := Lib.hid (show _ ∧ _ ∧ _ from ⟨hO1, he1, hb5⟩)
      clear hO1 he1 hb5
      go_wp2_with fail
      refine (sorted_any (some ⟨g, 0, none⟩) n cg zs w5 (H4.out.2.2.1.1.on H5.out.2.2)).mono ?_
      rintro e w6 ⟨vb, os2, rfl, hO2, he2, hb6⟩
      have H6 := Lib.hid (show _ ∧ _ ∧ _ from ⟨hO2, he2, hb6⟩)
      clear hO2 he2 hb6
      have hnl : nils.setIfInBounds 9 (.slice none 0 0) = nils := set_same (nils_at (by omega))
      have hbk : Bk (w6.alloc (.cells nils 76)) w6.heap.size (nils.setIfInBounds 9 (.slice none 0 0)) := by rw [hnl]; exact ⟨heap_alloc_new _ _, rfl⟩
      have hb7 : Below w6.heap.size w6 (w6.alloc (.cells nils 76)) := (Below.refl _ _).alloc (Nat.le_refl _) _
      have hs5 := H5.out.2.2.size
      have hs6 := H6.out.2.2.size
      have hC7 : OthC w w3.heap.size w4.heap.size g w6.heap.size zs := ⟨H4.out.2.2.2.2.wB, H4.out.2.2.2.2.BH, H4.out.2.2.2.2.gH, H4.out.2.2.2.2.zH, by omega⟩
      have hst : OthSt w (w6.alloc (.cells nils 76)) m w3.heap.size w4.heap.size g n cg w6.heap.size 0 xs zs os1 os2 [] va vb (.slice none 0 0) := {
        kb := ((H4.out.2.2.2.1.step H5.out.2.2).step H6.out.2.2).step hb7
        lent := ((H4.out.1.below H5.out.2.2).below H6.out.2.2).below hb7
        lrow := owns_below (owns_below (owns_below H4.out.2.1 H5.out.2.2) H6.out.2.2) hb7
        one := (H5.out.1.below H6.out.2.2).below hb7
        twin := (H6.out.1.base hs5).below hb7
        book := hbk
        l9 := World.ownsRow_nil _ _ _ _
        klen := rfl
        keys := by simp
        apart := by
          rw [List.nil_append]
          refine List.pairwise_append.2 ⟨H5.out.1.apart, H6.out.1.apart, fun a ha b hb q h1 h2 => ?_⟩
          have h3 := ((H5.out.1.each a ha).lt q h1).2
          have h4 := ((H6.out.1.each b hb).lt q h2).1
          omega
        dis := fun q h1 h2 => by
          have h3 := (H5.out.1.row.lt q h1).2
          have h4 := (H6.out.1.row.lt q h2).1
          omega
        small := by simp }
      have H7 := Lib.hid (show _ ∧ _ from ⟨hst, hC7⟩)
      clear hnl hbk hb7 hC7 hst
      go_wp2_with fail
      go_loopw [9] (fun iv wr => ∃ (k : Nat) (ks : List Ev) (v9 : Value), k ≤ n ∧ iv = .int .i64 k ∧ Hid (OthSt w wr m w3.heap.size w4.heap.size g n cg w6.heap.size k xs zs os1 os2 ks va vb v9)) (fun iv _ => n - (intOf iv).toNat)
      case atStart => exact ⟨0, [], .slice none 0 0, Nat.zero_le _, rfl, Lib.hid H7.out.1⟩
      case round =>
        obtain ⟨k, ks, v9, hk, rfl, HR⟩ := hrel
        by_cases hlt : k < n
        · obtain ⟨b, off, x, rfl, hb, hx, hcl⟩ := HI.out.1.lst.at hlt
          have c0 := (HR.out.kb.old.cell (p := ⟨b, off + k * 2 + 0, none⟩) hb).trans (hcl 0 _ rfl)
          simp only [Nat.add_zero] at c0
          have hzs := H4.out.1.len
          obtain ⟨z, hz⟩ : ∃ z, zs[k]? = some z := ⟨_, List.getElem?_eq_getElem (by omega)⟩
          have hlz := HR.out.lent.each k x z hx hz
          have d0 := owns_at HR.out.lent.row encEv_len hz (j := 0) rfl
          simp only [Nat.add_zero] at d0
          obtain ⟨m0, m1, m2, m3⟩ := HR.out.kb.box.cells
          have hzE : Eat wr wr.heap.size z := by
            have hxE := HI.out.1.each x (List.mem_of_getElem? hx)
            exact hlz.eat (by have := hxE.lst.1; omega) hxE.few hxE.sz
          have hxE := (HI.out.1.each x (List.mem_of_getElem? hx)).on HR.out.kb.old
          have hMr := HI.out.2.2.on HR.out.kb.old
          have hkey := fun W (hW : Below wr.heap.size wr W) => key_any z.A z.n z.c z.l m W (hzE.on hW).lst hzE.few hzE.fine (hMr.on hW)
          have hx0 := HI.out.1.each x (List.mem_of_getElem? hx)
          have hrkey := fun W (hW : Below w.heap.size w W) => refKey_any x.A x.n x.c x.l m W (hx0.on hW).lst hx0.few (HI.out.2.2.on hW)
          have hc0 := hcl 0 _ rfl
          simp only [Nat.add_zero] at hc0
          have hfk := fine_key hxE.fine m.on m.ls
          rw [hlz.lab] at hkey
          obtain ⟨R, hR⟩ : ∃ R, keyL x.l m.on m.ls = R := ⟨_, rfl⟩
          rw [hR] at hkey hrkey hfk
          have hRl := hfk.1
          have hvm : valM m = .agg #[.int .u8 m.card, .bool m.on, .slice m.LA m.Ln m.Lc, .slice m.IA m.In m.Ic] := rfl
          simp only [hvm] at hkey hrkey
          have HX := Lib.hid (show _ ∧ _ ∧ _ ∧ _ from ⟨hkey, hrkey, (⟨d0, m0, m1, m2, m3⟩ : _ ∧ _ ∧ _ ∧ _ ∧ _), hc0⟩)
          have hbr : b < wr.heap.size := by have := HR.out.kb.old.size; omega
          have i3 : (0 : Int) ≤ (k : Int) := by omega
          have i4 : (k : Int) < (n : Int) := by omega
          clear hkey hrkey hfk hR hx hz hlz hzE hxE hMr hcl hvm c0 hx0 hc0
          go_wp2_with fail
          go_region_held3 (fun w' => w'.cell? ⟨g, k * 2, none⟩ = some (.slice z.A z.n z.c) ∧ w'.cell? ⟨w.heap.size, 0, none⟩ = some (.int .u8 m.card) ∧ w'.cell? ⟨w.heap.size, 1, none⟩ = some (.bool m.on) ∧ w'.cell? ⟨w.heap.size, 2, none⟩ = some (.slice m.LA m.Ln m.Lc) ∧ w'.cell? ⟨w.heap.size, 3, none⟩ = some (.slice m.IA m.In m.Ic)) (first | exact k6 | exact HX.out.2.2.1)
            (first
              | (go_at_call 31; refine (HX.out.1 _ ((Below.refl _ wr).drew)).mono ?_; rintro e w5' ⟨v5, rfl, ho5, hb5⟩; have hb5' := (Below.refl wr.heap.size wr).drew.trans hb5; have k6 := five_seen hb5' HX.out.2.2.1; obtain ⟨A5, c5, rfl, _, _⟩ := owns_slice ho5; have H8 := Lib.hid (show _ ∧ _ from ⟨owns_base ho5 (B' := wr.heap.size) (by simp), hb5'⟩); clear ho5 hb5 hb5')
              | fail)
          all_goals
            have hs8 := H8.out.2.size
            have hb4r : w4.heap.size ≤ wr.heap.size := by have := HR.out.book.lt; have := H7.out.2.Hb; omega
            have hst8 := HR.out.step H8.out.2
            have hcall := bookLabels w6.heap.size w4.heap.size k _ v9 A5 R.length c5 (ks.map valE) w5' hst8.book (by simp [nils]) hst8.l9 (owns_not_bk hst8.book hst8.l9 (by decide)) (by omega) (by omega)
            have hput := fun e w' hp => OthSt.put (e := e) (w' := w') (z := ⟨A5, R.length, c5, R, 0⟩) H7.out.2 hnx hst8 (owns_base H8.out.1 hb4r) hRl (fun y hy q h1 h2 => by
              have h4 := HR.out.blk y hy q h1
              have h5 := (H8.out.1.lt q h2).1
              omega) hp
            have HP := Lib.hid (show _ ∧ _ from ⟨hcall, hput⟩)
            clear hst8 hcall hput m0 m1 m2 m3 d0
            go_wp2_with fail
            refine HP.out.1.mono ?_
            intro e w9 hp
            obtain ⟨rfl, v9', h9⟩ := HP.out.2 e w9 hp
            clear hp
            obtain ⟨m0, m1, m2, m3⟩ := h9.kb.box.cells
            have c0 := (h9.kb.old.cell (p := ⟨b, off + k * 2, none⟩) hb).trans HX.out.2.2.2
            have hlk := (owns_lst (h9.keys ⟨A5, R.length, c5, R, 0⟩ (by simp)) Lb.len (by omega)).1
            have H9 := Lib.hid (show _ ∧ _ ∧ _ from ⟨h9, hlk, (⟨c0, m0, m1, m2, m3⟩ : _ ∧ _ ∧ _ ∧ _ ∧ _)⟩)
            clear h9 hlk
            go_wp2_with fail
            go_region_held3 (fun w' => w'.cell? ⟨b, off + k * 2, none⟩ = some (.slice x.A x.n x.c) ∧ w'.cell? ⟨w.heap.size, 0, none⟩ = some (.int .u8 m.card) ∧ w'.cell? ⟨w.heap.size, 1, none⟩ = some (.bool m.on) ∧ w'.cell? ⟨w.heap.size, 2, none⟩ = some (.slice m.LA m.Ln m.Lc) ∧ w'.cell? ⟨w.heap.size, 3, none⟩ = some (.slice m.IA m.In m.Ic)) (first | exact k7 | exact k6 | exact H9.out.2.2)
              (first
                | (go_at_call 33; refine (HX.out.2.1 _ (H9.out.1.kb.old.drew)).mono ?_; rintro e wA ⟨vA, rfl, hoA, hbA⟩; have hbA' := (Below.refl w9.heap.size w9).drew.trans hbA; have k6 := five_seen hbA' H9.out.2.2; obtain ⟨A6, c6, rfl, _, _⟩ := owns_slice hoA; have HA := Lib.hid (show _ ∧ _ ∧ _ from ⟨(owns_lst hoA Lb.len (by omega)).1, hbA', (H9.out.2.1.below hbA').more hbA'.size⟩); clear hoA hbA hbA')
                | (go_at_call 29; refine (sameLabel_q A5 A6 R.length c5 c6 R _ HA.out.2.2 HA.out.1 (by omega)).mono ?_; rintro e wB ⟨rfl, hqB⟩; have hbB := below_drewLabel hqB; have k7 := five_seen hbB k6; have HB := Lib.hid (HA.out.2.1.trans (hbB.mono HA.out.2.1.size)); clear hqB hbB)
                | fail)
            all_goals
              have HN := Lib.hid (H9.out.1.step HB.out)
              go_wp2
              go_roundw
              case measure => simp [intOf]; omega
              case rel => exact ⟨k + 1, _, v9', hlt, by simp, HN⟩
        · obtain rfl : k = n := by omega
          have hwr := HR.out.kb.old
          have hBr : w3.heap.size ≤ wr.heap.size := by have := HR.out.book.lt; have := H7.out.2.Hb; have := H7.out.2.BH; omega
          have hT : ∀ y ∈ xs, Eat wr wr.heap.size y := fun y hy => (HI.out.1.each y hy).on hwr
          have hwhole := wholeElem_q g cg A k c xs zs wr w3.heap.size (owns_lst HR.out.lrow encEv_len (by omega)).1 HR.out.lent.len (owns_cap HR.out.lrow).2 (HI.out.1.on hwr).lst hT (fun j y z h1 h2 => HR.out.lent.each j y z h1 h2) (by omega)
          have HW := Lib.hid (show _ ∧ _ from ⟨hwhole, hBr⟩)
          clear hwhole hT hBr hwr
          go_wp2_with fail
          refine HW.out.1.mono ?_
          rintro e wA ⟨rfl, hqA⟩
          have hbA := below_drewLabel hqA
          have hstA := HR.out.step hbA
          have hsA := hbA.size
          have hBr := HW.out.2
          have hspoil := spoilElems_any g k cg xs zs wA w3.heap.size hstA.lent hstA.lrow hnx (fun y hy => by have := (HI.out.1.each y hy).lst.1; omega) (by omega) (by omega) w4.heap.size (fun j z b hz hb => H7.out.2.zH z (List.mem_of_getElem? hz) b hb) H7.out.2.gH
          have HSP := Lib.hid (show _ ∧ _ from ⟨hspoil, hstA⟩)
          clear hspoil hstA hqA hbA hsA hBr
          go_wp2_with fail
          refine HSP.out.1.mono ?_
          rintro e wB ⟨rfl, hgB⟩
          have HB := Lib.hid (OthSt.spoil H7.out.2 HSP.out.2 hgB)
          clear hgB HSP HW
          -- the document's answers
          have hnegl : (numOut negF true 0 false (xs.map Ev.el)).length = k := by rw [numOut_neg, List.length_map, List.length_map]; exact hnx
          have hel := H4.out.2.2.1.2
          have e1 := H5.out.2.1
          have e2 := H6.out.2.1
          rw [hel] at e1 e2
          have l1 : os1.length = k := by have h := congrArg List.length e1; rw [List.length_map, FL.sortE_len elL_tot, hnegl] at h; exact h
          have l2 : os2.length = k := by have h := congrArg List.length e2; rw [List.length_map, FL.sortE_len elL_tot, List.length_map] at h; omega
          have f2 : ∀ z ∈ os2, Fine z.l := fine_el HI.out.1 fun z hz => (srt_perm _).mem_iff.1 (by rw [← e2]; exact List.mem_map.2 ⟨z, hz, rfl⟩)
          have f1 : ∀ z ∈ os1, Fine z.l := fun z hz => by
            have h1 : z.el ∈ numOut negF true 0 false (xs.map Ev.el) := (srt_perm _).mem_iff.1 (by rw [← e1]; exact List.mem_map.2 ⟨z, hz, rfl⟩)
            rw [numOut_neg] at h1
            obtain ⟨y, hy, e⟩ := List.mem_map.1 h1
            obtain ⟨q, hq, rfl⟩ := List.mem_map.1 hy
            have e3 : lessL q.l [nameT] = z.l := congrArg Prod.fst e
            rw [← e3]
            exact fine_filter (HI.out.1.each q hq).fine _
          obtain ⟨Aa, ca, hva, hEa⟩ := done_els HB.out.one (by omega) f1
          obtain ⟨Ab, cb, hvb, hEb⟩ := done_els HB.out.twin (by omega) f2
          rw [l1] at hva hEa
          rw [l2] at hvb hEb
          subst hva hvb
          have hneg := refNegative_any A k c xs wB (HI.out.1.on HB.out.old)
          unfold RSortPost at hneg
          rw [hnegl] at hneg
          have HE := Lib.hid (show _ ∧ _ ∧ _ ∧ _ ∧ _ from ⟨hEa, hEb, e1, e2, (show _ ∧ _ ∧ _ ∧ _ ∧ _ from ⟨hneg, f1, f2, l1, l2⟩)⟩)
          clear hEa hEb e1 e2 hneg f1 f2 l1 l2 hnegl hel
          go_wp2_with fail
          refine HE.out.2.2.2.2.1.mono ?_
          rintro e wC ⟨Ar, cr, osr, rfl, hEr, her, hbC⟩
          have HC1 := Lib.hid (show _ ∧ _ ∧ _ ∧ _ from ⟨HB.out.step hbC, hEr, (HE.out.1.on hbC), HE.out.2.2.1.trans her.symm⟩)
          have hEbC := Lib.hid (HE.out.2.1.on hbC)
          clear hEr her hbC
          go_wp2_with fail
          refine (sameElems_true Aa Ar k ca cr os1 osr wC HC1.out.2.2.1 HC1.out.2.1 HC1.out.2.2.2).mono ?_
          rintro e wD ⟨rfl, hqD⟩
          have hbD := below_drewLabel hqD
          have HD := Lib.hid (show _ ∧ _ from ⟨HC1.out.1.step hbD, hEbC.out.on hbD⟩)
          clear hqD hbD
          have hsor := refSorted_any A k c xs wD (HI.out.1.on HD.out.1.old)
          unfold RSortPost at hsor
          rw [List.length_map, hnx] at hsor
          have HSO := Lib.hid hsor
          clear hsor
          go_wp2_with fail
          refine HSO.out.mono ?_
          rintro e wE ⟨As, cs, oss, rfl, hEs, hes, hbE⟩
          have HE1 := Lib.hid (show _ ∧ _ ∧ _ ∧ _ from ⟨HD.out.1.step hbE, hEs, HD.out.2.on hbE, HE.out.2.2.2.1.trans hes.symm⟩)
          clear hEs hes hbE
          go_wp2_with fail
          refine (sameElems_true Ab As k cb cs os2 oss wE HE1.out.2.2.1 HE1.out.2.1 HE1.out.2.2.2).mono ?_
          rintro e wF ⟨rfl, hqF⟩
          have HF := Lib.hid (HE1.out.1.step (below_drewLabel hqF))
          clear hqF
          -- the book
          have hwH : w.heap.size ≤ w4.heap.size := by have := H7.out.2.wB; have := H7.out.2.BH; omega
          have hHb := H7.out.2.Hb
          have hlt6 := HF.out.book.lt
          have hoa := HF.out.one.row
          rw [HE.out.2.2.2.2.2.2.2.1] at hoa
          have hcall := bookElems w6.heap.size w4.heap.size w4.heap.size 0 k (nils.setIfInBounds 9 v9) (.slice none 0 0) v9 Aa k ca [] (ks.map valE) os1 wF HF.out.book (by simp [nils]) (by simp [nils]) (World.ownsRow_nil _ _ _ _) HF.out.l9 (by simp [Value.ownBlock]) (owns_not_bk HF.out.book HF.out.l9 (by decide)) (by omega) (by omega) (by omega) hoa (by omega) (owns_not_bk HF.out.book hoa (by decide))
          have HCL := Lib.hid hcall
          clear hcall hoa
          go_wp2_with fail
          refine HCL.out.mono ?_
          rintro e wG ⟨rfl, g21, c21, v9a, h21, h9a, hkG, hgG, _, _⟩
          have hrG := HF.out.rest.put (L21 := []) (m21 := 0) HF.out.book (World.ownsRow_nil _ _ _ _) HF.out.l9 hgG hHb hwH
          have hsG := hgG.size
          have HG := Lib.hid (show _ ∧ _ ∧ _ ∧ _ from ⟨h21, h9a, hkG, hrG⟩)
          clear h21 h9a hkG hrG hgG
          have hob := HG.out.2.2.2.twin.row
          rw [HE.out.2.2.2.2.2.2.2.2] at hob
          have hcall := bookElems w6.heap.size w4.heap.size w4.heap.size 1 (k + os1.length) _ (.slice (some ⟨g21, 0, none⟩) 1 c21) v9a Ab k cb _ _ os2 wG HG.out.2.2.1 (by simp [nils]) (by simp [nils]) HG.out.1 HG.out.2.1 (owns_not_bk HG.out.2.2.1 HG.out.1 (by decide)) (owns_not_bk HG.out.2.2.1 HG.out.2.1 (by decide)) (by omega) (by omega) (by have := HE.out.2.2.2.2.2.2.2.1; omega) hob (by omega) (owns_not_bk HG.out.2.2.1 hob (by decide))
          have HCL2 := Lib.hid hcall
          clear hcall hob
          go_wp2_with fail
          refine HCL2.out.mono ?_
          rintro e wI ⟨rfl, g21', c21', v9b, h21', h9b, hkI, hgI, _, _⟩
          have hrI := HG.out.2.2.2.put HG.out.2.2.1 HG.out.1 HG.out.2.1 hgI hHb hwH
          have hlast := hrI.last hwH HF.out.klen HF.out.apart HF.out.dis hkI h21' h9b
          have HI2 := Lib.hid hlast
          clear h21' h9b hkI hgI hrI hlast
          go_wp2_with fail
          refine (known_any _).mono ?_
          rintro e wJ ⟨rfl, hbJ⟩
          have HJ := Lib.hid (HI2.out.step hbJ)
          clear hbJ
          go_wp2_with fail
          refine (HJ.out.own (by have := HF.out.klen; omega) (by have := HE.out.2.2.2.2.2.2.2.1; omega) (by have := HE.out.2.2.2.2.2.2.2.2; omega) (fun z hz => ?_)).mono ?_
          · rcases List.mem_append.1 hz with hz | hz
            · have := HF.out.small z hz; omega
            · rcases List.mem_append.1 hz with hz | hz
              · have h4 := owns_len (HF.out.one.each z hz) Lb.len (by omega)
                have := (HE.out.2.2.2.2.2.1 z hz).1
                omega
              · have h4 := owns_len (HF.out.twin.each z hz) Lb.len (by omega)
                have := (HE.out.2.2.2.2.2.2.1 z hz).1
                omega
          rintro e wK ⟨rfl, hbK⟩
          have HK := Lib.hid hbK
          clear hbK
          go_wp2
          go_ret
          exact ⟨rfl, HK.out⟩
end Go.Proofs.YtajaijidecomdaaGreatDoor
namespace Go.Proofs.YtajaijidecomdaaGreatDoor

/-- What the row lists. -/
def listed : List (String × DataW Unit) := [("math/bits.deBruijn64tab", Rows.laid_math_bits_deBruijn64tab), ("unicode/utf8.acceptRanges", Rows.laid_unicode_utf8_acceptRanges), ("unicode/utf8.first", Rows.laid_unicode_utf8_first)]
theorem listed_filter : (listed.filter fun x => x.2.handleName?.isNone) = listed := by kernel_rfl
theorem plain_filter : (listed.filter fun x => ["math/bits.deBruijn64tab", "unicode/utf8.acceptRanges", "unicode/utf8.first"].contains x.1) = listed := by kernel_rfl
theorem plain_rest : (listed.filter fun x => !["math/bits.deBruijn64tab", "unicode/utf8.acceptRanges", "unicode/utf8.first"].contains x.1) = [] := by kernel_rfl
theorem laid_met (os : Os) (args : Array Value) : laidMetH Tryz.prog listed (((World.holding Tryz.prog os ⟨#[], #[], []⟩).layVars Tryz.prog listed).forCall (fun _ _ => 0) ⟨#[], args, []⟩).memory := by
  refine laidMetH_of_parts ?_ (by kernel_rfl)
  rw [listed_filter]
  refine laidMet_layVars (w0 := World.holding Tryz.prog os ⟨#[], #[], []⟩) ["math/bits.deBruijn64tab", "unicode/utf8.acceptRanges", "unicode/utf8.first"] [] ?_ ?_ ?_ ?_
  · rw [plain_filter]; simp [World.memory, World.forCall, Input.heap]
  · rw [plain_filter]; kernel_rfl
  · rw [plain_filter]; kernel_rfl
  · rw [plain_rest]; exact LaidIn.none
theorem laid_shaped (os : Os) (args : Array Value) : (((World.holding Tryz.prog os ⟨#[], #[], []⟩).layVars Tryz.prog listed).forCall (fun _ _ => 0) ⟨#[], args, []⟩).Shaped Tryz.prog :=
  World.shaped_of_ZipB (by kernel_rfl) (by kernel_rfl)
theorem laid_os (os : Os) : ((World.holding Tryz.prog os ⟨#[], #[], []⟩).layVars Tryz.prog listed).os = os := World.layVars_os _ _ _
end Go.Proofs.YtajaijidecomdaaGreatDoor
