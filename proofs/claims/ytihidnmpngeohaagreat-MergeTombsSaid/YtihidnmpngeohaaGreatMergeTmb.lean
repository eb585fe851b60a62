/- MergeTombs' walk. -/
import Derived.Test.YtihidnmpngeohaaGreatRefTombsW
import Derived.Test.YtihidnmpngeohaaGreatWholeTomb
import Derived.Test.YtihidnmpngeohaaGreatG36
import Derived.Test.YtihidnmpngeohaaGreatG49
namespace Go.Proofs.YtihidnmpngeohaaGreat
open Go.RowKit Go.Lib

/-- A tomb that came in, of any size. -/
structure TBig (w : World) (y : Tv) : Prop where
  lst : Lst Lb.cells 2 w w.heap.size y.A y.n y.l
  nil : y.A = none → y.n = 0 ∧ y.c = 0
  few : y.n ≤ 140737488355328
  fits : Fits y.g
  txt : ∀ x ∈ y.l, x.nm.size ≤ 140737488351232 ∧ x.vl.size ≤ 140737488351232
theorem take_bound {ys : List Tv} {i : Nat} {y : Tv} {s s' : Nat} (h : ∀ z ∈ ys.take i, z.n ≤ s) (hy : ys[i]? = some y) (hs : s ≤ s') (hn : y.n ≤ s') : ∀ z ∈ ys.take (i + 1), z.n ≤ s' := by
  obtain ⟨g1, g2⟩ := List.getElem?_eq_some_iff.1 hy
  rw [List.take_succ_eq_append_getElem g1, g2]
  intro z hz
  rcases List.mem_append.1 hz with hz | hz
  · exact Nat.le_trans (h z hz) hs
  · rw [List.mem_singleton.1 hz]; exact hn
/-- What is known of tombs that are lent out. -/
theorem LentTs.facts {w : World} {B k : Nat} {v : Value} {ys zs : List Tv} (h : LentTs w B ys v k zs) (hly : ys.length = k) (hT : ∀ y ∈ ys, y.l.length = y.n ∧ y.n ≤ 3000 ∧ Fits y.g) :
    (∀ z ∈ zs, Tat w w.heap.size z) ∧ zs.map Tv.tb = ys.map Tv.tb ∧ ∀ (j : Nat) z b, zs[j]? = some z → (Value.slice z.A z.n z.c).ownBlock = some b → b < w.heap.size := by
  have hp : ∀ (j : Nat) z, zs[j]? = some z → ∃ y, ys[j]? = some y ∧ LentTb w B y z := fun j z hz => by
    obtain ⟨hj, _⟩ := List.getElem?_eq_some_iff.1 hz
    have hy : ys[j]? = some (ys[j]'(by have := h.len; omega)) := List.getElem?_eq_getElem _
    exact ⟨_, hy, h.each j _ z hy hz⟩
  refine ⟨fun z hz => ?_, ?_, fun j z b hj hb => ?_⟩
  · obtain ⟨j, hj, e⟩ := List.getElem_of_mem hz
    obtain ⟨y, hy, hl⟩ := hp j z (by rw [← e]; exact List.getElem?_eq_getElem hj)
    obtain ⟨h1, h2, h3⟩ := hT y (List.mem_of_getElem? hy)
    exact hl.tat h1 (by omega) h3
  · apply List.ext_getElem?
    intro j
    rw [List.getElem?_map, List.getElem?_map]
    cases hz : zs[j]? with
    | none =>
      have := List.getElem?_eq_none_iff.1 hz
      rw [List.getElem?_eq_none (by have := h.len; omega)]
    | some z =>
      obtain ⟨y, hy, hl⟩ := hp j z hz
      rw [hy]
      show some (z.l, z.g) = some (y.l, y.g)
      rw [hl.lab, hl.gone]
  · obtain ⟨y, hy, hl⟩ := hp j z hj
    obtain ⟨b2, q1, _, q3⟩ := hl.blk
    rw [q1] at hb
    injection hb with hb
    omega
theorem bk_ne {w : World} {bk B sz n : Nat} {cs : Array Value} {e : TypeId} {v : Value} {xs : List Value} (hb : Bk w bk cs) (ho : w.ownsRow B e sz v n xs) (hne : e ≠ 67) : v.ownBlock ≠ some bk := fun hk => by
  obtain ⟨cs', fz, h1⟩ := owns_typed ho hk
  have h2 := hb.1
  rw [h1] at h2
  injection h2 with h2
  injection h2 with _ h2
  exact hne h2
theorem out_lst {w : World} {B : Nat} {A : Option Addr} {n c : Nat} {os : List Tv} (h : OutTb w B (.slice A n c) os) (hn : os.length = n) : Lst encTb 3 w w.heap.size A n os ∧ (A = none → n = 0 ∧ c = 0) := by
  have hr := h.row
  rw [hn] at hr
  obtain ⟨A', c', e, _, hl⟩ := ownsRow_lst hr hn encTb_len
  injection e with e1 _ e3
  subst e1 e3
  refine ⟨hl, fun e => ?_⟩
  subst e
  rcases hr.2 with ⟨h', h0⟩ | ⟨_, _, _, h', _⟩
  · injection h' with _ _ h'; exact ⟨h0, h'⟩
  · cases h'
theorem same_tb {w : World} {B B' n c c' : Nat} {A A' : Option Addr} {os os' : List Tv} (h : OutTb w B (.slice A n c) os) (h' : OutTb w B' (.slice A' n c') os') (hn : os.length = n) (hm : os.map Tv.tb = os'.map Tv.tb) (hl : ∀ z ∈ os, z.l.length ≤ 3000) (hn2 : n ≤ 1000) :
    Calls Tryz.prog 12 #[.slice A n c, .slice A' n c'] w fun e w' => e = .returned (.bool true) ∧ Below w.heap.size w w' := by
  have hn' : os'.length = n := by have := congrArg List.length hm; simpa [hn] using this.symm
  have hl' : ∀ z ∈ os', z.l.length ≤ 3000 := fun z hz => by
    have : z.tb ∈ os.map Tv.tb := by rw [hm]; exact List.mem_map.2 ⟨z, hz, rfl⟩
    obtain ⟨y, hy, e⟩ := List.mem_map.1 this
    have e2 : y.l = z.l := congrArg Prod.fst e
    rw [← e2]; exact hl y hy
  exact (sameTomb_q A A' n c c' os os' w (out_lst h hn).1 (out_lst h' hn').1 (h.tat (m := 3000) (by omega) hl) (h'.tat (m := 3000) (by omega) hl') hm (by omega)).mono fun e w' ⟨h1, q, h2⟩ => ⟨h1, by rw [h2]; exact below_drewN (Below.refl _ _) q⟩
set_option maxHeartbeats 8000000 in
set_option maxRecDepth 100000 in
theorem mergeTmb_any (A : Option Addr) (n c : Nat) (ys : List Tv) (w : World) (hL : Lst encTb 3 w w.heap.size A n ys) (hn : n ≤ 140737488355328) (hT : ∀ y ∈ ys, TBig w y) :
    Calls Tryz.prog 3 #[.slice A n c] w fun e w' => e = .returned (.bool true) ∧ Below w.heap.size w w' := by
  have HL := Lib.hid (show _ ∧ _ from ⟨hL, hT⟩)
  have hln := hL.1
  clear hL hT
  go_enter Tryz.func3, Tryz.ntmps3
  go_wp2
  go_loopw [3, 4, 5] (fun nv iv _ wr => ∃ (i s q : Nat), i ≤ n ∧ iv = .int .i64 i ∧ nv = .int .i64 s ∧ wr = w.drewN q ∧ Hid (∀ y ∈ ys.take i, y.n ≤ s) ∧ s ≤ 562949953421312) (fun _ iv _ _ => n - (intOf iv).toNat)
  case atStart => exact ⟨0, n, 0, Nat.zero_le _, rfl, rfl, rfl, Lib.hid (by simp), by omega⟩
  case round =>
    obtain ⟨i, s, q, hi, rfl, rfl, rfl, HS, hs63⟩ := hrel
    by_cases hlt : i < n
    · by_cases hs3 : s ≤ 3000
      · obtain ⟨b, off, y, rfl, hb, hy, hc⟩ := HL.out.1.at hlt
        have hyT := HL.out.2 y (List.mem_of_getElem? hy)
        have c0 := hc 0 _ rfl
        simp only [Nat.add_zero] at c0
        have hyn := hyT.few
        have HY := Lib.hid (show _ ∧ _ ∧ _ from ⟨hy, hyT, hb⟩)
        have C0 := Lib.hid c0
        have ii : (i : Int) < (n : Int) := by omega
        have ss : (s : Int) ≤ 3000 := by omega
        clear hy hyT hc hb
        go_wp2_with (go_quiet (fail))
        go_loopw [3, 5] (fun nv jv wr => ∃ (j s2 q2 : Nat), j ≤ y.n ∧ jv = .int .i64 j ∧ nv = .int .i64 s2 ∧ wr = w.drewN q2 ∧ s ≤ s2 ∧ y.n ≤ s2 ∧ s2 ≤ 562949953421312) (fun _ jv _ => y.n - (intOf jv).toNat)
        case atStart => exact ⟨0, s + y.n, _, Nat.zero_le _, rfl, by simp, rfl, by omega, by omega, by omega⟩
        case round =>
          obtain ⟨j, s2, q2, hj, rfl, rfl, rfl, h1, h2, h3⟩ := hrel
          have c0 := C0.out
          by_cases hjl : j < y.n
          · by_cases hs4 : s2 ≤ 3000
            · obtain ⟨b2, off2, x, hA2, hb2, hx, hc2⟩ := HY.out.2.1.lst.at hjl
              rw [hA2] at c0
              have e0 := hc2 0 _ rfl
              have e1 := hc2 1 _ rfl
              simp only [Nat.add_zero] at e0
              obtain ⟨t0, t1⟩ := HY.out.2.1.txt x (List.mem_of_getElem? hx)
              have jj : (j : Int) < (y.n : Int) := by omega
              have jj0 : (0 : Int) ≤ (j : Int) := by omega
              have ss2 : (s2 : Int) ≤ 3000 := by omega
              clear hx hc2
              go_wp2_with (go_quiet (fail))
              go_roundw
              case measure => simp [intOf]; omega
              case rel => exact ⟨j + 1, s2 + (x.nm.size + x.vl.size), _, hjl, by simp, by simp, by first | rfl | exact World.drewN_drewN _ _ _, by omega, by omega, by omega⟩
            · have ss2 : (3000 : Int) < (s2 : Int) := by omega
              have hbn := Lib.hid (take_bound HS.out HY.out.1 h1 h2)
              go_wp2_with (go_quiet (fail))
              go_roundw
              case measure => simp [intOf]; omega
              case rel => exact ⟨i + 1, s2, _, hlt, by simp, rfl, by first | rfl | exact World.drewN_drewN _ _ _, hbn, h3⟩
          · have jj : ¬ (j : Int) < (y.n : Int) := by omega
            have hbn := Lib.hid (take_bound HS.out HY.out.1 h1 h2)
            go_wp2_with (go_quiet (fail))
            go_roundw
            case measure => simp [intOf]; omega
            case rel => exact ⟨i + 1, s2, _, hlt, by simp, rfl, by first | rfl | exact World.drewN_drewN _ _ _, hbn, h3⟩
      · have ss : (3000 : Int) < (s : Int) := by omega
        go_wp2_with (go_quiet (fail))
        go_ret
        exact ⟨rfl, below_drewN (Below.refl _ _) _⟩
    · obtain rfl : i = n := by omega
      by_cases hs3 : s ≤ 3000
      · by_cases hn1 : i ≤ 100
        · have hyl : ∀ y ∈ ys, y.n ≤ 3000 := by
            have := HS.out
            rw [List.take_of_length_le (by omega)] at this
            exact fun y hy => Nat.le_trans (this y hy) hs3
          have hT : ∀ y ∈ ys, Tat w w.heap.size y := fun y hy => ⟨(HL.out.2 y hy).lst, (HL.out.2 y hy).nil, by have := hyl y hy; omega, (HL.out.2 y hy).fits⟩
          have hcall : ∀ q, Calls Tryz.prog 6 #[.slice A i c] (w.drewN q) fun e w1 => ∃ g cg zs, e = .returned (.slice (some ⟨g, 0, none⟩) i cg) ∧ LentTs w1 w.heap.size ys (.slice (some ⟨g, 0, none⟩) i cg) i zs ∧ w1.ownsRow w.heap.size 27 3 (.slice (some ⟨g, 0, none⟩) (i + 1) cg) (i + 1) ((zs ++ [mT]).flatMap encTb) ∧ Below w.heap.size w w1 := fun q =>
            (lentTombs_any A i c ys (w.drewN q) (HL.out.1.keep fun _ _ => rfl) (by omega) (fun y hy => (hT y hy).keep fun _ _ => rfl)).mono fun e w1 ⟨g, cg, zs, h1, h2, h3, h4⟩ => ⟨g, cg, zs, h1, h2, h3, (below_drewN (Below.refl _ _) q).trans h4⟩
          have HC := Lib.hid (show _ ∧ _ ∧ _ from ⟨hcall, hT, hyl⟩)
          have ss : (s : Int) ≤ 3000 := by omega
          have nn : (i : Int) ≤ 100 := by omega
          clear hyl hT hcall HS
          go_wp2_with (go_quiet (fail))
          refine (HC.out.1 _).mono ?_
          rintro e w1 ⟨g, cg, zs, rfl, hz, hrow, hb1⟩
          have hfa := hz.facts hln (fun y hy => ⟨(HC.out.2.1 y hy).lst.1, HC.out.2.2 y hy, (HC.out.2.1 y hy).fits⟩)
          obtain ⟨A', c', e', _, hL1⟩ := ownsRow_lst hz.row hz.len encTb_len
          injection e' with e1 _ e3
          subst e1 e3
          have hs1 := hb1.size
          have htb := tombs_any (some ⟨g, 0, none⟩) i cg zs w1 hL1 (fun e => by cases e) (by omega) hfa.1
          rw [hfa.2.1] at htb
          have H1 := Lib.hid (show _ ∧ _ ∧ _ ∧ _ ∧ _ from ⟨hz, hrow, hb1, hfa.2.2, htb⟩)
          clear hz hrow hb1 hfa htb hL1
          go_wp2_with fail
          refine H1.out.2.2.2.2.mono ?_
          rintro e w2 ⟨va, os1, rfl, hO1, hlaw1, hb2⟩
          have hs2 := hb2.size
          have hb02 : Below w.heap.size w w2 := H1.out.2.2.1.trans (hb2.mono hs1)
          have hrow2 := owns_below H1.out.2.1 hb2
          obtain ⟨A', c'', e', _, hL2⟩ := ownsRow_lst hrow2 (by simp [H1.out.1.len]) encTb_len
          injection e' with e1 _ e3
          subst e1 e3
          have hwh := wholeTomb_q g cg A i c ys zs w2 w.heap.size hL2 H1.out.1.len (owns_cap H1.out.2.1).2 ((HL.out.1.below hb02).more hb02.size) (fun y hy => (HC.out.2.1 y hy).on hb02) (fun j y z h1 h2 => (H1.out.1.below hb2).each j y z h1 h2) (by omega)
          have hsp : ∀ q, Calls Tryz.prog 9 #[.slice (some ⟨g, 0, none⟩) i cg] (w2.drewN q) fun e w4 => e = .returned (.tuple #[]) ∧ GrownIn (fun b => w.heap.size ≤ b ∧ b < w1.heap.size) (w2.drewN q) w4 := fun q =>
            spoilTombs_any g i cg ys zs (w2.drewN q) w.heap.size ((H1.out.1.below hb2).below (below_drewN (Below.refl _ _) q)) (owns_below hrow2 (below_drewN (Below.refl _ _) q)) hln (fun y hy => (HC.out.2.1 y hy).lst.1) (by omega) hb02.size w1.heap.size H1.out.2.2.2.1 (H1.out.2.1.lt g rfl).2
          have H2 := Lib.hid (show _ ∧ _ ∧ _ ∧ _ ∧ _ from ⟨hO1, hlaw1, hb02, hwh, hsp⟩)
          clear hO1 hlaw1 hb2 hb02 hrow2 hwh hsp hL2
          go_wp2_with fail
          refine H2.out.2.2.2.1.mono ?_
          rintro e w3 ⟨rfl, q3, rfl⟩
          go_wp2_with fail
          refine (H2.out.2.2.2.2 q3).mono ?_
          rintro e w4 ⟨rfl, hg4⟩
          have hs4 := hg4.size
          have hs4' : w2.heap.size ≤ w4.heap.size := hs4
          have hb4 : Below w.heap.size w w4 := (below_drewN H2.out.2.2.1 q3).trans (hg4.below (fun k h => h.1) H2.out.2.2.1.size)
          have hO4 : OutTb w4 w1.heap.size va os1 := (H2.out.1.below (below_drewN (Below.refl _ _) q3)).kept hg4 (fun k h => h.2)
          have hlen1 : os1.length ≤ 100 := by
            have h1 := congrArg List.length H2.out.2.1
            have h2 := tombsU_len labelsC_cmp3 (ys.map Tv.tb)
            rw [List.length_map] at h1 h2
            omega
          have hl1 : ∀ z ∈ os1, z.l.length ≤ 3000 := fun z hz => by
            have h1 : z.tb ∈ os1.map Tv.tb := List.mem_map.2 ⟨z, hz, rfl⟩
            rw [H2.out.2.1] at h1
            obtain ⟨x, hx, e⟩ := tombsU_mem labelsC_cmp3 h1
            obtain ⟨y, hy, rfl⟩ := List.mem_map.1 hx
            have e2 : y.l = z.l := e
            rw [← e2, (HC.out.2.1 y hy).lst.1]
            exact HC.out.2.2 y hy
          obtain ⟨na, hna⟩ : ∃ na, os1.length = na := ⟨_, rfl⟩
          have hr4 := hO4.row
          rw [hna] at hr4 hlen1
          obtain ⟨Aa, ca, rfl, _, _⟩ := owns_slice hr4
          have htb2 := tombs_any Aa na ca os1 w4 (out_lst hO4 hna).1 (out_lst hO4 hna).2 (by omega) (hO4.tat (m := 3000) (by omega) hl1)
          rw [H2.out.2.1] at htb2
          have H4 := Lib.hid (show _ ∧ _ ∧ _ ∧ _ ∧ _ from ⟨hO4, hb4, hl1, hna, htb2⟩)
          clear hg4 hO4 hb4 hl1 hr4 hna htb2
          go_wp2_with fail
          refine H4.out.2.2.2.2.mono ?_
          rintro e w5 ⟨vb, os2, rfl, hO2, hlaw2, hb5⟩
          rw [tombsU_idem labelsC_cmp3] at hlaw2
          have hs5 := hb5.size
          have heq : os2.map Tv.tb = os1.map Tv.tb := hlaw2.trans H2.out.2.1.symm
          have hnb : os2.length = na := by have := congrArg List.length heq; rw [List.length_map, List.length_map, H4.out.2.2.2.1] at this; exact this
          have hr5 := hO2.row
          rw [hnb] at hr5
          obtain ⟨Ab, cb, rfl, _, _⟩ := owns_slice hr5
          have hO15 := H4.out.1.below hb5
          have hb05 : Below w.heap.size w w5 := H4.out.2.1.trans (hb5.mono H4.out.2.1.size)
          have H5 := Lib.hid (show _ ∧ _ ∧ _ ∧ _ ∧ _ from ⟨hO15, hO2, heq, hnb, hb05⟩)
          clear hlaw2 hb5 heq hnb hr5 hO15 hO2 hb05
          go_wp2_with fail
          have hbk : Bk (w5.alloc (.cells nils 67)) w5.heap.size nils := ⟨heap_alloc_new _ _, rfl⟩
          have hb6 : Below w5.heap.size w5 (w5.alloc (.cells nils 67)) := (Below.refl _ _).alloc (Nat.le_refl _) _
          change Calls _ _ _ (w5.alloc (.cells nils 67)) _
          generalize w5.alloc (.cells nils 67) = w6 at hbk hb6 ⊢
          have hs6 := hb6.size
          have hra := owns_below H5.out.1.row hb6
          have hrb := H5.out.2.1.row
          rw [H4.out.2.2.2.1] at hra
          rw [H5.out.2.2.2.1] at hrb
          have H6 := Lib.hid (show _ ∧ _ ∧ _ ∧ _ from ⟨hbk, hb6, hra, hrb⟩)
          clear hbk hb6 hra hrb
          refine (bookTombs w5.heap.size w5.heap.size w1.heap.size 0 0 nils (.slice none 0 0) (.slice none 0 0) Aa na ca [] [] os1 w6 H6.out.1 (nils_at (by omega)) (nils_at (by omega)) (World.ownsRow_nil _ _ _ _) (World.ownsRow_nil _ _ _ _) (by simp [Value.ownBlock]) (by simp [Value.ownBlock]) hs6 (by omega) (by omega) H6.out.2.2.1 (by omega) (bk_ne H6.out.1 H6.out.2.2.1 (by decide))).mono ?_
          rintro e w7 ⟨rfl, g25, c25, v9, h25, h9, hk7, hgr7, _, _⟩
          have hs7 := hgr7.size
          have hb7 : Below w5.heap.size w5 w7 := H6.out.2.1.trans (hgr7.below (fun k h => by
            rcases h with h | h | h
            · omega
            · cases h
            · cases h) hs6)
          have hrb7 := owns_below H6.out.2.2.2 hb7
          have hl9 := h9
          rw [H4.out.2.2.2.1] at hl9
          have H7 := Lib.hid (show _ ∧ _ ∧ _ ∧ _ ∧ _ from ⟨h25, hl9, hk7, hb7, hrb7⟩)
          clear h25 h9 hl9 hk7 hgr7 hb7 hrb7
          go_wp2_with fail
          refine (bookTombs w5.heap.size w5.heap.size w4.heap.size (0 + 1) (0 + na) _ (.slice (some ⟨g25, 0, none⟩) (0 + 1) c25) v9 Ab na cb ([] ++ [.slice Aa na ca]) ([] ++ os1.map valT) os2 w7 H7.out.2.2.1 (by simp [nils]) (by simp [nils]) H7.out.1 H7.out.2.1 (bk_ne H7.out.2.2.1 H7.out.1 (by decide)) (bk_ne H7.out.2.2.1 H7.out.2.1 (by decide)) (by omega) (by omega) (by omega) H7.out.2.2.2.2 (by omega) (bk_ne H7.out.2.2.1 H7.out.2.2.2.2 (by decide))).mono ?_
          rintro e w8 ⟨rfl, g25', c25', v9', h25', h9', hk8, hgr8, _, _⟩
          have hb8 : Below w5.heap.size w5 w8 := H7.out.2.2.2.1.trans (hgr8.below (fun k h => by
            rcases h with h | h | h
            · omega
            · exact (H7.out.1.lt k h).1
            · exact (H7.out.2.1.lt k h).1) (by omega))
          have hw5 := H5.out.2.2.2.2.size
          have hlast : LastT w w8 w5.heap.size _ (.slice Aa na ca) (.slice Ab na cb) os1 os2 g25' c25' v9' := ⟨hk8, fun k hk => ?_, H5.out.2.2.2.2.trans (hb8.mono hw5), (H5.out.1.below hb8).base (by omega), (H5.out.2.1.below hb8).base (by omega), ?_, ?_, owns_base h25' hw5, ?_⟩
          · have HL8 := Lib.hid hlast
            clear hlast h25' h9' hk8 hgr8 hb8
            go_wp2_with fail
            refine (known17 _).mono ?_
            rintro e w9 ⟨rfl, hb9⟩
            have H9 := Lib.hid (HL8.out.step hb9)
            clear hb9
            go_wp2_with fail
            refine (refTombs_any A i c ys w9 (HL.out.1.kept H9.out.old) (by omega) (fun y hy => (HC.out.2.1 y hy).on H9.out.old)).mono ?_
            rintro e w10 ⟨vr, osr, rfl, hOr, hlawr, hb10⟩
            have heqr : osr.map Tv.tb = os1.map Tv.tb := hlawr.trans H2.out.2.1.symm
            have hnr : osr.length = na := by have := congrArg List.length heqr; rw [List.length_map, List.length_map, H4.out.2.2.2.1] at this; exact this
            have hrr := hOr.row
            rw [hnr] at hrr
            obtain ⟨Ar, cr, rfl, _, _⟩ := owns_slice hrr
            have H10 := Lib.hid (show _ ∧ _ ∧ _ from ⟨H9.out.step hb10, hOr, heqr⟩)
            clear hb10 hOr hlawr heqr hrr hnr
            go_wp2_with fail
            refine (same_tb H10.out.1.one H10.out.2.1 H4.out.2.2.2.1 H10.out.2.2.symm H4.out.2.2.1 (by omega)).mono ?_
            rintro e w11 ⟨rfl, hb11⟩
            have H11 := Lib.hid (H10.out.1.step hb11)
            clear hb11
            go_wp2_with fail
            refine (same_tb H11.out.twin H11.out.one H5.out.2.2.2.1 H5.out.2.2.1 (fun z hz => ?_) (by omega)).mono ?_
            · have h1 : z.tb ∈ os1.map Tv.tb := by rw [← H5.out.2.2.1]; exact List.mem_map.2 ⟨z, hz, rfl⟩
              obtain ⟨y, hy, e⟩ := List.mem_map.1 h1
              have e2 : y.l = z.l := congrArg Prod.fst e
              rw [← e2]; exact H4.out.2.2.1 y hy
            rintro e w12 ⟨rfl, hb12⟩
            have H12 := Lib.hid (H11.out.step hb12)
            clear hb12
            go_wp2_with fail
            refine (H12.out.own (by have := H4.out.2.2.2.1; omega) (by have := H5.out.2.2.2.1; omega) (fun z hz => ?_)).mono ?_
            · have h1 : z.tb ∈ os1.map Tv.tb := by
                rcases List.mem_append.1 hz with hz | hz
                · exact List.mem_map.2 ⟨z, hz, rfl⟩
                · rw [← H5.out.2.2.1]; exact List.mem_map.2 ⟨z, hz, rfl⟩
              obtain ⟨y, hy, e⟩ := List.mem_map.1 h1
              have e2 : y.l = z.l := congrArg Prod.fst e
              have h3 := owns_len (H12.out.each z hz) Lb.len (by omega)
              have h4 := H4.out.2.2.1 y hy
              rw [e2] at h4
              omega
            rintro e w13 ⟨rfl, hb13⟩
            have HE := Lib.hid hb13
            clear hb13
            go_wp2
            go_ret
            exact ⟨rfl, HE.out⟩
          · by_cases k9 : k = 9
            · subst k9; simp [nils]
            · by_cases k25 : k = 25
              · subst k25; simp [nils]
              · rw [if_neg k9, if_neg k25, Array.getElem?_setIfInBounds, if_neg (fun h => k9 h.symm), Array.getElem?_setIfInBounds, if_neg (fun h => k25 h.symm), Array.getElem?_setIfInBounds, if_neg (fun h => k9 h.symm), Array.getElem?_setIfInBounds, if_neg (fun h => k25 h.symm)]
                exact nils_at hk
          · refine List.pairwise_append.2 ⟨H5.out.1.apart, H5.out.2.1.apart, fun a ha b hb g h1 h2 => ?_⟩
            have h3 := ((H4.out.1.each a ha).lt g h1).2
            have h4 := ((H5.out.2.1.each b hb).lt g h2).1
            omega
          · intro g h1 h2
            have h3 := (H4.out.1.row.lt g h1).2
            have h4 := (H5.out.2.1.row.lt g h2).1
            omega
          · have h10 := owns_base h9' hw5
            rw [H4.out.2.2.2.1, List.map_append]
            simpa using h10
        · have nn : (100 : Int) < (i : Int) := by omega
          go_wp2_with (go_quiet (fail))
          go_ret
          exact ⟨rfl, below_drewN (Below.refl _ _) _⟩
      · have ss : (3000 : Int) < (s : Int) := by omega
        go_wp2_with (go_quiet (fail))
        go_ret
        exact ⟨rfl, below_drewN (Below.refl _ _) _⟩
end Go.Proofs.YtihidnmpngeohaaGreat
