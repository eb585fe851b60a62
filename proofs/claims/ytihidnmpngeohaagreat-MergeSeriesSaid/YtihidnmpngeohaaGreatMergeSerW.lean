/- MergeSeries' walk. -/
import Derived.Test.YtihidnmpngeohaaGreatMergeSerK
namespace Go.Proofs.YtihidnmpngeohaaGreat
open Go.RowKit Go.Lib

/-- The three lists as they are lent out. -/
structure ThreeS (w : World) (bx by' bz : Nat) (g0 n0 c0 bo0 co0 : Nat) (l0 z0 : List Sv) (g1 n1 c1 bo1 co1 : Nat) (l1 z1 : List Sv) (g2 n2 c2 bo2 co2 : Nat) (l2 z2 : List Sv) : Prop where
  one : LentL w bx g0 n0 c0 l0 z0 bo0 co0
  two : LentL w by' g1 n1 c1 l1 z1 bo1 co1
  three : LentL w bz g2 n2 c2 l2 z2 bo2 co2
/-- What stands when the lists are spoilt: what was made, and what was there before. -/
structure DoneS (w0 w : World) (b1 b2 na nb : Nat) (Aa Ab : Option Addr) (ca cb : Nat) (os1 os2 all one : List Sv) : Prop where
  old : Below w0.heap.size w0 w
  base : w0.heap.size ≤ b1 ∧ b1 ≤ b2 ∧ b2 ≤ w.heap.size
  row1 : OutSv w b1 (.slice Aa na ca) os1
  row2 : OutSv w b2 (.slice Ab nb cb) os2
  len1 : os1.length = na
  len2 : os2.length = nb
  law1 : os1.map Sv.sr = serU labelsC (all.map Sv.sr)
  law2 : os2.map Sv.sr = serU labelsC (one.map Sv.sr)
  few1 : os1.length ≤ 200 ∧ ∀ z ∈ os1, z.l.length ≤ 20000 ∧ z.s.length ≤ 20000
  few2 : os2.length ≤ 200 ∧ ∀ z ∈ os2, z.l.length ≤ 20000 ∧ z.s.length ≤ 20000
  apart : ∀ a ∈ os1, ∀ b ∈ os2, ∀ g, ((valL a).ownBlock = some g → (valL b).ownBlock ≠ some g) ∧ ((valD a).ownBlock = some g → (valD b).ownBlock ≠ some g)
  dis : ∀ b, (Value.slice Aa na ca).ownBlock = some b → (Value.slice Ab nb cb).ownBlock ≠ some b
theorem few_app {w0 : World} {A0 A1 A2 : Option Addr} {n0 n1 n2 : Nat} {l0 l1 l2 : List Sv} (F0 : FewS w0 A0 n0 l0) (F1 : FewS w0 A1 n1 l1) (F2 : FewS w0 A2 n2 l2) : (l0 ++ l1 ++ l2).length ≤ 200 ∧ ((l0 ++ l1 ++ l2).flatMap (·.s)).length ≤ 20000 ∧ ∀ y ∈ l0 ++ l1 ++ l2, y.l.length ≤ 3000 := by
  obtain ⟨a1, a2, a3⟩ := F0.flat
  obtain ⟨b1, b2, b3⟩ := F1.flat
  obtain ⟨d1, d2, d3⟩ := F2.flat
  refine ⟨by simp only [List.length_append]; omega, by simp only [List.flatMap_append, List.length_append]; omega, fun y hy => ?_⟩
  rcases List.mem_append.1 hy with hy | hy
  · rcases List.mem_append.1 hy with hy | hy
    · have h := F0.sat y hy; have := h.1.lst.1; omega
    · have h := F1.sat y hy; have := h.1.lst.1; omega
  · have h := F2.sat y hy; have := h.1.lst.1; omega
theorem FewS.one {w0 : World} {A0 : Option Addr} {n0 : Nat} {l0 : List Sv} (F0 : FewS w0 A0 n0 l0) : l0.length ≤ 200 ∧ (l0.flatMap (·.s)).length ≤ 20000 ∧ ∀ y ∈ l0, y.l.length ≤ 3000 := by
  obtain ⟨a1, a2, a3⟩ := F0.flat
  exact ⟨by omega, by omega, fun y hy => by have h := F0.sat y hy; have := h.1.lst.1; omega⟩
theorem DoneS.below {w0 w w' : World} {b1 b2 na nb : Nat} {Aa Ab : Option Addr} {ca cb : Nat} {os1 os2 all one : List Sv} (h : DoneS w0 w b1 b2 na nb Aa Ab ca cb os1 os2 all one) (hb : Below w.heap.size w w') : DoneS w0 w' b1 b2 na nb Aa Ab ca cb os1 os2 all one :=
  { h with old := h.old.trans (hb.mono h.old.size), base := ⟨h.base.1, h.base.2.1, Nat.le_trans h.base.2.2 hb.size⟩, row1 := h.row1.below hb, row2 := h.row2.below hb }
theorem DoneS.last {w0 w wi : World} {b1 b2 na nb : Nat} {Aa Ab : Option Addr} {ca cb : Nat} {os1 os2 all one : List Sv} (h : DoneS w0 w b1 b2 na nb Aa Ab ca cb os1 os2 all one) (hb : Below w.heap.size w wi) {bk g22 c22 : Nat} {cs1 cs2 : Array Value} {x y z u9 u10 : Value} (hk : Bk wi bk cs2) (h1 : BkCells nils cs1 x y z)
    (h2 : BkCells cs1 cs2 (.slice (some ⟨g22, 0, none⟩) (0 + 1 + 1) c22) u9 u10) (o22 : wi.ownsRow w.heap.size 70 1 (.slice (some ⟨g22, 0, none⟩) (0 + 1 + 1) c22) (0 + 1 + 1) ([] ++ [.slice Aa na ca] ++ [.slice Ab nb cb]))
    (o9 : wi.ownsRow w.heap.size 23 1 u9 (0 + os1.length + os2.length) ([] ++ os1.map valL ++ os2.map valL)) (o10 : wi.ownsRow w.heap.size 90 1 u10 (0 + os1.length + os2.length) ([] ++ os1.map valD ++ os2.map valD)) :
    LastS w0 wi bk cs2 (.slice Aa na ca) (.slice Ab nb cb) os1 os2 g22 c22 u9 u10 := by
  have hs := h.old.size
  have hd := h.below hb
  refine ⟨hk, cells_final h1 h2, hd.old, hd.row1.base h.base.1, hd.row2.base (by have := h.base; omega), ?_, ?_, h.dis, owns_base o22 hs, ?_, ?_⟩
  · exact List.pairwise_append.2 ⟨h.row1.apart, h.row2.apart, fun a ha b hb g => (h.apart a ha b hb g).1⟩
  · exact List.pairwise_append.2 ⟨h.row1.sapart, h.row2.sapart, fun a ha b hb g => (h.apart a ha b hb g).2⟩
  · have := owns_base o9 hs
    rw [Nat.zero_add] at this
    rw [List.map_append]
    exact this
  · have := owns_base o10 hs
    rw [Nat.zero_add] at this
    rw [List.map_append]
    exact this
/-- The three are spoilt; what was made stays. -/
theorem done_of {w0 w3 w4 w5 w8 : World} {b1 na nb : Nat} {A0 A1 A2 Aa Ab : Option Addr} {n0 n1 n2 ca cb : Nat} {l0 l1 l2 os1 os2 : List Sv} (F0 : FewS w0 A0 n0 l0) (F1 : FewS w0 A1 n1 l1) (F2 : FewS w0 A2 n2 l2) (h3 : Below w0.heap.size w0 w3) (h34 : Below w3.heap.size w3 w4) (h45 : Below w4.heap.size w4 w5)
    (O1 : OutSv w4 w3.heap.size (.slice Aa na ca) os1) (O2 : OutSv w5 w4.heap.size (.slice Ab nb cb) os2) (e1 : os1.length = na) (e2 : os2.length = nb) (a1 : os1.map Sv.sr = serU labelsC ((l0 ++ l1 ++ l2).map Sv.sr)) (a2 : os2.map Sv.sr = serU labelsC (l0.map Sv.sr)) (hb1 : w0.heap.size ≤ b1)
    {S : Nat → Prop} (hg : GrownIn S w5 w8) (hS : ∀ b, S b → b1 ≤ b ∧ b < w3.heap.size) : DoneS w0 w8 w3.heap.size w4.heap.size na nb Aa Ab ca cb os1 os2 (l0 ++ l1 ++ l2) l0 := by
  have s3 := h3.size
  have s4 := h34.size
  have s5 := h45.size
  have s8 := hg.size
  have h05 : Below w0.heap.size w0 w5 := h3.trans ((h34.trans (h45.mono s4)).mono s3)
  obtain ⟨f1, f2, f3⟩ := few_app F0 F1 F2
  obtain ⟨k1, k2, k3⟩ := F0.one
  have O15 := O1.below h45
  refine ⟨h05.trans (hg.below (fun b h => by have := hS b h; omega) (by omega)), ⟨s3, s4, by omega⟩, O15.kept hg (fun b h => (hS b h).2), O2.kept hg (fun b h => by have := hS b h; omega), e1, e2, a1, a2, ser_few a1 f1 f2 f3, ser_few a2 k1 k2 k3, fun a ha b hb g => ⟨fun q1 q2 => ?_, fun q1 q2 => ?_⟩, fun g q1 q2 => ?_⟩
  · have := ((O1.each a ha).1.lt g q1).2
    have := ((O2.each b hb).1.lt g q2).1
    omega
  · have := ((O1.each a ha).2.lt g q1).2
    have := ((O2.each b hb).2.lt g q2).1
    omega
  · have := (O1.row.lt g q1).2
    have := (O2.row.lt g q2).1
    omega
theorem LastS.num {w wi : World} {bk : Nat} {cs : Array Value} {va vb u9 u10 : Value} {os1 os2 : List Sv} {g22 c22 : Nat} (h : LastS w wi bk cs va vb os1 os2 g22 c22 u9 u10) (f1 : ∀ z ∈ os1, z.l.length ≤ 20000 ∧ z.s.length ≤ 20000) (f2 : ∀ z ∈ os2, z.l.length ≤ 20000 ∧ z.s.length ≤ 20000) : ∀ z ∈ os1 ++ os2, z.n ≤ 1000000 ∧ z.m ≤ 1000000 := fun z hz => by
  rcases List.mem_append.1 hz with hz | hz
  · have h1 := owns_len (h.one.each z hz).1 Lb.len (by omega)
    have h2 := owns_len (h.one.each z hz).2 encS_len (by omega)
    have h3 := f1 z hz
    omega
  · have h1 := owns_len (h.twin.each z hz).1 Lb.len (by omega)
    have h2 := owns_len (h.twin.each z hz).2 encS_len (by omega)
    have h3 := f2 z hz
    omega
set_option maxHeartbeats 8000000 in
set_option maxRecDepth 100000 in
theorem mergeSer_any (a0 a1 a2 : Option Addr) (len0 cap0 len1 cap1 len2 cap2 : Nat) (l0 l1 l2 : List Sv) (W : World) (hL0 : Lst encSv 2 W W.heap.size a0 len0 l0) (hL1 : Lst encSv 2 W W.heap.size a1 len1 l1) (hL2 : Lst encSv 2 W W.heap.size a2 len2 l2)
    (hb0 : len0 ≤ 140737488355328) (hb1 : len1 ≤ 140737488355328) (hb2 : len2 ≤ 140737488355328) (hT0 : ∀ z ∈ l0, SBig W z) (hT1 : ∀ z ∈ l1, SBig W z) (hT2 : ∀ z ∈ l2, SBig W z) :
    Calls Tryz.prog 4 #[.slice a0 len0 cap0, .slice a1 len1 cap1, .slice a2 len2 cap2] W fun e w' => e = .returned (.bool true) ∧ Below W.heap.size W w' := by
  have K := Lib.hid (show ArgS W a0 len0 l0 ∧ ArgS W a1 len1 l1 ∧ ArgS W a2 len2 l2 from ⟨⟨hL0, hb0, hT0⟩, ⟨hL1, hb1, hT1⟩, ⟨hL2, hb2, hT2⟩⟩)
  clear hL0 hL1 hL2 hb0 hb1 hb2 hT0 hT1 hT2
  go_enter Tryz.func4, Tryz.ntmps4
  by_cases f0 : SFew len0 l0
  · by_cases f1 : SFew len1 l1
    · by_cases f2 : SFew len2 l2
      · have F := Lib.hid (show FewS W a0 len0 l0 ∧ FewS W a1 len1 l1 ∧ FewS W a2 len2 l2 from ⟨⟨K.out.1, f0⟩, ⟨K.out.2.1, f1⟩, ⟨K.out.2.2, f2⟩⟩)
        clear f0 f1 f2 K
        go_wp2_with fail
        refine (much_no F.out.1 (Below.refl _ _)).mono ?_
        rintro e wa ⟨rfl, hb⟩
        have HA := Lib.hid hb
        clear hb
        go_wp2_with fail
        refine (much_no F.out.2.1 HA.out).mono ?_
        rintro e wb ⟨rfl, hb⟩
        have HB := Lib.hid hb
        clear hb
        go_wp2_with fail
        refine (much_no F.out.2.2 HB.out).mono ?_
        rintro e wc ⟨rfl, hb⟩
        have HC := Lib.hid hb
        clear hb
        go_wp2_with fail
        refine (F.out.1.lend HC.out).mono ?_
        rintro e w1 ⟨g0, c0, z0, bo0, co0, rfl, hx, hb, hB⟩
        have H1 := Lib.hid (show _ ∧ _ ∧ _ from ⟨hx, hb, hB⟩)
        clear hx hb hB
        go_wp2_with fail
        refine (F.out.2.1.lend H1.out.2.2).mono ?_
        rintro e w2 ⟨g1, c1, z1, bo1, co1, rfl, hx, hb, hB⟩
        have H2 := Lib.hid (show _ ∧ _ ∧ _ from ⟨hx, hb, hB⟩)
        clear hx hb hB
        go_wp2_with fail
        refine (F.out.2.2.lend H2.out.2.2).mono ?_
        rintro e w3 ⟨g2, c2, z2, bo2, co2, rfl, hx, hb, hB⟩
        have H3 := Lib.hid (show _ ∧ _ ∧ _ ∧ _ from ⟨(H1.out.1.below H2.out.2.1).below hb, H2.out.1.below hb, hx, hB⟩)
        have HS := Lib.hid (show _ ∧ _ ∧ _ ∧ _ from ⟨HC.out.size, H1.out.2.1.size, H2.out.2.1.size, hb.size⟩)
        clear hx hb hB
        go_wp2_with fail
        refine (made3 F.out.1 F.out.2.1 F.out.2.2 H3.out.1 H3.out.2.1 H3.out.2.2.1).mono ?_
        rintro e w4 ⟨Aa, na, ca, os1, rfl, hl, ho, hr, hb⟩
        have H4 := Lib.hid (show _ ∧ _ ∧ _ ∧ _ from ⟨hl, ho, hr, hb⟩)
        clear hl ho hr hb
        go_wp2_with fail
        refine (made1 F.out.1 (H3.out.1.below H4.out.2.2.2)).mono ?_
        rintro e w5 ⟨Ab, nb, cb, os2, rfl, hl, ho, hr, hb⟩
        have H5 := Lib.hid (show _ ∧ _ ∧ _ ∧ _ ∧ _ from ⟨hl, ho, hr, hb, H4.out.2.2.2.trans (hb.mono H4.out.2.2.2.size)⟩)
        clear hl ho hr hb
        go_wp2_with fail
        refine (whole_at F.out.1 H3.out.1 H3.out.2.2.2 H5.out.2.2.2.2).mono ?_
        rintro e w6 ⟨rfl, hb, hn⟩
        have H6 := Lib.hid hb
        have N6 := Lib.hid hn
        clear hb hn
        go_wp2_with fail
        refine (whole_at F.out.2.1 H3.out.2.1 H3.out.2.2.2 H6.out).mono ?_
        rintro e w7 ⟨rfl, hb, hn⟩
        have H7 := Lib.hid hb
        have N7 := Lib.hid (N6.out.trans (hn.mono N6.out.size))
        clear hb hn H6 N6
        go_wp2_with fail
        refine (whole_at F.out.2.2 H3.out.2.2.1 H3.out.2.2.2 H7.out).mono ?_
        rintro e w8 ⟨rfl, hb, hn⟩
        have H8 := Lib.hid hb
        have N8 := Lib.hid (N7.out.trans (hn.mono N7.out.size))
        clear hb hn H7 N7
        go_wp2_with fail
        refine ((H3.out.1.below H8.out).spoil F.out.1 H1.out.1 (by have := H8.out.size; have := HS.out; omega)).mono ?_
        rintro e w9 ⟨rfl, hg⟩
        have L9 := ((H3.out.2.1.below H8.out).kept F.out.2.1.flat.1 hg (fun b h => h.2))
        have M9 := ((H3.out.2.2.1.below H8.out).kept F.out.2.2.flat.1 hg (fun b h => by have := HS.out; omega))
        have H9 := Lib.hid (show _ ∧ _ ∧ _ from ⟨hg, L9, M9⟩)
        clear hg L9 M9
        go_wp2_with fail
        refine (H9.out.2.1.spoil F.out.2.1 H2.out.1 (by have := H8.out.size; have := HS.out; have := H9.out.1.size; omega)).mono ?_
        rintro e w10 ⟨rfl, hg⟩
        have H10 := Lib.hid (show _ ∧ _ from ⟨hg, H9.out.2.2.kept F.out.2.2.flat.1 hg (fun b h => h.2)⟩)
        clear hg
        go_wp2_with fail
        refine (H10.out.2.spoil F.out.2.2 H3.out.2.2.1 (by have := H8.out.size; have := HS.out; have := H9.out.1.size; have := H10.out.1.size; omega)).mono ?_
        rintro e w11 ⟨rfl, hg⟩
        have hS := HS.out
        have hd : DoneS W w11 w3.heap.size w4.heap.size na nb Aa Ab ca cb os1 os2 (l0 ++ l1 ++ l2) l0 := done_of F.out.1 F.out.2.1 F.out.2.2 H3.out.2.2.2 H4.out.2.2.2 H5.out.2.2.2.1 H4.out.2.1 H5.out.2.1 H4.out.1 H5.out.1 H4.out.2.2.1 H5.out.2.2.1 hS.1
          (S := fun b => wc.heap.size ≤ b ∧ b < w3.heap.size)
          (((((GrownIn.of_below N8.out).mono (T := fun b => wc.heap.size ≤ b ∧ b < w3.heap.size) (fun k h1 h2 => absurd h2 (by omega))).trans H9.out.1 (fun k _ h => ⟨h.1, by omega⟩)).trans H10.out.1 (fun k _ h => ⟨by omega, by omega⟩)).trans hg (fun k _ h => ⟨by omega, by omega⟩)) (fun b h => h)
        have D := Lib.hid hd
        clear hd hS hg H10 H9 H8 N8 H5 H4 H3 H2 H1 HS HC HB HA
        go_wp2_with fail
        have hbk : Bk (w11.alloc (.cells nils 67)) w11.heap.size nils := ⟨heap_alloc_new _ _, rfl⟩
        have hb12 : Below w11.heap.size w11 (w11.alloc (.cells nils 67)) := (Below.refl _ _).alloc (Nat.le_refl _) _
        change Calls _ _ _ (w11.alloc (.cells nils 67)) _
        generalize w11.alloc (.cells nils 67) = w12 at hbk hb12 ⊢
        have hs12 := hb12.size
        have hr1 := (D.out.row1.below hb12).row
        rw [D.out.len1] at hr1
        have hn1 : na ≤ 200 := by have := D.out.len1; have := D.out.few1.1; omega
        have hn2 : nb ≤ 200 := by have := D.out.len2; have := D.out.few2.1; omega
        have H12 := Lib.hid (show _ ∧ _ ∧ _ from ⟨hbk, hb12, hr1⟩)
        clear hbk hb12 hr1
        refine (bookSeries w11.heap.size w11.heap.size w3.heap.size 0 0 0 nils (.slice none 0 0) (.slice none 0 0) (.slice none 0 0) Aa na ca [] [] [] os1 w12 H12.out.1 (nils_at (by omega)) (nils_at (by omega)) (nils_at (by omega)) (World.ownsRow_nil _ _ _ _) (World.ownsRow_nil _ _ _ _) (World.ownsRow_nil _ _ _ _) hs12 (by omega) (by omega) (by omega) H12.out.2.2 (by omega)).mono ?_
        rintro e w13 ⟨rfl, g22, c22, u9, u10, cs1, o22, o9, o10, hk, hc, hg⟩
        have hs13 := hg.size
        have hb13 : Below w11.heap.size w11 w13 := H12.out.2.1.trans (hg.below (fun k h => by
          rcases h with h | h | h | h
          · omega
          · cases h
          · cases h
          · cases h) hs12)
        have hr2 := (D.out.row2.below hb13).row
        rw [D.out.len2] at hr2
        have H13 := Lib.hid (show _ ∧ _ ∧ _ ∧ _ ∧ _ ∧ _ ∧ _ from ⟨o22, o9, o10, hk, hc, hb13, hr2⟩)
        clear o22 o9 o10 hk hc hb13 hr2 hg
        go_wp2_with fail
        have hl1 := D.out.few1.1
        have hl2 := D.out.few2.1
        refine (bookSeries w11.heap.size w11.heap.size w4.heap.size (0 + 1) (0 + os1.length) (0 + os1.length) cs1 (.slice (some ⟨g22, 0, none⟩) (0 + 1) c22) u9 u10 Ab nb cb ([] ++ [.slice Aa na ca]) ([] ++ os1.map valL) ([] ++ os1.map valD) os2 w13 H13.out.2.2.2.1 (by have := H13.out.2.2.2.2.1 22 (by omega); simpa using this) (by have := H13.out.2.2.2.2.1 9 (by omega); simpa using this) (by have := H13.out.2.2.2.2.1 10 (by omega); simpa using this) H13.out.1 H13.out.2.1 H13.out.2.2.1 (by omega) (by omega) (by omega) (by omega) H13.out.2.2.2.2.2.2 (by omega)).mono ?_
        rintro e w14 ⟨rfl, h22, d22, y9, y10, cs2, o22, o9, o10, hk, hc, hg⟩
        have hb14 : Below w11.heap.size w11 w14 := H13.out.2.2.2.2.2.1.trans (hg.below (fun k h => by
          rcases h with h | h | h | h
          · omega
          · exact (H13.out.1.lt k h).1
          · exact (H13.out.2.1.lt k h).1
          · exact (H13.out.2.2.1.lt k h).1) (by omega))
        have hlast := D.out.last hb14 hk H13.out.2.2.2.2.1 hc o22 o9 o10
        have HL := Lib.hid hlast
        clear hlast o22 o9 o10 hk hc hb14 hg H13 H12
        go_wp2_with fail
        refine (ref3 F.out.1 F.out.2.1 F.out.2.2 HL.out.old).mono ?_
        rintro e w15 ⟨v, osr, rfl, hr, hlaw, hb⟩
        have H15 := Lib.hid (show _ ∧ _ ∧ _ from ⟨HL.out.step hb, hr, hlaw.trans D.out.law1.symm⟩)
        clear hr hlaw hb HL
        go_wp2_with fail
        refine (same_sr H15.out.1.one D.out.len1 H15.out.2.1 H15.out.2.2 D.out.few1).mono ?_
        rintro e w16 ⟨rfl, hb⟩
        have H16 := Lib.hid (H15.out.1.step hb)
        clear hb H15
        go_wp2_with fail
        refine (ref1 F.out.1 H16.out.old).mono ?_
        rintro e w17 ⟨v', osq, rfl, hr, hlaw, hb⟩
        have H17 := Lib.hid (show _ ∧ _ ∧ _ from ⟨H16.out.step hb, hr, hlaw.trans D.out.law2.symm⟩)
        clear hr hlaw hb H16
        go_wp2_with fail
        refine (same_sr H17.out.1.twin D.out.len2 H17.out.2.1 H17.out.2.2 D.out.few2).mono ?_
        rintro e w18 ⟨rfl, hb⟩
        have H18 := Lib.hid (H17.out.1.step hb)
        clear hb H17
        go_wp2_with fail
        refine (known17 _).mono ?_
        rintro e w19 ⟨rfl, hb⟩
        have H19 := Lib.hid (H18.out.step hb)
        clear hb H18
        go_wp2_with fail
        refine (made0 _).mono ?_
        rintro e w20 ⟨A9, c9, rfl, hb⟩
        have H20 := Lib.hid (H19.out.step hb)
        clear hb H19
        go_wp2_with fail
        refine (H20.out.own (by omega) (by omega) (H20.out.num D.out.few1.2 D.out.few2.2)).mono ?_
        rintro e w21 ⟨rfl, hb⟩
        have H21 := Lib.hid hb
        clear hb
        go_wp2
        go_ret
        exact ⟨rfl, H21.out⟩
      · go_wp2_with fail
        have F := Lib.hid (show FewS W a0 len0 l0 ∧ FewS W a1 len1 l1 from ⟨⟨K.out.1, f0⟩, ⟨K.out.2.1, f1⟩⟩)
        refine (much_no F.out.1 (Below.refl _ _)).mono ?_
        rintro e wa ⟨rfl, hb⟩
        have HA := Lib.hid hb
        clear hb
        go_wp2_with fail
        refine (much_no F.out.2 HA.out).mono ?_
        rintro e wb ⟨rfl, hb⟩
        have HB := Lib.hid hb
        clear hb
        go_wp2_with fail
        refine (much_yes K.out.2.2 f2 HB.out).mono ?_
        rintro e wc ⟨rfl, hb⟩
        have HC := Lib.hid hb
        clear hb
        go_wp2
        go_ret
        exact ⟨rfl, HC.out⟩
    · go_wp2_with fail
      have F := Lib.hid (show FewS W a0 len0 l0 from ⟨K.out.1, f0⟩)
      refine (much_no F.out (Below.refl _ _)).mono ?_
      rintro e wa ⟨rfl, hb⟩
      have HA := Lib.hid hb
      clear hb
      go_wp2_with fail
      refine (much_yes K.out.2.1 f1 HA.out).mono ?_
      rintro e wc ⟨rfl, hb⟩
      have HC := Lib.hid hb
      clear hb
      go_wp2
      go_ret
      exact ⟨rfl, HC.out⟩
  · go_wp2_with fail
    refine (much_yes K.out.1 f0 (Below.refl _ _)).mono ?_
    rintro e wc ⟨rfl, hb⟩
    have HC := Lib.hid hb
    clear hb
    go_wp2
    go_ret
    exact ⟨rfl, HC.out⟩
end Go.Proofs.YtihidnmpngeohaaGreat
