/- LentSeries' walk. WholeTombs, SpoilTombs. WholeSeries, SpoilSeries. -/
import Derived.Test.YtihidnmpngeohaaGreatG31
import Derived.Test.YtihidnmpngeohaaGreatG19
namespace Go.Proofs.YtihidnmpngeohaaGreat
open Go.RowKit Go.Lib

theorem seen2 {w w' : World} (hb : Below w.heap.size w w') {p1 p2 : Addr} {v1 v2 : Value} (h : w.cell? p1 = some v1 ∧ w.cell? p2 = some v2) : w'.cell? p1 = some v1 ∧ w'.cell? p2 = some v2 :=
  ⟨Below.seen hb h.1, Below.seen hb h.2⟩
theorem owns_freshK {w : World} {B : Nat} (hB : B ≤ w.heap.size) (e : TypeId) (size n : Nat) (cs : List Value) (hl : cs.length = n * size) (hm : n ≤ maxLen) : (w.alloc (.cells cs.toArray e)).ownsRow B e size (.slice (some ⟨w.heap.size, 0, none⟩) n n) n cs :=
  ⟨hl, .inr ⟨w.heap.size, n, cs.toArray, rfl, hB, heap_alloc_new w _, Nat.le_refl _, hm, by simp [hl], by rw [← hl]; simp⟩⟩
set_option maxHeartbeats 4000000 in
set_option maxRecDepth 100000 in
theorem lentSer_any (A : Option Addr) (n c : Nat) (ys : List Sv) (w : World) (hL : Lst encSv 2 w w.heap.size A n ys) (hn : n ≤ 1000000) (hT : ∀ y ∈ ys, Sat w w.heap.size y) :
    Calls Tryz.prog 16 #[.slice A n c] w (LentSerPost w ys n) := by
  obtain ⟨i0, hi, hz0, hz1, hz2⟩ := info_parts Tryz.infoSeries
  have hbts : i0.bytes * (n + 1) ≤ 281474976710656 := by rw [hz2]; omega
  have HB := Lib.hid hbts
  have HL := Lib.hid (show _ ∧ _ from ⟨hL, hT⟩)
  have HI := Lib.hid (show _ ∧ _ ∧ _ ∧ _ from ⟨hi, hz0, hz1, hz2⟩)
  clear hbts hL hT
  go_enter Tryz.func16, Tryz.ntmps16
  go_wp2_with (refine wpList_make_own _ rfl _ _ 70 rfl w.heap.size 132 i0 _ 2 Tryz.underlying70 hi hz0 hz1 .i64 .i64 _ (n + 1) rfl rfl (by simp) HB.out (by unfold maxLen; omega) (Nat.le_refl _) ?_)
  intro w1 hown hg
  have hb1 : Below w.heap.size w w1 := (Below.refl _ _).grown hg (Nat.le_refl _) (fun _ h => by cases h)
  have H1 := Lib.hid (show LentSs w1 w.heap.size (ys.take 0) (.slice (some ⟨w.heap.size, 0, none⟩) 0 (n + 1)) 0 [] ∧ _ from ⟨⟨hown, rfl, fun j y z h => by simp at h, List.Pairwise.nil, List.Pairwise.nil⟩, hb1⟩)
  clear hown hg hb1 hi hz0 hz1 hz2
  go_wp2
  go_loopw [3, 4] (fun v iv wr => ∃ (k : Nat) (zs : List Sv), k ≤ n ∧ iv = .int .i64 k ∧ Hid (LentSs wr w.heap.size (ys.take k) v k zs ∧ Below w.heap.size w wr)) (fun _ iv _ => n - (intOf iv).toNat)
  case atStart => exact ⟨0, [], Nat.zero_le _, rfl, H1⟩
  case round =>
    obtain ⟨k, zs, hk, rfl, HR⟩ := hrel
    have hsw := HR.out.2.size
    by_cases hlt : k < n
    · obtain ⟨b, off, y, rfl, hb, hy, hcl⟩ := HL.out.1.at hlt
      have hty := HL.out.2 y (List.mem_of_getElem? hy)
      have c0 := (HR.out.2.cell (p := ⟨b, off + k * 2 + 0, none⟩) hb).trans (hcl 0 _ rfl)
      have c1 := (HR.out.2.cell (p := ⟨b, off + k * 2 + 1, none⟩) hb).trans (hcl 1 _ rfl)
      simp only [Nat.add_zero] at c0
      have hcon := fun W (hbw : Below w.heap.size w W) => lentLabel_any y.A y.n y.c y.l W ((hty.on hbw).lst) hty.nil (by have := hty.few; omega)
      have hcon2 := fun W (hbw : Below w.heap.size w W) => lentSample_any y.D y.m y.d y.s W ((hty.on hbw).sst) hty.snil (by have := hty.sfew; omega)
      have HW := Lib.hid (show _ ∧ _ ∧ _ ∧ _ from ⟨hcon, hcon2, hy, (⟨c0, c1⟩ : _ ∧ _)⟩)
      have j1 : (k : Int) < (n : Int) := by omega
      have hvn : ∀ g, u3.ownBlock = some g → w.heap.size ≤ g := fun g hg => (HR.out.1.row.lt g hg).1
      have hn1 : u3.ownBlock ≠ some b := fun e => by have := hvn b e; omega
      have HN := Lib.hid hn1
      obtain ⟨hi, hz0, hz1, hz2⟩ := HI.out
      clear hcl hy hty hcon hcon2 hvn hn1
      go_wp2_with fail
      go_region_held3 (fun w' => w'.cell? ⟨b, off + k * 2, none⟩ = some (.slice y.A y.n y.c) ∧ w'.cell? ⟨b, off + k * 2 + 1, none⟩ = some (.slice y.D y.m y.d)) (first | exact k7 | exact k8 | exact k6 | exact HW.out.2.2.2 | go_keep)
        (first
          | (go_at_call 27; refine (HW.out.1 _ HR.out.2.drew).mono ?_; rintro e w5 ⟨g5, c5, rfl, ho5, hb5'⟩; have hb5 : Below wr.heap.size wr w5 := (Below.refl _ wr).drew.trans hb5'; have k6 := seen2 hb5 HW.out.2.2.2; have hs5 : wr.heap.size ≤ w5.heap.size := hb5.size; have H5 := Lib.hid (show _ ∧ _ from ⟨(show World.ownsRow w5 wr.heap.size _ _ _ _ _ from ho5), hb5⟩); clear ho5 hb5 hb5')
          | (go_at_call 78; refine (HW.out.2.1 _ (HR.out.2.trans (H5.out.2.mono hsw))).mono ?_; rintro e w7 ⟨g7, c7, rfl, ho7, hb7⟩; have k8 := seen2 hb7 k6; have hs7 : w5.heap.size ≤ w7.heap.size := hb7.size; have hb57 := H5.out.2.trans (hb7.mono hs5); have hO7 := owns_below HR.out.1.row hb57; have H7 := Lib.hid (show _ ∧ _ ∧ _ ∧ _ from ⟨owns_below H5.out.1 hb7, owns_base ho7 hs5, hb57, hO7⟩); clear ho7 hb7 hb57 hO7)
          | (refine step_append_lies _ (by rfl) _ _ _ (by rfl) w.heap.size 132 i0 _ 2 48 Tryz.underlying70 hi hz0 hz1 hz2 rfl (by omega) _ k (zs.flatMap encSv) (by rfl) (by exact H7.out.2.2.2.alloc _) ⟨w7.heap.size, 0, none⟩ 1 1 [.slice (some ⟨g5, 0, none⟩) y.n c5, .slice (some ⟨g7, 0, none⟩) y.m c7] (by rfl) (by rfl) (by exact cells_newL w7 [.slice (some ⟨g5, 0, none⟩) y.n c5, .slice (some ⟨g7, 0, none⟩) y.m c7] _) (by simp [Value.oneCell']) (by omega) (by unfold maxLen; omega) (by omega) (by simp; omega) (w7.heap.size + 1) (by simp) ?_; intro g6 c6' w6 hown6 hg6 hl6 hlt6; have hba : Below w7.heap.size w7 (w7.alloc (.cells #[.slice (some ⟨g5, 0, none⟩) y.n c5, .slice (some ⟨g7, 0, none⟩) y.m c7] 132)) := (Below.refl _ _).alloc (Nat.le_refl _) _; have k7 := (show World.cell? w6 ⟨b, off + k * 2, none⟩ = some (.slice y.A y.n y.c) ∧ World.cell? w6 ⟨b, off + k * 2 + 1, none⟩ = some (.slice y.D y.m y.d) from ⟨(GrownIn.of_grownBy hg6).cell (seen2 hba k8).1 HN.out, (GrownIn.of_grownBy hg6).cell (seen2 hba k8).2 HN.out⟩); have H6 := Lib.hid (show _ ∧ Below w.heap.size w w6 from ⟨HR.out.1.step hsw HW.out.2.2.1 (show World.ownsRow _ wr.heap.size _ _ _ _ _ from H7.out.1) (show World.ownsRow _ wr.heap.size _ _ _ _ _ from H7.out.2.1) H7.out.2.2.1 hba hown6 hg6, ((HR.out.2.trans (H7.out.2.2.1.mono hsw)).trans (hba.mono (Nat.le_trans hsw (Nat.le_trans hs5 hs7)))).grown hg6 (Nat.le_trans (Nat.le_trans hsw (Nat.le_trans hs5 hs7)) hba.size) (fun j hj => (HR.out.1.row.lt j hj).1)⟩); clear hown6 hg6 hl6 hlt6 hba) | fail)
      all_goals
        go_wp2
        go_roundw
        case measure => simp [intOf]; omega
        case rel => exact ⟨k + 1, _, hlt, by simp, H6⟩
    · obtain rfl : n = k := by omega
      have hLs := HR.out.1
      rw [List.take_of_length_le (by have := HL.out.1.1; omega)] at hLs
      have HLs := Lib.hid hLs
      clear hLs
      obtain ⟨hi, hz0, hz1, hz2⟩ := HI.out
      have hlab : (wr.alloc (.cells #[.string ⟨#[111]⟩, .string ByteArray.empty] 29)).ownsRow w.heap.size 29 2 (.slice (some ⟨wr.heap.size, 0, none⟩) 1 1) 1 mALabel.cells := owns_freshK hsw _ 2 1 mALabel.cells rfl (by unfold maxLen; omega)
      have HB := Lib.hid hlab
      clear hlab
      go_wp2_with (at_builtin; refine wpList_append_own _ rfl _ _ 70 rfl w.heap.size 132 i0 _ 2 48 Tryz.underlying70 hi hz0 hz1 hz2 rfl (by omega) _ n (zs.flatMap encSv) rfl ((HLs.out.row.alloc _).alloc _) ⟨wr.heap.size + 1, 0, none⟩ 1 1 [.slice (some ⟨wr.heap.size, 0, none⟩) 1 1, .slice none 0 0] rfl rfl (cells_at _ (by simp) [.slice (some ⟨wr.heap.size, 0, none⟩) 1 1, .slice none 0 0] _) (by simp [Value.oneCell']) (by unfold maxLen; omega) (by omega) (by simp; omega) ?_)
      intro v6 w6 ho6 hg6 _
      obtain ⟨g6, c6, rfl⟩ := ownsRow_succ ho6
      have hc6 := owns_cap ho6
      have hba1 : Below wr.heap.size wr (wr.alloc (.cells #[.string ⟨#[111]⟩, .string ByteArray.empty] 29)) := (Below.refl _ _).alloc (Nat.le_refl _) _
      have hba2 : Below (wr.alloc (.cells #[.string ⟨#[111]⟩, .string ByteArray.empty] 29)).heap.size (wr.alloc (.cells #[.string ⟨#[111]⟩, .string ByteArray.empty] 29)) ((wr.alloc (.cells #[.string ⟨#[111]⟩, .string ByteArray.empty] 29)).alloc (.cells #[.slice (some ⟨wr.heap.size, 0, none⟩) 1 1, .slice none 0 0] 132)) := (Below.refl _ _).alloc (Nat.le_refl _) _
      have hba := hba1.trans (hba2.mono (by simp))
      have hlab2 := owns_below HB.out hba2
      have hrow2 := owns_below HLs.out.row hba
      have hlab6 := hlab2.kept hg6 (owns_apart hlab2 hrow2 (by decide))
      have ho6' : w6.ownsRow w.heap.size 132 2 (.slice (some ⟨g6, 0, none⟩) (n + 1) c6) (n + 1) ((zs ++ [mS wr.heap.size 1]).flatMap encSv) := by rw [List.flatMap_append]; exact ho6
      have HF := Lib.hid (show _ ∧ _ ∧ _ ∧ _ from ⟨HLs.out.close hba ho6 hg6, ho6', hlab6, (HR.out.2.trans (hba.mono hsw)).grown hg6 (by simp; omega) (fun j hj => (HLs.out.row.lt j hj).1)⟩)
      have hci : (n : Int) ≤ (c6 : Int) := by omega
      clear ho6 hg6 hba hba1 hba2 ho6' hlab2 hrow2 hlab6 hi hz0 hz1 hz2
      go_wp2
      go_ret
      exact ⟨g6, c6, zs, _, _, rfl, HF.out.1, HF.out.2.1, HF.out.2.2.1, HF.out.2.2.2⟩
end Go.Proofs.YtihidnmpngeohaaGreat
namespace Go.Proofs.YtihidnmpngeohaaGreat
open Go.RowKit Go.Lib

/-- A lent row of labels, as it lies. -/
theorem lentT_parts {w : World} {B g n c : Nat} {l : List Lb} (h : w.ownsRow B 29 2 (.slice (some ⟨g, 0, none⟩) (n + 2) c) (n + 2) ((l ++ [mALabel, mBLabel]).flatMap Lb.cells)) (hl : l.length = n) :
    Lst Lb.cells 2 w w.heap.size (some ⟨g, 0, none⟩) (n + 2) (l ++ [mALabel, mBLabel]) ∧ Lst Lb.cells 2 w w.heap.size (some ⟨g, 0, none⟩) n l ∧ n + 2 ≤ c ∧ c ≤ maxLen ∧ ∃ cur, w.heap[g]? = some (.cells cur 29 (0, 0)) ∧ cur.size = c * 2 := by
  obtain ⟨A', c', e', _, h1⟩ := ownsRow_lst h (by simp [hl]) Lb.len
  injection e' with e1 _ _
  subst e1
  have h2 := h1.take (k := n) (by omega)
  rw [List.take_append_of_le_length (by omega), List.take_of_length_le (by omega)] at h2
  have hc := owns_cap h
  refine ⟨h1, h2, hc.2, hc.1, ?_⟩
  rcases h.2 with ⟨h', _⟩ | ⟨_, _, cur, h', _, hh, _, _, hs, _⟩
  · cases h'
  · cases h'; exact ⟨cur, hh, hs⟩
theorem LentTb.tat {w : World} {B : Nat} {y z : Tv} (h : LentTb w B y z) (hy : y.l.length = y.n) (hf : y.n ≤ 100000) (hg : Fits y.g) : Tat w w.heap.size z := by
  obtain ⟨b, h1, h2⟩ := h.row
  have hp := lentT_parts h2 hy
  refine ⟨?_, fun e => ?_, by rw [h.len]; exact hf, by rw [h.gone]; exact hg⟩
  · rw [h1, h.len, h.lab]; exact hp.2.1
  · rw [h1] at e; cases e
set_option maxHeartbeats 2000000 in
set_option maxRecDepth 100000 in
theorem wholeTomb_q (g c : Nat) (A : Option Addr) (n ca : Nat) (ys zs : List Tv) (w : World) (B : Nat) (ha : Lst encTb 3 w w.heap.size (some ⟨g, 0, none⟩) (n + 1) (zs ++ [mT])) (hlz : zs.length = n) (hc : n + 1 ≤ c) (hb : Lst encTb 3 w w.heap.size A n ys) (hT : ∀ y ∈ ys, Tat w w.heap.size y)
    (hE : ∀ (j : Nat) y z, ys[j]? = some y → zs[j]? = some z → LentTb w B y z) (hbig : n ≤ 1000000) :
    Calls Tryz.prog 8 #[.slice (some ⟨g, 0, none⟩) n c, .slice A n ca] w fun e w' => e = .returned (.bool true) ∧ ∃ q, w' = w.drewN q := by
  obtain ⟨b, off, e, hbb, hcc⟩ := ha.2 (by omega)
  cases e
  have hm : (zs ++ [mT])[n]? = some mT := by rw [List.getElem?_append_right (by omega), hlz]; simp
  have c1 := hcc n _ hm 1 _ rfl
  have c2 := hcc n _ hm 2 _ rfl
  simp only [Nat.zero_add, mT] at c1 c2
  have hci : (n : Int) + 1 ≤ (c : Int) := by omega
  have HA := Lib.hid (show _ ∧ _ ∧ _ ∧ _ ∧ _ from ⟨hcc, hlz, hb, hT, hE⟩)
  clear ha hcc hm hb hT hE hlz
  go_enter Tryz.func8, Tryz.ntmps8
  go_wp2
  clear c1 c2
  go_loopw [6] (fun i wr => ∃ k : Nat, k ≤ n ∧ i = .int .i64 k ∧ Hid (∃ q, wr = w.drewN q)) (fun i _ => n - (intOf i).toNat)
  case atStart => exact ⟨0, Nat.zero_le _, rfl, Lib.hid ⟨0, rfl⟩⟩
  case round =>
    obtain ⟨k, hk, rfl, HQ⟩ := hrel
    by_cases hlt : k < n
    · obtain ⟨b2, off2, y, rfl, hbb2, hy, hc2⟩ := HA.out.2.2.1.at hlt
      obtain ⟨z, hz⟩ : ∃ z, zs[k]? = some z := ⟨_, List.getElem?_eq_getElem (by have := HA.out.2.1; omega)⟩
      have hz' : (zs ++ [mT])[k]? = some z := by rw [List.getElem?_append_left (by have := HA.out.2.1; omega)]; exact hz
      have hlt' := HA.out.2.2.2.2 k y z hy hz
      obtain ⟨bz, hbz, hrow⟩ := hlt'.row
      have hty := HA.out.2.2.2.1 y (List.mem_of_getElem? hy)
      have hp := lentT_parts hrow hty.lst.1
      obtain ⟨q, hq⟩ := HQ.out
      have hcell : ∀ p, wr.cell? p = w.cell? p := fun p => by rw [hq]; rfl
      have hsz : wr.heap.size = w.heap.size := by rw [hq]; rfl
      have d0 := (hcell _).trans (HA.out.1 k z hz' 0 _ rfl)
      have d1 := (hcell _).trans (HA.out.1 k z hz' 1 _ rfl)
      have d2 := (hcell _).trans (HA.out.1 k z hz' 2 _ rfl)
      have c0 := (hcell _).trans (hc2 0 _ rfl)
      have c1 := (hcell _).trans (hc2 1 _ rfl)
      have c2 := (hcell _).trans (hc2 2 _ rfl)
      rw [hlt'.gone] at d1 d2
      rw [hbz, hlt'.len] at d0
      simp only [Nat.zero_add, Nat.add_zero] at c0 d0 d1 d2
      have hsame : ∀ W : World, (∃ m, W = wr.drewN m) → Calls Tryz.prog 36 #[.slice (some ⟨bz, 0, none⟩) y.n z.c, .slice y.A y.n y.c] W fun e w' => e = .returned (.bool true) ∧ ∃ m, w' = W.drewN m := fun W ⟨m, hm⟩ => by
        have e1 : ∀ p, W.cell? p = w.cell? p := fun p => by rw [hm]; exact hcell p
        have e2 : W.heap.size = w.heap.size := by rw [hm]; exact hsz
        refine wholeLabel_q bz z.c y.A y.n y.c y.l W ?_ hp.2.2.1 ?_ (by have := hty.few; omega)
        · rw [e2]; exact hp.1.keep fun p _ => e1 p
        · rw [e2]; exact hty.lst.keep fun p _ => e1 p
      have HS := Lib.hid hsame
      clear hy hz hz' hc2 hlt' hbz hrow hty hp hcell hsame hq hsz
      go_wp2_with (go_quiet (first | (go_at_call 36; refine Calls.quiet_of (HS.out _ ⟨_, rfl⟩))))
      go_roundw
      case measure => simp [intOf]; omega
      case rel => exact ⟨k + 1, hlt, by simp, Lib.hid ⟨_, by rw [HQ.out.choose_spec]; first | rfl | exact World.drewN_drewN _ _ _⟩⟩
    · go_wp2
      go_ret
      exact ⟨rfl, HQ.out⟩
/-- What is still as it was lent out. -/
structure Spoiling (w wr : World) (B H g : Nat) (zs : List Tv) (k : Nat) : Prop where
  grown : GrownIn (fun b => B ≤ b ∧ b < H) w wr
  row : wr.heap[g]? = w.heap[g]?
  rest : ∀ (j : Nat) z b, k ≤ j → zs[j]? = some z → (Value.slice z.A z.n z.c).ownBlock = some b → wr.heap[b]? = w.heap[b]?
set_option maxHeartbeats 4000000 in
set_option maxRecDepth 100000 in
theorem spoilTombs_any (g n c : Nat) (ys zs : List Tv) (w : World) (B : Nat) (h : LentTs w B ys (.slice (some ⟨g, 0, none⟩) n c) n zs) (hrow : w.ownsRow B 27 3 (.slice (some ⟨g, 0, none⟩) (n + 1) c) (n + 1) ((zs ++ [mT]).flatMap encTb)) (hly : ys.length = n) (hys : ∀ y ∈ ys, y.l.length = y.n) (hn : n ≤ 1000000) (hB : B ≤ w.heap.size) (H : Nat)
    (hH : ∀ (j : Nat) z b, zs[j]? = some z → (Value.slice z.A z.n z.c).ownBlock = some b → b < H) (hgH : g < H) :
    Calls Tryz.prog 9 #[.slice (some ⟨g, 0, none⟩) n c] w fun e w' => e = .returned (.tuple #[]) ∧ GrownIn (fun b => B ≤ b ∧ b < H) w w' := by
  have hcap := owns_cap hrow
  have hg := h.row.lt g rfl
  obtain ⟨cur, hcur, hcs⟩ : ∃ cur, w.heap[g]? = some (.cells cur 27 (0, 0)) ∧ cur.size = c * 3 := by
    rcases hrow.2 with ⟨h', _⟩ | ⟨_, _, cur, h', _, hh, _, _, hs, _⟩
    · cases h'
    · cases h'; exact ⟨cur, hh, hs⟩
  have HL := Lib.hid (show _ ∧ _ ∧ _ ∧ _ ∧ _ from ⟨h, hly, hys, hH, hcur⟩)
  have hc' : c ≤ 9223372036854775807 := by have := hcap.1; unfold maxLen at this; exact this
  have HCS := Lib.hid hcs
  clear h hrow hly hys hH hcur hcs hcap
  go_enter Tryz.func9, Tryz.ntmps9
  go_wp2
  go_loopw [2] (fun i wr => ∃ k : Nat, k ≤ n ∧ i = .int .i64 k ∧ Hid (Spoiling w wr B H g zs k)) (fun i _ => n - (intOf i).toNat)
  case atStart => exact ⟨0, Nat.zero_le _, rfl, Lib.hid ⟨GrownIn.refl _ _, rfl, fun _ _ _ _ _ _ => rfl⟩⟩
  case round =>
    obtain ⟨k, hk, rfl, HS⟩ := hrel
    by_cases hlt : k < n
    · obtain ⟨z, hz⟩ : ∃ z, zs[k]? = some z := ⟨_, List.getElem?_eq_getElem (by have := HL.out.1.len; omega)⟩
      obtain ⟨y, hy⟩ : ∃ y, ys[k]? = some y := ⟨_, List.getElem?_eq_getElem (by have := HL.out.2.1; omega)⟩
      have hlz := HL.out.1.each k y z hy hz
      obtain ⟨bz, hbz, hrz⟩ := hlz.row
      have hbo : (Value.slice z.A z.n z.c).ownBlock = some bz := by rw [hbz]; rfl
      have hp := lentT_parts hrz (HL.out.2.2.1 y (List.mem_of_getElem? hy))
      have hblk := HS.out.rest k z bz (Nat.le_refl _) hz hbo
      obtain ⟨cz, hcz, hczs⟩ := hp.2.2.2.2
      have c0w := owns_at HL.out.1.row encTb_len hz (j := 0) (u := .slice z.A z.n z.c) rfl
      have c0 : wr.cell? ⟨g, k * 3, none⟩ = some (.slice (some ⟨bz, 0, none⟩) y.n z.c) := by
        rw [World.cell?_of_block (w := w) (a := ⟨g, k * 3, none⟩) HS.out.row]
        rw [hbz, hlz.len] at c0w
        exact c0w
      have hsp := spoilLabel_any bz y.n z.c cz wr (hblk.trans hcz) hczs (by have := hp.2.2.1; omega) hp.2.2.2.1
      have hnext : ∀ w', wr.grownBy w' (some bz) → Spoiling w w' B H g zs (k + 1) := fun w' hgr => by
        have hbH := HL.out.2.2.2.1 k z bz hz hbo
        have hbB := (hrz.lt bz rfl)
        have hgw := HS.out.grown.size
        refine ⟨HS.out.grown.trans (GrownIn.of_grownBy hgr) (fun b _ e => by injection e with e; omega), (hgr.block g (by omega) (fun e => ?_)).trans HS.out.row, fun j z' b' hj hz' hb' => ?_⟩
        · injection e with e
          exact owns_other hrz HL.out.1.row (by decide) rfl (by rw [← e]; rfl)
        · have hjn := (List.getElem?_eq_some_iff.1 hz').1
          have hlen := HL.out.1.len
          have hjy : j < ys.length := by have := HL.out.2.1; omega
          have hz2 := HL.out.1.each j (ys[j]'hjy) z' (List.getElem?_eq_getElem hjy) hz'
          obtain ⟨b2, q1, _, q3⟩ := hz2.blk
          rw [q1] at hb'
          injection hb' with hb'
          subst hb'
          refine (hgr.block b2 (by omega) (fun e => ?_)).trans (HS.out.rest j z' b2 (by omega) hz' q1)
          injection e with e
          have hpw := List.pairwise_iff_getElem.1 HL.out.1.apart k j (by omega) hjn (by omega)
          obtain ⟨_, e1⟩ := List.getElem?_eq_some_iff.1 hz
          obtain ⟨_, e2⟩ := List.getElem?_eq_some_iff.1 hz'
          rw [e1, e2] at hpw
          exact hpw bz hbo (by rw [q1, e])
      have HSP := Lib.hid (show _ ∧ _ from ⟨hsp, hnext⟩)
      clear hz hy hlz hbz hrz hbo hp hblk hcz hczs c0w hsp hnext
      go_wp2_with (go_at_call 37; refine HSP.out.1.mono ?_; rintro e w5 ⟨rfl, hg5⟩; have H5 := Lib.hid (HSP.out.2 w5 hg5); clear hg5)
      go_roundw
      case measure => simp [intOf]; omega
      case rel => exact ⟨k + 1, hlt, by simp, H5⟩
    · obtain ⟨w2, rfl⟩ : ∃ w2 : World, w2 = wr := ⟨_, rfl⟩
      have hrow2 := HS.out.row.trans HL.out.2.2.2.2
      have HR2 := Lib.hid (show _ ∧ _ from ⟨hrow2, HS.out.grown⟩)
      clear hrow2
      go_wp2
      go_loopw [4] (fun i wr => ∃ (k : Nat) (cu : Array Value), k ≤ c ∧ i = .int .i64 k ∧ Hid (wr.heap[g]? = some (.cells cu 27 (0, 0)) ∧ cu.size = c * 3 ∧ GrownIn (fun b => B ≤ b ∧ b < H) w wr)) (fun i _ => c - (intOf i).toNat)
      case atStart => exact ⟨0, cur, Nat.zero_le _, rfl, Lib.hid ⟨HR2.out.1, HCS.out, HR2.out.2⟩⟩
      case round =>
        obtain ⟨k, cu, hk, rfl, HB⟩ := hrel
        by_cases hlt : k < c
        · have hcell : ∀ j, j < 3 → ∃ x, wr.cell? ⟨g, k * 3 + j, none⟩ = some x := fun j hj => ⟨_, by
            rw [cell_of_row _ _ _ _ _ _ HB.out.1]
            exact Array.getElem?_eq_getElem (by have := HB.out.2.1; omega)⟩
          have hfr : ∀ j, wr.frozen? ⟨g, j, none⟩ = false := fun j => by simp [World.frozen?, HB.out.1]
          obtain ⟨x0, c0⟩ := hcell 0 (by omega)
          obtain ⟨x1, c1⟩ := hcell 1 (by omega)
          obtain ⟨x2, c2⟩ := hcell 2 (by omega)
          have f0 := hfr (k * 3)
          have f1 := hfr (k * 3 + 1)
          have f2 := hfr (k * 3 + 2)
          simp only [Nat.add_zero] at c0
          have hgB := hg.1
          clear hcell hfr
          go_wp2
          go_roundw
          case measure => simp [intOf]; omega
          case rel =>
            refine ⟨k + 1, _, hlt, by simp, Lib.hid ⟨heap_setCell_same _ _ _ _ _ _ (heap_setCell_same _ _ _ _ _ _ (heap_setCell_same _ _ _ _ _ _ HB.out.1)), ?_, ?_⟩⟩
            · simpa using HB.out.2.1
            · exact grownIn_set (grownIn_set (grownIn_set HB.out.2.2 (p := ⟨g, k * 3, none⟩) ⟨hgB, hgH⟩ _) (p := ⟨g, k * 3 + 1, none⟩) ⟨hgB, hgH⟩ _) (p := ⟨g, k * 3 + 2, none⟩) ⟨hgB, hgH⟩ _
        · go_wp2
          go_end0
          exact ⟨rfl, HB.out.2.2⟩
end Go.Proofs.YtihidnmpngeohaaGreat
namespace Go.Proofs.YtihidnmpngeohaaGreat
open Go.RowKit Go.Lib

/-- A lent row of samples, as it lies. -/
theorem lentD_parts {w : World} {B g n c : Nat} {l : List (Int × Int)} (h : w.ownsRow B 95 2 (.slice (some ⟨g, 0, none⟩) (n + 2) c) (n + 2) ((l ++ [mASample, mBSample]).flatMap encS)) (hl : l.length = n) :
    Lst encS 2 w w.heap.size (some ⟨g, 0, none⟩) (n + 2) (l ++ [mASample, mBSample]) ∧ Lst encS 2 w w.heap.size (some ⟨g, 0, none⟩) n l ∧ n + 2 ≤ c ∧ c ≤ maxLen ∧ ∃ cur, w.heap[g]? = some (.cells cur 95 (0, 0)) ∧ cur.size = c * 2 := by
  obtain ⟨A', c', e', _, h1⟩ := ownsRow_lst h (by simp [hl]) encS_len
  injection e' with e1 _ _
  subst e1
  have h2 := h1.take (k := n) (by omega)
  rw [List.take_append_of_le_length (by omega), List.take_of_length_le (by omega)] at h2
  have hc := owns_cap h
  refine ⟨h1, h2, hc.2, hc.1, ?_⟩
  rcases h.2 with ⟨h', _⟩ | ⟨_, _, cur, h', _, hh, _, _, hs, _⟩
  · cases h'
  · cases h'; exact ⟨cur, hh, hs⟩
theorem LentSv.sat {w : World} {B : Nat} {y z : Sv} (h : LentSv w B y z) (hy : y.l.length = y.n) (hs : y.s.length = y.m) (hf : y.n ≤ 100000) (hg : y.m ≤ 100000) : Sat w w.heap.size z := by
  obtain ⟨b, h1, h2⟩ := h.row
  obtain ⟨d, h3, h4⟩ := h.sow
  have hp := lentT_parts h2 hy
  have hq := lentD_parts h4 hs
  refine ⟨?_, fun e => ?_, by rw [h.len]; exact hf, ?_, fun e => ?_, by rw [h.sen]; exact hg⟩
  · rw [h1, h.len, h.lab]; exact hp.2.1
  · rw [h1] at e; cases e
  · rw [h3, h.sen, h.sam]; exact hq.2.1
  · rw [h3] at e; cases e
set_option maxHeartbeats 4000000 in
set_option maxRecDepth 100000 in
theorem wholeSer_q (g c : Nat) (A : Option Addr) (n ca bo co : Nat) (ys zs : List Sv) (w : World) (B : Nat) (ha : Lst encSv 2 w w.heap.size (some ⟨g, 0, none⟩) (n + 1) (zs ++ [mS bo co])) (hlz : zs.length = n) (hc : n + 1 ≤ c) (hb : Lst encSv 2 w w.heap.size A n ys) (hT : ∀ y ∈ ys, Sat w w.heap.size y)
    (hE : ∀ (j : Nat) y z, ys[j]? = some y → zs[j]? = some z → LentSv w B y z) (hbo : w.ownsRow B 29 2 (.slice (some ⟨bo, 0, none⟩) 1 co) 1 mALabel.cells) (hbig : n ≤ 1000000) :
    Calls Tryz.prog 18 #[.slice (some ⟨g, 0, none⟩) n c, .slice A n ca] w fun e w' => e = .returned (.bool true) ∧ ∃ q, w' = w.drewN q := by
  obtain ⟨b, off, e, hbb, hcc⟩ := ha.2 (by omega)
  cases e
  have hm : (zs ++ [mS bo co])[n]? = some (mS bo co) := by rw [List.getElem?_append_right (by omega), hlz]; simp
  have c1 := hcc n _ hm 0 _ rfl
  simp only [Nat.zero_add, Nat.add_zero, mS] at c1
  have o0 : w.cell? ⟨bo, 0, none⟩ = some (.string ⟨#[111]⟩) := owns_cell hbo rfl rfl
  have o1 : w.cell? ⟨bo, 1, none⟩ = some (.string ByteArray.empty) := owns_cell hbo rfl rfl
  have hci : (n : Int) + 1 ≤ (c : Int) := by omega
  have HA := Lib.hid (show _ ∧ _ ∧ _ ∧ _ ∧ _ from ⟨hcc, hlz, hb, hT, hE⟩)
  clear ha hcc hm hb hT hE hlz hbo
  go_enter Tryz.func18, Tryz.ntmps18
  go_wp2_with (go_quiet (fail))
  clear c1 o0 o1
  go_loopw [6] (fun i wr => ∃ k : Nat, k ≤ n ∧ i = .int .i64 k ∧ Hid (∃ q, wr = w.drewN q)) (fun i _ => n - (intOf i).toNat)
  case atStart => exact ⟨0, Nat.zero_le _, rfl, Lib.hid ⟨0, rfl⟩⟩
  case round =>
    obtain ⟨k, hk, rfl, HQ⟩ := hrel
    by_cases hlt : k < n
    · obtain ⟨b2, off2, y, rfl, hbb2, hy, hc2⟩ := HA.out.2.2.1.at hlt
      obtain ⟨z, hz⟩ : ∃ z, zs[k]? = some z := ⟨_, List.getElem?_eq_getElem (by have := HA.out.2.1; omega)⟩
      have hz' : (zs ++ [mS bo co])[k]? = some z := by rw [List.getElem?_append_left (by have := HA.out.2.1; omega)]; exact hz
      have hlt' := HA.out.2.2.2.2 k y z hy hz
      obtain ⟨bz, hbz, hrow⟩ := hlt'.row
      obtain ⟨dz, hdz, hsow⟩ := hlt'.sow
      have hty := HA.out.2.2.2.1 y (List.mem_of_getElem? hy)
      have hp := lentT_parts hrow hty.lst.1
      have hpd := lentD_parts hsow hty.sst.1
      obtain ⟨q, hq⟩ := HQ.out
      have hcell : ∀ p, wr.cell? p = w.cell? p := fun p => by rw [hq]; rfl
      have hsz : wr.heap.size = w.heap.size := by rw [hq]; rfl
      have d0 := (hcell _).trans (HA.out.1 k z hz' 0 _ rfl)
      have d1 := (hcell _).trans (HA.out.1 k z hz' 1 _ rfl)
      have c0 := (hcell _).trans (hc2 0 _ rfl)
      have c1 := (hcell _).trans (hc2 1 _ rfl)
      rw [hdz, hlt'.sen] at d1
      rw [hbz, hlt'.len] at d0
      simp only [Nat.zero_add, Nat.add_zero] at c0 d0 d1
      have hsame : ∀ W : World, (∃ m, W = wr.drewN m) → Calls Tryz.prog 36 #[.slice (some ⟨bz, 0, none⟩) y.n z.c, .slice y.A y.n y.c] W fun e w' => e = .returned (.bool true) ∧ ∃ m, w' = W.drewN m := fun W ⟨m, hm⟩ => by
        have e1 : ∀ p, W.cell? p = w.cell? p := fun p => by rw [hm]; exact hcell p
        have e2 : W.heap.size = w.heap.size := by rw [hm]; exact hsz
        refine wholeLabel_q bz z.c y.A y.n y.c y.l W ?_ hp.2.2.1 ?_ (by have := hty.few; omega)
        · rw [e2]; exact hp.1.keep fun p _ => e1 p
        · rw [e2]; exact hty.lst.keep fun p _ => e1 p
      have hsame2 : ∀ W : World, (∃ m, W = wr.drewN m) → Calls Tryz.prog 82 #[.slice (some ⟨dz, 0, none⟩) y.m z.d, .slice y.D y.m y.d] W fun e w' => e = .returned (.bool true) ∧ ∃ m, w' = W.drewN m := fun W ⟨m, hm⟩ => by
        have e1 : ∀ p, W.cell? p = w.cell? p := fun p => by rw [hm]; exact hcell p
        have e2 : W.heap.size = w.heap.size := by rw [hm]; exact hsz
        refine wholeSample_q dz z.d y.D y.m y.d y.s W ?_ hpd.2.2.1 ?_ (by have := hty.sfew; omega)
        · rw [e2]; exact hpd.1.keep fun p _ => e1 p
        · rw [e2]; exact hty.sst.keep fun p _ => e1 p
      have HS := Lib.hid (show _ ∧ _ from ⟨hsame, hsame2⟩)
      clear hy hz hz' hc2 hlt' hbz hrow hdz hsow hty hp hpd hcell hsame hsame2 hq hsz
      go_wp2_with (go_quiet (first | (go_at_call 36; refine Calls.quiet_of (HS.out.1 _ ⟨_, rfl⟩)) | (go_at_call 82; refine Calls.quiet_of (HS.out.2 _ ⟨_, rfl⟩))))
      go_roundw
      case measure => simp [intOf]; omega
      case rel => exact ⟨k + 1, hlt, by simp, Lib.hid ⟨_, by rw [HQ.out.choose_spec]; first | rfl | exact World.drewN_drewN _ _ _⟩⟩
    · go_wp2
      go_ret
      exact ⟨rfl, HQ.out⟩
/-- What is still as it was lent out. -/
structure SpoilingS (w wr : World) (B H g : Nat) (zs : List Sv) (k : Nat) : Prop where
  grown : GrownIn (fun b => B ≤ b ∧ b < H) w wr
  row : wr.heap[g]? = w.heap[g]?
  rest : ∀ (j : Nat) z b, k ≤ j → zs[j]? = some z → ((valL z).ownBlock = some b ∨ (valD z).ownBlock = some b) → wr.heap[b]? = w.heap[b]?
theorem pairwise_at {α : Type} {R : α → α → Prop} {l : List α} (h : l.Pairwise R) {i j : Nat} (hij : i < j) {x y : α} (hx : l[i]? = some x) (hy : l[j]? = some y) : R x y := by
  obtain ⟨h1, e1⟩ := List.getElem?_eq_some_iff.1 hx
  obtain ⟨h2, e2⟩ := List.getElem?_eq_some_iff.1 hy
  have := List.pairwise_iff_getElem.1 h i j h1 h2 hij
  rwa [e1, e2] at this
set_option maxHeartbeats 4000000 in
set_option maxRecDepth 100000 in
theorem spoilSer_any (g n c bo co : Nat) (ys zs : List Sv) (w : World) (B : Nat) (h : LentSs w B ys (.slice (some ⟨g, 0, none⟩) n c) n zs) (hrow : w.ownsRow B 132 2 (.slice (some ⟨g, 0, none⟩) (n + 1) c) (n + 1) ((zs ++ [mS bo co]).flatMap encSv)) (hly : ys.length = n) (hys : ∀ y ∈ ys, y.l.length = y.n ∧ y.s.length = y.m) (hn : n ≤ 1000000) (hB : B ≤ w.heap.size) (H : Nat)
    (hH : ∀ (j : Nat) z b, zs[j]? = some z → ((valL z).ownBlock = some b ∨ (valD z).ownBlock = some b) → b < H) (hgH : g < H) :
    Calls Tryz.prog 19 #[.slice (some ⟨g, 0, none⟩) n c] w fun e w' => e = .returned (.tuple #[]) ∧ GrownIn (fun b => B ≤ b ∧ b < H) w w' := by
  have hcap := owns_cap hrow
  have hg := h.row.lt g rfl
  obtain ⟨cur, hcur, hcs⟩ : ∃ cur, w.heap[g]? = some (.cells cur 132 (0, 0)) ∧ cur.size = c * 2 := by
    rcases hrow.2 with ⟨h', _⟩ | ⟨_, _, cur, h', _, hh, _, _, hs, _⟩
    · cases h'
    · cases h'; exact ⟨cur, hh, hs⟩
  have HL := Lib.hid (show _ ∧ _ ∧ _ ∧ _ ∧ _ from ⟨h, hly, hys, hH, hcur⟩)
  have hc' : c ≤ 9223372036854775807 := by have := hcap.1; unfold maxLen at this; exact this
  have HCS := Lib.hid hcs
  clear h hrow hly hys hH hcur hcs hcap
  go_enter Tryz.func19, Tryz.ntmps19
  go_wp2
  go_loopw [2] (fun i wr => ∃ k : Nat, k ≤ n ∧ i = .int .i64 k ∧ Hid (SpoilingS w wr B H g zs k)) (fun i _ => n - (intOf i).toNat)
  case atStart => exact ⟨0, Nat.zero_le _, rfl, Lib.hid ⟨GrownIn.refl _ _, rfl, fun _ _ _ _ _ _ => rfl⟩⟩
  case round =>
    obtain ⟨k, hk, rfl, HS⟩ := hrel
    by_cases hlt : k < n
    · obtain ⟨z, hz⟩ : ∃ z, zs[k]? = some z := ⟨_, List.getElem?_eq_getElem (by have := HL.out.1.len; omega)⟩
      obtain ⟨y, hy⟩ : ∃ y, ys[k]? = some y := ⟨_, List.getElem?_eq_getElem (by have := HL.out.2.1; omega)⟩
      have hlz := HL.out.1.each k y z hy hz
      obtain ⟨bz, hbz, hrz⟩ := hlz.row
      obtain ⟨dz, hdz, hsz⟩ := hlz.sow
      have hbo : (valL z).ownBlock = some bz := by unfold valL; rw [hbz]; rfl
      have hdo : (valD z).ownBlock = some dz := by unfold valD; rw [hdz]; rfl
      have hyy := HL.out.2.2.1 y (List.mem_of_getElem? hy)
      have hp := lentT_parts hrz hyy.1
      have hpd := lentD_parts hsz hyy.2
      have hblk := HS.out.rest k z bz (Nat.le_refl _) hz (.inl hbo)
      have hdlk := HS.out.rest k z dz (Nat.le_refl _) hz (.inr hdo)
      obtain ⟨cz, hcz, hczs⟩ := hp.2.2.2.2
      obtain ⟨ez, hez, hezs⟩ := hpd.2.2.2.2
      have hbd : bz ≠ dz := fun e => by
        rw [e, hez] at hcz
        injection hcz with hcz
        injection hcz with _ hcz
        exact absurd hcz (by decide)
      have hgz : g ≠ bz := fun e => by
        rw [← e, HL.out.2.2.2.2] at hcz
        injection hcz with hcz
        injection hcz with _ hcz
        exact absurd hcz (by decide)
      have hgd : g ≠ dz := fun e => by
        rw [← e, HL.out.2.2.2.2] at hez
        injection hez with hez
        injection hez with _ hez
        exact absurd hez (by decide)
      have c0w := owns_at HL.out.1.row encSv_len hz (j := 0) (u := .slice z.A z.n z.c) rfl
      have c1w := owns_at HL.out.1.row encSv_len hz (j := 1) (u := .slice z.D z.m z.d) rfl
      have c0 : wr.cell? ⟨g, k * 2, none⟩ = some (.slice (some ⟨bz, 0, none⟩) y.n z.c) := by
        rw [World.cell?_of_block (w := w) (a := ⟨g, k * 2, none⟩) HS.out.row]
        rw [hbz, hlz.len] at c0w
        exact c0w
      have c1 : wr.cell? ⟨g, k * 2 + 1, none⟩ = some (.slice (some ⟨dz, 0, none⟩) y.m z.d) := by
        rw [World.cell?_of_block (w := w) (a := ⟨g, k * 2 + 1, none⟩) HS.out.row]
        rw [hdz, hlz.sen] at c1w
        exact c1w
      have hlb := hrz.lt bz rfl
      have hld := hsz.lt dz rfl
      have hgw := HS.out.grown.size
      have hsp := spoilLabel_any bz y.n z.c cz wr (hblk.trans hcz) hczs (by have := hp.2.2.1; omega) hp.2.2.2.1
      have hsp2 : ∀ w5, wr.grownBy w5 (some bz) → Calls Tryz.prog 83 #[.slice (some ⟨dz, 0, none⟩) y.m z.d] w5 fun e w' => e = .returned (.tuple #[]) ∧ w5.grownBy w' (some dz) := fun w5 h5 =>
        spoilSample_any dz y.m z.d ez w5 ((h5.block dz (by omega) (fun e => hbd (by injection e with e; exact e.symm))).trans (hdlk.trans hez)) hezs (by have := hpd.2.2.1; omega) hpd.2.2.2.1
      have hnext : ∀ w5 w', wr.grownBy w5 (some bz) → w5.grownBy w' (some dz) → SpoilingS w w' B H g zs (k + 1) := fun w5 w' hgr hgr2 => by
        have hbH := HL.out.2.2.2.1 k z bz hz (.inl hbo)
        have hdH := HL.out.2.2.2.1 k z dz hz (.inr hdo)
        have hblock : ∀ b, b < w.heap.size → b ≠ bz → b ≠ dz → w'.heap[b]? = wr.heap[b]? := fun b hb h1 h2 =>
          (hgr2.block b (by have := hgr.size; omega) (fun e => h2 (by injection e))).trans (hgr.block b (by omega) (fun e => h1 (by injection e)))
        refine ⟨(HS.out.grown.trans (GrownIn.of_grownBy hgr) (fun b _ e => by injection e with e; omega)).trans (GrownIn.of_grownBy hgr2) (fun b _ e => by injection e with e; omega), (hblock g hg.2 hgz hgd).trans HS.out.row, fun j z' b' hj hz' hb' => ?_⟩
        have hjn := (List.getElem?_eq_some_iff.1 hz').1
        have hlen := HL.out.1.len
        have hjy : j < ys.length := by have := HL.out.2.1; omega
        have hz2 := HL.out.1.each j (ys[j]'hjy) z' (List.getElem?_eq_getElem hjy) hz'
        obtain ⟨b2, hb2, hr2⟩ := hz2.row
        obtain ⟨d2, hd2, hs2⟩ := hz2.sow
        have q1 : (valL z').ownBlock = some b2 := by unfold valL; rw [hb2]; rfl
        have q2 : (valD z').ownBlock = some d2 := by unfold valD; rw [hd2]; rfl
        rcases hb' with hb' | hb'
        · rw [q1] at hb'
          injection hb' with hb'
          subst hb'
          refine (hblock b2 (hr2.lt b2 rfl).2 (fun e => ?_) (fun e => ?_)).trans (HS.out.rest j z' b2 (by omega) hz' (.inl q1))
          · exact pairwise_at HL.out.1.apart (show k < j by omega) hz hz' bz hbo (by rw [q1, e])
          · exact owns_other hr2 hsz (by decide) (g := b2) rfl (by rw [e]; rfl)
        · rw [q2] at hb'
          injection hb' with hb'
          subst hb'
          refine (hblock d2 (hs2.lt d2 rfl).2 (fun e => ?_) (fun e => ?_)).trans (HS.out.rest j z' d2 (by omega) hz' (.inr q2))
          · exact owns_other hs2 hrz (by decide) (g := d2) rfl (by rw [e]; rfl)
          · exact pairwise_at HL.out.1.sapart (show k < j by omega) hz hz' dz hdo (by rw [q2, e])
      have HSP := Lib.hid (show _ ∧ _ ∧ _ from ⟨hsp, hsp2, hnext⟩)
      have HK := Lib.hid (show ∀ w5, wr.grownBy w5 (some bz) → w5.cell? ⟨g, k * 2 + 1, none⟩ = some (.slice (some ⟨dz, 0, none⟩) y.m z.d) from fun w5 h5 => (World.cell?_of_block (w := wr) (h5.block g (by omega) (fun e => hgz (by injection e)))).trans c1)
      clear hz hy hlz hbz hrz hdz hsz hbo hdo hyy hp hpd hblk hdlk hcz hczs hez hezs c0w c1w hsp hsp2 hnext hlb hld
      go_wp2_with (first | (go_at_call 37; refine HSP.out.1.mono ?_; rintro e w5 ⟨rfl, hg5⟩; have c1' := HK.out w5 hg5; have H5 := Lib.hid hg5; clear hg5) | (go_at_call 83; refine (HSP.out.2.1 w5 H5.out).mono ?_; rintro e w6 ⟨rfl, hg6⟩; have H6 := Lib.hid (HSP.out.2.2 w5 w6 H5.out hg6); clear hg6))
      go_roundw
      case measure => simp [intOf]; omega
      case rel => exact ⟨k + 1, hlt, by simp, H6⟩
    · obtain ⟨w2, rfl⟩ : ∃ w2 : World, w2 = wr := ⟨_, rfl⟩
      have hrow2 := HS.out.row.trans HL.out.2.2.2.2
      have HR2 := Lib.hid (show _ ∧ _ from ⟨hrow2, HS.out.grown⟩)
      clear hrow2
      go_wp2
      go_loopw [4] (fun i wr => ∃ (k : Nat) (cu : Array Value), k ≤ c ∧ i = .int .i64 k ∧ Hid (wr.heap[g]? = some (.cells cu 132 (0, 0)) ∧ cu.size = c * 2 ∧ GrownIn (fun b => B ≤ b ∧ b < H) w wr)) (fun i _ => c - (intOf i).toNat)
      case atStart => exact ⟨0, cur, Nat.zero_le _, rfl, Lib.hid ⟨HR2.out.1, HCS.out, HR2.out.2⟩⟩
      case round =>
        obtain ⟨k, cu, hk, rfl, HB⟩ := hrel
        by_cases hlt : k < c
        · have hcell : ∀ j, j < 2 → ∃ x, wr.cell? ⟨g, k * 2 + j, none⟩ = some x := fun j hj => ⟨_, by
            rw [cell_of_row _ _ _ _ _ _ HB.out.1]
            exact Array.getElem?_eq_getElem (by have := HB.out.2.1; omega)⟩
          have hfr : ∀ j, wr.frozen? ⟨g, j, none⟩ = false := fun j => by simp [World.frozen?, HB.out.1]
          obtain ⟨x0, c0⟩ := hcell 0 (by omega)
          obtain ⟨x1, c1⟩ := hcell 1 (by omega)
          have f0 := hfr (k * 2)
          have f1 := hfr (k * 2 + 1)
          simp only [Nat.add_zero] at c0
          have hgB := hg.1
          clear hcell hfr
          go_wp2
          go_roundw
          case measure => simp [intOf]; omega
          case rel =>
            refine ⟨k + 1, _, hlt, by simp, Lib.hid ⟨heap_setCell_same _ _ _ _ _ _ (heap_setCell_same _ _ _ _ _ _ HB.out.1), ?_, ?_⟩⟩
            · simpa using HB.out.2.1
            · exact grownIn_set (grownIn_set HB.out.2.2 (p := ⟨g, k * 2, none⟩) ⟨hgB, hgH⟩ _) (p := ⟨g, k * 2 + 1, none⟩) ⟨hgB, hgH⟩ _
        · go_wp2
          go_end0
          exact ⟨rfl, HB.out.2.2⟩
end Go.Proofs.YtihidnmpngeohaaGreat
