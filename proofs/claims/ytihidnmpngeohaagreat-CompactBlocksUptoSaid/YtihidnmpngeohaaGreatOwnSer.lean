/- ownSeries of the checker's book at lists in memory of their own: true, and nothing but those lists turns. -/
import Derived.Test.YtihidnmpngeohaaGreatG35
import Derived.Test.YtihidnmpngeohaaGreatG32
import Derived.IntWalk
namespace Go.Proofs.YtihidnmpngeohaaGreat
open Go.RowKit Go.Lib

/-- Lists of the call's own, in the first loop: some marks f. -/
structure MarkS (w wr : World) (B BL m : Nat) (V : Nat → Value) (N : Nat → Nat) (k : Nat) : Prop where
  ex : ∃ f, Marked f w wr B 132 2 BL m V N k ∧ SF wr f fun i q => ∃ j : Nat, i = j ∧ j < k ∧ q < N j
structure MarkI (w wo wz : World) (B BL m : Nat) (V : Nat → Value) (N : Nat → Nat) (k : Nat) (v : Value) (n p : Nat) : Prop where
  ex : ∃ f, Marked f w wo B 132 2 BL m V N k ∧ Marking f wo wz B 132 2 v n k p ∧ SF wz f fun i q => (∃ j : Nat, i = j ∧ j < k ∧ q < N j) ∨ (i = k ∧ q < p)
theorem MarkS.start {w : World} {B BL m : Nat} {V : Nat → Value} {N : Nat → Nat} (h : Lists w B 132 2 BL m V N) : MarkS w w B BL m V N 0 := ⟨fNone, Marked.start h, (SF.start w).less fun i q ⟨j, _, h, _⟩ => absurd h (by omega)⟩
theorem MarkI.start {w wo : World} {B BL m k n : Nat} {V : Nat → Value} {N : Nat → Nat} {v : Value} {xs : List Value} (h : MarkS w wo B BL m V N k) (hx : wo.ownsRow B 132 2 v n xs) : MarkI w wo wo B BL m V N k v n 0 := by
  obtain ⟨f, h1, h2⟩ := h.ex
  refine ⟨f, h1, Marking.start hx, h2.less fun i q h => ?_⟩
  rcases h with h | ⟨_, h⟩
  · exact h
  · omega
/-- One mark more: its label is new, then its two cells were written. -/
theorem MarkI.next {w wo wz wm : World} {B BL m k n p g cap b c : Nat} {V : Nat → Value} {N : Nat → Nat} (h : MarkI w wo wz B BL m V N k (.slice (some ⟨g, 0, none⟩) n cap) n p) (hp : p < n) (hb : Below wz.heap.size wz wm)
    (hl : wm.heap[b]? = some (Obj.cells #[.string (markB k p), .string ByteArray.empty] 29 (0, 0))) :
    MarkI w wo ((wm.setCell ⟨g, p * 2, none⟩ (.slice (some ⟨b, 0, none⟩) 1 c)).setCell ⟨g, p * 2 + 1, none⟩ (.slice none 0 0)) B BL m V N k (.slice (some ⟨g, 0, none⟩) n cap) n (p + 1) := by
  obtain ⟨f, h1, h2, h3⟩ := h.ex
  have h2' := h2.below hb
  have h3' := (h3.below hb).set (k : Int) p b c hl
  have hf : ∀ q, q < p → f k q = fSet f (k : Int) p [.slice (some ⟨b, 0, none⟩) 1 c, .slice none 0 0] k q := fun q hq => (fSet_other (by omega)).symm
  have h4 := (h2'.congr hf).next2 hp (fSet_same _ _ _ _)
  obtain ⟨_, xs, ho, _⟩ := h2'
  obtain ⟨h5, h6⟩ := ho.stored (p * 2) (.slice (some ⟨b, 0, none⟩) 1 c)
  obtain ⟨h7, h8⟩ := h5.stored (p * 2 + 1) (.slice none 0 0)
  refine ⟨_, h1.congr (fun j hj q hq => (fSet_other (by omega)).symm), h4, ((h3'.grown ho (by decide) h6).grown h5 (by decide) h8).less fun i q h => ?_⟩
  rcases h with h | ⟨e, h⟩
  · exact .inl (.inl h)
  · by_cases hq : q = p
    · exact .inr ⟨e, hq⟩
    · exact .inl (.inr ⟨e, by omega⟩)
theorem MarkI.end_ {w wo wz : World} {B BL m k n : Nat} {V : Nat → Value} {N : Nat → Nat} (h : MarkI w wo wz B BL m V N k (V k) n n) (hk : k < m) (hn : N k = n) : MarkS w wz B BL m V N (k + 1) := by
  obtain ⟨f, h1, h2, h3⟩ := h.ex
  obtain ⟨h4, h5⟩ := h2.end_
  subst hn
  refine ⟨f, h1.step hk h4 h5, h3.less fun i q ⟨j, e, h6, h7⟩ => ?_⟩
  by_cases hj : j = k
  · subst hj; exact .inr ⟨e, h7⟩
  · exact .inl ⟨j, e, by omega, h7⟩
/-- The second loop. -/
def doneS (m : Nat) (N : Nat → Nat) (q : Nat) (i : Int) (t : Nat) : Prop := (∃ j : Nat, i = j ∧ j < m ∧ t < N j) ∨ (∃ j : Nat, i = -1 - (j : Int) ∧ j < q ∧ t < 8)
structure LongS (w w2 wz : World) (B BL m : Nat) (V : Nat → Value) (N : Nat → Nat) (q : Nat) (lv : Value) (Ls : List Value) : Prop where
  ex : ∃ f, Longer f 8 w w2 wz B 132 2 BL m V N 70 q lv Ls ∧ SF wz f (doneS m N q)
structure GrowS (w w2 wo wz : World) (B BL m : Nat) (V : Nat → Value) (N : Nat → Nat) (q : Nat) (lv : Value) (Ls : List Value) (v : Value) (n p : Nat) (x : Value) : Prop where
  ex : ∃ f, Longer f 8 w w2 wo B 132 2 BL m V N 70 q lv Ls ∧ Growing f wo wz B 132 2 v n q p x ∧ SF wz f fun i t => doneS m N q i t ∨ (i = -1 - (q : Int) ∧ t < p)
theorem LongS.start {w w2 : World} {B BL m : Nat} {V : Nat → Value} {N : Nat → Nat} (h : MarkS w w2 B BL m V N m) : LongS w w2 w2 B BL m V N 0 (.slice none 0 0) [] := by
  obtain ⟨f, h1, h2⟩ := h.ex
  refine ⟨f, Longer.start 8 _ h1, h2.less fun i t h => ?_⟩
  rcases h with h | ⟨j, _, h, _⟩
  · exact h
  · omega
theorem GrowS.start {w w2 wo : World} {B BL m q n : Nat} {V : Nat → Value} {N : Nat → Nat} {lv : Value} {Ls : List Value} (h : LongS w w2 wo B BL m V N q lv Ls) (hq : q < m) (hn : N q = n) : GrowS w w2 wo wo B BL m V N q lv Ls (V q) n 0 (V q) := by
  obtain ⟨f, h1, h2⟩ := h.ex
  refine ⟨f, h1, Growing.start (by have := h1.rest q (Nat.le_refl _) hq; rwa [hn] at this), h2.less fun i t h => ?_⟩
  rcases h with h | ⟨_, h⟩
  · exact h
  · omega
theorem GrowS.next {w w2 wo wz wa w5 : World} {B BL m q n p g cap b c : Nat} {V : Nat → Value} {N : Nat → Nat} {lv v x : Value} {Ls : List Value} (h : GrowS w w2 wo wz B BL m V N q lv Ls v n p x) (hqm : q ≤ m) (hb : Below wz.heap.size wz wa) (hn : N q = n)
    (hl : wa.heap[b]? = some (Obj.cells #[.string (markB (-1 - (q : Int)) p), .string ByteArray.empty] 29 (0, 0)))
    (hown : ∀ xs, wa.ownsRow B 132 2 x (n + p) xs → w5.ownsRow B 132 2 (.slice (some ⟨g, 0, none⟩) (n + p + 1) cap) (n + p + 1) (xs ++ [.slice (some ⟨b, 0, none⟩) 1 c, .slice none 0 0]) ∧ (∀ k, x.ownBlock = some k → ∀ j u, xs[j]? = some u → w5.cell? ⟨k, j, none⟩ = some u))
    (hg : wa.grownBy w5 x.ownBlock) (hlies : x.ownBlock = some g ∨ g = wa.heap.size) :
    GrowS w w2 wo w5 B BL m V N q lv Ls v n (p + 1) (.slice (some ⟨g, 0, none⟩) (n + (p + 1)) cap) := by
  obtain ⟨f, h1, h2, h3⟩ := h.ex
  have h2' := h2.below hb
  have h3' := (h3.below hb).set (-1 - (q : Int)) p b c hl
  have hf : ∀ t, t < n → f q t = fSet f (-1 - (q : Int)) p [.slice (some ⟨b, 0, none⟩) 1 c, .slice none 0 0] q t := fun t ht => (fSet_other (by omega)).symm
  have hf2 : ∀ t, t < p → f (-1 - (q : Int)) t = fSet f (-1 - (q : Int)) p [.slice (some ⟨b, 0, none⟩) 1 c, .slice none 0 0] (-1 - (q : Int)) t := fun t ht => (fSet_other (by omega)).symm
  obtain ⟨h4, h5⟩ := hown _ (h2'.congr hf hf2).own
  have h6 := (h2'.congr hf hf2).next (by rw [fSet_same]; exact h4) hg hlies h5
  refine ⟨_, h1.congr (fun j hj t ht => (fSet_other (by omega)).symm) (fun j hj t ht => (fSet_other (by omega)).symm) hqm, h6, (h3'.grown h2'.own (by decide) hg).less fun i t h => ?_⟩
  rcases h with h | ⟨e, h⟩
  · exact .inl (.inl h)
  · by_cases ht : t = p
    · exact .inr ⟨e, ht⟩
    · exact .inl (.inr ⟨e, by omega⟩)
theorem GrowS.end_ {w w2 wo wz wa w5 : World} {B BL m q n g cap : Nat} {V : Nat → Value} {N : Nat → Nat} {lv x : Value} {Ls : List Value} (h : GrowS w w2 wo wz B BL m V N q lv Ls (V q) n 8 x) (hL : Lists w2 B 132 2 BL m V N) (hoff : BL < w2.heap.size) (h02 : w.heap.size ≤ w2.heap.size) (hq : q < m) (hn : N q = n)
    (hal : Below wz.heap.size wz wa) (hown : w5.ownsRow B 70 1 (.slice (some ⟨g, 0, none⟩) (q + 1) cap) (q + 1) (Ls ++ [x])) (hlo : wa.ownsRow B 70 1 lv q Ls) (hg : wa.grownBy w5 lv.ownBlock) (hlies : lv.ownBlock = some g ∨ g = wa.heap.size) :
    LongS w w2 w5 B BL m V N (q + 1) (.slice (some ⟨g, 0, none⟩) (q + 1) cap) (Ls ++ [x]) := by
  obtain ⟨f, h1, h2, h3⟩ := h.ex
  refine ⟨f, h1.step hL hoff h02 hq (by rw [hn]; exact h2) (by omega) hal hown hg hlies, ((h3.below hal).grown hlo (by decide) hg).less fun i t h => ?_⟩
  rcases h with h | ⟨j, e, h4, h5⟩
  · exact .inl (.inl h)
  · by_cases hj : j = q
    · subst hj; exact .inr ⟨e, h5⟩
    · exact .inl (.inr ⟨j, e, by omega, h5⟩)
theorem owns_unique {w : World} {B B' size n : Nat} {e e' : TypeId} {v : Value} {xs ys : List Value} (h : w.ownsRow B e size v n xs) (h' : w.ownsRow B' e' size v n ys) : xs = ys := by
  rcases h.2 with ⟨rfl, h0⟩ | ⟨g, cap, cur, rfl, _, hg, _, _, _, ht⟩
  · have h1 := h.1
    have h2 := h'.1
    subst h0
    rw [Nat.zero_mul] at h1 h2
    rw [List.length_eq_zero_iff.1 h1, List.length_eq_zero_iff.1 h2]
  · rcases h'.2 with ⟨h1, _⟩ | ⟨g', cap', cur', h1, _, hg', _, _, _, ht'⟩
    · cases h1
    · injection h1 with h1 _ _
      injection h1 with h1
      injection h1 with h1
      subst h1
      rw [hg] at hg'
      injection hg' with hg'
      injection hg' with hg'
      subst hg'
      rw [← ht, ← ht']
theorem block_cells {w : World} {b : Nat} {u v : Value} {e : TypeId} (h : w.heap[b]? = some (Obj.cells #[u, v] e (0, 0))) : w.cell? ⟨b, 0, none⟩ = some u ∧ w.cell? ⟨b, 1, none⟩ = some v ∧ ∀ i, w.frozen? ⟨b, i, none⟩ = false :=
  ⟨by rw [cell_of_row w b 0 _ _ _ h]; rfl, by rw [cell_of_row w b 1 _ _ _ h]; rfl, fun i => by simp [World.frozen?, h]⟩
theorem seen6' {w w' : World} (hb : Below w.heap.size w w') {p1 p2 p3 p4 p5 p6 : Addr} {v1 v2 v3 v4 v5 v6 : Value} (h : w.cell? p1 = some v1 ∧ w.cell? p2 = some v2 ∧ w.cell? p3 = some v3 ∧ w.cell? p4 = some v4 ∧ w.cell? p5 = some v5 ∧ w.cell? p6 = some v6) :
    w'.cell? p1 = some v1 ∧ w'.cell? p2 = some v2 ∧ w'.cell? p3 = some v3 ∧ w'.cell? p4 = some v4 ∧ w'.cell? p5 = some v5 ∧ w'.cell? p6 = some v6 := seen6 hb h
theorem seen4' {w w' : World} (hb : Below w.heap.size w w') {p1 p2 p3 p4 : Addr} {v1 v2 v3 v4 : Value} (h : w.cell? p1 = some v1 ∧ w.cell? p2 = some v2 ∧ w.cell? p3 = some v3 ∧ w.cell? p4 = some v4) :
    w'.cell? p1 = some v1 ∧ w'.cell? p2 = some v2 ∧ w'.cell? p3 = some v3 ∧ w'.cell? p4 = some v4 := ⟨Below.seen hb h.1, Below.seen hb h.2.1, Below.seen hb h.2.2.1, Below.seen hb h.2.2.2⟩
set_option maxHeartbeats 16000000 in
set_option maxRecDepth 100000 in
theorem ownSeries_any (B BL m c : Nat) (V : Nat → Value) (N : Nat → Nat) (w : World) (hL : Lists w B 132 2 BL m V N) (hB : B ≤ w.heap.size) (hoff : BL < w.heap.size) (hm : m ≤ 100000) (hN : ∀ j, j < m → N j ≤ 1000000) :
    Calls Tryz.prog 68 #[.slice (some ⟨BL, 0, none⟩) m c] w fun e w' => e = .returned (.bool true) ∧ GrownIn (Among m V) w w' := by
  have HL := Lib.hid hL
  have HN := Lib.hid hN
  clear hL hN
  obtain ⟨i0, hi, hz0, hz1, hz2⟩ := info_parts Tryz.infoSeries
  have HI := Lib.hid (show _ ∧ _ ∧ _ ∧ _ from ⟨hi, hz0, hz1, hz2⟩)
  clear hi hz0 hz1 hz2
  obtain ⟨i1, hi, hz0, hz1, hz2⟩ := info_parts Tryz.infoSeriess
  have HJ := Lib.hid (show _ ∧ _ ∧ _ ∧ _ from ⟨hi, hz0, hz1, hz2⟩)
  clear hi hz0 hz1 hz2
  go_enter Tryz.func68, Tryz.ntmps68
  go_wp2
  go_loopw [3] (fun i wr => ∃ k : Nat, k ≤ m ∧ i = .int .i64 k ∧ Hid (MarkS w wr B BL m V N k)) (fun i _ => m - (intOf i).toNat)
  case atStart => exact ⟨0, Nat.zero_le _, rfl, Lib.hid (MarkS.start HL.out)⟩
  case round =>
    obtain ⟨k, hk, rfl, HM⟩ := hrel
    obtain ⟨fm, hMl, _⟩ := HM.out.ex
    have HMl := Lib.hid hMl
    clear hMl
    by_cases hlt : k < m
    · obtain ⟨A, ck, hv, hnc, hcm⟩ := HMl.out.lists.slice hlt
      obtain ⟨n, hn⟩ : ∃ n, N k = n := ⟨_, rfl⟩
      rw [hn] at hv hnc
      have hn0 : n ≤ 1000000 := by have := HN.out k hlt; omega
      have hrow := HMl.out.lists.row k hlt
      rw [hv] at hrow
      obtain ⟨xs, hxs⟩ := HMl.out.lists.own k hlt
      rw [hv, hn] at hxs
      have HV := Lib.hid (show _ ∧ _ from ⟨hv, hn⟩)
      have HX := Lib.hid hxs
      have HR := Lib.hid hrow
      clear hv hn hxs
      obtain ⟨wo, rfl⟩ : ∃ wo : World, wo = wr := ⟨_, rfl⟩
      go_wp2
      clear hrow
      go_loopw [4] (fun q wz => ∃ p : Nat, p ≤ n ∧ q = .int .i64 p ∧ Hid (MarkI w wo wz B BL m V N k (.slice A n ck) n p)) (fun q _ => n - (intOf q).toNat)
      case atStart => exact ⟨0, Nat.zero_le _, rfl, Lib.hid (MarkI.start HM.out HX.out)⟩
      case round =>
        obtain ⟨p, hp, rfl, HP⟩ := hrel
        obtain ⟨fp, _, hPm, _⟩ := HP.out.ex
        have HPm := Lib.hid hPm
        clear hPm
        have hrz : wr.cell? ⟨BL, k, none⟩ = some (.slice A n ck) := by
          have h1 := HPm.out.1.block BL (World.block_lt_of_cell? wo _ HR.out) (fun e => HMl.out.lists.off k hlt (by rw [HV.out.1]; exact e.symm))
          exact (World.cell?_of_block (w := wo) h1).trans HR.out
        by_cases hpn : p < n
        · obtain ⟨g, rfl, hg⟩ := owns_some HX.out (by omega)
          obtain ⟨ys, hys, _⟩ := HPm.out.2
          have hc0 : ∃ u0, wr.cell? ⟨g, p * 2, none⟩ = some u0 := ⟨_, by
            rw [hys.cellAt (p * 2) (by omega)]
            exact List.getElem?_eq_getElem (by have := hys.1; omega)⟩
          have hc1 : ∃ u1, wr.cell? ⟨g, p * 2 + 1, none⟩ = some u1 := ⟨_, by
            rw [hys.cellAt (p * 2 + 1) (by omega)]
            exact List.getElem?_eq_getElem (by have := hys.1; omega)⟩
          have hf0 := hys.frozenAt (p * 2)
          have hf1 := hys.frozenAt (p * 2 + 1)
          obtain ⟨u0, hc0⟩ := hc0
          obtain ⟨u1, hc1⟩ := hc1
          clear hys
          have hgl := World.block_lt_of_cell? wr _ hc0
          have hBl := World.block_lt_of_cell? wr _ hrz
          have hne : BL ≠ g := fun e => HMl.out.lists.off k hlt (by rw [HV.out.1, e]; rfl)
          have hne' : g ≠ BL := fun e => hne e.symm
          go_wp2_with fail
          go_region_held3 (fun w' => w'.cell? ⟨BL, k, none⟩ = some (.slice (some ⟨g, 0, none⟩) n ck)) (go_keep)
            (first | (go_at_call 109; refine (mark_any (k : Int) p (by omega) (by omega) (by omega) _).mono ?_; rintro e w' ⟨rfl, hbm⟩; have z0 := Below.seen hbm (show World.cell? _ ⟨g, p * 2, none⟩ = some u0 from hc0); have z1 := Below.seen hbm (show World.cell? _ ⟨g, p * 2 + 1, none⟩ = some u1 from hc1); have z2 := Below.seen hbm hrz; have y0 := (hbm.frozen (p := ⟨g, p * 2, none⟩) (World.block_lt_of_cell? wr _ hc0)).trans hf0; have y1 := (hbm.frozen (p := ⟨g, p * 2 + 1, none⟩) (World.block_lt_of_cell? wr _ hc1)).trans hf1; have hsm : wr.heap.size ≤ w'.heap.size := hbm.size; have n1 : g ≠ w'.heap.size := (by omega); have n1' : w'.heap.size ≠ g := (by omega); have n2 : BL ≠ w'.heap.size := (by omega); have n2' : w'.heap.size ≠ BL := (by omega); have n3 : g < w'.heap.size := (by omega)))
          go_wp2
          go_roundw
          case measure => simp [intOf]; omega
          case rel =>
            have hnx := HP.out.next (c := 1) hpn (((below_drewN (Below.refl _ _) 1).trans (hbm.mono (Nat.le_refl _))).alloc hsm (.cells #[.string (markB (k : Int) p), .string ByteArray.empty] 29)) (heap_alloc_new _ _)
            rw [World.setCell_alloc_past _ _ _ _ n3, World.setCell_alloc_past _ _ _ _ (by simp [World.setCell]; exact n3)] at hnx
            exact ⟨p + 1, hpn, by simp, Lib.hid hnx⟩
        · obtain rfl : p = n := by omega
          have HE := Lib.hid HP.out
          clear HX
          go_wp2
          go_roundw
          case measure => simp [intOf]; omega
          case rel =>
            refine ⟨k + 1, hlt, by simp, Lib.hid (MarkI.end_ (k := k) (by rw [HV.out.1]; exact HE.out) hlt HV.out.2)⟩
    · obtain rfl : k = m := by omega
      obtain ⟨w2, rfl⟩ : ∃ w2 : World, w2 = wr := ⟨_, rfl⟩
      have hsz2 := HMl.out.kept.size
      go_wp2
      go_loopw [5, 6] (fun v i wz => ∃ (q : Nat) (Ls : List Value), q ≤ k ∧ i = .int .i64 q ∧ Hid (LongS w w2 wz B BL k V N q v Ls)) (fun _ i _ => k - (intOf i).toNat)
      case atStart => exact ⟨0, [], Nat.zero_le _, rfl, Lib.hid (LongS.start HM.out)⟩
      case round =>
        obtain ⟨q, Ls, hq, rfl, HG⟩ := hrel
        obtain ⟨fg, hGl, hGf⟩ := HG.out.ex
        have HGl := Lib.hid (show _ ∧ _ from ⟨hGl, hGf⟩)
        clear hGl hGf
        by_cases hqk : q < k
        · obtain ⟨A, cq, hv, hnc, hcm⟩ := HMl.out.lists.slice hqk
          obtain ⟨n, hn⟩ : ∃ n, N q = n := ⟨_, rfl⟩
          rw [hn] at hv hnc
          have hn0 : n ≤ 1000000 := by have := HN.out q hqk; omega
          have hrow := HGl.out.1.row q hqk
          rw [hv] at hrow
          have HV := Lib.hid (show _ ∧ _ from ⟨hv, hn⟩)
          clear hv hn
          obtain ⟨wo, rfl⟩ : ∃ wo : World, wo = wr := ⟨_, rfl⟩
          go_wp2
          clear hrow
          go_loopw [7, 8] (fun x t wz => ∃ p : Nat, p ≤ 8 ∧ t = .int .i64 p ∧ Hid (GrowS w w2 wo wz B BL k V N q u5 Ls (.slice A n cq) n p x)) (fun _ t _ => 8 - (intOf t).toNat)
          case atStart => exact ⟨0, Nat.zero_le _, rfl, Lib.hid (by have := GrowS.start HG.out hqk HV.out.2; rw [HV.out.1] at this; exact this)⟩
          case round =>
            obtain ⟨p, hp, rfl, HP⟩ := hrel
            obtain ⟨fp, _, hPg, _⟩ := HP.out.ex
            have HPg := Lib.hid hPg
            have hszr := hPg.kept.size
            have hszo := HGl.out.1.size
            clear hPg
            by_cases hp8 : p < 8
            · obtain ⟨hi, hz0, hz1, hz2⟩ := HI.out
              go_wp2_with (first | (go_at_call 109; refine (mark_any (-1 - (q : Int)) p (by omega) (by omega) (by omega) _).mono ?_; rintro e wm ⟨rfl, hbm⟩; have HP3 := Lib.hid (HPg.out.below hbm); have hszm := hbm.size; have HBM := Lib.hid hbm; clear hbm) | (at_builtin; go_loud (refine wpList_append_full _ rfl _ _ 70 rfl B 132 i0 _ 2 48 Tryz.underlying70 hi hz0 hz1 hz2 rfl (by omega) _ (n + p) (marks fp q n ++ marks fp (-1 - (q : Int)) p) rfl ((HP3.out.own.alloc _).alloc _) ⟨wm.heap.size + 1, 0, none⟩ 1 1 [.slice (some ⟨wm.heap.size, 0, none⟩) 1 1, .slice none 0 0] rfl rfl (cells_at _ (by simp) [.slice (some ⟨wm.heap.size, 0, none⟩) 1 1, .slice none 0 0] _) (by simp [Value.oneCell']) (by omega) (by unfold maxLen; omega) (by omega) (by simp; omega) ?_)))
              intro g cap w5 hown5 hg5 hl5 ho5
              have hb5 : Below wr.heap.size wr ((wm.alloc (.cells #[.string (markB (-1 - (q : Int)) p), .string ByteArray.empty] 29)).alloc (.cells #[.slice (some ⟨wm.heap.size, 0, none⟩) 1 1, .slice none 0 0] 132)) := (HBM.out.alloc hszm _).alloc (by simp; omega) _
              have hlb : ((wm.alloc (.cells #[.string (markB (-1 - (q : Int)) p), .string ByteArray.empty] 29)).alloc (.cells #[.slice (some ⟨wm.heap.size, 0, none⟩) 1 1, .slice none 0 0] 132)).heap[wm.heap.size]? = some (Obj.cells #[.string (markB (-1 - (q : Int)) p), .string ByteArray.empty] 29 (0, 0)) := (heap_alloc_old _ _ (by simp)).trans (heap_alloc_new _ _)
              have HP2 := Lib.hid (HP.out.next (by omega) hb5 HV.out.2 hlb (fun xs hxs => by
                obtain rfl := owns_unique hxs ((HP3.out.own.alloc (.cells #[.string (markB (-1 - (q : Int)) p), .string ByteArray.empty] 29)).alloc (.cells #[.slice (some ⟨wm.heap.size, 0, none⟩) 1 1, .slice none 0 0] 132))
                exact ⟨by rw [List.append_assoc]; exact hown5, ho5⟩) hg5 (by simpa using hl5))
              clear hi hz0 hz1 hz2 hown5 hg5 hl5 ho5 hb5 hlb
              go_wp2
              go_roundw
              case measure => simp [intOf]; omega
              case rel => exact ⟨p + 1, hp8, by simp, HP2⟩
            · obtain rfl : p = 8 := by omega
              obtain ⟨xg, xc, rfl, _, _⟩ := HPg.out.own.form (by omega)
              obtain ⟨hi, hz0, hz1, hz2⟩ := HJ.out
              have hlo := HGl.out.1.len
              have hog := HGl.out.1.own
              have hne : ∀ b, u5.ownBlock = some b → (Value.slice A n cq).ownBlock ≠ some b := by
                intro b hu e
                have h1 := HGl.out.1.new b hu
                have h2 := HMl.out.lists.lt hqk (g := b) (by rw [HV.out.1]; exact e)
                omega
              have holo : wr.ownsRow B 70 1 u5 q Ls := hog.kept HPg.out.kept (apart_of hne)
              clear hne
              have HO := Lib.hid (show _ ∧ _ from ⟨hlo, holo⟩)
              clear hlo hog holo
              go_wp2_with (at_builtin; refine wpList_append_full _ rfl _ _ 56 rfl B 70 i1 _ 1 24 Tryz.underlying56 hi hz0 hz1 hz2 rfl (by omega) _ q Ls rfl (HO.out.2.alloc _) ⟨wr.heap.size, 0, none⟩ 1 1 [.slice (some ⟨xg, 0, none⟩) (n + 8) xc] rfl rfl (cells_one wr _ _) (by simp [Value.oneCell']) (by omega) (by unfold maxLen; omega) (by omega) (by simp; omega) ?_)
              intro g cap w5 hown5 hg5 hl5 ho5
              have hb5 : Below wr.heap.size wr (wr.alloc (.cells #[.slice (some ⟨xg, 0, none⟩) (n + 8) xc] 70)) := (Below.refl _ _).alloc (Nat.le_refl _) _
              have HQ := Lib.hid (GrowS.end_ (by rw [HV.out.1]; exact HP.out) HMl.out.lists (by omega) hsz2 hqk HV.out.2 hb5 hown5 (HO.out.2.alloc _) hg5 (by simpa using hl5))
              clear hi hz0 hz1 hz2 hown5 hg5 hl5 ho5 hb5
              go_wp2
              go_roundw
              case measure => simp [intOf]; omega
              case rel => exact ⟨q + 1, _, hqk, by simp, HQ⟩
        · obtain rfl : q = k := by omega
          obtain ⟨w3, rfl⟩ : ∃ w3 : World, w3 = wr := ⟨_, rfl⟩
          have hsz3 := HGl.out.1.size
          obtain ⟨Av, cv, rfl, hcv, _⟩ := owns_slice HGl.out.1.own
          go_wp2
          go_loopw [9, 10, 11, 12] (fun i _ _ _ wz => ∃ t : Nat, t ≤ q ∧ i = .int .i64 t ∧ Below w3.heap.size w3 wz) (fun i _ _ _ _ => q - (intOf i).toNat)
          case atStart => exact ⟨0, Nat.zero_le _, rfl, Below.refl _ _⟩
          case round =>
            obtain ⟨t, ht, rfl, hbl⟩ := hrel
            by_cases htq : t < q
            · obtain ⟨A, cq, hv, hnc, hcm⟩ := HMl.out.lists.slice htq
              obtain ⟨n, hn⟩ : ∃ n, N t = n := ⟨_, rfl⟩
              rw [hn] at hv hnc
              have hn0 : n ≤ 1000000 := by have := HN.out t htq; omega
              have hL0 : Ls[t]? = some (Ls[t]'(by have := HGl.out.1.len; omega)) := List.getElem?_eq_getElem _
              obtain ⟨x, hx⟩ : ∃ x, Ls[t]'(by have := HGl.out.1.len; omega) = x := ⟨_, rfl⟩
              rw [hx] at hL0
              have hxo := (HGl.out.1.each t x hL0).1
              rw [hn] at hxo
              obtain ⟨xg, xc, rfl, _, hxlt⟩ := hxo.form (by omega)
              obtain ⟨gv, rfl, hgv⟩ := owns_some HGl.out.1.own (by omega)
              have hBL := World.block_lt_of_cell? w3 _ (HGl.out.1.row t htq)
              have hrow3 := HGl.out.1.row t htq
              rw [hv] at hrow3
              have hlong3 := owns_cell HGl.out.1.own (g := gv) rfl hL0
              have hfl := HGl.out.2.len
              have hcA : ∀ g, A = some ⟨g, 0, none⟩ → ∀ p, p < n → ∃ b c, b < w3.heap.size ∧ w3.cell? ⟨g, p * 2, none⟩ = some (.slice (some ⟨b, 0, none⟩) 1 c) ∧ w3.cell? ⟨xg, p * 2, none⟩ = some (.slice (some ⟨b, 0, none⟩) 1 c) ∧ w3.cell? ⟨b, 0, none⟩ = some (.string (markB (t : Int) p)) ∧ w3.cell? ⟨b, 1, none⟩ = some (.string ByteArray.empty) := by
                intro g hg p hp
                obtain ⟨b, c, e1, e2⟩ := HGl.out.2.at_ t p (.inl ⟨t, rfl, htq, by omega⟩)
                have h0 := marks_at hfl t (N t) p 0 (.slice (some ⟨b, 0, none⟩) 1 c) (by omega) (by rw [e1]; rfl)
                have h1 := HGl.out.1.cells t htq g (by rw [hv, hg]; rfl) (p * 2 + 0) _ h0
                rw [hn] at h0
                have h2 := owns_cell hxo rfl (by rw [List.getElem?_append_left (List.getElem?_eq_some_iff.1 h0).1]; exact h0)
                obtain ⟨e3, e4, _⟩ := block_cells e2
                exact ⟨b, c, (Array.getElem?_eq_some_iff.1 e2).1, h1, h2, e3, e4⟩
              have hcY : ∀ p, p < 8 → ∃ b c, b < w3.heap.size ∧ w3.cell? ⟨xg, (n + p) * 2, none⟩ = some (.slice (some ⟨b, 0, none⟩) 1 c) ∧ w3.cell? ⟨b, 0, none⟩ = some (.string (markB (-1 - (t : Int)) p)) ∧ w3.cell? ⟨b, 1, none⟩ = some (.string ByteArray.empty) := by
                intro p hp
                obtain ⟨b, c, e1, e2⟩ := HGl.out.2.at_ (-1 - (t : Int)) p (.inr ⟨t, rfl, htq, hp⟩)
                have h0 := marks_at hfl (-1 - (t : Int)) 8 p 0 (.slice (some ⟨b, 0, none⟩) 1 c) hp (by rw [e1]; rfl)
                have h2 := marks_length hfl t n
                obtain ⟨e3, e4, _⟩ := block_cells e2
                exact ⟨b, c, (Array.getElem?_eq_some_iff.1 e2).1, owns_cell hxo rfl (by rw [List.getElem?_append_right (by omega), h2, show (n + p) * 2 - n * 2 = p * 2 + 0 by omega]; exact h0), e3, e4⟩
              have hAlt : ∀ g, A = some ⟨g, 0, none⟩ → g < w3.heap.size := by
                intro g hg
                have := (HMl.out.lists.lt htq (g := g) (by rw [hv, hg]; rfl)).2
                omega
              obtain ⟨xsA, hxsA⟩ := HMl.out.lists.own t htq
              rw [hv, hn] at hxsA
              have HA := Lib.hid (show _ ∧ _ ∧ _ ∧ _ from ⟨hcA, hcY, hAlt, fun h => owns_some hxsA h⟩)
              have HR := Lib.hid (show _ ∧ _ from ⟨hrow3, hlong3⟩)
              have hrow := (hbl.cell (p := ⟨BL, t, none⟩) hBL).trans hrow3
              clear hx hv hn hL0 hxo hcA hcY hAlt hxsA hrow3 hlong3 hfl
              go_wp2
              clear hrow
              go_loopw [11] (fun j wz => ∃ p : Nat, p ≤ n ∧ j = .int .i64 p ∧ Below w3.heap.size w3 wz) (fun j _ => n - (intOf j).toNat)
              case atStart => exact ⟨0, Nat.zero_le _, rfl, hbl⟩
              case round =>
                clear hbl
                obtain ⟨p, hp, rfl, hbl⟩ := hrel
                have hrow := (hbl.cell (p := ⟨BL, t, none⟩) hBL).trans HR.out.1
                have hlong := (hbl.cell (p := ⟨gv, t, none⟩) hgv).trans HR.out.2
                by_cases hpn : p < n
                · obtain ⟨gA, rfl, _⟩ := HA.out.2.2.2 (by omega)
                  obtain ⟨b1, cc, hb1, k1, k2, k3, k4⟩ := HA.out.1 gA rfl p hpn
                  have c1 := (hbl.cell (p := ⟨gA, p * 2, none⟩) (HA.out.2.2.1 gA rfl)).trans k1
                  have c2 := (hbl.cell (p := ⟨xg, p * 2, none⟩) hxlt).trans k2
                  have c3 := (hbl.cell (p := ⟨b1, 0, none⟩) hb1).trans k3
                  have c4 := (hbl.cell (p := ⟨b1, 1, none⟩) hb1).trans k4
                  have i1 : (0 : Int) ≤ (t : Int) := by omega
                  have i2 : (t : Int) < (q : Int) := by omega
                  have i3 : (0 : Int) ≤ (p : Int) := by omega
                  have i4 : (p : Int) < (n : Int) := by omega
                  have i5 : (p : Int) < (n : Int) + 8 := by omega
                  have HBL := Lib.hid hbl
                  clear hbl k1 k2 k3 k4
                  go_wp2_with fail
                  go_region_held3 (fun w' => w'.cell? ⟨BL, t, none⟩ = some (.slice (some ⟨gA, 0, none⟩) n cq) ∧ w'.cell? ⟨gA, p * 2, none⟩ = some (.slice (some ⟨b1, 0, none⟩) 1 cc) ∧ w'.cell? ⟨b1, 0, none⟩ = some (.string (markB (t : Int) p)) ∧ w'.cell? ⟨b1, 1, none⟩ = some (.string ByteArray.empty) ∧ w'.cell? ⟨gv, t, none⟩ = some (.slice (some ⟨xg, 0, none⟩) (n + 8) xc) ∧ w'.cell? ⟨xg, p * 2, none⟩ = some (.slice (some ⟨b1, 0, none⟩) 1 cc)) (go_keep)
                    (first | (go_at_call 109; refine (mark_any (t : Int) p (by omega) (by omega) (by omega) _).mono ?_; rintro e w' ⟨rfl, hbm⟩; have HB2 := Lib.hid (HB1.out.trans (hbm.mono HB1.out.size)); have k6 := seen6 hbm (by assumption)) | (go_at_call 109; refine (mark_any (t : Int) p (by omega) (by omega) (by omega) _).mono ?_; rintro e w' ⟨rfl, hbm⟩; have HB1 := Lib.hid ((below_drewN HBL.out 1).trans (hbm.mono (below_drewN HBL.out 1).size)); have k6 := seen6 hbm (by assumption); clear hbm) | fail)
                  go_wp2
                  go_roundw
                  case measure => simp [intOf]; omega
                  case rel => exact ⟨p + 1, hpn, by simp, HB2.out⟩
                · obtain rfl : p = n := by omega
                  go_wp2
                  clear hrow hlong
                  go_loopw [12] (fun j wz => ∃ y : Nat, y ≤ 8 ∧ j = .int .i64 y ∧ Below w3.heap.size w3 wz) (fun j _ => 8 - (intOf j).toNat)
                  case atStart => exact ⟨0, Nat.zero_le _, rfl, hbl⟩
                  case round =>
                    clear hbl
                    obtain ⟨y, hy, rfl, hbl⟩ := hrel
                    have hlong := (hbl.cell (p := ⟨gv, t, none⟩) hgv).trans HR.out.2
                    by_cases hy8 : y < 8
                    · obtain ⟨b1, cc, hb1, k2, k3, k4⟩ := HA.out.2.1 y hy8
                      have c2 := (hbl.cell (p := ⟨xg, (p + y) * 2, none⟩) hxlt).trans k2
                      have c3 := (hbl.cell (p := ⟨b1, 0, none⟩) hb1).trans k3
                      have c4 := (hbl.cell (p := ⟨b1, 1, none⟩) hb1).trans k4
                      have j1 : (0 : Int) ≤ (t : Int) := by omega
                      have j2 : (t : Int) < (q : Int) := by omega
                      obtain ⟨z, hz⟩ : ∃ z, z = p + y := ⟨_, rfl⟩
                      rw [← hz] at c2
                      have j3 : (0 : Int) ≤ (z : Int) := by omega
                      have j4 : (z : Int) < (p : Int) + 8 := by omega
                      have j6 : IntKind.i64.wrap ((p : Int) + (y : Int)) = (z : Int) := by rw [hz]; exact IntWalk.i64_in _ (by omega)
                      have j8 : IntKind.i64.wrap (-1 - (t : Int)) = -1 - (t : Int) := IntWalk.i64_in _ (by omega)
                      have HZ := Lib.hid hz
                      clear hz k2 k3 k4
                      have hmk := fun w' => mark_any (-1 - (t : Int)) y (by omega) (by omega) (by omega) w'
                      generalize markB (-1 - (t : Int)) y = M at c3 hmk
                      have j6 : IntKind.i64.wrap ((p : Int) + (y : Int)) = (p : Int) + (y : Int) := IntWalk.i64_in _ (by omega)
                      have HBL := Lib.hid hbl
                      clear hbl
                      go_wp2_with fail
                      go_region_held3 (fun w' => w'.cell? ⟨gv, t, none⟩ = some (.slice (some ⟨xg, 0, none⟩) (p + 8) xc) ∧ w'.cell? ⟨xg, z * 2, none⟩ = some (.slice (some ⟨b1, 0, none⟩) 1 cc) ∧ w'.cell? ⟨b1, 0, none⟩ = some (.string M) ∧ w'.cell? ⟨b1, 1, none⟩ = some (.string ByteArray.empty)) (first | exact k6 | exact ⟨hlong, c2, c3, c4⟩)
                        (first | (go_at_call 109; refine (hmk _).mono ?_; rintro e w' ⟨rfl, hbm⟩; have HB1 := Lib.hid ((below_drewN HBL.out 1).trans (hbm.mono (below_drewN HBL.out 1).size)); have k6 := seen4' hbm (by assumption); clear hbm) | fail)
                      go_wp2
                      go_roundw
                      case measure => simp [intOf]; omega
                      case rel => exact ⟨y + 1, hy8, by simp, HB1.out⟩
                    · obtain rfl : y = 8 := by omega
                      go_wp2
                      go_roundw
                      case measure => simp [intOf]; omega
                      case rel => exact ⟨t + 1, htq, by simp, hbl⟩
            · obtain rfl : t = q := by omega
              go_wp2
              go_ret
              exact ⟨rfl, HGl.out.1.kept.trans (GrownIn.of_below hbl) (fun b hb h => by have := HMl.out.kept.size; omega)⟩
end Go.Proofs.YtihidnmpngeohaaGreat
