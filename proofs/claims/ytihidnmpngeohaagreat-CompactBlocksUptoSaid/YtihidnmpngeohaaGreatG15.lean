/- slices.IndexFunc of tombs; merge.Tombs' closures. slices.Clone at rows of Tombs. Written off the master Clone.master. slices.Clone at rows of Labels. Written off a master by mk2.py.  -/
import Derived.Test.YtihidnmpngeohaaGreatG13
import Derived.Test.YtihidnmpngeohaaGreatOwnLabel
import Derived.Deep.DeepCutAuto
import Derived.Deep.RegionHeld3
import Derived.OwnWalk
import Derived.WalkLawsBesides
import Derived.Test.YtihidnmpngeohaaGreatG02
import Derived.Test.YtihidnmpngeohaaGreatG12
import Derived.Test.YtihidnmpngeohaaGreatChecked
import Derived.Test.YtihidnmpngeohaaGreatStab
import Derived.WalkKit
import Derived.Lib.Hide
import Derived.BigRegion
import Derived.BigQuiet
import Derived.Outline
import Derived.Shelf.SlSortCmp.KitK
namespace Go.Proofs.YtihidnmpngeohaaGreat
open Go.RowKit Go.Lib

/-- What a predicate does at a tomb, in a world. -/
def PredTomb (gf : Nat) (lb : Array Value) (p : Tv → Bool) (x : Tv) (W : World) : Prop :=
  Calls Tryz.prog gf (#[.agg #[.slice x.A x.n x.c, .int .i64 x.g.1, .int .i64 x.g.2]] ++ lb) W fun e w' => e = .returned (.bool (p x)) ∧ Below W.heap.size W w'
def idxTomb (p : Tv → Bool) (l : List Tv) : Int := match l.findIdx? p with | some i => (i : Int) | none => -1
theorem idxTomb_none {p : Tv → Bool} {l : List Tv} (h : ∀ x ∈ l, p x = false) : idxTomb p l = -1 := by
  unfold idxTomb
  rw [List.findIdx?_eq_none_iff.2 h]
theorem idxTomb_some {p : Tv → Bool} {l : List Tv} {k : Nat} {x : Tv} (hx : l[k]? = some x) (h : p x = true) (hb : ∀ j y, j < k → l[j]? = some y → p y = false) : idxTomb p l = k := by
  obtain ⟨hk1, hk2⟩ := List.getElem?_eq_some_iff.1 hx
  unfold idxTomb
  have e : l.findIdx? p = some k := by
    rw [List.findIdx?_eq_some_iff_getElem]
    refine ⟨hk1, by rw [hk2]; exact h, fun j hj => ?_⟩
    rw [hb j _ hj (List.getElem?_eq_getElem (by omega))]
    simp
  rw [e]
set_option maxHeartbeats 2000000 in
set_option maxRecDepth 100000 in
theorem indexFuncTomb (gf : Nat) (lb : Array Value) (eg : ∀ args w, (callFunc gf args).run Tryz.prog w = .ok (.enter gf args) w) (p : Tv → Bool) (A : Option Addr) (n c : Nat) (l : List Tv) (w : World)
    (hL : Lst encTb 3 w w.heap.size A n l) (hn : n ≤ 1099511627776) (hp : ∀ W, Below w.heap.size w W → ∀ x ∈ l, PredTomb gf lb p x W) :
    Calls Tryz.prog 32 #[.slice A n c, .func (.func gf) #[] lb] w fun e w' => e = .returned (.int .i64 (idxTomb p l)) ∧ Below w.heap.size w w' := by
  have HL := Lib.hid hL
  have HP := Lib.hid hp
  clear hL hp
  go_enter Tryz.func32, Tryz.ntmps32
  go_wp2
  go_loopw [8] (fun i wr => ∃ k : Nat, k ≤ n ∧ i = .int .i64 k ∧ Below w.heap.size w wr ∧ Hid (∀ j y, j < k → l[j]? = some y → p y = false)) (fun i _ => n - (intOf i).toNat)
  case atStart => exact ⟨0, Nat.zero_le _, rfl, Below.refl _ _, Lib.hid (fun j y h => absurd h (by omega))⟩
  case round =>
    obtain ⟨k, hk, rfl, hbl, HB⟩ := hrel
    by_cases hlt : k < n
    · obtain ⟨b, off, x, rfl, hb, hx, hc⟩ := HL.out.at hlt
      have c0 := (hbl.cell (p := ⟨b, off + k * 3 + 0, none⟩) hb).trans (hc 0 _ rfl)
      have c1 := (hbl.cell (p := ⟨b, off + k * 3 + 1, none⟩) hb).trans (hc 1 _ rfl)
      have c2 := (hbl.cell (p := ⟨b, off + k * 3 + 2, none⟩) hb).trans (hc 2 _ rfl)
      simp only [Nat.add_zero] at c0
      have hcall := HP.out wr hbl x (List.mem_of_getElem? hx)
      unfold PredTomb at hcall
      have HX := Lib.hid hx
      clear hc hx
      cases hpx : p x with
      | true =>
        rw [hpx] at hcall
        have HC := Lib.hid hcall
        have HPX := Lib.hid hpx
        clear hcall hpx
        go_wp2_with fail
        refine HC.out.mono ?_
        rintro e w' ⟨rfl, hb'⟩
        go_wp2
        go_ret
        exact ⟨by rw [idxTomb_some HX.out HPX.out HB.out]; rfl, hbl.trans (hb'.mono hbl.size)⟩
      | false =>
        rw [hpx] at hcall
        have HC := Lib.hid hcall
        have HPX := Lib.hid hpx
        clear hcall hpx
        go_wp2_with fail
        refine HC.out.mono ?_
        rintro e w' ⟨rfl, hb'⟩
        go_wp2
        go_roundw
        case measure => simp [intOf]; omega
        case rel => exact ⟨k + 1, hlt, by simp, hbl.trans (hb'.mono hbl.size), Lib.hid (fun j y hj hy => by
          by_cases hjk : j = k
          · subst hjk
            rw [HX.out] at hy
            injection hy with hy
            rw [← hy]; exact HPX.out
          · exact HB.out j y (by omega) hy)⟩
    · obtain rfl : k = n := by omega
      go_wp2
      go_ret
      exact ⟨by rw [idxTomb_none fun x hx => by
        obtain ⟨j, hj, e⟩ := List.getElem_of_mem hx
        exact HB.out j x (by have := HL.out.1; omega) (by rw [List.getElem?_eq_getElem hj, e])]; rfl, hbl⟩
set_option maxHeartbeats 1000000 in
set_option maxRecDepth 100000 in
/-- Has a tomb other labels than the first one of those that wait? -/
theorem tombPred (x y : Tv) (bi g off m cap : Nat) (W : World) (hm : 0 < m) (hb : W.cell? ⟨bi, 0, none⟩ = some (.slice (some ⟨g, off, none⟩) m cap)) (hc : W.cell? ⟨g, off, none⟩ = some (.slice x.A x.n x.c)) (hx : Tat W W.heap.size x) (hy : Tat W W.heap.size y) :
    PredTomb 33 #[.pointer (some ⟨bi, 0, none⟩)] (fun y => tombC y x != 0) y W := by
  show Calls _ _ #[.agg #[.slice y.A y.n y.c, .int .i64 y.g.1, .int .i64 y.g.2], .pointer (some ⟨bi, 0, none⟩)] W _
  have HX := Lib.hid (show _ ∧ _ from ⟨hx, hy⟩)
  have hcon : ∀ w1, Below W.heap.size W w1 → Calls Tryz.prog 31 #[.slice y.A y.n y.c, .slice x.A x.n x.c] w1 fun e w' => e = .returned (.int .i64 (tombC y x)) ∧ Below w1.heap.size w1 w' := fun w1 hb => labelsCmp_any y.A x.A y.n y.c x.n x.c y.l x.l w1 ((HX.out.2.on hb).lst) ((HX.out.1.on hb).lst) (by have := HX.out.2.few; omega) (by have := HX.out.1.few; omega)
  obtain ⟨r, hr⟩ : ∃ r, tombC y x = r := ⟨_, rfl⟩
  have hcon2 : ∀ w1, Below W.heap.size W w1 → Calls Tryz.prog 31 #[.slice y.A y.n y.c, .slice x.A x.n x.c] w1 fun e w' => e = .returned (.int .i64 r) ∧ Below w1.heap.size w1 w' := by rw [← hr]; exact hcon
  simp only [hr]
  have hbl := World.block_lt_of_cell? W _ hb
  have hgl := World.block_lt_of_cell? W _ hc
  have hbo : Below W.heap.size W (W.alloc (.cells #[.slice y.A y.n y.c, .int .i64 y.g.1, .int .i64 y.g.2] 27)) := (Below.refl _ _).alloc (Nat.le_refl _) _
  have k0 : (W.alloc (.cells #[.slice y.A y.n y.c, .int .i64 y.g.1, .int .i64 y.g.2] 27)).cell? ⟨W.heap.size, 0, none⟩ = some (.slice y.A y.n y.c) := by simp
  have k1 := Below.seen hbo hb
  have k2 := Below.seen hbo hc
  have hm' : (0 : Int) < (m : Int) := by omega
  have HK := Lib.hid (show _ ∧ _ ∧ _ from ⟨k0, k1, k2⟩)
  have HC := Lib.hid hcon2
  clear hx hy hcon hcon2 hr hb hc
  go_enter Tryz.func33, Tryz.ntmps33
  go_wp2_with fail
  go_region_held3 (fun w' => w'.cell? ⟨W.heap.size, 0, none⟩ = some (.slice y.A y.n y.c) ∧ w'.cell? ⟨bi, 0, none⟩ = some (.slice (some ⟨g, off, none⟩) m cap) ∧ w'.cell? ⟨g, off, none⟩ = some (.slice x.A x.n x.c)) (first | exact k6 | exact HK.out | go_keep)
    (first | (go_at_call 31; refine (HC.out _ hbo.drew).mono ?_; rintro e w1 ⟨rfl, hb1⟩; have k6 := seen3 hb1 HK.out; have H1 := Lib.hid (hbo.drew.trans (hb1.mono (by simp))); clear hb1))
  all_goals
    go_wp2
    go_ret
    exact ⟨rfl, H1.out⟩
end Go.Proofs.YtihidnmpngeohaaGreat
namespace Go.Proofs.YtihidnmpngeohaaGreat
open Go.RowKit Go.Lib

def OwnPostTomb (B n : Nat) (l : List Tv) (w : World) (e : Ending) (w' : World) : Prop := ∃ v', e = .returned v' ∧ w'.ownsRow B 27 3 v' n (l.flatMap encTb) ∧ Below w.heap.size w w'
set_option maxHeartbeats 2000000 in
set_option maxRecDepth 100000 in
theorem cloneTomb (A : Option Addr) (n c : Nat) (l : List Tv) (w : World) (hL : Lst encTb 3 w w.heap.size A n l) (hnil : A = none → n = 0 ∧ c = 0) (hn : n ≤ 1099511627776) :
    Calls Tryz.prog 28 #[.slice A n c] w (OwnPostTomb w.heap.size n l w) := by
  obtain ⟨i0, hi, hz0, hz1, hz2⟩ := info_parts Tryz.infoTomb
  cases A with
  | none =>
    obtain ⟨rfl, rfl⟩ := hnil rfl
    have hl0 : l = [] := List.length_eq_zero_iff.1 hL.1
    clear hi hz0 hz1 hz2 hL hnil
    have hq := fun w : World => Lib.run_eql_slice_nil w 22 27 none 0 0 0 0 Tryz.underlying22
    go_enter Tryz.func28, Tryz.ntmps28
    go_wp2
    go_ret
    exact ⟨_, rfl, by rw [hl0]; exact World.ownsRow_nil _ _ _ _, Below.refl _ _⟩
  | some ad =>
    have hcells := fun w1 (hb : Below w.heap.size w w1) => (hL.below hb).flat encTb_len
    have HC := Lib.hid hcells
    have HLL := Lib.hid hL.1
    have hq := fun w : World => Lib.run_eql_slice_nil w 22 27 (some ad) n c 0 0 Tryz.underlying22
    clear hcells hL hnil
    go_enter Tryz.func28, Tryz.ntmps28
    go_wp2_with (at_builtin; refine wpList_append_own _ rfl _ _ 22 rfl w.heap.size 27 i0 _ 3 40 Tryz.underlying22 hi hz0 hz1 hz2 rfl (by omega) _ _ _ rfl (World.ownsRow_made w #[] 0 (Nat.le_refl _) (Nat.zero_le _) (by simp)) ad n c (l.flatMap encTb) rfl (by rw [flatMap_length (enc := encTb) (size := 3) (fun _ => rfl), HLL.out]) (HC.out _ ((Below.refl _ w).alloc (Nat.le_refl _) _)) (oneTomb _) (by unfold maxLen; omega) (by omega) (by simp) ?_)
    intro v' w1 hown hgrow _
    have HF := Lib.hid (show _ ∧ _ from ⟨hown, ((Below.refl w.heap.size w).alloc (Nat.le_refl _) _).grown hgrow (by simp) (by intro k hk; simp [Value.ownBlock] at hk; omega)⟩)
    clear hi hz0 hz1 hz2 hown hgrow hq
    go_wp2
    go_ret
    exact ⟨v', rfl, by simpa using HF.out.1, HF.out.2⟩
end Go.Proofs.YtihidnmpngeohaaGreat
namespace Go.Proofs.YtihidnmpngeohaaGreat
open Go.RowKit Go.Lib

def OwnPostLabel (B n : Nat) (l : List Lb) (w : World) (e : Ending) (w' : World) : Prop := ∃ v', e = .returned v' ∧ w'.ownsRow B 29 2 v' n (l.flatMap Lb.cells) ∧ Below w.heap.size w w'
set_option maxHeartbeats 2000000 in
set_option maxRecDepth 100000 in
theorem cloneLabel (A : Option Addr) (n c : Nat) (l : List Lb) (w : World) (hL : Lst Lb.cells 2 w w.heap.size A n l) (hnil : A = none → n = 0 ∧ c = 0) (hn : n ≤ 1099511627776) :
    Calls Tryz.prog 35 #[.slice A n c] w (OwnPostLabel w.heap.size n l w) := by
  obtain ⟨i0, hi, hz0, hz1, hz2⟩ := info_parts Tryz.infoLabel
  cases A with
  | none =>
    obtain ⟨rfl, rfl⟩ := hnil rfl
    have hl0 : l = [] := List.length_eq_zero_iff.1 hL.1
    clear hi hz0 hz1 hz2 hL hnil
    have hq := fun w : World => Lib.run_eql_slice_nil w 23 29 none 0 0 0 0 Tryz.underlying23
    go_enter Tryz.func35, Tryz.ntmps35
    go_wp2
    go_ret
    exact ⟨_, rfl, by rw [hl0]; exact World.ownsRow_nil _ _ _ _, Below.refl _ _⟩
  | some ad =>
    have hcells := fun w1 (hb : Below w.heap.size w w1) => (hL.below hb).flat Lb.len
    have HC := Lib.hid hcells
    have HLL := Lib.hid hL.1
    have hq := fun w : World => Lib.run_eql_slice_nil w 23 29 (some ad) n c 0 0 Tryz.underlying23
    clear hcells hL hnil
    go_enter Tryz.func35, Tryz.ntmps35
    go_wp2_with (at_builtin; refine wpList_append_own _ rfl _ _ 23 rfl w.heap.size 29 i0 _ 2 32 Tryz.underlying23 hi hz0 hz1 hz2 rfl (by omega) _ _ _ rfl (World.ownsRow_made w #[] 0 (Nat.le_refl _) (Nat.zero_le _) (by simp)) ad n c (l.flatMap Lb.cells) rfl (by rw [flatMap_length (enc := Lb.cells) (size := 2) (fun _ => rfl), HLL.out]) (HC.out _ ((Below.refl _ w).alloc (Nat.le_refl _) _)) (oneLabel _) (by unfold maxLen; omega) (by omega) (by simp) ?_)
    intro v' w1 hown hgrow _
    have HF := Lib.hid (show _ ∧ _ from ⟨hown, ((Below.refl w.heap.size w).alloc (Nat.le_refl _) _).grown hgrow (by simp) (by intro k hk; simp [Value.ownBlock] at hk; omega)⟩)
    clear hi hz0 hz1 hz2 hown hgrow hq
    go_wp2
    go_ret
    exact ⟨v', rfl, by simpa using HF.out.1, HF.out.2⟩
end Go.Proofs.YtihidnmpngeohaaGreat
namespace Go.Proofs.YtihidnmpngeohaaGreat
open Go.RowKit Go.Lib Go.Sort
variable {α : Type} [Inhabited α]
/-! What a row of structs of three cells gives at a test and at an exchange -/
/-- A row of structs of a slice and two numbers. -/
structure RowT (enc : α → List Value) (w0 : World) (blk off : Nat) (d0 : Array α) : Prop extends RowK enc 3 w0 blk off d0 where
  three : ∀ x, ∃ (A : Option Addr) (n c : Nat) (a b : Int), enc x = [.slice A n c, .int .i64 a, .int .i64 b]
section
variable {enc : α → List Value} {w0 W : World} {blk off : Nat} {dk d0 : Array α}
theorem _root_.Go.Proofs.SWK.cells3 (h : SWK enc 3 w0 blk off dk W) (R : RowT enc w0 blk off d0) (hs : dk.size = d0.size) (i : Nat) (hi : i < dk.size) {x0 x1 x2 : Value} (he : enc dk[i]! = [x0, x1, x2]) :
    W.cell? ⟨blk, off + i * 3, none⟩ = some x0 ∧ W.cell? ⟨blk, off + i * 3 + 1, none⟩ = some x1 ∧ W.cell? ⟨blk, off + i * 3 + 2, none⟩ = some x2 ∧ W.frozen? ⟨blk, off + i * 3, none⟩ = false ∧ W.frozen? ⟨blk, off + i * 3 + 1, none⟩ = false ∧ W.frozen? ⟨blk, off + i * 3 + 2, none⟩ = false := by
  have hH : HoldsK enc 3 W blk off dk := h.holds R.hblk R.hH hs
  have h0 := hH (i * 3) (by rw [size_flatK]; omega)
  have h1 := hH (i * 3 + 1) (by rw [size_flatK]; omega)
  have h2 := hH (i * 3 + 2) (by rw [size_flatK]; omega)
  rw [get_flatK enc 3 dk _ (by omega), show i * 3 / 3 = i by omega, show i * 3 % 3 = 0 by omega, he] at h0
  rw [get_flatK enc 3 dk _ (by omega), show (i * 3 + 1) / 3 = i by omega, show (i * 3 + 1) % 3 = 1 by omega, he] at h1
  rw [get_flatK enc 3 dk _ (by omega), show (i * 3 + 2) / 3 = i by omega, show (i * 3 + 2) % 3 = 2 by omega, he] at h2
  exact ⟨h0.1, h1.1, h2.1, h0.2, h1.2, h2.2⟩
theorem _root_.Go.Proofs.SWK.cl3 (h : SWK enc 3 w0 blk off dk W) (R : RowT enc w0 blk off d0) (hs : dk.size = d0.size) (i : Nat) (hi : i < dk.size) {x0 x1 x2 : Value} (he : enc dk[i]! = [x0, x1, x2]) (n : Nat) (os : Array Obj) :
    (grow (W.drewN n) os).cell? ⟨blk, off + i * 3, none⟩ = some x0 ∧ (grow (W.drewN n) os).cell? ⟨blk, off + i * 3 + 1, none⟩ = some x1 ∧ (grow (W.drewN n) os).cell? ⟨blk, off + i * 3 + 2, none⟩ = some x2 :=
  ⟨((h.grown n os).cells3 R hs i hi he).1, ((h.grown n os).cells3 R hs i hi he).2.1, ((h.grown n os).cells3 R hs i hi he).2.2.1⟩
theorem _root_.Go.Proofs.SWK.swapped3 (h : SWK enc 3 w0 blk off dk W) (R : RowT enc w0 blk off d0) (i j : Nat) (hi : i < dk.size) (hj : j < dk.size) {x0 x1 x2 y0 y1 y2 : Value} (hx : enc dk[i]! = [x0, x1, x2]) (hy : enc dk[j]! = [y0, y1, y2]) :
    SWK enc 3 w0 blk off (swp dk i j) ((((((W.drew.setCell ⟨blk, off + i * 3, none⟩ y0).setCell ⟨blk, off + i * 3 + 1, none⟩ y1).setCell ⟨blk, off + i * 3 + 2, none⟩ y2).setCell ⟨blk, off + j * 3, none⟩ x0).setCell ⟨blk, off + j * 3 + 1, none⟩ x1).setCell ⟨blk, off + j * 3 + 2, none⟩ x2) := by
  have := h.swapped R.toRowK i j hi hj
  rw [hx, hy] at this
  exact this
end
set_option maxHeartbeats 1000000 in
set_option maxRecDepth 1000000 in
theorem swapRange_tmb (enc : α → List Value) (blk off cap L a b n : Nat) (A B N : Int) (fv : Value) (d0 d : Array α) (w0 w : World) (R : RowT enc w0 blk off d0) (hs : d0.size = d.size) (S : SWK enc 3 w0 blk off d w)
    (hL : d.size = L) (hA : A = (a : Int)) (hB : B = (b : Int)) (hN : N = (n : Int)) (hab : a + n ≤ b) (hb : b + n ≤ d.size) (hsz : d.size < 4611686018427387904) :
    Calls Tryz.prog 181 #[.slice (some ⟨blk, off, none⟩) L cap, .int .i64 A, .int .i64 B, .int .i64 N, fv] w fun e w' => e = .returned (.tuple #[]) ∧ SWK enc 3 w0 blk off (swapRg d a b n) w' := by
  subst hL hA hB hN
  have mixed : Tryz.prog.follows .mixedOrders = true := by kernel_rfl
  have S0 : Aside (SWK enc 3 w0 blk off d w) := S
  clear S
  go_enter Tryz.func181, Tryz.ntmps181
  go_wp2
  go_loopg [10] n (fun g1 vi wr => ∃ i : Nat, vi = .int .i64 i ∧ i ≤ n ∧ n - i ≤ g1 ∧ Aside (SWK enc 3 w0 blk off (swapRg d a b i) wr))
  case atStart => exact ⟨0, rfl, by omega, by omega, (show Aside (SWK _ _ _ _ _ _ _) from by rw [swapRg_zero]; exact S0.out)⟩
  case round =>
    clear S0
    obtain ⟨i, rfl, hin, hg1, S1⟩ := hrel
    by_cases hlt : i < n
    · have hltz : (i : Int) < (n : Int) := by omega
      have hsd : (swapRg d a b i).size = d.size := size_swapRg _ _ _ _
      obtain ⟨x, hx⟩ : ∃ x, x = (swapRg d a b i)[a + i]! := ⟨_, rfl⟩
      obtain ⟨y, hy⟩ : ∃ x, x = (swapRg d a b i)[b + i]! := ⟨_, rfl⟩
      obtain ⟨iN, hiN⟩ : ∃ q, q = a + i := ⟨_, rfl⟩
      obtain ⟨jN, hjN⟩ : ∃ q, q = b + i := ⟨_, rfl⟩
      have ea : ((a : Int) + (i : Int)).toNat = iN := by omega
      have pa : (0 : Int) ≤ (a : Int) + (i : Int) := by omega
      have ba : (a : Int) + (i : Int) < (d.size : Int) := by omega
      have ra : IntKind.i64.wrap ((a : Int) + (i : Int)) = (a : Int) + (i : Int) := by rw [IntKind.wrap_i64]; omega
      have ec : ((b : Int) + (i : Int)).toNat = jN := by omega
      have pc : (0 : Int) ≤ (b : Int) + (i : Int) := by omega
      have bc : (b : Int) + (i : Int) < (d.size : Int) := by omega
      have rc : IntKind.i64.wrap ((b : Int) + (i : Int)) = (b : Int) + (i : Int) := by rw [IntKind.wrap_i64]; omega
      obtain ⟨xA, xn, xc, x1, x2, hex⟩ := R.three x
      obtain ⟨yA, yn, yc, y1, y2, hey⟩ := R.three y
      have S3 : Aside (SWK enc 3 w0 blk off (swapRg d a b (i + 1)) (((((((wr.setCell ⟨blk, off + iN * 3, none⟩ (.slice yA yn yc)).setCell ⟨blk, off + iN * 3 + 1, none⟩ (.int .i64 y1)).setCell ⟨blk, off + iN * 3 + 2, none⟩ (.int .i64 y2)).setCell ⟨blk, off + jN * 3, none⟩ (.slice xA xn xc)).setCell ⟨blk, off + jN * 3 + 1, none⟩ (.int .i64 x1)).setCell ⟨blk, off + jN * 3 + 2, none⟩ (.int .i64 x2)).drew)) := by
        have := S1.out.swapped3 R (a + i) (b + i) (by omega) (by omega) (hx ▸ hex) (hy ▸ hey)
        rw [swapRg_succ d a b i (by omega) (by omega)] at this
        simp only [World.setCell_drew] at this
        rw [hiN, hjN]; exact this
      obtain ⟨ca0, ca1, ca2, fa0, fa1, fa2⟩ := S1.out.cells3 R (by omega) (a + i) (by omega) (hx ▸ hex)
      obtain ⟨cb0, cb1, cb2, fb0, fb1, fb2⟩ := S1.out.cells3 R (by omega) (b + i) (by omega) (hy ▸ hey)
      rw [← hiN] at ca0 ca1 ca2 fa0 fa1 fa2
      rw [← hjN] at cb0 cb1 cb2 fb0 fb1 fb2
      have hne : iN * 3 + 2 < jN * 3 ∨ jN * 3 + 2 < iN * 3 := by omega
      clear S1 hx hy hex hey hiN hjN hsd
      go_wp2_with fail
      go_big_region
      clear ca0 ca1 ca2 cb0 cb1 cb2 fa0 fa1 fa2 fb0 fb1 fb2 hne
      generalize (((((((wr.setCell ⟨blk, off + iN * 3, none⟩ (.slice yA yn yc)).setCell ⟨blk, off + iN * 3 + 1, none⟩ (.int .i64 y1)).setCell ⟨blk, off + iN * 3 + 2, none⟩ (.int .i64 y2)).setCell ⟨blk, off + jN * 3, none⟩ (.slice xA xn xc)).setCell ⟨blk, off + jN * 3 + 1, none⟩ (.int .i64 x1)).setCell ⟨blk, off + jN * 3 + 2, none⟩ (.int .i64 x2)).drew) = w3 at S3 ⊢
      clear ea ec
      go_wp2
      go_roundg (n - (i + 1))
      case measure => omega
      case rel => exact ⟨i + 1, by go_num, by omega, Nat.le_refl _, S3⟩
    · have hltz : ¬ (i : Int) < (n : Int) := by omega
      go_wp2
      go_end0
      obtain rfl : i = n := by omega
      exact ⟨rfl, S1.out⟩

set_option maxHeartbeats 1000000 in
set_option maxRecDepth 1000000 in
theorem rotate_tmb (enc : α → List Value) (blk off cap L a m b : Nat) (A M B : Int) (fv : Value) (d0 d : Array α) (w0 w : World) (R : RowT enc w0 blk off d0) (hs : d0.size = d.size) (S : SWK enc 3 w0 blk off d w)
    (hL : d.size = L) (hA : A = (a : Int)) (hM : M = (m : Int)) (hB : B = (b : Int)) (ham : a < m) (hmb : m < b) (hb : b ≤ d.size) (hsz : d.size < 4611686018427387904) :
    Calls Tryz.prog 153 #[.slice (some ⟨blk, off, none⟩) L cap, .int .i64 A, .int .i64 M, .int .i64 B, fv] w fun e w' => e = .returned (.tuple #[]) ∧ SWK enc 3 w0 blk off (rotA d a m b) w' := by
  subst hL hA hM hB
  have S0 : Aside (SWK enc 3 w0 blk off d w) := S
  clear S
  go_enter Tryz.func153, Tryz.ntmps153
  go_wp2
  go_loopg [10, 11] (b - a) (fun g1 vi vj wr => ∃ (i j : Nat) (c : Array α), vi = .int .i64 i ∧ vj = .int .i64 j ∧ 0 < i ∧ 0 < j ∧ i ≤ m - a ∧ j ≤ b - m ∧ i + j ≤ g1 ∧ c.size = d.size ∧ Hid (rotA c (m - i) m (m + j) = rotA d a m b) ∧ Aside (SWK enc 3 w0 blk off c wr))
  case atStart => exact ⟨m - a, b - m, d, by go_num, by go_num, by omega, by omega, Nat.le_refl _, Nat.le_refl _, by omega, rfl, (show Hid _ from by show _ = _; congr 1 <;> omega), S0⟩
  case round =>
    clear S0
    obtain ⟨i, j, c, rfl, rfl, hi0, hj0, hi, hj, hg1, hsc, HR, S1⟩ := hrel
    by_cases hij : i = j
    · subst hij
      have hne2 : ((i : Int) != (i : Int)) = false := by simp
      go_wp2_with fail
      refine (swapRange_tmb enc blk off cap _ (m - i) m i _ _ _ _ d0 c w0 _ R (by omega) S1.out hsc (by omega) rfl rfl (by omega) (by omega) (by omega)).mono ?_
      rintro e w' ⟨rfl, S2⟩
      go_wp2
      go_end0
      refine ⟨rfl, ?_⟩
      rw [← HR.out, ← rotA_even c m i (by omega)]
      exact S2
    · have hne2 : ((i : Int) != (j : Int)) = true := by rw [bne_iff_ne]; omega
      by_cases hgt : j < i
      · have hz : (j : Int) < (i : Int) := by omega
        go_wp2_with fail
        refine (swapRange_tmb enc blk off cap _ (m - i) m j _ _ _ _ d0 c w0 _ R (by omega) S1.out hsc (by omega) rfl rfl (by omega) (by omega) (by omega)).mono ?_
        rintro e w' ⟨rfl, S2⟩
        have S3 : Aside (SWK enc 3 w0 blk off (swapRg c (m - i) m j) w') := S2
        have HR2 : Hid (rotA (swapRg c (m - i) m j) (m - (i - j)) m (m + j) = rotA d a m b) := (rotA_left c m i j (by omega) hgt (by omega)).trans HR.out
        clear S2 S1 HR
        go_wp2
        go_roundg (i - j + j)
        case measure => omega
        case rel => exact ⟨i - j, j, _, by go_num, rfl, by omega, hj0, by omega, hj, Nat.le_refl _, by rw [size_swapRg]; exact hsc, HR2, S3⟩
      · have hz : ¬ (j : Int) < (i : Int) := by omega
        go_wp2_with fail
        refine (swapRange_tmb enc blk off cap _ (m - i) (m + j - i) i _ _ _ _ d0 c w0 _ R (by omega) S1.out hsc (by omega) (by omega) rfl (by omega) (by omega) (by omega)).mono ?_
        rintro e w' ⟨rfl, S2⟩
        have S3 : Aside (SWK enc 3 w0 blk off (swapRg c (m - i) (m + j - i) i) w') := S2
        have HR2 : Hid (rotA (swapRg c (m - i) (m + j - i) i) (m - i) m (m + (j - i)) = rotA d a m b) := (rotA_right c m i j (by omega) (by omega) (by omega)).trans HR.out
        clear S2 S1 HR
        go_wp2
        go_roundg (i + (j - i))
        case measure => omega
        case rel => exact ⟨i, j - i, _, rfl, by go_num, hi0, by omega, hi, by omega, Nat.le_refl _, by rw [size_swapRg]; exact hsc, HR2, S3⟩
end Go.Proofs.YtihidnmpngeohaaGreat
