/- merge.Without, merge.In: the samples that lie in none of some intervals, in one interval. -/
import Derived.Test.YtglafbfbgjihbaaGreatCovB
import Derived.Test.YtglafbfbgjihbaaGreatDelSample
import Derived.Test.YtglafbfbgjihbaaGreatIvs
namespace Go.Proofs.YtglafbfbgjihbaaGreat
open Go.RowKit Go.Lib

def inIv (x : Int × Int) (t : Int) : Bool := decide (x.1 ≤ t ∧ t ≤ x.2)
theorem mhas_any (x : Int × Int) (t : Int) (w : World) : Calls Tryz.prog 55 #[.agg #[.int .i64 x.1, .int .i64 x.2], .int .i64 t] w fun e w' => e = .returned (.bool (inIv x t)) ∧ Below w.heap.size w w' := by
  by_cases h1 : x.1 ≤ t
  · by_cases h2 : t ≤ x.2
    · rw [show inIv x t = true from decide_eq_true ⟨h1, h2⟩]
      go_enter Tryz.func55, Tryz.ntmps55
      go_wp2
      go_ret
      exact ⟨rfl, (Below.refl _ _).alloc (Nat.le_refl _) _⟩
    · rw [show inIv x t = false from decide_eq_false fun h => h2 h.2]
      go_enter Tryz.func55, Tryz.ntmps55
      go_wp2
      go_ret
      exact ⟨rfl, (Below.refl _ _).alloc (Nat.le_refl _) _⟩
  · rw [show inIv x t = false from decide_eq_false fun h => h1 h.1]
    go_enter Tryz.func55, Tryz.ntmps55
    go_wp2
    go_ret
    exact ⟨rfl, (Below.refl _ _).alloc (Nat.le_refl _) _⟩
/-- The function within: does this interval hold the sample's time? -/
theorem within_pred (bs : Nat) (t : Int) (W : World) (hc : W.cell? ⟨bs, 0, none⟩ = some (.int .i64 t)) : PredInterval 54 #[.pointer (some ⟨bs, 0, none⟩)] (fun g => inIv g t) W := by
  intro x
  show Calls _ _ #[.agg #[.int .i64 x.1, .int .i64 x.2], .pointer (some ⟨bs, 0, none⟩)] W (fun e w' => e = .returned (.bool (inIv x t)) ∧ RowKit.Below W.heap.size W w')
  have hcon := fun W' => mhas_any x t W'
  have hlt := World.block_lt_of_cell? W _ hc
  generalize inIv x t = r at hcon ⊢
  go_enter Tryz.func54, Tryz.ntmps54
  go_wp2_with fail
  refine (hcon _).mono ?_
  rintro e w' ⟨rfl, hb⟩
  have H := Lib.hid (((Below.refl W.heap.size W).alloc (Nat.le_refl _) _).trans (hb.mono (by simp)))
  clear hb
  go_wp2
  go_ret
  exact ⟨rfl, H.out⟩
theorem idx_any {p : Int × Int → Bool} {l : List (Int × Int)} : decide ((0 : Int) ≤ idxInterval p l) = l.any p := by
  unfold idxInterval
  cases h : l.findIdx? p with
  | none =>
    have := List.findIdx?_eq_none_iff.1 h
    rw [List.any_eq_false.2 (fun x hx => by simp [this x hx])]
    rfl
  | some i =>
    obtain ⟨hi, hp, _⟩ := List.findIdx?_eq_some_iff_getElem.1 h
    rw [List.any_eq_true.2 ⟨_, List.getElem_mem hi, hp⟩]
    simp
theorem containsInterval (gf : Nat) (lb : Array Value) (eg : ∀ args w, (callFunc gf args).run Tryz.prog w = .ok (.enter gf args) w) (p : Int × Int → Bool) (A : Option Addr) (n c : Nat) (l : List (Int × Int)) (w : World)
    (hL : Lst encI 2 w w.heap.size A n l) (hn : n ≤ 1099511627776) (hp : ∀ W, Below w.heap.size w W → PredInterval gf lb p W) :
    Calls Tryz.prog 53 #[.slice A n c, .func (.func gf) #[] lb] w fun e w' => e = .returned (.bool (l.any p)) ∧ Below w.heap.size w w' := by
  have hcon := indexFuncInterval gf lb eg p A n c l w hL hn hp
  have hidx := idx_any (p := p) (l := l)
  generalize l.any p = r at hidx ⊢
  generalize idxInterval p l = i at hcon hidx
  clear hL hp eg
  have HX := Lib.hid hidx
  clear hidx
  go_enter Tryz.func53, Tryz.ntmps53
  go_wp2_with fail
  refine hcon.mono ?_
  rintro e w' ⟨rfl, hb⟩
  go_wp2
  go_ret
  exact ⟨by rw [← HX.out]; rfl, hb⟩
/-- The function that Without asks. -/
theorem without_pred (b5 : Nat) (A : Option Addr) (n c B : Nat) (o : List (Int × Int)) (W : World) (hc : W.cell? ⟨b5, 0, none⟩ = some (.slice A n c)) (hL : Lst encI 2 W B A n o) (hB : B ≤ W.heap.size) (hn : n ≤ 1099511627776) :
    PredSample 52 #[.pointer (some ⟨b5, 0, none⟩)] (fun x => covB o x.1) W := by
  intro x
  show Calls _ _ #[.agg #[.int .i64 x.1, .int .u64 x.2], .pointer (some ⟨b5, 0, none⟩)] W (fun e w' => e = .returned (.bool (covB o x.1)) ∧ RowKit.Below W.heap.size W w')
  have hlt := World.block_lt_of_cell? W _ hc
  have eg : ∀ args w, (callFunc 54 args).run Tryz.prog w = .ok (.enter 54 args) w := enters_of Tryz.func54 (by kernel_rfl) rfl
  have hb0 : Below W.heap.size W (W.alloc (.cells #[.int .i64 x.1, .int .u64 x.2] 94)) := (Below.refl _ _).alloc (Nat.le_refl _) _
  have hx0 : (W.alloc (.cells #[.int .i64 x.1, .int .u64 x.2] 94)).cell? ⟨W.heap.size, 0, none⟩ = some (.int .i64 x.1) := by simp
  have hcon := containsInterval 54 #[.pointer (some ⟨W.heap.size, 0, none⟩)] eg (fun g => inIv g x.1) A n c o (W.alloc (.cells #[.int .i64 x.1, .int .u64 x.2] 94)) (((hL.more hB).below hb0).more hb0.size) hn
    (fun W' hW' => within_pred W.heap.size x.1 W' ((hW'.cell (p := ⟨W.heap.size, 0, none⟩) (by simp)).trans hx0))
  have hcon' := hcon
  clear hcon
  have HC := Lib.hid (show _ ∧ _ from ⟨hcon', hb0⟩)
  clear hcon' hL hx0 hb0 eg
  go_enter Tryz.func52, Tryz.ntmps52
  go_wp2_with fail
  refine HC.out.1.mono ?_
  rintro e w' ⟨rfl, hb⟩
  have H := Lib.hid (HC.out.2.trans (hb.mono HC.out.2.size))
  clear hb HC
  go_wp2
  go_ret
  exact ⟨rfl, H.out⟩
/-- The function that In asks. -/
theorem in_pred (b3 : Nat) (y : Int × Int) (W : World) (hc0 : W.cell? ⟨b3, 0, none⟩ = some (.int .i64 y.1)) (hc1 : W.cell? ⟨b3, 1, none⟩ = some (.int .i64 y.2)) :
    PredSample 56 #[.pointer (some ⟨b3, 0, none⟩)] (fun x => !inIv y x.1) W := by
  intro x
  show Calls _ _ #[.agg #[.int .i64 x.1, .int .u64 x.2], .pointer (some ⟨b3, 0, none⟩)] W (fun e w' => e = .returned (.bool (!inIv y x.1)) ∧ RowKit.Below W.heap.size W w')
  have hlt := World.block_lt_of_cell? W _ hc0
  have hcon := fun W' => mhas_any y x.1 W'
  generalize inIv y x.1 = r at hcon ⊢
  go_enter Tryz.func56, Tryz.ntmps56
  go_wp2_with fail
  refine (hcon _).mono ?_
  rintro e w' ⟨rfl, hb⟩
  have H := Lib.hid (((Below.refl W.heap.size W).alloc (Nat.le_refl _) _).trans (hb.mono (by simp)))
  clear hb
  go_wp2
  go_ret
  exact ⟨rfl, H.out⟩
end Go.Proofs.YtglafbfbgjihbaaGreat
