/- merge.Without, merge.In: what they hand back. -/
import Derived.Test.YtglafbfbgjihbaaGreatWithout
import Derived.Test.YtglafbfbgjihbaaGreatRefIv
namespace Go.Proofs.YtglafbfbgjihbaaGreat
open Go.RowKit Go.Lib

/-- What a function hands back that makes a row of samples of its own; of intervals. -/
def PutS (r : List (Int × Int)) (w : World) (e : Ending) (w' : World) : Prop := ∃ v, e = .returned v ∧ w'.ownsRow w.heap.size 94 2 v r.length (r.flatMap encS) ∧ Below w.heap.size w w'
def PutI (r : List (Int × Int)) (w : World) (e : Ending) (w' : World) : Prop := ∃ v, e = .returned v ∧ w'.ownsRow w.heap.size 25 2 v r.length (r.flatMap encI) ∧ Below w.heap.size w w'
theorem Lst.kept {α : Type} {enc : α → List Value} {size n : Nat} {A : Option Addr} {l : List α} {w w' : World} (h : Lst enc size w w.heap.size A n l) (hb : Below w.heap.size w w') : Lst enc size w' w'.heap.size A n l := (h.below hb).more hb.size
/-- merge.Intervals, in the document's words. -/
theorem ivs_row (A : Option Addr) (n c : Nat) (l : List (Int × Int)) (w : World) (hL : Lst encI 2 w w.heap.size A n l) (hnil : A = none → n = 0 ∧ c = 0) (hn : n ≤ 1099511627776) (hw : ∀ x ∈ l, -9223372036854775808 ≤ x.1 ∧ x.1 ≤ 9223372036854775807 ∧ -9223372036854775808 ≤ x.2 ∧ x.2 ≤ 9223372036854775807) :
    Calls Tryz.prog 9 #[.slice A n c] w (PutI (l.foldl refIv []) w) := by
  refine (ivs_any A n c l w hL hnil hn hw).mono ?_
  rintro e w' ⟨v, d, h1, hp, hs, h2, h3⟩
  rw [ivs_ref hp hs] at h2
  exact ⟨v, h1, h2, h3⟩
theorem refIvs_len (l : List (Int × Int)) (w w' : World) (B n : Nat) (v : Value) (h : w.ownsRow B 25 2 v (l.foldl refIv []).length ((l.foldl refIv []).flatMap encI)) : (l.foldl refIv []).length ≤ maxLen := by
  obtain ⟨_, _, _, h, _⟩ := ownsRow_lst h rfl encI_len
  exact h
theorem withoutS_congr (s l : List (Int × Int)) : withoutS s (l.foldl refIv []) = withoutS s l := by
  unfold withoutS
  congr 1
  funext x
  rw [covB_congr (refIvs_law l).2]
set_option maxHeartbeats 2000000 in
set_option maxRecDepth 100000 in
theorem without_any (A A' : Option Addr) (n c n' c' : Nat) (s l : List (Int × Int)) (w : World) (hS : Lst encS 2 w w.heap.size A n s) (hSnil : A = none → n = 0 ∧ c = 0) (hn : n ≤ 1099511627776) (hL : Lst encI 2 w w.heap.size A' n' l) (hnil : A' = none → n' = 0 ∧ c' = 0) (hn' : n' ≤ 1000000)
    (hlen : (l.foldl refIv []).length ≤ n') (hw : ∀ x ∈ l, -9223372036854775808 ≤ x.1 ∧ x.1 ≤ 9223372036854775807 ∧ -9223372036854775808 ≤ x.2 ∧ x.2 ≤ 9223372036854775807) :
    Calls Tryz.prog 10 #[.slice A n c, .slice A' n' c'] w (PutS (withoutS s l) w) := by
  have eg : ∀ args w, (callFunc 52 args).run Tryz.prog w = .ok (.enter 52 args) w := enters_of Tryz.func52 (by kernel_rfl) rfl
  have HV := Lib.hid (ivs_row A' n' c' l w hL hnil (by omega) hw)
  have HS := Lib.hid (show _ ∧ _ from ⟨hS, hSnil⟩)
  have HEG := Lib.hid eg
  rw [← withoutS_congr]
  obtain ⟨o, ho⟩ : ∃ o, l.foldl refIv [] = o := ⟨_, rfl⟩
  rw [ho] at HV hlen ⊢
  clear hS hSnil hL hnil hw eg ho
  go_enter Tryz.func10, Tryz.ntmps10
  go_wp2_with fail
  refine HV.out.mono ?_
  rintro e w1 ⟨v, rfl, ho1, hb1⟩
  obtain ⟨og, hog⟩ : ∃ og, o.length = og := ⟨_, rfl⟩
  rw [hog] at ho1 hlen
  obtain ⟨Ag, cg, rfl, _, hLo⟩ := ownsRow_lst ho1 hog encI_len
  have hs1 := hb1.size
  have H1 := Lib.hid (show _ ∧ _ from ⟨hLo, hb1⟩)
  clear ho1 hb1 hLo HV hog
  go_wp2_with fail
  have hbx : Below w1.heap.size w1 (w1.alloc (.cells #[.slice Ag og cg] 23)) := (Below.refl _ _).alloc (Nat.le_refl _) _
  have hcx : (w1.alloc (.cells #[.slice Ag og cg] 23)).cell? ⟨w1.heap.size, 0, none⟩ = some (.slice Ag og cg) := by simp
  have hsx : (w1.alloc (.cells #[.slice Ag og cg] 23)).heap.size = w1.heap.size + 1 := by simp
  generalize w1.alloc (.cells #[.slice Ag og cg] 23) = w2 at hbx hcx hsx ⊢
  have hb2 := H1.out.2.trans (hbx.mono H1.out.2.size)
  have H2 := Lib.hid (show _ ∧ _ ∧ _ ∧ _ from ⟨hbx, hcx, hb2, hsx⟩)
  have hs2 := hb2.size
  clear hbx hcx hb2
  refine (cloneSample A n c s w2 (HS.out.1.kept H2.out.2.2.1) HS.out.2 hn).mono ?_
  rintro e w3 ⟨v9, rfl, ho3, hb3⟩
  obtain ⟨A9, c9, rfl, _, _⟩ := owns_slice ho3
  have H3 := Lib.hid (show _ ∧ _ from ⟨ho3, hb3⟩)
  have hs3 := hb3.size
  clear ho3 hb3
  go_wp2_with fail
  refine (deleteFuncSample 52 #[.pointer (some ⟨w1.heap.size, 0, none⟩)] HEG.out (fun x => covB o x.1) A9 n c9 s w3 w2.heap.size H3.out.1 hn (fun W hW => ?_)).mono ?_
  · have hne : ∀ b, (Value.slice A9 n c9).ownBlock = some b → w2.heap.size ≤ b := fun b hb => (H3.out.1.lt b hb).1
    have hold : ∀ p : Addr, p.block < w2.heap.size → W.cell? p = w2.cell? p := fun p hp => by
      have h1 : W.heap[p.block]? = w3.heap[p.block]? := hW.block _ (by omega) (fun e => by have := hne _ e.symm; omega)
      have h2 : w3.heap[p.block]? = w2.heap[p.block]? := H3.out.2.block _ hp
      exact World.cell?_of_block (h1.trans h2)
    exact without_pred w1.heap.size Ag og cg w2.heap.size o W ((hold ⟨w1.heap.size, 0, none⟩ (by show w1.heap.size < _; omega)).trans H2.out.2.1) (((H1.out.1.kept H2.out.1)).keep hold) (by have := hW.size; omega) (by omega)
  · rintro e w4 ⟨rfl, ho4, hg4⟩
    have hb4 : Below w.heap.size w w4 := (H2.out.2.2.1.trans (H3.out.2.mono hs2)).grown hg4 (by omega) (fun b hb => by have := (H3.out.1.lt b hb).1; omega)
    have H4 := Lib.hid (show _ ∧ _ from ⟨owns_base ho4 hs2, hb4⟩)
    clear ho4 hg4 hb4
    go_wp2
    go_ret
    exact ⟨_, rfl, H4.out.1, H4.out.2⟩
set_option maxHeartbeats 2000000 in
set_option maxRecDepth 100000 in
theorem in_any (A : Option Addr) (n c : Nat) (s : List (Int × Int)) (y : Int × Int) (w : World) (hS : Lst encS 2 w w.heap.size A n s) (hSnil : A = none → n = 0 ∧ c = 0) (hn : n ≤ 1099511627776) :
    Calls Tryz.prog 11 #[.slice A n c, .agg #[.int .i64 y.1, .int .i64 y.2]] w (PutS (withinS s [y]) w) := by
  have eg : ∀ args w, (callFunc 56 args).run Tryz.prog w = .ok (.enter 56 args) w := enters_of Tryz.func56 (by kernel_rfl) rfl
  have hfl : s.filter (fun x => !(!inIv y x.1)) = withinS s [y] := by
    unfold withinS covB
    congr 1
    funext x
    simp [inIv]
  have HS := Lib.hid (show _ ∧ _ ∧ _ from ⟨hS, hSnil, hfl⟩)
  have HEG := Lib.hid eg
  clear hS hSnil eg hfl
  go_enter Tryz.func11, Tryz.ntmps11
  go_wp2_with fail
  have hbx : Below w.heap.size w (w.alloc (.cells #[.int .i64 y.1, .int .i64 y.2] 25)) := (Below.refl _ _).alloc (Nat.le_refl _) _
  have hc0 : (w.alloc (.cells #[.int .i64 y.1, .int .i64 y.2] 25)).cell? ⟨w.heap.size, 0, none⟩ = some (.int .i64 y.1) := by simp
  have hc1 : (w.alloc (.cells #[.int .i64 y.1, .int .i64 y.2] 25)).cell? ⟨w.heap.size, 1, none⟩ = some (.int .i64 y.2) := by simp
  have hsx : (w.alloc (.cells #[.int .i64 y.1, .int .i64 y.2] 25)).heap.size = w.heap.size + 1 := by simp
  generalize w.alloc (.cells #[.int .i64 y.1, .int .i64 y.2] 25) = w2 at hbx hc0 hc1 hsx ⊢
  have H2 := Lib.hid (show _ ∧ _ ∧ _ from ⟨hbx, hc0, hc1⟩)
  clear hbx hc0 hc1
  refine (cloneSample A n c s w2 (HS.out.1.kept H2.out.1) HS.out.2.1 hn).mono ?_
  rintro e w3 ⟨v9, rfl, ho3, hb3⟩
  obtain ⟨A9, c9, rfl, _, _⟩ := owns_slice ho3
  have H3 := Lib.hid (show _ ∧ _ from ⟨ho3, hb3⟩)
  have hs3 := hb3.size
  clear ho3 hb3
  go_wp2_with fail
  refine (deleteFuncSample 56 #[.pointer (some ⟨w.heap.size, 0, none⟩)] HEG.out (fun x => !inIv y x.1) A9 n c9 s w3 w2.heap.size H3.out.1 hn (fun W hW => ?_)).mono ?_
  · have hne : ∀ b, (Value.slice A9 n c9).ownBlock = some b → w2.heap.size ≤ b := fun b hb => (H3.out.1.lt b hb).1
    have hold : ∀ p : Addr, p.block < w2.heap.size → W.cell? p = w2.cell? p := fun p hp => by
      have h1 : W.heap[p.block]? = w3.heap[p.block]? := hW.block _ (by omega) (fun e => by have := hne _ e.symm; omega)
      have h2 : w3.heap[p.block]? = w2.heap[p.block]? := H3.out.2.block _ hp
      exact World.cell?_of_block (h1.trans h2)
    exact in_pred w.heap.size y W ((hold ⟨w.heap.size, 0, none⟩ (by show w.heap.size < _; omega)).trans H2.out.2.1) ((hold ⟨w.heap.size, 1, none⟩ (by show w.heap.size < _; omega)).trans H2.out.2.2)
  · rw [HS.out.2.2]
    rintro e w4 ⟨rfl, ho4, hg4⟩
    have hb4 : Below w.heap.size w w4 := (H2.out.1.trans (H3.out.2.mono (by omega))).grown hg4 (by omega) (fun b hb => by have := (H3.out.1.lt b hb).1; omega)
    have H4 := Lib.hid (show _ ∧ _ from ⟨owns_base ho4 (by omega : w.heap.size ≤ w2.heap.size), hb4⟩)
    clear ho4 hg4 hb4
    go_wp2
    go_ret
    exact ⟨_, rfl, H4.out.1, H4.out.2⟩
end Go.Proofs.YtglafbfbgjihbaaGreat
