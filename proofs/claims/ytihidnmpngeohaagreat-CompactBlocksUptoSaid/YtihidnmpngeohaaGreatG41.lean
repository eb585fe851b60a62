/- merge.Without, merge.In: the samples that lie in none of some intervals, in one interval. merge.Without, merge.In: what they hand back. Chapter 19's blocks: series without what is gone, as they are built up. -/
import Derived.Test.YtihidnmpngeohaaGreatG40
import Derived.Test.YtihidnmpngeohaaGreatG04
import Derived.Test.YtihidnmpngeohaaGreatG20
import Derived.Test.YtihidnmpngeohaaGreatG05
namespace Go.Proofs.YtihidnmpngeohaaGreat
open Go.RowKit Go.Lib

def inIv (x : Int × Int) (t : Int) : Bool := decide (x.1 ≤ t ∧ t ≤ x.2)
theorem mhas_any (x : Int × Int) (t : Int) (w : World) : Calls Tryz.prog 118 #[.agg #[.int .i64 x.1, .int .i64 x.2], .int .i64 t] w fun e w' => e = .returned (.bool (inIv x t)) ∧ Below w.heap.size w w' := by
  by_cases h1 : x.1 ≤ t
  · by_cases h2 : t ≤ x.2
    · rw [show inIv x t = true from decide_eq_true ⟨h1, h2⟩]
      go_enter Tryz.func118, Tryz.ntmps118
      go_wp2
      go_ret
      exact ⟨rfl, (Below.refl _ _).alloc (Nat.le_refl _) _⟩
    · rw [show inIv x t = false from decide_eq_false fun h => h2 h.2]
      go_enter Tryz.func118, Tryz.ntmps118
      go_wp2
      go_ret
      exact ⟨rfl, (Below.refl _ _).alloc (Nat.le_refl _) _⟩
  · rw [show inIv x t = false from decide_eq_false fun h => h1 h.1]
    go_enter Tryz.func118, Tryz.ntmps118
    go_wp2
    go_ret
    exact ⟨rfl, (Below.refl _ _).alloc (Nat.le_refl _) _⟩
/-- The function within: does this interval hold the sample's time? -/
theorem within_pred (bs : Nat) (t : Int) (W : World) (hc : W.cell? ⟨bs, 0, none⟩ = some (.int .i64 t)) : PredInterval 117 #[.pointer (some ⟨bs, 0, none⟩)] (fun g => inIv g t) W := by
  intro x
  show Calls _ _ #[.agg #[.int .i64 x.1, .int .i64 x.2], .pointer (some ⟨bs, 0, none⟩)] W (fun e w' => e = .returned (.bool (inIv x t)) ∧ RowKit.Below W.heap.size W w')
  have hcon := fun W' => mhas_any x t W'
  have hlt := World.block_lt_of_cell? W _ hc
  generalize inIv x t = r at hcon ⊢
  go_enter Tryz.func117, Tryz.ntmps117
  go_wp2_with fail
  refine (hcon _).mono ?_
  rintro e w' ⟨rfl, hb⟩
  have H := Lib.hid (((Below.refl W.heap.size W).alloc (Nat.le_refl _) _).trans (hb.mono (by simp)))
  clear hb
  go_wp2
  go_ret
  exact ⟨rfl, H.out⟩
theorem idx_any {p : Int × Int → Bool} {l : List (Int × Int)} : decide ((0 : Int) ≤ idxInterval p l) = l.any p := by
  unfold idxInterval
  cases h : l.findIdx? p with
  | none =>
    have := List.findIdx?_eq_none_iff.1 h
    rw [List.any_eq_false.2 (fun x hx => by simp [this x hx])]
    rfl
  | some i =>
    obtain ⟨hi, hp, _⟩ := List.findIdx?_eq_some_iff_getElem.1 h
    rw [List.any_eq_true.2 ⟨_, List.getElem_mem hi, hp⟩]
    simp
theorem containsInterval (gf : Nat) (lb : Array Value) (eg : ∀ args w, (callFunc gf args).run Tryz.prog w = .ok (.enter gf args) w) (p : Int × Int → Bool) (A : Option Addr) (n c : Nat) (l : List (Int × Int)) (w : World)
    (hL : Lst encI 2 w w.heap.size A n l) (hn : n ≤ 1099511627776) (hp : ∀ W, Below w.heap.size w W → PredInterval gf lb p W) :
    Calls Tryz.prog 116 #[.slice A n c, .func (.func gf) #[] lb] w fun e w' => e = .returned (.bool (l.any p)) ∧ Below w.heap.size w w' := by
  have hcon := indexFuncInterval gf lb eg p A n c l w hL hn hp
  have hidx := idx_any (p := p) (l := l)
  generalize l.any p = r at hidx ⊢
  generalize idxInterval p l = i at hcon hidx
  clear hL hp eg
  have HX := Lib.hid hidx
  clear hidx
  go_enter Tryz.func116, Tryz.ntmps116
  go_wp2_with fail
  refine hcon.mono ?_
  rintro e w' ⟨rfl, hb⟩
  go_wp2
  go_ret
  exact ⟨by rw [← HX.out]; rfl, hb⟩
/-- The function that Without asks. -/
theorem without_pred (b5 : Nat) (A : Option Addr) (n c B : Nat) (o : List (Int × Int)) (W : World) (hc : W.cell? ⟨b5, 0, none⟩ = some (.slice A n c)) (hL : Lst encI 2 W B A n o) (hB : B ≤ W.heap.size) (hn : n ≤ 1099511627776) :
    PredSample 115 #[.pointer (some ⟨b5, 0, none⟩)] (fun x => covB o x.1) W := by
  intro x
  show Calls _ _ #[.agg #[.int .i64 x.1, .int .u64 x.2], .pointer (some ⟨b5, 0, none⟩)] W (fun e w' => e = .returned (.bool (covB o x.1)) ∧ RowKit.Below W.heap.size W w')
  have hlt := World.block_lt_of_cell? W _ hc
  have eg : ∀ args w, (callFunc 117 args).run Tryz.prog w = .ok (.enter 117 args) w := enters_of Tryz.func117 (by kernel_rfl) rfl
  have hb0 : Below W.heap.size W (W.alloc (.cells #[.int .i64 x.1, .int .u64 x.2] 95)) := (Below.refl _ _).alloc (Nat.le_refl _) _
  have hx0 : (W.alloc (.cells #[.int .i64 x.1, .int .u64 x.2] 95)).cell? ⟨W.heap.size, 0, none⟩ = some (.int .i64 x.1) := by simp
  have hcon := containsInterval 117 #[.pointer (some ⟨W.heap.size, 0, none⟩)] eg (fun g => inIv g x.1) A n c o (W.alloc (.cells #[.int .i64 x.1, .int .u64 x.2] 95)) (((hL.more hB).below hb0).more hb0.size) hn
    (fun W' hW' => within_pred W.heap.size x.1 W' ((hW'.cell (p := ⟨W.heap.size, 0, none⟩) (by simp)).trans hx0))
  have hcon' := hcon
  clear hcon
  have HC := Lib.hid (show _ ∧ _ from ⟨hcon', hb0⟩)
  clear hcon' hL hx0 hb0 eg
  go_enter Tryz.func115, Tryz.ntmps115
  go_wp2_with fail
  refine HC.out.1.mono ?_
  rintro e w' ⟨rfl, hb⟩
  have H := Lib.hid (HC.out.2.trans (hb.mono HC.out.2.size))
  clear hb HC
  go_wp2
  go_ret
  exact ⟨rfl, H.out⟩
end Go.Proofs.YtihidnmpngeohaaGreat
namespace Go.Proofs.YtihidnmpngeohaaGreat
open Go.RowKit Go.Lib

/-- What a function hands back that makes a row of samples of its own; of intervals. -/
theorem withoutS_congr (s l : List (Int × Int)) : withoutS s (l.foldl refIv []) = withoutS s l := by
  unfold withoutS
  congr 1
  funext x
  rw [covB_congr (refIvs_law l).2]
set_option maxHeartbeats 2000000 in
set_option maxRecDepth 100000 in
theorem without_any (A A' : Option Addr) (n c n' c' : Nat) (s l : List (Int × Int)) (w : World) (hS : Lst encS 2 w w.heap.size A n s) (hSnil : A = none → n = 0 ∧ c = 0) (hn : n ≤ 1099511627776) (hL : Lst encI 2 w w.heap.size A' n' l) (hnil : A' = none → n' = 0 ∧ c' = 0) (hn' : n' ≤ 1000000)
    (hlen : (l.foldl refIv []).length ≤ n') (hw : ∀ x ∈ l, -9223372036854775808 ≤ x.1 ∧ x.1 ≤ 9223372036854775807 ∧ -9223372036854775808 ≤ x.2 ∧ x.2 ≤ 9223372036854775807) :
    Calls Tryz.prog 86 #[.slice A n c, .slice A' n' c'] w (PutS (withoutS s l) w) := by
  have eg : ∀ args w, (callFunc 115 args).run Tryz.prog w = .ok (.enter 115 args) w := enters_of Tryz.func115 (by kernel_rfl) rfl
  have HV := Lib.hid (ivs_row A' n' c' l w hL hnil (by omega) hw)
  have HS := Lib.hid (show _ ∧ _ from ⟨hS, hSnil⟩)
  have HEG := Lib.hid eg
  rw [← withoutS_congr]
  obtain ⟨o, ho⟩ : ∃ o, l.foldl refIv [] = o := ⟨_, rfl⟩
  rw [ho] at HV hlen ⊢
  clear hS hSnil hL hnil hw eg ho
  go_enter Tryz.func86, Tryz.ntmps86
  go_wp2_with fail
  refine HV.out.mono ?_
  rintro e w1 ⟨v, rfl, ho1, hb1⟩
  obtain ⟨og, hog⟩ : ∃ og, o.length = og := ⟨_, rfl⟩
  rw [hog] at ho1 hlen
  obtain ⟨Ag, cg, rfl, _, hLo⟩ := ownsRow_lst ho1 hog encI_len
  have hs1 := hb1.size
  have H1 := Lib.hid (show _ ∧ _ from ⟨hLo, hb1⟩)
  clear ho1 hb1 hLo HV hog
  go_wp2_with fail
  have hbx : Below w1.heap.size w1 (w1.alloc (.cells #[.slice Ag og cg] 86)) := (Below.refl _ _).alloc (Nat.le_refl _) _
  have hcx : (w1.alloc (.cells #[.slice Ag og cg] 86)).cell? ⟨w1.heap.size, 0, none⟩ = some (.slice Ag og cg) := by simp
  have hsx : (w1.alloc (.cells #[.slice Ag og cg] 86)).heap.size = w1.heap.size + 1 := by simp
  generalize w1.alloc (.cells #[.slice Ag og cg] 86) = w2 at hbx hcx hsx ⊢
  have hb2 := H1.out.2.trans (hbx.mono H1.out.2.size)
  have H2 := Lib.hid (show _ ∧ _ ∧ _ ∧ _ from ⟨hbx, hcx, hb2, hsx⟩)
  have hs2 := hb2.size
  clear hbx hcx hb2
  refine (cloneSample A n c s w2 (HS.out.1.kept H2.out.2.2.1) HS.out.2 hn).mono ?_
  rintro e w3 ⟨v9, rfl, ho3, hb3⟩
  obtain ⟨A9, c9, rfl, _, _⟩ := owns_slice ho3
  have H3 := Lib.hid (show _ ∧ _ from ⟨ho3, hb3⟩)
  have hs3 := hb3.size
  clear ho3 hb3
  go_wp2_with fail
  refine (deleteFuncSample 115 #[.pointer (some ⟨w1.heap.size, 0, none⟩)] HEG.out (fun x => covB o x.1) A9 n c9 s w3 w2.heap.size H3.out.1 hn (fun W hW => ?_)).mono ?_
  · have hne : ∀ b, (Value.slice A9 n c9).ownBlock = some b → w2.heap.size ≤ b := fun b hb => (H3.out.1.lt b hb).1
    have hold : ∀ p : Addr, p.block < w2.heap.size → W.cell? p = w2.cell? p := fun p hp => by
      have h1 : W.heap[p.block]? = w3.heap[p.block]? := hW.block _ (by omega) (fun e => by have := hne _ e.symm; omega)
      have h2 : w3.heap[p.block]? = w2.heap[p.block]? := H3.out.2.block _ hp
      exact World.cell?_of_block (h1.trans h2)
    exact without_pred w1.heap.size Ag og cg w2.heap.size o W ((hold ⟨w1.heap.size, 0, none⟩ (by show w1.heap.size < _; omega)).trans H2.out.2.1) (((H1.out.1.kept H2.out.1)).keep hold) (by have := hW.size; omega) (by omega)
  · rintro e w4 ⟨rfl, ho4, hg4⟩
    have hb4 : Below w.heap.size w w4 := (H2.out.2.2.1.trans (H3.out.2.mono hs2)).grown hg4 (by omega) (fun b hb => by have := (H3.out.1.lt b hb).1; omega)
    have H4 := Lib.hid (show _ ∧ _ from ⟨owns_base ho4 hs2, hb4⟩)
    clear ho4 hg4 hb4
    go_wp2
    go_ret
    exact ⟨_, rfl, H4.out.1, H4.out.2⟩
end Go.Proofs.YtihidnmpngeohaaGreat
namespace Go.Proofs.YtihidnmpngeohaaGreat
open Go.RowKit Go.Lib

/-- What stands for a series of the k-th block when what is gone is left out. -/
def cutP (tbs : List (List (List Lb × (Int × Int)))) (i : Nat) (x : List Lb × List (Int × Int)) : List Lb × List (Int × Int) := (x.1, withoutS x.2 (goneK labelsC ((tbs[i]?).getD []) x.1))
def cutL (tbs : List (List (List Lb × (Int × Int)))) (ls : List (List (List Lb × List (Int × Int)))) : List (List (List Lb × List (Int × Int))) := ls.mapIdx fun i xs => xs.map (cutP tbs i)
theorem withoutS_nil (s : List (Int × Int)) : withoutS s [] = s := by simp [withoutS, covB]
theorem cutL_take {tbs : List (List (List Lb × (Int × Int)))} {ls : List (List (List Lb × List (Int × Int)))} {i : Nat} {xs : List (List Lb × List (Int × Int))} (h : ls[i]? = some xs) : cutL tbs (ls.take (i + 1)) = cutL tbs (ls.take i) ++ [xs.map (cutP tbs i)] := by
  obtain ⟨g1, g2⟩ := List.getElem?_eq_some_iff.1 h
  unfold cutL
  rw [List.take_succ_eq_append_getElem g1, g2, List.mapIdx_concat, List.length_take, Nat.min_eq_left (by omega)]
theorem cutL_few (tbs : List (List (List Lb × (Int × Int)))) (ls : List (List (List Lb × List (Int × Int)))) : ∀ i, i ≤ ls.length → (cutL tbs (ls.take i)).flatten.length = (ls.take i).flatten.length ∧ ((cutL tbs (ls.take i)).flatten.flatMap (·.2)).length ≤ ((ls.take i).flatten.flatMap (·.2)).length
  | 0, _ => by simp [cutL]
  | i + 1, hi => by
    obtain ⟨h1, h2⟩ := cutL_few tbs ls i (by omega)
    have hx : ls[i]? = some (ls[i]'(by omega)) := List.getElem?_eq_getElem _
    obtain ⟨xs, hxs⟩ : ∃ xs, ls[i]'(by omega) = xs := ⟨_, rfl⟩
    rw [hxs] at hx
    rw [cutL_take hx, flat_take hx, List.flatten_append, List.length_append, List.length_append, List.flatMap_append, List.flatMap_append, List.length_append, List.length_append]
    have h3 : ∀ ys : List (List Lb × List (Int × Int)), ((ys.map (cutP tbs i)).flatMap (·.2)).length ≤ (ys.flatMap (·.2)).length := fun ys => by
      induction ys with
      | nil => simp
      | cons y ys ih =>
        have h4 : (cutP tbs i y).2.length ≤ y.2.length := List.length_filter_le _ _
        simp only [List.map_cons, List.flatMap_cons, List.length_append]
        omega
    have h5 := h3 xs
    simp only [List.flatten_cons, List.flatten_nil, List.append_nil, List.length_map]
    omega
theorem cut_few {tbs : List (List (List Lb × (Int × Int)))} {ls zs : List (List Sv)} (h : zs.map (·.map Sv.sr) = cutL tbs (ls.map (·.map Sv.sr))) : zs.flatten.length = ls.flatten.length ∧ (zs.flatten.flatMap (·.s)).length ≤ (ls.flatten.flatMap (·.s)).length ∧ zs.flatten.map Sv.sr = (cutL tbs (ls.map (·.map Sv.sr))).flatten := by
  have h0 := cutL_few tbs (ls.map (·.map Sv.sr)) (ls.map (·.map Sv.sr)).length (Nat.le_refl _)
  rw [List.take_length, ← h] at h0
  have e : ∀ l : List (List Sv), (l.map (·.map Sv.sr)).flatten = l.flatten.map Sv.sr := fun l => by rw [List.map_flatten]
  rw [e, e, flat_sr, flat_sr, List.length_map, List.length_map] at h0
  exact ⟨h0.1, h0.2, by rw [← h, e]⟩
/-- A list of series that is built up: labels of what came in, samples of its own or of what came in. -/
structure CutSv (w : World) (B0 B : Nat) (v : Value) (os : List Sv) : Prop where
  row : w.ownsRow B 132 2 v os.length (os.flatMap encSv)
  lab : ∀ z ∈ os, Lst Lb.cells 2 w B0 z.A z.n z.l ∧ (z.A = none → z.n = 0 ∧ z.c = 0) ∧ z.n ≤ 100000 ∧ (keyL z.l).length ≤ 10000000
  sam : ∀ z ∈ os, (w.ownsRow B0 95 2 (valD z) z.m (z.s.flatMap encS) ∨ (Lst encS 2 w B0 z.D z.m z.s ∧ (z.D = none → z.m = 0 ∧ z.d = 0))) ∧ z.m ≤ 100000
theorem CutSv.nil (w : World) (B0 B : Nat) : CutSv w B0 B (.slice none 0 0) [] := ⟨World.ownsRow_nil _ _ _ _, by simp, by simp⟩
theorem CutSv.below {w w' : World} {B0 B : Nat} {v : Value} {os : List Sv} (h : CutSv w B0 B v os) (hB : B0 ≤ w.heap.size) (hb : Below w.heap.size w w') : CutSv w' B0 B v os :=
  ⟨owns_below h.row hb, fun z hz => ⟨(h.lab z hz).1.below (hb.mono hB), (h.lab z hz).2⟩, fun z hz => ⟨(h.sam z hz).1.imp (fun q => owns_below q hb) (fun q => ⟨q.1.below (hb.mono hB), q.2⟩), (h.sam z hz).2⟩⟩
theorem CutSv.base {w : World} {B0 B B' : Nat} {v : Value} {os : List Sv} (h : CutSv w B0 B v os) (hB : B' ≤ B) : CutSv w B0 B' v os := ⟨owns_base h.row hB, h.lab, h.sam⟩
/-- Another row grew: nothing of it changed. -/
theorem CutSv.grown {w w' : World} {B0 B B2 n2 sz2 : Nat} {e2 : TypeId} {v v2 : Value} {os : List Sv} {xs2 : List Value} (h : CutSv w B0 B v os) (ho : w.ownsRow B2 e2 sz2 v2 n2 xs2) (hB : B0 ≤ B2) (hw : B0 ≤ w.heap.size) (hg : w.grownBy w' v2.ownBlock) (hne : 132 ≠ e2) (hne2 : 95 ≠ e2) : CutSv w' B0 B v os := by
  have hb : Below B0 w w' := (Below.refl _ _).grown hg hw (fun k hk => by have := (ho.lt k hk).1; omega)
  exact ⟨h.row.kept hg (owns_apart h.row ho hne), fun z hz => ⟨(h.lab z hz).1.below hb, (h.lab z hz).2⟩, fun z hz => ⟨(h.sam z hz).1.imp (fun q => q.kept hg (owns_apart q ho hne2)) (fun q => ⟨q.1.below hb, q.2⟩), (h.sam z hz).2⟩⟩
theorem CutSv.snoc {w w' : World} {B0 B : Nat} {v v' : Value} {os : List Sv} {z : Sv} (h : CutSv w B0 B v os) (hB : B0 ≤ B) (hw : B0 ≤ w.heap.size) (hl : Lst Lb.cells 2 w B0 z.A z.n z.l ∧ (z.A = none → z.n = 0 ∧ z.c = 0) ∧ z.n ≤ 100000 ∧ (keyL z.l).length ≤ 10000000)
    (hs : (w.ownsRow B0 95 2 (valD z) z.m (z.s.flatMap encS) ∨ (Lst encS 2 w B0 z.D z.m z.s ∧ (z.D = none → z.m = 0 ∧ z.d = 0))) ∧ z.m ≤ 100000)
    (hr : w'.ownsRow B 132 2 v' (os.length + 1) (os.flatMap encSv ++ encSv z)) (hg : w.grownBy w' v.ownBlock) : CutSv w' B0 B v' (os ++ [z]) := by
  have hb : Below B0 w w' := (Below.refl _ _).grown hg hw (fun k hk => by have := (h.row.lt k hk).1; omega)
  refine ⟨by rw [List.length_append, List.length_singleton, List.flatMap_append, List.flatMap_singleton]; exact hr, fun y hy => ?_, fun y hy => ?_⟩
  · rcases List.mem_append.1 hy with hy | hy
    · exact ⟨(h.lab y hy).1.below hb, (h.lab y hy).2⟩
    · rw [List.mem_singleton.1 hy]
      exact ⟨hl.1.below hb, hl.2⟩
  · rcases List.mem_append.1 hy with hy | hy
    · exact ⟨(h.sam y hy).1.imp (fun q => q.kept hg (owns_apart q h.row (by decide))) (fun q => ⟨q.1.below hb, q.2⟩), (h.sam y hy).2⟩
    · rw [List.mem_singleton.1 hy]
      exact ⟨hs.1.imp (fun q => q.kept hg (owns_apart q h.row (by decide))) (fun q => ⟨q.1.below hb, q.2⟩), hs.2⟩
theorem CutSv.sat {w : World} {B0 B : Nat} {v : Value} {os : List Sv} (h : CutSv w B0 B v os) (hw : B0 ≤ w.heap.size) : ∀ z ∈ os, SerIn w z := fun z hz => by
  obtain ⟨l1, l2, l3, l4⟩ := h.lab z hz
  obtain ⟨s1, s2⟩ := h.sam z hz
  rcases s1 with s1 | ⟨s1, s3⟩
  · obtain ⟨b1, b2, b3⟩ := owns_lst s1 encS_len (by omega)
    exact ⟨⟨l1.more hw, l2, l3, b1, b2, s2⟩, l4⟩
  · exact ⟨⟨l1.more hw, l2, l3, s1.more hw, s3, s2⟩, l4⟩
theorem CutSv.push {wz wa w6 : World} {B0 B : Nat} {v v6 : Value} {os : List Sv} {y : Sv} {A5 : Option Addr} {c5 : Nat} {r : List (Int × Int)} (h : CutSv wz B0 B v os) (hB : B0 ≤ B) (hw : B0 ≤ wz.heap.size) (hb : Below wz.heap.size wz wa) (hy : Lst Lb.cells 2 wz B0 y.A y.n y.l) (hnil : y.A = none → y.n = 0 ∧ y.c = 0) (hyn : y.n ≤ 100000) (hk : (keyL y.l).length ≤ 10000000)
    (ho : wa.ownsRow B0 95 2 (.slice A5 r.length c5) r.length (r.flatMap encS)) (hr : r.length ≤ 100000) (hown : w6.ownsRow B 132 2 v6 (os.length + 1) (os.flatMap encSv ++ [.slice y.A y.n y.c, .slice A5 r.length c5])) (hg : wa.grownBy w6 v.ownBlock) : CutSv w6 B0 B v6 (os ++ [⟨y.A, y.n, y.c, y.l, A5, r.length, c5, r⟩]) :=
  (h.below hw hb).snoc (z := ⟨y.A, y.n, y.c, y.l, A5, r.length, c5, r⟩) hB (Nat.le_trans hw hb.size) ⟨hy.below (hb.mono hw), hnil, hyn, hk⟩ ⟨.inl ho, hr⟩ hown hg
theorem without_own {W : World} {y : Sv} (hy : Sat W W.heap.size y) {B : Nat} {vg : Value} {gs : List (Int × Int)} (hg : W.ownsRow B 25 2 vg gs.length (gs.flatMap encI)) (hf : ∀ x ∈ gs, Fits x) (hl : gs.length ≤ 4000) :
    Calls Tryz.prog 86 #[.slice y.D y.m y.d, vg] W (PutS (withoutS y.s gs) W) := by
  obtain ⟨A', c', rfl, _, hL⟩ := ownsRow_lst hg rfl encI_len
  refine without_any y.D A' y.m y.d gs.length c' y.s gs W hy.sst hy.snil (by have := hy.sfew; omega) hL (fun e => ?_) (by omega) (refIvs_length gs) hf
  subst e
  rcases hg.2 with ⟨h', h0⟩ | ⟨_, _, _, h', _⟩
  · injection h' with _ _ h'; exact ⟨h0, h'⟩
  · cases h'
/-- The lists so far. -/
structure CutLs (w : World) (B0 B : Nat) (v : Value) (hs : List Value) (zs : List (List Sv)) : Prop where
  row : w.ownsRow B 70 1 v hs.length hs
  len : hs.length = zs.length
  each : ∀ (j : Nat) h z, hs[j]? = some h → zs[j]? = some z → CutSv w B0 B h z
theorem CutLs.nil (w : World) (B0 B : Nat) : CutLs w B0 B (.slice none 0 0) [] [] := ⟨World.ownsRow_nil _ _ _ _, rfl, by simp⟩
theorem CutLs.below {w w' : World} {B0 B : Nat} {v : Value} {hs : List Value} {zs : List (List Sv)} (h : CutLs w B0 B v hs zs) (hB : B0 ≤ w.heap.size) (hb : Below w.heap.size w w') : CutLs w' B0 B v hs zs :=
  ⟨owns_below h.row hb, h.len, fun j a z h1 h2 => (h.each j a z h1 h2).below hB hb⟩
theorem CutLs.snoc {w w' : World} {B0 B : Nat} {v v' a : Value} {hs : List Value} {zs : List (List Sv)} {z : List Sv} (h : CutLs w B0 B v hs zs) (hB : B0 ≤ B) (hw : B0 ≤ w.heap.size) (hz : CutSv w B0 B a z) (hr : w'.ownsRow B 70 1 v' (hs.length + 1) (hs ++ [a])) (hg : w.grownBy w' v.ownBlock) : CutLs w' B0 B v' (hs ++ [a]) (zs ++ [z]) := by
  refine ⟨by rw [List.length_append, List.length_singleton]; exact hr, by simp [h.len], fun j b y h1 h2 => ?_⟩
  have hlen := h.len
  by_cases hj : j < hs.length
  · rw [List.getElem?_append_left hj] at h1
    rw [List.getElem?_append_left (by omega)] at h2
    exact (h.each j b y h1 h2).grown h.row hB hw hg (by decide) (by decide)
  · rw [List.getElem?_append_right (by omega)] at h1
    rw [List.getElem?_append_right (by omega)] at h2
    obtain ⟨k, hk⟩ : ∃ k, j - hs.length = k := ⟨_, rfl⟩
    rw [hk] at h1
    rw [show j - zs.length = k by omega] at h2
    cases k with
    | zero =>
      obtain rfl : a = b := by simpa using h1
      obtain rfl : z = y := by simpa using h2
      exact hz.grown h.row hB hw hg (by decide) (by decide)
    | succ k => simp at h1
/-- The lists, as the functions that take them want them. -/
theorem CutLs.sls {w : World} {B0 B : Nat} {A : Option Addr} {n c : Nat} {hs : List Value} {zs : List (List Sv)} (h : CutLs w B0 B (.slice A n c) hs zs) (hn : hs.length = n) (hw : B0 ≤ w.heap.size) : Sls w w.heap.size A n zs ∧ ∀ y ∈ zs.flatten, SerIn w y := by
  have hlen := h.len
  have hp : ∀ (k : Nat) xs, zs[k]? = some xs → ∃ a, hs[k]? = some a ∧ CutSv w B0 B a xs := fun k xs hxs => by
    obtain ⟨hk, _⟩ := List.getElem?_eq_some_iff.1 hxs
    have e : hs[k]? = some (hs[k]'(by omega)) := List.getElem?_eq_getElem _
    exact ⟨_, e, h.each k _ xs e hxs⟩
  refine ⟨⟨by omega, fun h0 => ?_⟩, fun y hy => ?_⟩
  · rcases h.row.2 with ⟨_, h1⟩ | ⟨g, cap, cur, e, _, hg, _⟩
    · omega
    · injection e with e1 _ e3
      subst e1
      refine ⟨g, 0, rfl, (Array.getElem?_eq_some_iff.1 hg).1, fun k xs hxs => ?_⟩
      obtain ⟨a, ha, hcs⟩ := hp k xs hxs
      obtain ⟨A', c', rfl, _, hL⟩ := ownsRow_lst hcs.row rfl encSv_len
      exact ⟨A', c', by rw [Nat.zero_add]; exact owns_cell h.row rfl ha, hL⟩
  · obtain ⟨xs, hxs, hy⟩ := List.mem_flatten.1 hy
    obtain ⟨k, hk, e⟩ := List.getElem_of_mem hxs
    obtain ⟨a, ha, hcs⟩ := hp k xs (by rw [← e]; exact List.getElem?_eq_getElem hk)
    exact hcs.sat hw y hy
end Go.Proofs.YtihidnmpngeohaaGreat
