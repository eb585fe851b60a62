/- slices.SortStableFunc of tombs by their labels. merge.Tombs: tombs put together. SameSamples at two lists that are one. Written off a master by mk2.py. LentSamples. Written off a master by mk2.py. -/
import Derived.Test.YtihidnmpngeohaaGreatG13
import Derived.Test.YtihidnmpngeohaaGreatG04
import Derived.Test.YtihidnmpngeohaaGreatG17
import Derived.LoopN
import Derived.Test.YtihidnmpngeohaaGreatG15
import Derived.Test.YtihidnmpngeohaaGreatG05
import Derived.Test.YtihidnmpngeohaaGreatG09
import Derived.BigQuiet
import Derived.OwnWalk
import Derived.Laws.AppendOwnNone
import Derived.RangeFuncBox
namespace Go.Proofs.YtihidnmpngeohaaGreat
open Go.RowKit Go.Lib Go.Sort

theorem cmp3_swo {α K : Type} {c : K → K → Int} (h : Cmp3 c) (f : α → K) : SWO (ltOf fun x y => c (f x) (f y)) where
  irrefl x := by
    show decide (c (f x) (f x) < 0) = false
    rw [h.self]; decide
  trans x y z h1 h2 := by
    have h1 := of_decide_eq_true (show decide (c (f x) (f y) < 0) = true from h1)
    have h2 := of_decide_eq_true (show decide (c (f y) (f z) < 0) = true from h2)
    exact decide_eq_true (h.trans _ _ _ h1 h2)
  ntrans x y z h1 h2 := by
    have h1 := of_decide_eq_false (show decide (c (f x) (f y) < 0) = false from h1)
    have h2 := of_decide_eq_false (show decide (c (f y) (f z) < 0) = false from h2)
    have e1 := h.swap (f x) (f y)
    have e2 := h.swap (f y) (f z)
    have e3 := h.swap (f x) (f z)
    have h3 : c (f z) (f x) ≤ 0 := h.le_trans (show c (f z) (f y) ≤ 0 by omega) (show c (f y) (f x) ≤ 0 by omega)
    exact decide_eq_false (show ¬ c (f x) (f z) < 0 by omega)
set_option maxHeartbeats 1000000 in
theorem tombCmp (x y : Tv) (W : World) (hx : Tat W W.heap.size x) (hy : Tat W W.heap.size y) :
    Calls Tryz.prog 30 #[.agg #[.slice x.A x.n x.c, .int .i64 x.g.1, .int .i64 x.g.2], .agg #[.slice y.A y.n y.c, .int .i64 y.g.1, .int .i64 y.g.2]] W fun e w' => e = .returned (.int .i64 (tombC x y)) ∧ Grw W.heap.size W w' := by
  have HX := Lib.hid (show _ ∧ _ from ⟨hx, hy⟩)
  have hcon := fun w1 (hb : Below W.heap.size W w1) => labelsCmp_g x.A y.A x.n x.c y.n y.c x.l y.l w1 ((HX.out.1.on hb).lst) ((HX.out.2.on hb).lst) (by have := HX.out.1.few; omega) (by have := HX.out.2.few; omega)
  have HC := Lib.hid hcon
  clear hx hy hcon
  go_enter Tryz.func30, Tryz.ntmps30
  go_wp2_with fail
  refine (HC.out _ (((Below.refl _ _).alloc (Nat.le_refl _) _).alloc (by simp) _)).mono ?_
  rintro e w1 ⟨rfl, hb1⟩
  have H1 : Grw W.heap.size W w1 := ((Grw.refl _ W).alloc (Nat.le_refl _) _).alloc (by simp) _ |>.trans (hb1.mono (by simp; omega))
  clear hb1
  go_wp2
  go_ret
  exact ⟨rfl, H1⟩
abbrev Tz (w : World) (B : Nat) := {y : Tv // Tat w B y} × Nat
instance (w : World) (B : Nat) : Inhabited (Tz w B) := ⟨(⟨⟨none, 0, 0, [], (0, 0)⟩, ⟨Lst.nil, fun _ => ⟨rfl, rfl⟩, Nat.zero_le _, by unfold Fits; decide⟩⟩, 0)⟩
def encZ {w : World} {B : Nat} (x : Tz w B) : List Value := encTb x.1.1
theorem encZ_len {w : World} {B : Nat} (x : Tz w B) : (encZ x).length = 3 := rfl
def cmpZ {w : World} {B : Nat} (x y : Tz w B) : Int := labelsC x.1.1.l y.1.1.l
theorem tagsZ {α : Type} [Inhabited (α × Nat)] (l : List α) : TagsIn (fun x : α × Nat => x.2) 0 l.zipIdx.toArray.size l.zipIdx.toArray := by
  have h : ∀ i, i < l.zipIdx.toArray.size → (l.zipIdx.toArray[i]!).2 = i := fun i hi => by
    rw [getElem!_pos _ i hi, List.getElem_toArray, List.getElem_zipIdx]; simp
  intro i j _ hij hj
  show (l.zipIdx.toArray[i]!).2 < (l.zipIdx.toArray[j]!).2
  rw [h i (by omega), h j hj]
  exact hij
set_option maxHeartbeats 1000000 in
theorem insertion_noneT (c : Nat) (f : Value) (w : World) : Calls Tryz.prog 127 #[.slice none 0 c, .int .i64 0, .int .i64 0, f] w fun e w' => e = .returned (.tuple #[]) ∧ w' = w := by
  go_enter Tryz.func127, Tryz.ntmps127
  go_wp2
  refine wp_loop_rounds 1 ?_
  rw [rounds_succ]
  go_wp2
  go_end0
  exact ⟨rfl, rfl⟩
set_option maxHeartbeats 1000000 in
theorem stable_noneT (c : Nat) (f : Value) (w : World) : Calls Tryz.prog 91 #[.slice none 0 c, .int .i64 0, f] w fun e w' => e = .returned (.tuple #[]) ∧ w' = w := by
  go_enter Tryz.func91, Tryz.ntmps91
  go_wp2
  refine wp_loop_rounds 1 ?_
  rw [rounds_succ]
  go_wp2_with fail
  refine (insertion_noneT c f _).mono ?_
  rintro e w' ⟨rfl, rfl⟩
  go_wp2
  refine wp_loop_rounds 1 ?_
  rw [rounds_succ]
  go_wp2
  go_end0
  exact ⟨rfl, rfl⟩
set_option maxHeartbeats 1000000 in
theorem sortStable_noneT (c : Nat) (f : Value) (w : World) : Calls Tryz.prog 29 #[.slice none 0 c, f] w fun e w' => e = .returned (.tuple #[]) ∧ w' = w := by
  go_enter Tryz.func29, Tryz.ntmps29
  go_wp2_with fail
  refine (stable_noneT c f _).mono ?_
  rintro e w' ⟨rfl, rfl⟩
  go_wp2
  go_end0
  exact ⟨rfl, rfl⟩
/-- Tombs of the call's own, sorted by their labels, which lie below them. -/
theorem sortTombs (A : Option Addr) (n c : Nat) (ys : List Tv) (w : World) (B : Nat) (ho : w.ownsRow B 27 3 (.slice A n c) n (ys.flatMap encTb)) (hB : B ≤ w.heap.size) (hn : n ≤ 1000000) (hT : ∀ y ∈ ys, Tat w B y) :
    Calls Tryz.prog 29 #[.slice A n c, .func (.func 30) #[] #[]] w fun e w' => e = .returned (.tuple #[]) ∧ ∃ ys' : List Tv, ys'.Perm ys ∧ (ys'.Pairwise fun x y => tombC x y ≤ 0) ∧
      w'.ownsRow B 27 3 (.slice A n c) n (ys'.flatMap encTb) ∧ w.grownBy w' (Value.slice A n c).ownBlock := by
  have hll := owns_len ho encTb_len (by omega)
  have eg : ∀ args w, (callFunc 30 args).run Tryz.prog w = .ok (.enter 30 args) w := enters_of Tryz.func30 (by kernel_rfl) rfl
  rcases A with _ | ad
  · have hn0 : n = 0 := by
      rcases ho.2 with ⟨_, h⟩ | ⟨_, _, _, h, _⟩
      · exact h
      · cases h
    subst hn0
    obtain rfl : ys = [] := List.length_eq_zero_iff.1 hll
    refine (sortStable_noneT c _ w).mono ?_
    rintro e w' ⟨rfl, rfl⟩
    exact ⟨rfl, [], List.Perm.refl _, List.Pairwise.nil, ho, grownBy_refl _ _⟩
  · obtain ⟨g, rfl, hg, hgB⟩ : ∃ g, ad = ⟨g, 0, none⟩ ∧ g < w.heap.size ∧ B ≤ g := by
      rcases ho.2 with ⟨h, _⟩ | ⟨g, _, _, h, hb, h', _⟩
      · cases h
      · injection h with h _ _; injection h with h; exact ⟨g, h, (Array.getElem?_eq_some_iff.1 h').1, hb⟩
    obtain ⟨zs, hzs⟩ : ∃ zs : List {y : Tv // Tat w B y}, zs = ys.attachWith _ hT := ⟨_, rfl⟩
    have hval : zs.map (·.1) = ys := by rw [hzs]; simp
    have hidx : ∀ q : List (Tz w B), q.flatMap encZ = (q.map (·.1.1)).flatMap encTb := fun q => by rw [List.flatMap_map]; rfl
    have hmap : (zs.zipIdx.map fun x : Tz w B => x.1.1) = ys := by
      rw [show (fun x : Tz w B => x.1.1) = (fun y : {y : Tv // Tat w B y} => y.1) ∘ Prod.fst from rfl, ← List.map_map, List.zipIdx_map_fst, hval]
    have hoT : w.ownsRow B 27 3 (.slice (some ⟨g, 0, none⟩) n c) n ((zs.zipIdx : List (Tz w B)).flatMap encZ) := by rw [hidx, hmap]; exact ho
    have hlz : zs.length = n := by rw [← hll, ← hval, List.length_map]
    have hzl : (zs.zipIdx : List (Tz w B)).toArray.size = n := by simpa using hlz
    have hcmp : CmpLays Tryz.prog 30 #[] encZ 3 (cmpZ (w := w) (B := B)) g 0 (zs.zipIdx : List (Tz w B)).toArray.size w := by
      intro m os dk hdk x y
      have hgr := (ownsK_sorted encZ_len hoT m os dk (by rw [hdk]; simp) (by simpa using hlz)).2
      have hk : ∀ p : Addr, p.block < B → (sortWorldK encZ 3 w g 0 m dk os).cell? p = w.cell? p := fun p hp => World.cell?_of_block (w := w) (hgr.block p.block (by omega) (fun e => by injection e with e; omega))
      have hs : B ≤ (sortWorldK encZ 3 w g 0 m dk os).heap.size := by have := hgr.size; omega
      refine (tombCmp x.1.1 y.1.1 _ ((x.1.2.keep hk).more hs) ((y.1.2.keep hk).more hs)).mono fun e w' h => ⟨h.1, h.2.grow⟩
    have R : RowT encZ w g 0 (zs.zipIdx : List (Tz w B)).toArray := ⟨⟨encZ_len, fun x => oneTomb [x.1.1] |> fun h v hv => h v (by simpa using hv), holdsK_own encZ_len hoT, hg⟩, fun x => ⟨x.1.1.A, x.1.1.n, x.1.1.c, x.1.1.g.1, x.1.1.g.2, rfl⟩⟩
    have hsw : SWO (ltOf (cmpZ (w := w) (B := B))) := cmp3_swo labelsC_cmp3 fun x : Tz w B => x.1.1.l
    refine (sortStable_tmb encZ cmpZ (fun x => x.2) 30 #[] g 0 c n (zs.zipIdx : List (Tz w B)).toArray w eg hsw hcmp R hzl (by omega) (tagsZ zs)).mono ?_
    rintro e w' ⟨rfl, d', ⟨q, os, rfl⟩, hp, hs⟩
    have hsz : d'.size = (zs.zipIdx : List (Tz w B)).length := by have := hp.1; simpa using this
    obtain ⟨h1, h2⟩ := ownsK_sorted encZ_len hoT q os d' hsz (by simpa using hlz)
    have hperm : d'.toList.Perm (zs.zipIdx : List (Tz w B)) := by
      have := hp.2.2
      rw [show ((zs.zipIdx : List (Tz w B)).toArray.extract 0 (zs.zipIdx : List (Tz w B)).toArray.size).toList = (zs.zipIdx : List (Tz w B)) by simp; exact List.take_of_length_le (by simp), show (d'.extract 0 (zs.zipIdx : List (Tz w B)).toArray.size).toList = d'.toList by rw [show (zs.zipIdx : List (Tz w B)).toArray.size = d'.size by rw [hsz]; simp]; simp] at this
      exact this
    refine ⟨rfl, d'.toList.map (·.1.1), ?_, ?_, ?_, h2⟩
    · rw [← hmap]; exact hperm.map _
    · rw [List.pairwise_map, List.pairwise_iff_getElem]
      intro i j hi hj hij
      rw [Array.length_toList] at hi hj
      have := hs i j (Nat.zero_le _) hij (by rw [List.size_toArray]; omega)
      rw [getElem!_pos d' j hj, getElem!_pos d' i hi] at this
      simp only [Array.getElem_toList]
      show labelsC d'[i].1.1.l d'[j].1.1.l ≤ 0
      rcases this with h | ⟨h, _⟩
      · have h := of_decide_eq_true (show decide (labelsC d'[i].1.1.l d'[j].1.1.l < 0) = true from h)
        omega
      · have h := of_decide_eq_false (show decide (labelsC d'[j].1.1.l d'[i].1.1.l < 0) = false from h)
        have := labelsC_cmp3.swap d'[i].1.1.l d'[j].1.1.l
        omega
    · rw [hidx] at h1; exact h1
end Go.Proofs.YtihidnmpngeohaaGreat
namespace Go.Proofs.YtihidnmpngeohaaGreat
open Go.RowKit Go.Lib Go.Sort

/-- Tombs of the call's own: the row, each one's labels in memory of their own, no two together. -/
structure OutTb (w : World) (B : Nat) (v : Value) (os : List Tv) : Prop where
  row : w.ownsRow B 27 3 v os.length (os.flatMap encTb)
  each : ∀ z ∈ os, w.ownsRow B 29 2 (.slice z.A z.n z.c) z.n (z.l.flatMap Lb.cells)
  apart : os.Pairwise fun a b => ∀ g, (Value.slice a.A a.n a.c).ownBlock = some g → (Value.slice b.A b.n b.c).ownBlock ≠ some g
  fits : ∀ z ∈ os, Fits z.g
theorem owns_typed {w : World} {B n g : Nat} {e : TypeId} {size : Nat} {v : Value} {xs : List Value} (h : w.ownsRow B e size v n xs) (hg : v.ownBlock = some g) : ∃ cs fz, w.heap[g]? = some (.cells cs e fz) := by
  rcases h.2 with ⟨rfl, _⟩ | ⟨b, cap, cur, rfl, _, hb, _⟩
  · cases hg
  · obtain rfl : b = g := by simpa [Value.ownBlock] using hg
    exact ⟨cur, _, hb⟩
theorem owns_other {w : World} {B B' n m : Nat} {e e' : TypeId} {s s' : Nat} {v v' : Value} {xs xs' : List Value} (h : w.ownsRow B e s v n xs) (h' : w.ownsRow B' e' s' v' m xs') (hne : e ≠ e') {g : Nat} (hg : v.ownBlock = some g) : v'.ownBlock ≠ some g := by
  intro hg'
  obtain ⟨cs, fz, h1⟩ := owns_typed h hg
  obtain ⟨cs', fz', h2⟩ := owns_typed h' hg'
  rw [h1] at h2
  injection h2 with h2
  injection h2 with _ h2
  exact hne h2
theorem OutTb.nil (w : World) (B : Nat) : OutTb w B (.slice none 0 0) [] := ⟨World.ownsRow_nil _ _ _ _, by simp, List.Pairwise.nil, by simp⟩
theorem OutTb.below {w w' : World} {B : Nat} {v : Value} {os : List Tv} (h : OutTb w B v os) (hb : Below w.heap.size w w') : OutTb w' B v os :=
  ⟨owns_below h.row hb, fun z hz => owns_below (h.each z hz) hb, h.apart, h.fits⟩
theorem OutTb.kept {S : Nat → Prop} {w w' : World} {B : Nat} {v : Value} {os : List Tv} (h : OutTb w B v os) (hg : GrownIn S w w') (hS : ∀ k, S k → k < B) : OutTb w' B v os :=
  ⟨hg.owns h.row (fun k hk hs => by have := (h.row.lt k hk).1; have := hS k hs; omega), fun z hz => hg.owns (h.each z hz) (fun k hk hs => by have := ((h.each z hz).lt k hk).1; have := hS k hs; omega), h.apart, h.fits⟩
theorem OutTb.base {w : World} {B B' : Nat} {v : Value} {os : List Tv} (h : OutTb w B v os) (hB : B' ≤ B) : OutTb w B' v os := ⟨owns_base h.row hB, fun z hz => owns_base (h.each z hz) hB, h.apart, h.fits⟩
/-- One tomb more: its labels were cloned, then the row grew. -/
theorem OutTb.snoc {w w1 wa wz : World} {B : Nat} {v v' : Value} {os : List Tv} {z : Tv} (h : OutTb w B v os) (hB : B ≤ w.heap.size) (hb : Below w.heap.size w w1) (hl : w1.ownsRow w.heap.size 29 2 (.slice z.A z.n z.c) z.n (z.l.flatMap Lb.cells))
    (hba : Below w1.heap.size w1 wa) (hf : Fits z.g) (hr : wz.ownsRow B 27 3 v' (os.length + 1) (os.flatMap encTb ++ encTb z)) (hg : wa.grownBy wz v.ownBlock) : OutTb wz B v' (os ++ [z]) := by
  have ha := (h.below hb).below hba
  have hla := owns_below hl hba
  refine ⟨by rw [List.length_append, List.length_singleton, List.flatMap_append, List.flatMap_singleton]; exact hr, fun y hy => ?_, ?_, fun y hy => ?_⟩
  · rcases List.mem_append.1 hy with hy | hy
    · refine (ha.each y hy).kept hg ?_
      cases hv : (Value.slice y.A y.n y.c).ownBlock with
      | none => exact .inl rfl
      | some b => exact .inr fun e => owns_other (ha.each y hy) ha.row (by decide) hv e.symm
    · rw [List.mem_singleton.1 hy]
      refine (owns_base hla hB).kept hg ?_
      cases hv : (Value.slice z.A z.n z.c).ownBlock with
      | none => exact .inl rfl
      | some b => exact .inr fun e => owns_other hla ha.row (by decide) hv e.symm
  · refine List.pairwise_append.2 ⟨h.apart, List.pairwise_singleton _ _, fun a ha' b hb' g h1 h2 => ?_⟩
    rw [List.mem_singleton.1 hb'] at h2
    have := ((h.each a ha').lt g h1).2
    have := (hl.lt g h2).1
    omega
  · rcases List.mem_append.1 hy with hy | hy
    · exact h.fits y hy
    · rw [List.mem_singleton.1 hy]; exact hf
theorem OutTb.tat {w : World} {B : Nat} {v : Value} {os : List Tv} (h : OutTb w B v os) {m : Nat} (hm : m ≤ 100000) (hl : ∀ z ∈ os, z.l.length ≤ m) : ∀ z ∈ os, Tat w w.heap.size z := fun z hz => by
  have h1 := h.each z hz
  have h2 := owns_len h1 Lb.len (by omega)
  obtain ⟨A', c', e, _, h3⟩ := ownsRow_lst h1 h2 Lb.len
  injection e with e1 _ e3
  subst e1 e3
  refine ⟨h3, fun e => ?_, by have := hl z hz; omega, h.fits z hz⟩
  rcases h1.2 with ⟨e', h0⟩ | ⟨g, cap, cur, e', _⟩
  · injection e' with _ _ e'
    exact ⟨h0, e'⟩
  · rw [e] at e'; cases e'
/-- What Tombs hands back. -/
def TombsPost (r : List (List Lb × (Int × Int))) (w : World) (e : Ending) (w' : World) : Prop :=
  ∃ v os, e = .returned v ∧ OutTb w' w.heap.size v os ∧ os.map Tv.tb = tombsU labelsC r ∧ Below w.heap.size w w'
theorem ivU_len (l : List (Int × Int)) : (ivU l).length ≤ l.length := refIvs_length l
theorem runsT_len {K : Type} {c : K → K → Int} : ∀ (f : Nat) (d : List (K × (Int × Int))), (runsT c f d).length ≤ d.length
  | 0, _ => by simp [runsT]
  | _ + 1, [] => by simp [runsT]
  | f + 1, x :: t => by
    rw [runsT, List.length_append, List.length_map]
    have h1 := ivU_len (((x :: t).take (runLen c x (x :: t))).map (·.2))
    have h2 := runsT_len (c := c) f ((x :: t).drop (runLen c x (x :: t)))
    rw [List.length_map, List.length_take] at h1
    rw [List.length_drop] at h2
    omega
theorem idx_run {x : Tv} {rest : List Tv} : idxTomb (fun y => tombC y x != 0) rest = if runLen labelsC x.tb (rest.map Tv.tb) < rest.length then (runLen labelsC x.tb (rest.map Tv.tb) : Int) else -1 := by
  have hp : (fun y : Tv => tombC y x != 0) = (fun y : List Lb × (Int × Int) => !decide (labelsC y.1 x.tb.1 = 0)) ∘ Tv.tb := by
    funext y
    show (labelsC y.l x.l != 0) = !decide (labelsC y.l x.l = 0)
    by_cases h : labelsC y.l x.l = 0
    · simp [h]
    · simp [h]
  have he : runLen labelsC x.tb (rest.map Tv.tb) = rest.findIdx (fun y => tombC y x != 0) := by
    unfold runLen
    rw [List.findIdx_map, hp]
  rw [he]
  unfold idxTomb
  by_cases h : rest.findIdx (fun y => tombC y x != 0) < rest.length
  · rw [if_pos h, List.findIdx?_eq_some_iff_findIdx_eq.2 ⟨h, rfl⟩]
  · rw [if_neg h, List.findIdx?_eq_none_iff_findIdx_eq.2 (by have := List.findIdx_le_length (xs := rest) (p := fun y => tombC y x != 0); omega)]
end Go.Proofs.YtihidnmpngeohaaGreat
namespace Go.Proofs.YtihidnmpngeohaaGreat
open Go.RowKit Go.Lib

theorem below_drewSample {w w' : World} (h : ∃ q, w' = w.drewN q) : Below w.heap.size w w' := by
  obtain ⟨q, rfl⟩ := h
  exact below_drewN (Below.refl _ _) q
set_option maxHeartbeats 2000000 in
theorem sameSample_q (A B : Option Addr) (n ca cb : Nat) (l : List (Int × Int)) (w : World) (ha : Lst encS 2 w w.heap.size A n l) (hb : Lst encS 2 w w.heap.size B n l) (hbig : n ≤ 1000000000) :
    Calls Tryz.prog 40 #[.slice A n ca, .slice B n cb] w fun e w' => e = .returned (.bool true) ∧ ∃ q, w' = w.drewN q := by
  have HA := Lib.hid ha
  have HB := Lib.hid hb
  clear ha hb
  go_enter Tryz.func40, Tryz.ntmps40
  go_wp2
  go_loopw [5] (fun i wr => ∃ k q : Nat, k ≤ n ∧ i = .int .i64 k ∧ wr = w.drewN q) (fun i _ => n - (intOf i).toNat)
  case atStart => exact ⟨0, 0, Nat.zero_le _, rfl, rfl⟩
  case round =>
    obtain ⟨k, q, hk, rfl, rfl⟩ := hrel
    by_cases hlt : k < n
    · obtain ⟨b, off, m, rfl, hbb, hm, hc⟩ := HA.out.at hlt
      obtain ⟨b2, off2, m2, rfl, hbb2, hm2, hc2⟩ := HB.out.at hlt
      obtain rfl : m = m2 := by rw [hm] at hm2; exact Option.some.inj hm2
      have c0 := hc 0 _ rfl
      have c1 := hc 1 _ rfl
      have d0 := hc2 0 _ rfl
      have d1 := hc2 1 _ rfl
      simp only [Nat.add_zero] at c0 d0
      clear hm hm2 hc hc2
      go_wp2_with (go_quiet (fail))
      go_roundw
      case measure => simp [intOf]; omega
      case rel => exact ⟨k + 1, _, hlt, by simp, by first | rfl | exact World.drewN_drewN _ _ _⟩
    · go_wp2
      go_ret
      exact ⟨rfl, q, rfl⟩
theorem sameSample_eq (A B : Option Addr) (n ca cb : Nat) (l : List (Int × Int)) (w : World) (ha : Lst encS 2 w w.heap.size A n l) (hb : Lst encS 2 w w.heap.size B n l) (hbig : n ≤ 1000000000) :
    Calls Tryz.prog 40 #[.slice A n ca, .slice B n cb] w fun e w' => e = .returned (.bool true) ∧ Below w.heap.size w w' :=
  (sameSample_q A B n ca cb l w ha hb hbig).mono fun _ _ ⟨h1, h2⟩ => ⟨h1, below_drewSample h2⟩
end Go.Proofs.YtihidnmpngeohaaGreat
namespace Go.Proofs.YtihidnmpngeohaaGreat
open Go.RowKit Go.Lib

def mASample : Int × Int := (-71, 0)
def mBSample : Int × Int := (-72, 0)
/-- What LentSamples leaves. -/
def LentSamplePost (w : World) (l : List (Int × Int)) (n : Nat) (e : Ending) (w' : World) : Prop :=
  ∃ g c, e = .returned (.slice (some ⟨g, 0, none⟩) n c) ∧ w'.ownsRow w.heap.size 95 2 (.slice (some ⟨g, 0, none⟩) (n + 2) c) (n + 2) ((l ++ [mASample, mBSample]).flatMap encS) ∧ Below w.heap.size w w'
set_option maxHeartbeats 2000000 in
set_option maxRecDepth 100000 in
theorem lentSample_any (A : Option Addr) (n c : Nat) (l : List (Int × Int)) (w : World) (hr : Lst encS 2 w w.heap.size A n l) (hnil : A = none → n = 0 ∧ c = 0) (hbig : n ≤ 1000000000) :
    Calls Tryz.prog 78 #[.slice A n c] w (LentSamplePost w l n) := by
  obtain ⟨i0, hi, hz0, hz1, hz2⟩ := info_parts Tryz.infoSample
  have hbts : i0.bytes * (n + 2) ≤ 281474976710656 := by rw [hz2]; omega
  have HB := Lib.hid hbts
  clear hbts
  go_enter Tryz.func78, Tryz.ntmps78
  go_wp2_with (refine wpList_make_own _ rfl _ _ 90 rfl w.heap.size 95 i0 _ 2 Tryz.underlying90 hi hz0 hz1 .i64 .i64 _ (n + 2) rfl rfl (by simp) HB.out (by unfold maxLen; omega) (Nat.le_refl _) ?_)
  intro w1 hown hg
  have hb1 : Below w.heap.size w w1 := (Below.refl _ _).grown hg (Nat.le_refl _) (fun _ h => by cases h)
  have H1 := Lib.hid (show _ ∧ _ from ⟨hown, hb1⟩)
  have HLEN := Lib.hid hr.1
  have hsrc : ∀ ad, A = some ad → ∀ j u, (l.flatMap encS)[j]? = some u → w1.cell? (ad.add j) = some u := by
    rintro ad rfl
    have := (hr.below hb1).flat encS_len
    exact this
  have HS := Lib.hid hsrc
  clear hown hg hb1 hr hsrc
  cases A with
  | none =>
    obtain ⟨rfl, rfl⟩ := hnil rfl
    have hl0 : l = [] := List.length_eq_zero_iff.1 HLEN.out
    have hown2 : w1.ownsRow w.heap.size 95 2 (.slice (some ⟨w.heap.size, 0, none⟩) 0 (0 + 2)) 0 (l.flatMap encS) := by rw [hl0]; exact H1.out.1
    have HO2 := Lib.hid (show _ ∧ _ from ⟨hown2, H1.out.2⟩)
    clear hown2 HS
    go_wp2_with (at_builtin; first | refine wpList_append_own_none rfl _ _ 90 rfl w.heap.size 95 i0 2 Tryz.underlying90 hi _ 0 [] rfl H1.out.1 rfl ?_ | refine wpList_append_own _ rfl _ _ 90 rfl w.heap.size 95 i0 _ 2 16 Tryz.underlying90 hi hz0 hz1 hz2 rfl (by omega) _ 0 (l.flatMap encS) rfl (HO2.out.1.alloc _) ⟨w1.heap.size, 0, none⟩ 2 2 ([mASample, mBSample].flatMap encS) rfl rfl (cells_newL w1 ([mASample, mBSample].flatMap encS) _) (oneSample _) (by unfold maxLen; omega) (by omega) (by have := HO2.out.2.size; simp; omega) ?_)
    intro v3 w3 hown3 hg3 _
    have hown3' : w3.ownsRow w.heap.size 95 2 v3 (0 + 2) ((l ++ [mASample, mBSample]).flatMap encS) := by rw [hl0]; simpa using hown3
    clear hown3
    obtain ⟨g, cap, rfl⟩ := ownsRow_succ hown3'
    have hown3 := hown3'
    clear hown3'
    have hb3 := (HO2.out.2.alloc HO2.out.2.size _).grown hg3 (by have := HO2.out.2.size; simp; omega) (fun x hx => (HO2.out.1.lt x hx).1)
    have hcap : 2 ≤ cap := by
      rcases hown3.2 with ⟨h, _⟩ | ⟨_, _, _, h, _, _, h1, _⟩
      · cases h
      · cases h; exact h1
    have HF := Lib.hid (show _ ∧ _ from ⟨hown3, hb3⟩)
    clear hown3 hg3 hb3 hi hz0 hz1 hz2
    go_wp2
    go_ret
    exact ⟨g, cap, rfl, HF.out.1, HF.out.2⟩
  | some ad =>
    go_wp2_with (at_builtin; go_loud (refine wpList_append_own _ rfl _ _ 90 rfl w.heap.size 95 i0 _ 2 16 Tryz.underlying90 hi hz0 hz1 hz2 rfl (by omega) _ 0 [] rfl H1.out.1 ad n c (l.flatMap encS) rfl (by rw [flatMap_length (enc := encS) (size := 2) encS_len, HLEN.out]) (HS.out ad rfl) (oneSample _) (by unfold maxLen; omega) (by omega) H1.out.2.size ?_))
    intro v2 w2 hown2 hg2 _
    have hb2 := H1.out.2.grown hg2 H1.out.2.size (fun x hx => (H1.out.1.lt x hx).1)
    clear hg2 H1 HS
    have HO2 := Lib.hid (show _ ∧ _ from ⟨hown2, hb2⟩)
    clear hown2 hb2
    go_wp2_with (at_builtin; go_loud (refine wpList_append_own _ rfl _ _ 90 rfl w.heap.size 95 i0 _ 2 16 Tryz.underlying90 hi hz0 hz1 hz2 rfl (by omega) _ n (l.flatMap encS) rfl (HO2.out.1.alloc _) ⟨w2.heap.size, 0, none⟩ 2 2 ([mASample, mBSample].flatMap encS) rfl rfl (cells_newL w2 ([mASample, mBSample].flatMap encS) _) (oneSample _) (by unfold maxLen; omega) (by omega) (by have := HO2.out.2.size; simp; omega) ?_))
    intro v3 w3 hown3 hg3 _
    have hown3' : w3.ownsRow w.heap.size 95 2 v3 (n + 2) ((l ++ [mASample, mBSample]).flatMap encS) := by simpa [List.flatMap_append] using hown3
    clear hown3
    obtain ⟨g, cap, rfl⟩ := ownsRow_succ hown3'
    have hown3 := hown3'
    clear hown3'
    have hb3 := (HO2.out.2.alloc HO2.out.2.size _).grown hg3 (by have := HO2.out.2.size; simp; omega) (fun x hx => (HO2.out.1.lt x hx).1)
    have hcap : n + 2 ≤ cap := by
      rcases hown3.2 with ⟨h, _⟩ | ⟨_, _, _, h, _, _, h1, _⟩
      · cases h
      · cases h; exact h1
    have HF := Lib.hid (show _ ∧ _ from ⟨hown3, hb3⟩)
    clear hown3 hg3 hb3 hi hz0 hz1 hz2
    go_wp2
    go_ret
    exact ⟨g, cap, rfl, HF.out.1, HF.out.2⟩
end Go.Proofs.YtihidnmpngeohaaGreat
