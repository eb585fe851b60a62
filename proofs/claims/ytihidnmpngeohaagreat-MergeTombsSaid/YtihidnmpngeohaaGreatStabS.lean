/- The stable sort of samples: slices.SortStableFunc by their times leaves them sorted, those of one time in their order. -/
import Derived.Test.YtihidnmpngeohaaGreatSamples
import Derived.Test.YtihidnmpngeohaaGreatG08
import Derived.Test.YtihidnmpngeohaaGreatStabSamD
import Derived.Test.YtihidnmpngeohaaGreatIvs
import Derived.LoopN
namespace Go.Proofs.YtihidnmpngeohaaGreat
open Go.RowKit Go.Lib Go.Sort

abbrev Tx := (Int × Int) × Nat
def encT (x : Tx) : List Value := [.int .i64 x.1.1, .int .u64 x.1.2]
theorem encT_len (x : Tx) : (encT x).length = 2 := rfl
def cmpT (x y : Tx) : Int := Lib.compareInt x.1.1 y.1.1
theorem cmpT_lt (x y : Tx) : ltOf cmpT x y = decide (x.1.1 < y.1.1) := by
  unfold ltOf cmpT Lib.compareInt
  by_cases h1 : x.1.1 < y.1.1
  · simp [h1]
  · by_cases h2 : y.1.1 < x.1.1 <;> simp [h1, h2]
theorem cmpT_swo : SWO (ltOf cmpT) where
  irrefl x := by rw [cmpT_lt]; simp
  trans x y z h1 h2 := by rw [cmpT_lt] at *; simp at *; omega
  ntrans x y z h1 h2 := by rw [cmpT_lt] at *; simp at *; omega
theorem zip_enc (l : List (Int × Int)) : l.zipIdx.flatMap encT = l.flatMap encS := by
  conv => rhs; rw [← List.zipIdx_map_fst 0 l]
  rw [List.flatMap_map]; rfl
theorem map_enc (l : List Tx) : l.flatMap encT = (l.map (·.1)).flatMap encS := by rw [List.flatMap_map]; rfl
theorem stable_is {l : List (Int × Int)} {d' : Array Tx} (hp : PermIn 0 l.zipIdx.toArray.size l.zipIdx.toArray d') (hs : SortedR (ltOf cmpT) (fun x => x.2) 0 l.zipIdx.toArray.size d') : d'.toList.map (·.1) = sortS l := by
  have hsz : d'.size = l.zipIdx.length := by have := hp.1; simpa using this
  have hperm : d'.toList.Perm l.zipIdx := by
    have := hp.2.2
    rw [show (l.zipIdx.toArray.extract 0 l.zipIdx.toArray.size).toList = l.zipIdx by simp; exact List.take_of_length_le (by simp), show (d'.extract 0 l.zipIdx.toArray.size).toList = d'.toList by rw [show l.zipIdx.toArray.size = d'.size by rw [hsz]; simp]; simp] at this
    exact this
  let le : Int × Int → Int × Int → Bool := fun a b => decide (a.1 ≤ b.1)
  have hle : ∀ x y : Tx, List.zipIdxLE le x y = true ↔ (x.1.1 < y.1.1 ∨ (x.1.1 = y.1.1 ∧ x.2 ≤ y.2)) := by
    intro x y; unfold List.zipIdxLE; simp only [le]
    by_cases h1 : x.1.1 ≤ y.1.1
    · by_cases h2 : y.1.1 ≤ x.1.1
      · simp [h1, h2]; omega
      · simp [h1, h2]; omega
    · simp [h1]; omega
  have h1 : d'.toList.Pairwise (fun x y => List.zipIdxLE le x y = true) := by
    rw [List.pairwise_iff_getElem]; intro i j hi hj hij
    rw [Array.length_toList] at hi hj
    have := hs i j (Nat.zero_le _) hij (by rw [List.size_toArray]; omega)
    rw [getElem!_pos d' j hj, getElem!_pos d' i hi] at this
    simp only [Array.getElem_toList]; rw [hle]
    rcases this with h | ⟨h, h'⟩
    · rw [cmpT_lt] at h; simp only [decide_eq_true_eq] at h; exact .inl h
    · rw [cmpT_lt] at h; simp only [decide_eq_false_iff_not] at h
      have h2 : d'[i].2 < d'[j].2 := h'
      omega
  have h2 : (l.zipIdx.mergeSort (List.zipIdxLE le)).Pairwise (fun x y => List.zipIdxLE le x y = true) :=
    List.pairwise_mergeSort (fun a b c h g => by have h := (hle _ _).1 h; have g := (hle _ _).1 g; exact (hle _ _).2 (by omega)) (fun a b => by rw [Bool.or_eq_true, hle a b, hle b a]; omega) _
  have h3 : d'.toList = l.zipIdx.mergeSort (List.zipIdxLE le) := by
    refine List.Perm.eq_of_pairwise (fun a b ha hb h g => ?_) h1 h2 (hperm.trans (List.mergeSort_perm _ _).symm)
    have ha' := List.mem_zipIdx' (hperm.mem_iff.1 ha)
    have hb' := List.mem_zipIdx' ((List.mergeSort_perm _ _).mem_iff.1 hb)
    have e : a.2 = b.2 := by rw [hle] at h g; omega
    refine Prod.ext ?_ e
    rw [ha'.2, hb'.2]; simp only [e]
  rw [h3, List.mergeSort_zipIdx]; rfl
set_option maxHeartbeats 1000000 in
theorem samCmp (x y : Tx) (W : World) : Calls Tryz.prog 104 (#[.agg (encT x).toArray, .agg (encT y).toArray] ++ #[]) W fun e w' => e = .returned (.int .i64 (cmpT x y)) ∧ ∃ q os', w' = grow (W.drewN q) os' := by
  have hcon := fun W' => compare_i64 x.1.1 y.1.1 W'
  change ∀ W', Calls _ _ _ _ (fun e w' => e = .returned (.int .i64 (cmpT x y)) ∧ w' = W') at hcon
  show Calls _ _ #[.agg #[.int .i64 x.1.1, .int .u64 x.1.2], .agg #[.int .i64 y.1.1, .int .u64 y.1.2]] W _
  generalize cmpT x y = r at hcon ⊢
  go_enter Tryz.func104, Tryz.ntmps104
  go_wp2_with (go_at_call 101; refine (hcon _).mono ?_; rintro e w' ⟨rfl, rfl⟩)
  go_ret
  exact ⟨rfl, 0, _, by rw [alloc_eq_grow, alloc_eq_grow, grow_grow]; rfl⟩
theorem tags_in (l : List (Int × Int)) : TagsIn (fun x : Tx => x.2) 0 l.zipIdx.toArray.size l.zipIdx.toArray := by
  have h : ∀ i, i < l.zipIdx.toArray.size → (l.zipIdx.toArray[i]!).2 = i := fun i hi => by
    rw [getElem!_pos _ i hi, List.getElem_toArray, List.getElem_zipIdx]; simp
  intro i j _ hij hj
  show (l.zipIdx.toArray[i]!).2 < (l.zipIdx.toArray[j]!).2
  rw [h i (by omega), h j hj]
  exact hij
theorem encT_one (x : Tx) : ∀ v ∈ encT x, v.oneCell' = true := by
  intro v hv
  simp only [encT, List.mem_cons, List.not_mem_nil, or_false] at hv
  rcases hv with rfl | rfl <;> rfl
set_option maxHeartbeats 1000000 in
theorem insertion_none (c : Nat) (f : Value) (w : World) : Calls Tryz.prog 162 #[.slice none 0 c, .int .i64 0, .int .i64 0, f] w fun e w' => e = .returned (.tuple #[]) ∧ w' = w := by
  go_enter Tryz.func162, Tryz.ntmps162
  go_wp2
  refine wp_loop_rounds 1 ?_
  rw [rounds_succ]
  go_wp2
  go_end0
  exact ⟨rfl, rfl⟩
set_option maxHeartbeats 1000000 in
theorem stable_none (c : Nat) (f : Value) (w : World) : Calls Tryz.prog 133 #[.slice none 0 c, .int .i64 0, f] w fun e w' => e = .returned (.tuple #[]) ∧ w' = w := by
  go_enter Tryz.func133, Tryz.ntmps133
  go_wp2
  refine wp_loop_rounds 1 ?_
  rw [rounds_succ]
  go_wp2_with fail
  refine (insertion_none c f _).mono ?_
  rintro e w' ⟨rfl, rfl⟩
  go_wp2
  refine wp_loop_rounds 1 ?_
  rw [rounds_succ]
  go_wp2
  go_end0
  exact ⟨rfl, rfl⟩
set_option maxHeartbeats 1000000 in
theorem sortStable_none (c : Nat) (f : Value) (w : World) : Calls Tryz.prog 103 #[.slice none 0 c, f] w fun e w' => e = .returned (.tuple #[]) ∧ w' = w := by
  go_enter Tryz.func103, Tryz.ntmps103
  go_wp2_with fail
  refine (stable_none c f _).mono ?_
  rintro e w' ⟨rfl, rfl⟩
  go_wp2
  go_end0
  exact ⟨rfl, rfl⟩
theorem sortsStable (m : Nat) (hm : m ≤ 1000000000) : SortsStable m := by
  intro A n c l w B ho hn
  have hll := owns_len ho encS_len (by omega)
  have eg : ∀ args w, (callFunc 104 args).run Tryz.prog w = .ok (.enter 104 args) w := enters_of Tryz.func104 (by kernel_rfl) rfl
  rcases A with _ | ad
  · have hn0 : n = 0 := by
      rcases ho.2 with ⟨_, h⟩ | ⟨_, _, _, h, _⟩
      · exact h
      · cases h
    subst hn0
    have hl0 : l = [] := List.length_eq_zero_iff.1 hll
    subst hl0
    refine (sortStable_none c _ w).mono ?_
    rintro e w' ⟨rfl, rfl⟩
    have e : sortS [] = [] := by simp [sortS]
    exact ⟨rfl, by rw [e]; exact ho, grownBy_refl _ _⟩
  · obtain ⟨g, rfl, hg⟩ : ∃ g, ad = ⟨g, 0, none⟩ ∧ g < w.heap.size := by
      rcases ho.2 with ⟨h, _⟩ | ⟨g, _, _, h, _, h', _⟩
      · cases h
      · injection h with h _ _; injection h with h; exact ⟨g, h, (Array.getElem?_eq_some_iff.1 h').1⟩
    have hoT : w.ownsRow B 95 2 (.slice (some ⟨g, 0, none⟩) n c) n (l.zipIdx.flatMap encT) := by rw [zip_enc]; exact ho
    have hzl : l.zipIdx.toArray.size = n := by simpa using hll
    have hcmp : CmpLays Tryz.prog 104 #[] encT 2 cmpT g 0 l.zipIdx.toArray.size w := fun _ _ _ _ x y => samCmp x y _
    have R : RowS encT w g 0 l.zipIdx.toArray := ⟨⟨encT_len, encT_one, holdsK_own encT_len hoT, hg⟩, fun x => ⟨x.1.1, x.1.2, rfl⟩⟩
    refine (sortStable_sam encT cmpT (fun x => x.2) 104 #[] g 0 c n l.zipIdx.toArray w eg cmpT_swo hcmp R hzl (by omega) (tags_in l)).mono ?_
    rintro e w' ⟨rfl, d', ⟨q, os, rfl⟩, hp, hs⟩
    have hsz : d'.size = l.zipIdx.length := by have := hp.1; simpa using this
    obtain ⟨h1, h2⟩ := ownsK_sorted encT_len hoT q os d' hsz (by simpa using hll)
    refine ⟨rfl, ?_, h2⟩
    rw [map_enc, stable_is hp hs] at h1
    exact h1
end Go.Proofs.YtihidnmpngeohaaGreat
