/- slices.SortStableFunc at []api.Sample, of whatever length: a permutation of what the row held, in the order in which ties go by a tag that rises. The stable sort of samples: slices.SortStableFunc by their times leaves them sorted, those of one time in their order. -/
import Derived.Test.YtihidnmpngeohaaGreatStabSamC
import Derived.Test.YtihidnmpngeohaaGreatG21
import Derived.Test.YtihidnmpngeohaaGreatG04
import Derived.Shelf.SlSortCmp.PdqK
import Derived.Test.YtihidnmpngeohaaGreatSamples
import Derived.Test.YtihidnmpngeohaaGreatIvs
import Derived.LoopN
namespace Go.Proofs.YtihidnmpngeohaaGreat
open Go.RowKit Go.Lib Go.Sort
variable {α : Type} [Inhabited α]

theorem symMerge_sam (enc : α → List Value) (cf : α → α → Int) (tag : α → Nat) (g : Nat) (cb : Array Value) (blk off cap L : Nat) (d0 : Array α) (w0 : World)
    (eg : ∀ args w, (callFunc g args).run Tryz.prog w = .ok (.enter g args) w) (hO : SWO (ltOf cf)) (hcmp : CmpLays Tryz.prog g cb enc 2 cf blk off d0.size w0) (R : RowS enc w0 blk off d0) (hsz : d0.size < 1152921504606846976) :
    ∀ (r a m b : Nat) (d : Array α) (w : World) (A M B : Int), b - a ≤ r → a < m → m < b → b ≤ d.size → d.size = L → d0.size = d.size → Runs (ltOf cf) tag a m b d → SWK enc 2 w0 blk off d w → A = (a : Int) → M = (m : Int) → B = (b : Int) →
    Calls Tryz.prog 163 #[.slice (some ⟨blk, off, none⟩) L cap, .int .i64 A, .int .i64 M, .int .i64 B, .func (.func g) #[] cb] w fun e w' =>
      e = .returned (.tuple #[]) ∧ ∃ d', SWK enc 2 w0 blk off d' w' ∧ PermIn a b d d' ∧ SortedR (ltOf cf) tag a b d' := by
  intro r
  induction r with
  | zero => intro a m b d w A M B hr; omega
  | succ r ih =>
    intro a m b d w A M B hr ham hmb hb hL hs hR S hA hM hB
    by_cases h1 : m = a + 1
    · exact symMerge_sam_left enc cf tag g cb blk off cap L a m b A M B d0 d w0 w eg hO hcmp R hs S hL hA hM hB h1 hmb hb (by omega) hR
    · by_cases h2 : b = m + 1
      · exact symMerge_sam_right enc cf tag g cb blk off cap L a m b A M B d0 d w0 w eg hO hcmp R hs S hL hA hM hB (by omega) h2 hb (by omega) hR
      · by_cases h3 : (a + b) / 2 < m
        · exact symMerge_sam_step enc cf tag g cb blk off cap L a m b ((a + b) / 2) ((a + b) / 2 + m - b) ((a + b) / 2) A M B d0 d w0 w eg hO hcmp R hs S hL hA hM hB (by omega) (by omega) hb (by omega) hR rfl (.inl ⟨h3, by omega, rfl⟩)
            (fun a' m' b' d' w' A' M' B' q1 q2 q3 q4 q5 q6 q7 q8 q9 q10 => ih a' m' b' d' w' A' M' B' (by omega) q2 q3 q4 (by omega) (by omega) q6 q7 q8 q9 q10)
        · exact symMerge_sam_step enc cf tag g cb blk off cap L a m b ((a + b) / 2) a m A M B d0 d w0 w eg hO hcmp R hs S hL hA hM hB (by omega) (by omega) hb (by omega) hR rfl (.inr ⟨by omega, rfl, rfl⟩)
            (fun a' m' b' d' w' A' M' B' q1 q2 q3 q4 q5 q6 q7 q8 q9 q10 => ih a' m' b' d' w' A' M' B' (by omega) q2 q3 q4 (by omega) (by omega) q6 q7 q8 q9 q10)

theorem insertion_sam (enc : α → List Value) (cf : α → α → Int) (g : Nat) (cb : Array Value) (blk off cap L a b : Nat) (A B : Int) (d0 d : Array α) (w0 w : World)
    (eg : ∀ args w, (callFunc g args).run Tryz.prog w = .ok (.enter g args) w) (hO : SWO (ltOf cf)) (hcmp : CmpLays Tryz.prog g cb enc 2 cf blk off d0.size w0) (R : RowS enc w0 blk off d0) (hs : d0.size = d.size) (S : SWK enc 2 w0 blk off d w)
    (hL : d.size = L) (hA : A = (a : Int)) (hB : B = (b : Int)) (hab : a ≤ b) (hb : b ≤ d.size) (hsz : d.size < 1152921504606846976) :
    Calls Tryz.prog 162 #[.slice (some ⟨blk, off, none⟩) L cap, .int .i64 A, .int .i64 B, .func (.func g) #[] cb] w fun e w' =>
      e = .returned (.tuple #[]) ∧ SWK enc 2 w0 blk off (Sort.insertionSort (ltOf cf) d a b) w' := by
  subst hL hA hB
  exact AnyQ.insertionSortCmpFunc_w Tryz.insSample 2 Tryz.isAgg95 Tryz.sizeOf95 enc cf g cb blk off cap a b d0 d w0 w eg hcmp R.toRowK hs S hO hab hb (by omega)

set_option maxHeartbeats 2000000 in
set_option maxRecDepth 1000000 in
theorem stable_sam (enc : α → List Value) (cf : α → α → Int) (tag : α → Nat) (g : Nat) (cb : Array Value) (blk off cap L : Nat) (N : Int) (d : Array α) (w : World)
    (eg : ∀ args w, (callFunc g args).run Tryz.prog w = .ok (.enter g args) w) (hO : SWO (ltOf cf)) (hcmp : CmpLays Tryz.prog g cb enc 2 cf blk off d.size w) (R : RowS enc w blk off d) (hL : d.size = L) (hN : N = (L : Int)) (hsz : d.size < 1152921504606846976)
    (ht : TagsIn tag 0 d.size d) :
    Calls Tryz.prog 133 #[.slice (some ⟨blk, off, none⟩) L cap, .int .i64 N, .func (.func g) #[] cb] w fun e w' =>
      e = .returned (.tuple #[]) ∧ ∃ d', SWK enc 2 w blk off d' w' ∧ PermIn 0 d.size d d' ∧ SortedR (ltOf cf) tag 0 d.size d' := by
  subst hL hN
  have HC : Aside _ := hcmp
  have S0 : Aside (SWK enc 2 w blk off d w) := SWK.start R.hH
  have HT := Lib.hid ht
  clear hcmp ht
  go_enter Tryz.func133, Tryz.ntmps133
  go_wp2
  go_loopg [7, 8] (d.size) (fun g1 va vb wr => ∃ (a : Nat) (dk : Array α), va = .int .i64 a ∧ vb = .int .i64 (a + 20) ∧ a ≤ d.size ∧ d.size - a ≤ g1 ∧ Hid (20 ∣ a) ∧ Hid (dk.size = d.size) ∧ Hid (PermIn 0 d.size d dk ∧ FirstB (ltOf cf) tag 20 d.size a dk) ∧ Aside (SWK enc 2 w blk off dk wr))
  case atStart => exact ⟨0, d, rfl, rfl, Nat.zero_le _, by omega, Nat.dvd_zero _, rfl, ⟨permIn_refl _ _ _, FirstB.start (by omega) HT.out⟩, S0⟩
  case round =>
    clear S0
    obtain ⟨a, dk, rfl, rfl, ha, hg1, hd, hsk, HP, S1⟩ := hrel
    by_cases hlt : a + 20 ≤ d.size
    · have hz : (a : Int) + 20 ≤ (d.size : Int) := by omega
      obtain ⟨s1, p1⟩ := insertionSort_R (lt := ltOf cf) (tag := tag) hO a (a + 20) dk (by omega) (by have := hsk.out; omega) (fun i j hi hij hj => HP.out.2.f3 i j hi hij (by omega))
      have PP := Lib.hid (And.intro s1 p1)
      clear s1 p1
      go_wp2_with fail
      refine (insertion_sam enc cf g cb blk off cap _ a (a + 20) _ _ d dk w _ eg hO HC.out R (by have := hsk.out; omega) S1.out hsk.out rfl (by omega) (by omega) (by have := hsk.out; omega) (by have := hsk.out; omega)).mono ?_
      rintro e w' ⟨rfl, S2⟩
      have S3 : Aside _ := S2
      clear S2
      go_wp2
      go_roundg (d.size - (a + 20))
      case measure => omega
      case rel => exact ⟨a + 20, _, by go_num, by go_num, hlt, Nat.le_refl _, (show 20 ∣ a + 20 from Nat.dvd_add hd.out (Nat.dvd_refl _)), (show _ = _ from by rw [PP.out.2.1, hsk.out]), ⟨permIn_trans _ _ _ _ _ HP.out.1 (permIn_mono _ _ _ _ _ _ (Nat.zero_le _) hlt (by have := hsk.out; omega) PP.out.2), HP.out.2.step hd.out hlt (by have := hsk.out; omega) PP.out.2 PP.out.1⟩, S3⟩
    · have hz : ¬ (a : Int) + 20 ≤ (d.size : Int) := by omega
      obtain ⟨s1, p1⟩ := insertionSort_R (lt := ltOf cf) (tag := tag) hO a d.size dk ha (by have := hsk.out; omega) HP.out.2.f3
      have hp2 := permIn_trans _ _ _ _ _ HP.out.1 (permIn_mono _ _ _ _ _ _ (Nat.zero_le _) (Nat.le_refl _) (by have := hsk.out; omega) p1)
      have hb2 := HP.out.2.done hd.out ha (by omega) (by have := hsk.out; omega) p1 s1
      have hs2 : (insertionSort (ltOf cf) dk a d.size).size = d.size := by rw [p1.1, hsk.out]
      have PP := Lib.hid (And.intro hp2 hb2)
      have HS2 := Lib.hid hs2
      clear s1 p1 hp2 hb2 hs2
      go_wp2_with fail
      refine (insertion_sam enc cf g cb blk off cap _ a d.size _ _ d dk w _ eg hO HC.out R (by have := hsk.out; omega) S1.out hsk.out rfl rfl ha (by have := hsk.out; omega) (by have := hsk.out; omega)).mono ?_
      rintro e w' ⟨rfl, S2⟩
      have S3 : Aside _ := S2
      clear S2 S1 HP
      generalize hd2 : insertionSort (ltOf cf) dk a d.size = d2 at *
      clear hd2
      go_wp2
      go_loopg [6, 7, 8, 9] (d.size) (fun g1 vs va vb vm wr => ∃ (bs : Nat) (d2 : Array α), vs = .int .i64 bs ∧ 20 ≤ bs ∧ bs < 2305843009213693952 ∧ d.size - bs ≤ g1 ∧ Hid (d2.size = d.size) ∧ Hid (PermIn 0 d.size d d2 ∧ Blocks (ltOf cf) tag bs d.size d2) ∧ Aside (SWK enc 2 w blk off d2 wr))
      case atStart => exact ⟨20, d2, rfl, Nat.le_refl _, by omega, by omega, HS2, PP, S3⟩
      case round =>
        clear S3 PP HS2 hsk hd
        clear d2
        obtain ⟨bs, d2, rfl, hb20, hbb, hg2, hs2, HP, S4⟩ := hrel
        by_cases hlt2 : bs < d.size
        · have hz2 : (bs : Int) < (d.size : Int) := by omega
          go_wp2
          go_loopg [7, 8] (d.size) (fun g3 va vb wr => ∃ (a : Nat) (d3 : Array α), va = .int .i64 a ∧ vb = .int .i64 ((a : Int) + 2 * (bs : Int)) ∧ a ≤ d.size ∧ d.size - a ≤ g3 ∧ Hid (2 * bs ∣ a) ∧ Hid (d3.size = d.size) ∧ Hid (PermIn 0 d.size d d3 ∧ HalfB (ltOf cf) tag bs d.size a d3) ∧ Aside (SWK enc 2 w blk off d3 wr))
          case atStart => exact ⟨0, d2, rfl, by go_num, Nat.zero_le _, by omega, Nat.dvd_zero _, hs2, ⟨HP.out.1, HP.out.2.half (by omega)⟩, S4⟩
          case round =>
            clear S4 HP hs2
            clear d2
            obtain ⟨a, d3, rfl, rfl, ha, hg3, hd3, hs3, HP3, S5⟩ := hrel
            by_cases hlt3 : a + 2 * bs ≤ d.size
            · have hz3 : (a : Int) + 2 * (bs : Int) ≤ (d.size : Int) := by omega
              have hr := HP3.out.2.runs hd3.out (b := a + 2 * bs) (by omega) hlt3 (Nat.le_refl _)
              have HR := Lib.hid hr
              clear hr
              go_wp2_with fail
              refine (symMerge_sam enc cf tag g cb blk off cap _ d w eg hO HC.out R hsz _ a (a + bs) (a + 2 * bs) d3 _ _ _ _ (Nat.le_refl _) (by omega) (by omega) (by have := hs3.out; omega) hs3.out hs3.out.symm HR.out S5.out rfl (by omega) (by omega)).mono ?_
              rintro e w' ⟨rfl, d4, S6, p4, s4⟩
              have S7 : Aside _ := S6
              have P4 := Lib.hid (And.intro p4 s4)
              clear S6 p4 s4
              go_wp2
              go_roundg (d.size - (a + 2 * bs))
              case measure => omega
              case rel => exact ⟨a + 2 * bs, d4, by go_num, (by first | rfl | (congr 1; omega) | go_num), hlt3, Nat.le_refl _, (show 2 * bs ∣ a + 2 * bs from Nat.dvd_add hd3.out (Nat.dvd_refl _)), (show _ = _ from by rw [P4.out.1.1, hs3.out]), ⟨permIn_trans _ _ _ _ _ HP3.out.1 (permIn_mono _ _ _ _ _ _ (Nat.zero_le _) hlt3 (by have := hs3.out; omega) P4.out.1), HP3.out.2.step hd3.out hlt3 (by have := hs3.out; omega) P4.out.1 P4.out.2⟩, S7⟩
            · have hz3 : ¬ (a : Int) + 2 * (bs : Int) ≤ (d.size : Int) := by omega
              by_cases hlt4 : a + bs < d.size
              · have hz4 : (a : Int) + (bs : Int) < (d.size : Int) := by omega
                have hr := HP3.out.2.runs hd3.out (b := d.size) hlt4 (Nat.le_refl _) (by omega)
                have HR := Lib.hid hr
                clear hr
                go_wp2_with fail
                refine (symMerge_sam enc cf tag g cb blk off cap _ d w eg hO HC.out R hsz _ a (a + bs) d.size d3 _ _ _ _ (Nat.le_refl _) (by omega) hlt4 (by have := hs3.out; omega) hs3.out hs3.out.symm HR.out S5.out rfl (by omega) rfl).mono ?_
                rintro e w' ⟨rfl, d4, S6, p4, s4⟩
                have S7 : Aside _ := S6
                have P4 := Lib.hid (And.intro p4 s4)
                clear S6 p4 s4
                go_wp2
                go_roundg (d.size - 2 * bs)
                case measure => omega
                case rel => exact ⟨2 * bs, d4, (by first | rfl | (congr 1; omega) | go_num), by omega, by omega, Nat.le_refl _, (show _ = _ from by rw [P4.out.1.1, hs3.out]), ⟨permIn_trans _ _ _ _ _ HP3.out.1 (permIn_mono _ _ _ _ _ _ (Nat.zero_le _) (Nat.le_refl _) (by have := hs3.out; omega) P4.out.1), HP3.out.2.done hd3.out ha (by omega) (by have := hs3.out; omega) P4.out.1 P4.out.2⟩, S7⟩
              · have hz4 : ¬ (a : Int) + (bs : Int) < (d.size : Int) := by omega
                go_wp2
                go_roundg (d.size - 2 * bs)
                case measure => omega
                case rel => exact ⟨2 * bs, d3, (by first | rfl | (congr 1; omega) | go_num), by omega, by omega, Nat.le_refl _, hs3, ⟨HP3.out.1, HP3.out.2.done hd3.out ha (by omega) (by have := hs3.out; omega) (permIn_refl _ _ _) (HP3.out.2.rest hd3.out (by omega))⟩, S5⟩
        · have hz2 : ¬ (bs : Int) < (d.size : Int) := by omega
          go_wp2
          go_end0
          exact ⟨rfl, d2, S4.out, HP.out.1, HP.out.2.whole (by omega)⟩

/-- slices.SortStableFunc at []api.Sample. -/
theorem sortStable_sam (enc : α → List Value) (cf : α → α → Int) (tag : α → Nat) (g : Nat) (cb : Array Value) (blk off cap L : Nat) (d : Array α) (w : World)
    (eg : ∀ args w, (callFunc g args).run Tryz.prog w = .ok (.enter g args) w) (hO : SWO (ltOf cf)) (hcmp : CmpLays Tryz.prog g cb enc 2 cf blk off d.size w) (R : RowS enc w blk off d) (hL : d.size = L) (hsz : d.size < 1152921504606846976)
    (ht : TagsIn tag 0 d.size d) :
    Calls Tryz.prog 103 #[.slice (some ⟨blk, off, none⟩) L cap, .func (.func g) #[] cb] w fun e w' =>
      e = .returned (.tuple #[]) ∧ ∃ d', SWK enc 2 w blk off d' w' ∧ PermIn 0 d.size d d' ∧ SortedR (ltOf cf) tag 0 d.size d' := by
  subst hL
  have hc := stable_sam enc cf tag g cb blk off cap _ _ d w eg hO hcmp R rfl rfl hsz ht
  have HC := Lib.hid hc
  clear hc hcmp ht
  go_enter Tryz.func103, Tryz.ntmps103
  go_wp2_with fail
  refine HC.out.mono ?_
  rintro e w' ⟨rfl, d', S, hp, hs⟩
  have S1 : Aside _ := S
  have P := Lib.hid (And.intro hp hs)
  clear S hp hs
  go_wp2
  go_end0
  exact ⟨rfl, d', S1.out, P.out.1, P.out.2⟩
end Go.Proofs.YtihidnmpngeohaaGreat
namespace Go.Proofs.YtihidnmpngeohaaGreat
open Go.RowKit Go.Lib Go.Sort

abbrev Tx := (Int × Int) × Nat
def encT (x : Tx) : List Value := [.int .i64 x.1.1, .int .u64 x.1.2]
theorem encT_len (x : Tx) : (encT x).length = 2 := rfl
def cmpT (x y : Tx) : Int := Lib.compareInt x.1.1 y.1.1
theorem cmpT_lt (x y : Tx) : ltOf cmpT x y = decide (x.1.1 < y.1.1) := by
  unfold ltOf cmpT Lib.compareInt
  by_cases h1 : x.1.1 < y.1.1
  · simp [h1]
  · by_cases h2 : y.1.1 < x.1.1 <;> simp [h1, h2]
theorem cmpT_swo : SWO (ltOf cmpT) where
  irrefl x := by rw [cmpT_lt]; simp
  trans x y z h1 h2 := by rw [cmpT_lt] at *; simp at *; omega
  ntrans x y z h1 h2 := by rw [cmpT_lt] at *; simp at *; omega
theorem zip_enc (l : List (Int × Int)) : l.zipIdx.flatMap encT = l.flatMap encS := by
  conv => rhs; rw [← List.zipIdx_map_fst 0 l]
  rw [List.flatMap_map]; rfl
theorem map_enc (l : List Tx) : l.flatMap encT = (l.map (·.1)).flatMap encS := by rw [List.flatMap_map]; rfl
theorem stable_is {l : List (Int × Int)} {d' : Array Tx} (hp : PermIn 0 l.zipIdx.toArray.size l.zipIdx.toArray d') (hs : SortedR (ltOf cmpT) (fun x => x.2) 0 l.zipIdx.toArray.size d') : d'.toList.map (·.1) = sortS l := by
  have hsz : d'.size = l.zipIdx.length := by have := hp.1; simpa using this
  have hperm : d'.toList.Perm l.zipIdx := by
    have := hp.2.2
    rw [show (l.zipIdx.toArray.extract 0 l.zipIdx.toArray.size).toList = l.zipIdx by simp; exact List.take_of_length_le (by simp), show (d'.extract 0 l.zipIdx.toArray.size).toList = d'.toList by rw [show l.zipIdx.toArray.size = d'.size by rw [hsz]; simp]; simp] at this
    exact this
  let le : Int × Int → Int × Int → Bool := fun a b => decide (a.1 ≤ b.1)
  have hle : ∀ x y : Tx, List.zipIdxLE le x y = true ↔ (x.1.1 < y.1.1 ∨ (x.1.1 = y.1.1 ∧ x.2 ≤ y.2)) := by
    intro x y; unfold List.zipIdxLE; simp only [le]
    by_cases h1 : x.1.1 ≤ y.1.1
    · by_cases h2 : y.1.1 ≤ x.1.1
      · simp [h1, h2]; omega
      · simp [h1, h2]; omega
    · simp [h1]; omega
  have h1 : d'.toList.Pairwise (fun x y => List.zipIdxLE le x y = true) := by
    rw [List.pairwise_iff_getElem]; intro i j hi hj hij
    rw [Array.length_toList] at hi hj
    have := hs i j (Nat.zero_le _) hij (by rw [List.size_toArray]; omega)
    rw [getElem!_pos d' j hj, getElem!_pos d' i hi] at this
    simp only [Array.getElem_toList]; rw [hle]
    rcases this with h | ⟨h, h'⟩
    · rw [cmpT_lt] at h; simp only [decide_eq_true_eq] at h; exact .inl h
    · rw [cmpT_lt] at h; simp only [decide_eq_false_iff_not] at h
      have h2 : d'[i].2 < d'[j].2 := h'
      omega
  have h2 : (l.zipIdx.mergeSort (List.zipIdxLE le)).Pairwise (fun x y => List.zipIdxLE le x y = true) :=
    List.pairwise_mergeSort (fun a b c h g => by have h := (hle _ _).1 h; have g := (hle _ _).1 g; exact (hle _ _).2 (by omega)) (fun a b => by rw [Bool.or_eq_true, hle a b, hle b a]; omega) _
  have h3 : d'.toList = l.zipIdx.mergeSort (List.zipIdxLE le) := by
    refine List.Perm.eq_of_pairwise (fun a b ha hb h g => ?_) h1 h2 (hperm.trans (List.mergeSort_perm _ _).symm)
    have ha' := List.mem_zipIdx' (hperm.mem_iff.1 ha)
    have hb' := List.mem_zipIdx' ((List.mergeSort_perm _ _).mem_iff.1 hb)
    have e : a.2 = b.2 := by rw [hle] at h g; omega
    refine Prod.ext ?_ e
    rw [ha'.2, hb'.2]; simp only [e]
  rw [h3, List.mergeSort_zipIdx]; rfl
set_option maxHeartbeats 1000000 in
theorem samCmp (x y : Tx) (W : World) : Calls Tryz.prog 104 (#[.agg (encT x).toArray, .agg (encT y).toArray] ++ #[]) W fun e w' => e = .returned (.int .i64 (cmpT x y)) ∧ ∃ q os', w' = grow (W.drewN q) os' := by
  have hcon := fun W' => compare_i64 x.1.1 y.1.1 W'
  change ∀ W', Calls _ _ _ _ (fun e w' => e = .returned (.int .i64 (cmpT x y)) ∧ w' = W') at hcon
  show Calls _ _ #[.agg #[.int .i64 x.1.1, .int .u64 x.1.2], .agg #[.int .i64 y.1.1, .int .u64 y.1.2]] W _
  generalize cmpT x y = r at hcon ⊢
  go_enter Tryz.func104, Tryz.ntmps104
  go_wp2_with (go_at_call 101; refine (hcon _).mono ?_; rintro e w' ⟨rfl, rfl⟩)
  go_ret
  exact ⟨rfl, 0, _, by rw [alloc_eq_grow, alloc_eq_grow, grow_grow]; rfl⟩
theorem tags_in (l : List (Int × Int)) : TagsIn (fun x : Tx => x.2) 0 l.zipIdx.toArray.size l.zipIdx.toArray := by
  have h : ∀ i, i < l.zipIdx.toArray.size → (l.zipIdx.toArray[i]!).2 = i := fun i hi => by
    rw [getElem!_pos _ i hi, List.getElem_toArray, List.getElem_zipIdx]; simp
  intro i j _ hij hj
  show (l.zipIdx.toArray[i]!).2 < (l.zipIdx.toArray[j]!).2
  rw [h i (by omega), h j hj]
  exact hij
theorem encT_one (x : Tx) : ∀ v ∈ encT x, v.oneCell' = true := by
  intro v hv
  simp only [encT, List.mem_cons, List.not_mem_nil, or_false] at hv
  rcases hv with rfl | rfl <;> rfl
set_option maxHeartbeats 1000000 in
theorem insertion_none (c : Nat) (f : Value) (w : World) : Calls Tryz.prog 162 #[.slice none 0 c, .int .i64 0, .int .i64 0, f] w fun e w' => e = .returned (.tuple #[]) ∧ w' = w := by
  go_enter Tryz.func162, Tryz.ntmps162
  go_wp2
  refine wp_loop_rounds 1 ?_
  rw [rounds_succ]
  go_wp2
  go_end0
  exact ⟨rfl, rfl⟩
set_option maxHeartbeats 1000000 in
theorem stable_none (c : Nat) (f : Value) (w : World) : Calls Tryz.prog 133 #[.slice none 0 c, .int .i64 0, f] w fun e w' => e = .returned (.tuple #[]) ∧ w' = w := by
  go_enter Tryz.func133, Tryz.ntmps133
  go_wp2
  refine wp_loop_rounds 1 ?_
  rw [rounds_succ]
  go_wp2_with fail
  refine (insertion_none c f _).mono ?_
  rintro e w' ⟨rfl, rfl⟩
  go_wp2
  refine wp_loop_rounds 1 ?_
  rw [rounds_succ]
  go_wp2
  go_end0
  exact ⟨rfl, rfl⟩
set_option maxHeartbeats 1000000 in
theorem sortStable_none (c : Nat) (f : Value) (w : World) : Calls Tryz.prog 103 #[.slice none 0 c, f] w fun e w' => e = .returned (.tuple #[]) ∧ w' = w := by
  go_enter Tryz.func103, Tryz.ntmps103
  go_wp2_with fail
  refine (stable_none c f _).mono ?_
  rintro e w' ⟨rfl, rfl⟩
  go_wp2
  go_end0
  exact ⟨rfl, rfl⟩
theorem sortsStable (m : Nat) (hm : m ≤ 1000000000) : SortsStable m := by
  intro A n c l w B ho hn
  have hll := owns_len ho encS_len (by omega)
  have eg : ∀ args w, (callFunc 104 args).run Tryz.prog w = .ok (.enter 104 args) w := enters_of Tryz.func104 (by kernel_rfl) rfl
  rcases A with _ | ad
  · have hn0 : n = 0 := by
      rcases ho.2 with ⟨_, h⟩ | ⟨_, _, _, h, _⟩
      · exact h
      · cases h
    subst hn0
    have hl0 : l = [] := List.length_eq_zero_iff.1 hll
    subst hl0
    refine (sortStable_none c _ w).mono ?_
    rintro e w' ⟨rfl, rfl⟩
    have e : sortS [] = [] := by simp [sortS]
    exact ⟨rfl, by rw [e]; exact ho, grownBy_refl _ _⟩
  · obtain ⟨g, rfl, hg⟩ : ∃ g, ad = ⟨g, 0, none⟩ ∧ g < w.heap.size := by
      rcases ho.2 with ⟨h, _⟩ | ⟨g, _, _, h, _, h', _⟩
      · cases h
      · injection h with h _ _; injection h with h; exact ⟨g, h, (Array.getElem?_eq_some_iff.1 h').1⟩
    have hoT : w.ownsRow B 95 2 (.slice (some ⟨g, 0, none⟩) n c) n (l.zipIdx.flatMap encT) := by rw [zip_enc]; exact ho
    have hzl : l.zipIdx.toArray.size = n := by simpa using hll
    have hcmp : CmpLays Tryz.prog 104 #[] encT 2 cmpT g 0 l.zipIdx.toArray.size w := fun _ _ _ _ x y => samCmp x y _
    have R : RowS encT w g 0 l.zipIdx.toArray := ⟨⟨encT_len, encT_one, holdsK_own encT_len hoT, hg⟩, fun x => ⟨x.1.1, x.1.2, rfl⟩⟩
    refine (sortStable_sam encT cmpT (fun x => x.2) 104 #[] g 0 c n l.zipIdx.toArray w eg cmpT_swo hcmp R hzl (by omega) (tags_in l)).mono ?_
    rintro e w' ⟨rfl, d', ⟨q, os, rfl⟩, hp, hs⟩
    have hsz : d'.size = l.zipIdx.length := by have := hp.1; simpa using this
    obtain ⟨h1, h2⟩ := ownsK_sorted encT_len hoT q os d' hsz (by simpa using hll)
    refine ⟨rfl, ?_, h2⟩
    rw [map_enc, stable_is hp hs] at h1
    exact h1
end Go.Proofs.YtihidnmpngeohaaGreat
