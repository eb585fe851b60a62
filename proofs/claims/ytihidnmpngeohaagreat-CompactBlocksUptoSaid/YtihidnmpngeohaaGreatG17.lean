/- The plain law of Go's stable sort, its blocks: what the insertion sort of each block and the merge of each two blocks make of an array whose tags rise. slices.SortStableFunc at []api.Tomb, of whatever length: a permutation of what the row held, in the order in which ties go by a tag that rises. -/
import Derived.Test.YtihidnmpngeohaaGreatStab
import Derived.Test.YtihidnmpngeohaaGreatG16
import Derived.Test.YtihidnmpngeohaaGreatG04
import Derived.Shelf.SlSortCmp.PdqK
namespace Go.Proofs.YtihidnmpngeohaaGreat
open Go.Sort
section
variable {α : Type} [Inhabited α] {lt : α → α → Bool} {tag : α → Nat}
/-- What stands ahead of c has lesser tags than what stands from c on. -/
def CutAt (tag : α → Nat) (n c : Nat) (d : Array α) : Prop := ∀ i j, i < c → c ≤ j → j < n → tag d[i]! < tag d[j]!
theorem CutAt.perm {n c a b : Nat} {d d' : Array α} (h : CutAt tag n c d) (hp : PermIn a b d d') (hc : c ≤ a ∨ b ≤ c) (hb : b ≤ n) (hn : n ≤ d.size) : CutAt tag n c d' := by
  intro i j hi hj hjn
  rcases hc with hc | hc
  · rw [hp.2.1 i (.inl (by omega))]
    exact permIn_all d d' c n (fun y => tag d[i]! < tag y) hn (permIn_mono _ _ _ _ _ _ hc hb hn hp) (fun j' h1 h2 => h i j' hi h1 h2) j hj hjn
  · rw [hp.2.1 j (.inr (by omega))]
    exact permIn_all d d' 0 c (fun x => tag x < tag d[j]!) (by omega) (permIn_mono _ _ _ _ _ _ (Nat.zero_le _) hc (by omega) hp) (fun i' _ h2 => h i' j h2 hj hjn) i (Nat.zero_le _) hi
theorem mult_eq {b a c : Nat} (ha : b ∣ a) (hc : b ∣ c) (h1 : c ≤ a) (h2 : a < c + b) : a = c := by
  have h : b ∣ a - c := Nat.dvd_sub ha hc
  rcases Nat.eq_zero_or_pos (a - c) with h0 | h0
  · omega
  · have := Nat.le_of_dvd h0 h; omega
theorem mult_far {b a c : Nat} (ha : b ∣ a) (hc : b ∣ c) (h1 : a < c) : a + b ≤ c := by
  rcases Nat.lt_or_ge c (a + b) with h | h
  · have := mult_eq hc ha (by omega) h; omega
  · exact h
/-- Every block of bs is sorted; the blocks' tags rise. -/
structure Blocks (lt : α → α → Bool) (tag : α → Nat) (bs n : Nat) (d : Array α) : Prop where
  b1 : ∀ c, bs ∣ c → SortedR lt tag c (min (c + bs) n) d
  b2 : ∀ c, bs ∣ c → CutAt tag n c d
/-- The blocks ahead of a are sorted, what stands from a on is as it was. -/
structure FirstB (lt : α → α → Bool) (tag : α → Nat) (bs n a : Nat) (d : Array α) : Prop where
  f1 : ∀ c, bs ∣ c → c + bs ≤ a → SortedR lt tag c (c + bs) d
  f2 : ∀ c, bs ∣ c → CutAt tag n c d
  f3 : TagsIn tag a n d
theorem FirstB.start {bs n : Nat} {d : Array α} (hb : 0 < bs) (h : TagsIn tag 0 n d) : FirstB lt tag bs n 0 d :=
  ⟨fun c _ h1 => by omega, fun c _ i j hi hj hjn => h i j (Nat.zero_le _) (by omega) hjn, h⟩
theorem FirstB.step {bs n a : Nat} {d d' : Array α} (h : FirstB lt tag bs n a d) (ha : bs ∣ a) (hn : a + bs ≤ n) (hs : n ≤ d.size) (hp : PermIn a (a + bs) d d') (hsrt : SortedR lt tag a (a + bs) d') : FirstB lt tag bs n (a + bs) d' := by
  refine ⟨fun c hc h1 => ?_, fun c hc => (h.f2 c hc).perm hp ?_ hn hs, fun i j hi hij hj => ?_⟩
  · rcases Nat.lt_or_ge a (c + bs) with h2 | h2
    · rw [← mult_eq ha hc (by omega) h2]; exact hsrt
    · exact (h.f1 c hc h2).congr fun p _ hp2 => hp.2.1 p (.inl (by omega))
  · rcases Nat.lt_or_ge a c with h2 | h2
    · exact .inr (mult_far ha hc h2)
    · exact .inl h2
  · rw [hp.2.1 i (.inr hi), hp.2.1 j (.inr (by omega))]
    exact h.f3 i j (by omega) hij hj
theorem FirstB.done {bs n a : Nat} {d d' : Array α} (h : FirstB lt tag bs n a d) (ha : bs ∣ a) (han : a ≤ n) (hn : n < a + bs) (hs : n ≤ d.size) (hp : PermIn a n d d') (hsrt : SortedR lt tag a n d') : Blocks lt tag bs n d' := by
  refine ⟨fun c hc => ?_, fun c hc => ?_⟩
  · rcases Nat.lt_or_ge a c with h2 | h2
    · exact SortedR.empty (by have := mult_far ha hc h2; omega)
    · rcases Nat.lt_or_ge a (c + bs) with h3 | h3
      · obtain rfl := mult_eq ha hc h2 h3
        rw [Nat.min_eq_right (by omega)]; exact hsrt
      · rw [Nat.min_eq_left (by omega)]
        exact (h.f1 c hc h3).congr fun p _ hp2 => hp.2.1 p (.inl (by omega))
  · rcases Nat.lt_or_ge a c with h2 | h2
    · have := mult_far ha hc h2
      exact (h.f2 c hc).perm hp (.inr (by omega)) (Nat.le_refl _) hs
    · exact (h.f2 c hc).perm hp (.inl h2) (Nat.le_refl _) hs
/-- Two and two are merged ahead of a. -/
structure HalfB (lt : α → α → Bool) (tag : α → Nat) (bs n a : Nat) (d : Array α) : Prop where
  h1 : ∀ c, 2 * bs ∣ c → c + 2 * bs ≤ a → SortedR lt tag c (c + 2 * bs) d
  h2 : ∀ c, bs ∣ c → a ≤ c → SortedR lt tag c (min (c + bs) n) d
  h3 : ∀ c, bs ∣ c → (a ≤ c ∨ 2 * bs ∣ c) → CutAt tag n c d
theorem dvd_two {bs c : Nat} (h : 2 * bs ∣ c) : bs ∣ c := Nat.dvd_trans ⟨2, by rw [Nat.mul_comm]⟩ h
theorem dvd_step {bs c : Nat} (h : bs ∣ c) : bs ∣ c + bs := Nat.dvd_add h (Nat.dvd_refl _)
theorem Blocks.half {bs n : Nat} {d : Array α} (hb : 0 < bs) (h : Blocks lt tag bs n d) : HalfB lt tag bs n 0 d :=
  ⟨fun c _ h1 => by omega, fun c hc _ => h.b1 c hc, fun c hc _ => h.b2 c hc⟩
theorem HalfB.runs {bs n a b : Nat} {d : Array α} (h : HalfB lt tag bs n a d) (ha : 2 * bs ∣ a) (h1 : a + bs < b) (h2 : b ≤ n) (h3 : b ≤ a + 2 * bs) : Runs lt tag a (a + bs) b d := by
  have ha' := dvd_two ha
  refine ⟨?_, ?_, fun i j _ hi hj hjb => h.h3 (a + bs) (dvd_step ha') (.inl (by omega)) i j hi hj (by omega)⟩
  · have := h.h2 a ha' (Nat.le_refl _)
    rwa [Nat.min_eq_left (by omega)] at this
  · exact (h.h2 (a + bs) (dvd_step ha') (by omega)).sub (Nat.le_refl _) (by omega)
theorem HalfB.step {bs n a : Nat} {d d' : Array α} (h : HalfB lt tag bs n a d) (ha : 2 * bs ∣ a) (hn : a + 2 * bs ≤ n) (hs : n ≤ d.size) (hp : PermIn a (a + 2 * bs) d d') (hsrt : SortedR lt tag a (a + 2 * bs) d') : HalfB lt tag bs n (a + 2 * bs) d' := by
  refine ⟨fun c hc h1 => ?_, fun c hc h1 => ?_, fun c hc h1 => ?_⟩
  · rcases Nat.lt_or_ge a (c + 2 * bs) with h2 | h2
    · rw [← mult_eq ha hc (by omega) h2]; exact hsrt
    · exact (h.h1 c hc h2).congr fun p _ hp2 => hp.2.1 p (.inl (by omega))
  · exact (h.h2 c hc (by omega)).congr fun p hp1 _ => hp.2.1 p (.inr (by omega))
  · rcases h1 with h1 | h1
    · exact (h.h3 c hc (.inl (by omega))).perm hp (.inr h1) hn hs
    · refine (h.h3 c hc (.inr h1)).perm hp ?_ hn hs
      rcases Nat.lt_or_ge a c with h2 | h2
      · exact .inr (mult_far ha h1 h2)
      · exact .inl h2
/-- What is left behind the last two: merged too, or one block at most. -/
theorem HalfB.done {bs n a : Nat} {d d' : Array α} (h : HalfB lt tag bs n a d) (ha : 2 * bs ∣ a) (han : a ≤ n) (hn : n < a + 2 * bs) (hs : n ≤ d.size) (hp : PermIn a n d d') (hsrt : SortedR lt tag a n d') : Blocks lt tag (2 * bs) n d' := by
  refine ⟨fun c hc => ?_, fun c hc => ?_⟩
  · rcases Nat.lt_or_ge a c with h2 | h2
    · exact SortedR.empty (by have := mult_far ha hc h2; omega)
    · rcases Nat.lt_or_ge a (c + 2 * bs) with h3 | h3
      · obtain rfl := mult_eq ha hc h2 h3
        rw [Nat.min_eq_right (by omega)]; exact hsrt
      · rw [Nat.min_eq_left (by omega)]
        exact (h.h1 c hc h3).congr fun p _ hp2 => hp.2.1 p (.inl (by omega))
  · rcases Nat.lt_or_ge a c with h2 | h2
    · have := mult_far ha hc h2
      exact (h.h3 c (dvd_two hc) (.inr hc)).perm hp (.inr (by omega)) (Nat.le_refl _) hs
    · exact (h.h3 c (dvd_two hc) (.inr hc)).perm hp (.inl h2) (Nat.le_refl _) hs
theorem HalfB.rest {bs n a : Nat} {d : Array α} (h : HalfB lt tag bs n a d) (ha : 2 * bs ∣ a) (hn : n ≤ a + bs) : SortedR lt tag a n d := by
  have := h.h2 a (dvd_two ha) (Nat.le_refl _)
  rwa [Nat.min_eq_right hn] at this
theorem Blocks.whole {bs n : Nat} {d : Array α} (h : Blocks lt tag bs n d) (hn : n ≤ bs) : SortedR lt tag 0 n d := by
  have := h.b1 0 (Nat.dvd_zero _)
  rwa [Nat.min_eq_right (by omega)] at this
end
end Go.Proofs.YtihidnmpngeohaaGreat
namespace Go.Proofs.YtihidnmpngeohaaGreat
open Go.RowKit Go.Lib Go.Sort
variable {α : Type} [Inhabited α]

theorem symMerge_tmb (enc : α → List Value) (cf : α → α → Int) (tag : α → Nat) (g : Nat) (cb : Array Value) (blk off cap L : Nat) (d0 : Array α) (w0 : World)
    (eg : ∀ args w, (callFunc g args).run Tryz.prog w = .ok (.enter g args) w) (hO : SWO (ltOf cf)) (hcmp : CmpLays Tryz.prog g cb enc 3 cf blk off d0.size w0) (R : RowT enc w0 blk off d0) (hsz : d0.size < 1152921504606846976) :
    ∀ (r a m b : Nat) (d : Array α) (w : World) (A M B : Int), b - a ≤ r → a < m → m < b → b ≤ d.size → d.size = L → d0.size = d.size → Runs (ltOf cf) tag a m b d → SWK enc 3 w0 blk off d w → A = (a : Int) → M = (m : Int) → B = (b : Int) →
    Calls Tryz.prog 128 #[.slice (some ⟨blk, off, none⟩) L cap, .int .i64 A, .int .i64 M, .int .i64 B, .func (.func g) #[] cb] w fun e w' =>
      e = .returned (.tuple #[]) ∧ ∃ d', SWK enc 3 w0 blk off d' w' ∧ PermIn a b d d' ∧ SortedR (ltOf cf) tag a b d' := by
  intro r
  induction r with
  | zero => intro a m b d w A M B hr; omega
  | succ r ih =>
    intro a m b d w A M B hr ham hmb hb hL hs hR S hA hM hB
    by_cases h1 : m = a + 1
    · exact symMerge_tmb_left enc cf tag g cb blk off cap L a m b A M B d0 d w0 w eg hO hcmp R hs S hL hA hM hB h1 hmb hb (by omega) hR
    · by_cases h2 : b = m + 1
      · exact symMerge_tmb_right enc cf tag g cb blk off cap L a m b A M B d0 d w0 w eg hO hcmp R hs S hL hA hM hB (by omega) h2 hb (by omega) hR
      · by_cases h3 : (a + b) / 2 < m
        · exact symMerge_tmb_step enc cf tag g cb blk off cap L a m b ((a + b) / 2) ((a + b) / 2 + m - b) ((a + b) / 2) A M B d0 d w0 w eg hO hcmp R hs S hL hA hM hB (by omega) (by omega) hb (by omega) hR rfl (.inl ⟨h3, by omega, rfl⟩)
            (fun a' m' b' d' w' A' M' B' q1 q2 q3 q4 q5 q6 q7 q8 q9 q10 => ih a' m' b' d' w' A' M' B' (by omega) q2 q3 q4 (by omega) (by omega) q6 q7 q8 q9 q10)
        · exact symMerge_tmb_step enc cf tag g cb blk off cap L a m b ((a + b) / 2) a m A M B d0 d w0 w eg hO hcmp R hs S hL hA hM hB (by omega) (by omega) hb (by omega) hR rfl (.inr ⟨by omega, rfl, rfl⟩)
            (fun a' m' b' d' w' A' M' B' q1 q2 q3 q4 q5 q6 q7 q8 q9 q10 => ih a' m' b' d' w' A' M' B' (by omega) q2 q3 q4 (by omega) (by omega) q6 q7 q8 q9 q10)

theorem insertion_tmb (enc : α → List Value) (cf : α → α → Int) (g : Nat) (cb : Array Value) (blk off cap L a b : Nat) (A B : Int) (d0 d : Array α) (w0 w : World)
    (eg : ∀ args w, (callFunc g args).run Tryz.prog w = .ok (.enter g args) w) (hO : SWO (ltOf cf)) (hcmp : CmpLays Tryz.prog g cb enc 3 cf blk off d0.size w0) (R : RowT enc w0 blk off d0) (hs : d0.size = d.size) (S : SWK enc 3 w0 blk off d w)
    (hL : d.size = L) (hA : A = (a : Int)) (hB : B = (b : Int)) (hab : a ≤ b) (hb : b ≤ d.size) (hsz : d.size < 1152921504606846976) :
    Calls Tryz.prog 127 #[.slice (some ⟨blk, off, none⟩) L cap, .int .i64 A, .int .i64 B, .func (.func g) #[] cb] w fun e w' =>
      e = .returned (.tuple #[]) ∧ SWK enc 3 w0 blk off (Sort.insertionSort (ltOf cf) d a b) w' := by
  subst hL hA hB
  exact AnyQ.insertionSortCmpFunc_w Tryz.insTomb 3 Tryz.isAgg27 Tryz.sizeOf27 enc cf g cb blk off cap a b d0 d w0 w eg hcmp R.toRowK hs S hO hab hb (by omega)

set_option maxHeartbeats 2000000 in
set_option maxRecDepth 1000000 in
theorem stable_tmb (enc : α → List Value) (cf : α → α → Int) (tag : α → Nat) (g : Nat) (cb : Array Value) (blk off cap L : Nat) (N : Int) (d : Array α) (w : World)
    (eg : ∀ args w, (callFunc g args).run Tryz.prog w = .ok (.enter g args) w) (hO : SWO (ltOf cf)) (hcmp : CmpLays Tryz.prog g cb enc 3 cf blk off d.size w) (R : RowT enc w blk off d) (hL : d.size = L) (hN : N = (L : Int)) (hsz : d.size < 1152921504606846976)
    (ht : TagsIn tag 0 d.size d) :
    Calls Tryz.prog 91 #[.slice (some ⟨blk, off, none⟩) L cap, .int .i64 N, .func (.func g) #[] cb] w fun e w' =>
      e = .returned (.tuple #[]) ∧ ∃ d', SWK enc 3 w blk off d' w' ∧ PermIn 0 d.size d d' ∧ SortedR (ltOf cf) tag 0 d.size d' := by
  subst hL hN
  have HC : Aside _ := hcmp
  have S0 : Aside (SWK enc 3 w blk off d w) := SWK.start R.hH
  have HT := Lib.hid ht
  clear hcmp ht
  go_enter Tryz.func91, Tryz.ntmps91
  go_wp2
  go_loopg [7, 8] (d.size) (fun g1 va vb wr => ∃ (a : Nat) (dk : Array α), va = .int .i64 a ∧ vb = .int .i64 (a + 20) ∧ a ≤ d.size ∧ d.size - a ≤ g1 ∧ Hid (20 ∣ a) ∧ Hid (dk.size = d.size) ∧ Hid (PermIn 0 d.size d dk ∧ FirstB (ltOf cf) tag 20 d.size a dk) ∧ Aside (SWK enc 3 w blk off dk wr))
  case atStart => exact ⟨0, d, rfl, rfl, Nat.zero_le _, by omega, Nat.dvd_zero _, rfl, ⟨permIn_refl _ _ _, FirstB.start (by omega) HT.out⟩, S0⟩
  case round =>
    clear S0
    obtain ⟨a, dk, rfl, rfl, ha, hg1, hd, hsk, HP, S1⟩ := hrel
    by_cases hlt : a + 20 ≤ d.size
    · have hz : (a : Int) + 20 ≤ (d.size : Int) := by omega
      obtain ⟨s1, p1⟩ := insertionSort_R (lt := ltOf cf) (tag := tag) hO a (a + 20) dk (by omega) (by have := hsk.out; omega) (fun i j hi hij hj => HP.out.2.f3 i j hi hij (by omega))
      have PP := Lib.hid (And.intro s1 p1)
      clear s1 p1
      go_wp2_with fail
      refine (insertion_tmb enc cf g cb blk off cap _ a (a + 20) _ _ d dk w _ eg hO HC.out R (by have := hsk.out; omega) S1.out hsk.out rfl (by omega) (by omega) (by have := hsk.out; omega) (by have := hsk.out; omega)).mono ?_
      rintro e w' ⟨rfl, S2⟩
      have S3 : Aside _ := S2
      clear S2
      go_wp2
      go_roundg (d.size - (a + 20))
      case measure => omega
      case rel => exact ⟨a + 20, _, by go_num, by go_num, hlt, Nat.le_refl _, (show 20 ∣ a + 20 from Nat.dvd_add hd.out (Nat.dvd_refl _)), (show _ = _ from by rw [PP.out.2.1, hsk.out]), ⟨permIn_trans _ _ _ _ _ HP.out.1 (permIn_mono _ _ _ _ _ _ (Nat.zero_le _) hlt (by have := hsk.out; omega) PP.out.2), HP.out.2.step hd.out hlt (by have := hsk.out; omega) PP.out.2 PP.out.1⟩, S3⟩
    · have hz : ¬ (a : Int) + 20 ≤ (d.size : Int) := by omega
      obtain ⟨s1, p1⟩ := insertionSort_R (lt := ltOf cf) (tag := tag) hO a d.size dk ha (by have := hsk.out; omega) HP.out.2.f3
      have hp2 := permIn_trans _ _ _ _ _ HP.out.1 (permIn_mono _ _ _ _ _ _ (Nat.zero_le _) (Nat.le_refl _) (by have := hsk.out; omega) p1)
      have hb2 := HP.out.2.done hd.out ha (by omega) (by have := hsk.out; omega) p1 s1
      have hs2 : (insertionSort (ltOf cf) dk a d.size).size = d.size := by rw [p1.1, hsk.out]
      have PP := Lib.hid (And.intro hp2 hb2)
      have HS2 := Lib.hid hs2
      clear s1 p1 hp2 hb2 hs2
      go_wp2_with fail
      refine (insertion_tmb enc cf g cb blk off cap _ a d.size _ _ d dk w _ eg hO HC.out R (by have := hsk.out; omega) S1.out hsk.out rfl rfl ha (by have := hsk.out; omega) (by have := hsk.out; omega)).mono ?_
      rintro e w' ⟨rfl, S2⟩
      have S3 : Aside _ := S2
      clear S2 S1 HP
      generalize hd2 : insertionSort (ltOf cf) dk a d.size = d2 at *
      clear hd2
      go_wp2
      go_loopg [6, 7, 8, 9] (d.size) (fun g1 vs va vb vm wr => ∃ (bs : Nat) (d2 : Array α), vs = .int .i64 bs ∧ 20 ≤ bs ∧ bs < 2305843009213693952 ∧ d.size - bs ≤ g1 ∧ Hid (d2.size = d.size) ∧ Hid (PermIn 0 d.size d d2 ∧ Blocks (ltOf cf) tag bs d.size d2) ∧ Aside (SWK enc 3 w blk off d2 wr))
      case atStart => exact ⟨20, d2, rfl, Nat.le_refl _, by omega, by omega, HS2, PP, S3⟩
      case round =>
        clear S3 PP HS2 hsk hd
        clear d2
        obtain ⟨bs, d2, rfl, hb20, hbb, hg2, hs2, HP, S4⟩ := hrel
        by_cases hlt2 : bs < d.size
        · have hz2 : (bs : Int) < (d.size : Int) := by omega
          go_wp2
          go_loopg [7, 8] (d.size) (fun g3 va vb wr => ∃ (a : Nat) (d3 : Array α), va = .int .i64 a ∧ vb = .int .i64 ((a : Int) + 2 * (bs : Int)) ∧ a ≤ d.size ∧ d.size - a ≤ g3 ∧ Hid (2 * bs ∣ a) ∧ Hid (d3.size = d.size) ∧ Hid (PermIn 0 d.size d d3 ∧ HalfB (ltOf cf) tag bs d.size a d3) ∧ Aside (SWK enc 3 w blk off d3 wr))
          case atStart => exact ⟨0, d2, rfl, by go_num, Nat.zero_le _, by omega, Nat.dvd_zero _, hs2, ⟨HP.out.1, HP.out.2.half (by omega)⟩, S4⟩
          case round =>
            clear S4 HP hs2
            clear d2
            obtain ⟨a, d3, rfl, rfl, ha, hg3, hd3, hs3, HP3, S5⟩ := hrel
            by_cases hlt3 : a + 2 * bs ≤ d.size
            · have hz3 : (a : Int) + 2 * (bs : Int) ≤ (d.size : Int) := by omega
              have hr := HP3.out.2.runs hd3.out (b := a + 2 * bs) (by omega) hlt3 (Nat.le_refl _)
              have HR := Lib.hid hr
              clear hr
              go_wp2_with fail
              refine (symMerge_tmb enc cf tag g cb blk off cap _ d w eg hO HC.out R hsz _ a (a + bs) (a + 2 * bs) d3 _ _ _ _ (Nat.le_refl _) (by omega) (by omega) (by have := hs3.out; omega) hs3.out hs3.out.symm HR.out S5.out rfl (by omega) (by omega)).mono ?_
              rintro e w' ⟨rfl, d4, S6, p4, s4⟩
              have S7 : Aside _ := S6
              have P4 := Lib.hid (And.intro p4 s4)
              clear S6 p4 s4
              go_wp2
              go_roundg (d.size - (a + 2 * bs))
              case measure => omega
              case rel => exact ⟨a + 2 * bs, d4, by go_num, (by first | rfl | (congr 1; omega) | go_num), hlt3, Nat.le_refl _, (show 2 * bs ∣ a + 2 * bs from Nat.dvd_add hd3.out (Nat.dvd_refl _)), (show _ = _ from by rw [P4.out.1.1, hs3.out]), ⟨permIn_trans _ _ _ _ _ HP3.out.1 (permIn_mono _ _ _ _ _ _ (Nat.zero_le _) hlt3 (by have := hs3.out; omega) P4.out.1), HP3.out.2.step hd3.out hlt3 (by have := hs3.out; omega) P4.out.1 P4.out.2⟩, S7⟩
            · have hz3 : ¬ (a : Int) + 2 * (bs : Int) ≤ (d.size : Int) := by omega
              by_cases hlt4 : a + bs < d.size
              · have hz4 : (a : Int) + (bs : Int) < (d.size : Int) := by omega
                have hr := HP3.out.2.runs hd3.out (b := d.size) hlt4 (Nat.le_refl _) (by omega)
                have HR := Lib.hid hr
                clear hr
                go_wp2_with fail
                refine (symMerge_tmb enc cf tag g cb blk off cap _ d w eg hO HC.out R hsz _ a (a + bs) d.size d3 _ _ _ _ (Nat.le_refl _) (by omega) hlt4 (by have := hs3.out; omega) hs3.out hs3.out.symm HR.out S5.out rfl (by omega) rfl).mono ?_
                rintro e w' ⟨rfl, d4, S6, p4, s4⟩
                have S7 : Aside _ := S6
                have P4 := Lib.hid (And.intro p4 s4)
                clear S6 p4 s4
                go_wp2
                go_roundg (d.size - 2 * bs)
                case measure => omega
                case rel => exact ⟨2 * bs, d4, (by first | rfl | (congr 1; omega) | go_num), by omega, by omega, Nat.le_refl _, (show _ = _ from by rw [P4.out.1.1, hs3.out]), ⟨permIn_trans _ _ _ _ _ HP3.out.1 (permIn_mono _ _ _ _ _ _ (Nat.zero_le _) (Nat.le_refl _) (by have := hs3.out; omega) P4.out.1), HP3.out.2.done hd3.out ha (by omega) (by have := hs3.out; omega) P4.out.1 P4.out.2⟩, S7⟩
              · have hz4 : ¬ (a : Int) + (bs : Int) < (d.size : Int) := by omega
                go_wp2
                go_roundg (d.size - 2 * bs)
                case measure => omega
                case rel => exact ⟨2 * bs, d3, (by first | rfl | (congr 1; omega) | go_num), by omega, by omega, Nat.le_refl _, hs3, ⟨HP3.out.1, HP3.out.2.done hd3.out ha (by omega) (by have := hs3.out; omega) (permIn_refl _ _ _) (HP3.out.2.rest hd3.out (by omega))⟩, S5⟩
        · have hz2 : ¬ (bs : Int) < (d.size : Int) := by omega
          go_wp2
          go_end0
          exact ⟨rfl, d2, S4.out, HP.out.1, HP.out.2.whole (by omega)⟩

/-- slices.SortStableFunc at []api.Tomb. -/
theorem sortStable_tmb (enc : α → List Value) (cf : α → α → Int) (tag : α → Nat) (g : Nat) (cb : Array Value) (blk off cap L : Nat) (d : Array α) (w : World)
    (eg : ∀ args w, (callFunc g args).run Tryz.prog w = .ok (.enter g args) w) (hO : SWO (ltOf cf)) (hcmp : CmpLays Tryz.prog g cb enc 3 cf blk off d.size w) (R : RowT enc w blk off d) (hL : d.size = L) (hsz : d.size < 1152921504606846976)
    (ht : TagsIn tag 0 d.size d) :
    Calls Tryz.prog 29 #[.slice (some ⟨blk, off, none⟩) L cap, .func (.func g) #[] cb] w fun e w' =>
      e = .returned (.tuple #[]) ∧ ∃ d', SWK enc 3 w blk off d' w' ∧ PermIn 0 d.size d d' ∧ SortedR (ltOf cf) tag 0 d.size d' := by
  subst hL
  have hc := stable_tmb enc cf tag g cb blk off cap _ _ d w eg hO hcmp R rfl rfl hsz ht
  have HC := Lib.hid hc
  clear hc hcmp ht
  go_enter Tryz.func29, Tryz.ntmps29
  go_wp2_with fail
  refine HC.out.mono ?_
  rintro e w' ⟨rfl, d', S, hp, hs⟩
  have S1 : Aside _ := S
  have P := Lib.hid (And.intro hp hs)
  clear S hp hs
  go_wp2
  go_end0
  exact ⟨rfl, d', S1.out, P.out.1, P.out.2⟩
end Go.Proofs.YtihidnmpngeohaaGreat
