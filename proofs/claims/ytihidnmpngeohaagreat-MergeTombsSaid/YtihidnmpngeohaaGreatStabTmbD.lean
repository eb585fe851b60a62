/- slices.SortStableFunc at []api.Tomb, of whatever length: a permutation of what the row held, in the order in which ties go by a tag that rises. -/
import Derived.Test.YtihidnmpngeohaaGreatStabTmbC
import Derived.Test.YtihidnmpngeohaaGreatStabB
import Derived.Test.YtihidnmpngeohaaGreatG08
import Derived.Shelf.SlSortCmp.PdqK
namespace Go.Proofs.YtihidnmpngeohaaGreat
open Go.RowKit Go.Lib Go.Sort
variable {α : Type} [Inhabited α]

theorem symMerge_tmb (enc : α → List Value) (cf : α → α → Int) (tag : α → Nat) (g : Nat) (cb : Array Value) (blk off cap L : Nat) (d0 : Array α) (w0 : World)
    (eg : ∀ args w, (callFunc g args).run Tryz.prog w = .ok (.enter g args) w) (hO : SWO (ltOf cf)) (hcmp : CmpLays Tryz.prog g cb enc 3 cf blk off d0.size w0) (R : RowT enc w0 blk off d0) (hsz : d0.size < 1152921504606846976) :
    ∀ (r a m b : Nat) (d : Array α) (w : World) (A M B : Int), b - a ≤ r → a < m → m < b → b ≤ d.size → d.size = L → d0.size = d.size → Runs (ltOf cf) tag a m b d → SWK enc 3 w0 blk off d w → A = (a : Int) → M = (m : Int) → B = (b : Int) →
    Calls Tryz.prog 128 #[.slice (some ⟨blk, off, none⟩) L cap, .int .i64 A, .int .i64 M, .int .i64 B, .func (.func g) #[] cb] w fun e w' =>
      e = .returned (.tuple #[]) ∧ ∃ d', SWK enc 3 w0 blk off d' w' ∧ PermIn a b d d' ∧ SortedR (ltOf cf) tag a b d' := by
  intro r
  induction r with
  | zero => intro a m b d w A M B hr; omega
  | succ r ih =>
    intro a m b d w A M B hr ham hmb hb hL hs hR S hA hM hB
    by_cases h1 : m = a + 1
    · exact symMerge_tmb_left enc cf tag g cb blk off cap L a m b A M B d0 d w0 w eg hO hcmp R hs S hL hA hM hB h1 hmb hb (by omega) hR
    · by_cases h2 : b = m + 1
      · exact symMerge_tmb_right enc cf tag g cb blk off cap L a m b A M B d0 d w0 w eg hO hcmp R hs S hL hA hM hB (by omega) h2 hb (by omega) hR
      · by_cases h3 : (a + b) / 2 < m
        · exact symMerge_tmb_step enc cf tag g cb blk off cap L a m b ((a + b) / 2) ((a + b) / 2 + m - b) ((a + b) / 2) A M B d0 d w0 w eg hO hcmp R hs S hL hA hM hB (by omega) (by omega) hb (by omega) hR rfl (.inl ⟨h3, by omega, rfl⟩)
            (fun a' m' b' d' w' A' M' B' q1 q2 q3 q4 q5 q6 q7 q8 q9 q10 => ih a' m' b' d' w' A' M' B' (by omega) q2 q3 q4 (by omega) (by omega) q6 q7 q8 q9 q10)
        · exact symMerge_tmb_step enc cf tag g cb blk off cap L a m b ((a + b) / 2) a m A M B d0 d w0 w eg hO hcmp R hs S hL hA hM hB (by omega) (by omega) hb (by omega) hR rfl (.inr ⟨by omega, rfl, rfl⟩)
            (fun a' m' b' d' w' A' M' B' q1 q2 q3 q4 q5 q6 q7 q8 q9 q10 => ih a' m' b' d' w' A' M' B' (by omega) q2 q3 q4 (by omega) (by omega) q6 q7 q8 q9 q10)

theorem insertion_tmb (enc : α → List Value) (cf : α → α → Int) (g : Nat) (cb : Array Value) (blk off cap L a b : Nat) (A B : Int) (d0 d : Array α) (w0 w : World)
    (eg : ∀ args w, (callFunc g args).run Tryz.prog w = .ok (.enter g args) w) (hO : SWO (ltOf cf)) (hcmp : CmpLays Tryz.prog g cb enc 3 cf blk off d0.size w0) (R : RowT enc w0 blk off d0) (hs : d0.size = d.size) (S : SWK enc 3 w0 blk off d w)
    (hL : d.size = L) (hA : A = (a : Int)) (hB : B = (b : Int)) (hab : a ≤ b) (hb : b ≤ d.size) (hsz : d.size < 1152921504606846976) :
    Calls Tryz.prog 127 #[.slice (some ⟨blk, off, none⟩) L cap, .int .i64 A, .int .i64 B, .func (.func g) #[] cb] w fun e w' =>
      e = .returned (.tuple #[]) ∧ SWK enc 3 w0 blk off (Sort.insertionSort (ltOf cf) d a b) w' := by
  subst hL hA hB
  exact AnyQ.insertionSortCmpFunc_w Tryz.insTomb 3 Tryz.isAgg27 Tryz.sizeOf27 enc cf g cb blk off cap a b d0 d w0 w eg hcmp R.toRowK hs S hO hab hb (by omega)

set_option maxHeartbeats 2000000 in
set_option maxRecDepth 1000000 in
theorem stable_tmb (enc : α → List Value) (cf : α → α → Int) (tag : α → Nat) (g : Nat) (cb : Array Value) (blk off cap L : Nat) (N : Int) (d : Array α) (w : World)
    (eg : ∀ args w, (callFunc g args).run Tryz.prog w = .ok (.enter g args) w) (hO : SWO (ltOf cf)) (hcmp : CmpLays Tryz.prog g cb enc 3 cf blk off d.size w) (R : RowT enc w blk off d) (hL : d.size = L) (hN : N = (L : Int)) (hsz : d.size < 1152921504606846976)
    (ht : TagsIn tag 0 d.size d) :
    Calls Tryz.prog 91 #[.slice (some ⟨blk, off, none⟩) L cap, .int .i64 N, .func (.func g) #[] cb] w fun e w' =>
      e = .returned (.tuple #[]) ∧ ∃ d', SWK enc 3 w blk off d' w' ∧ PermIn 0 d.size d d' ∧ SortedR (ltOf cf) tag 0 d.size d' := by
  subst hL hN
  have HC : Aside _ := hcmp
  have S0 : Aside (SWK enc 3 w blk off d w) := SWK.start R.hH
  have HT := Lib.hid ht
  clear hcmp ht
  go_enter Tryz.func91, Tryz.ntmps91
  go_wp2
  go_loopg [7, 8] (d.size) (fun g1 va vb wr => ∃ (a : Nat) (dk : Array α), va = .int .i64 a ∧ vb = .int .i64 (a + 20) ∧ a ≤ d.size ∧ d.size - a ≤ g1 ∧ Hid (20 ∣ a) ∧ Hid (dk.size = d.size) ∧ Hid (PermIn 0 d.size d dk ∧ FirstB (ltOf cf) tag 20 d.size a dk) ∧ Aside (SWK enc 3 w blk off dk wr))
  case atStart => exact ⟨0, d, rfl, rfl, Nat.zero_le _, by omega, Nat.dvd_zero _, rfl, ⟨permIn_refl _ _ _, FirstB.start (by omega) HT.out⟩, S0⟩
  case round =>
    clear S0
    obtain ⟨a, dk, rfl, rfl, ha, hg1, hd, hsk, HP, S1⟩ := hrel
    by_cases hlt : a + 20 ≤ d.size
    · have hz : (a : Int) + 20 ≤ (d.size : Int) := by omega
      obtain ⟨s1, p1⟩ := insertionSort_R (lt := ltOf cf) (tag := tag) hO a (a + 20) dk (by omega) (by have := hsk.out; omega) (fun i j hi hij hj => HP.out.2.f3 i j hi hij (by omega))
      have PP := Lib.hid (And.intro s1 p1)
      clear s1 p1
      go_wp2_with fail
      refine (insertion_tmb enc cf g cb blk off cap _ a (a + 20) _ _ d dk w _ eg hO HC.out R (by have := hsk.out; omega) S1.out hsk.out rfl (by omega) (by omega) (by have := hsk.out; omega) (by have := hsk.out; omega)).mono ?_
      rintro e w' ⟨rfl, S2⟩
      have S3 : Aside _ := S2
      clear S2
      go_wp2
      go_roundg (d.size - (a + 20))
      case measure => omega
      case rel => exact ⟨a + 20, _, by go_num, by go_num, hlt, Nat.le_refl _, (show 20 ∣ a + 20 from Nat.dvd_add hd.out (Nat.dvd_refl _)), (show _ = _ from by rw [PP.out.2.1, hsk.out]), ⟨permIn_trans _ _ _ _ _ HP.out.1 (permIn_mono _ _ _ _ _ _ (Nat.zero_le _) hlt (by have := hsk.out; omega) PP.out.2), HP.out.2.step hd.out hlt (by have := hsk.out; omega) PP.out.2 PP.out.1⟩, S3⟩
    · have hz : ¬ (a : Int) + 20 ≤ (d.size : Int) := by omega
      obtain ⟨s1, p1⟩ := insertionSort_R (lt := ltOf cf) (tag := tag) hO a d.size dk ha (by have := hsk.out; omega) HP.out.2.f3
      have hp2 := permIn_trans _ _ _ _ _ HP.out.1 (permIn_mono _ _ _ _ _ _ (Nat.zero_le _) (Nat.le_refl _) (by have := hsk.out; omega) p1)
      have hb2 := HP.out.2.done hd.out ha (by omega) (by have := hsk.out; omega) p1 s1
      have hs2 : (insertionSort (ltOf cf) dk a d.size).size = d.size := by rw [p1.1, hsk.out]
      have PP := Lib.hid (And.intro hp2 hb2)
      have HS2 := Lib.hid hs2
      clear s1 p1 hp2 hb2 hs2
      go_wp2_with fail
      refine (insertion_tmb enc cf g cb blk off cap _ a d.size _ _ d dk w _ eg hO HC.out R (by have := hsk.out; omega) S1.out hsk.out rfl rfl ha (by have := hsk.out; omega) (by have := hsk.out; omega)).mono ?_
      rintro e w' ⟨rfl, S2⟩
      have S3 : Aside _ := S2
      clear S2 S1 HP
      generalize hd2 : insertionSort (ltOf cf) dk a d.size = d2 at *
      clear hd2
      go_wp2
      go_loopg [6, 7, 8, 9] (d.size) (fun g1 vs va vb vm wr => ∃ (bs : Nat) (d2 : Array α), vs = .int .i64 bs ∧ 20 ≤ bs ∧ bs < 2305843009213693952 ∧ d.size - bs ≤ g1 ∧ Hid (d2.size = d.size) ∧ Hid (PermIn 0 d.size d d2 ∧ Blocks (ltOf cf) tag bs d.size d2) ∧ Aside (SWK enc 3 w blk off d2 wr))
      case atStart => exact ⟨20, d2, rfl, Nat.le_refl _, by omega, by omega, HS2, PP, S3⟩
      case round =>
        clear S3 PP HS2 hsk hd
        clear d2
        obtain ⟨bs, d2, rfl, hb20, hbb, hg2, hs2, HP, S4⟩ := hrel
        by_cases hlt2 : bs < d.size
        · have hz2 : (bs : Int) < (d.size : Int) := by omega
          go_wp2
          go_loopg [7, 8] (d.size) (fun g3 va vb wr => ∃ (a : Nat) (d3 : Array α), va = .int .i64 a ∧ vb = .int .i64 ((a : Int) + 2 * (bs : Int)) ∧ a ≤ d.size ∧ d.size - a ≤ g3 ∧ Hid (2 * bs ∣ a) ∧ Hid (d3.size = d.size) ∧ Hid (PermIn 0 d.size d d3 ∧ HalfB (ltOf cf) tag bs d.size a d3) ∧ Aside (SWK enc 3 w blk off d3 wr))
          case atStart => exact ⟨0, d2, rfl, by go_num, Nat.zero_le _, by omega, Nat.dvd_zero _, hs2, ⟨HP.out.1, HP.out.2.half (by omega)⟩, S4⟩
          case round =>
            clear S4 HP hs2
            clear d2
            obtain ⟨a, d3, rfl, rfl, ha, hg3, hd3, hs3, HP3, S5⟩ := hrel
            by_cases hlt3 : a + 2 * bs ≤ d.size
            · have hz3 : (a : Int) + 2 * (bs : Int) ≤ (d.size : Int) := by omega
              have hr := HP3.out.2.runs hd3.out (b := a + 2 * bs) (by omega) hlt3 (Nat.le_refl _)
              have HR := Lib.hid hr
              clear hr
              go_wp2_with fail
              refine (symMerge_tmb enc cf tag g cb blk off cap _ d w eg hO HC.out R hsz _ a (a + bs) (a + 2 * bs) d3 _ _ _ _ (Nat.le_refl _) (by omega) (by omega) (by have := hs3.out; omega) hs3.out hs3.out.symm HR.out S5.out rfl (by omega) (by omega)).mono ?_
              rintro e w' ⟨rfl, d4, S6, p4, s4⟩
              have S7 : Aside _ := S6
              have P4 := Lib.hid (And.intro p4 s4)
              clear S6 p4 s4
              go_wp2
              go_roundg (d.size - (a + 2 * bs))
              case measure => omega
              case rel => exact ⟨a + 2 * bs, d4, by go_num, (by first | rfl | (congr 1; omega) | go_num), hlt3, Nat.le_refl _, (show 2 * bs ∣ a + 2 * bs from Nat.dvd_add hd3.out (Nat.dvd_refl _)), (show _ = _ from by rw [P4.out.1.1, hs3.out]), ⟨permIn_trans _ _ _ _ _ HP3.out.1 (permIn_mono _ _ _ _ _ _ (Nat.zero_le _) hlt3 (by have := hs3.out; omega) P4.out.1), HP3.out.2.step hd3.out hlt3 (by have := hs3.out; omega) P4.out.1 P4.out.2⟩, S7⟩
            · have hz3 : ¬ (a : Int) + 2 * (bs : Int) ≤ (d.size : Int) := by omega
              by_cases hlt4 : a + bs < d.size
              · have hz4 : (a : Int) + (bs : Int) < (d.size : Int) := by omega
                have hr := HP3.out.2.runs hd3.out (b := d.size) hlt4 (Nat.le_refl _) (by omega)
                have HR := Lib.hid hr
                clear hr
                go_wp2_with fail
                refine (symMerge_tmb enc cf tag g cb blk off cap _ d w eg hO HC.out R hsz _ a (a + bs) d.size d3 _ _ _ _ (Nat.le_refl _) (by omega) hlt4 (by have := hs3.out; omega) hs3.out hs3.out.symm HR.out S5.out rfl (by omega) rfl).mono ?_
                rintro e w' ⟨rfl, d4, S6, p4, s4⟩
                have S7 : Aside _ := S6
                have P4 := Lib.hid (And.intro p4 s4)
                clear S6 p4 s4
                go_wp2
                go_roundg (d.size - 2 * bs)
                case measure => omega
                case rel => exact ⟨2 * bs, d4, (by first | rfl | (congr 1; omega) | go_num), by omega, by omega, Nat.le_refl _, (show _ = _ from by rw [P4.out.1.1, hs3.out]), ⟨permIn_trans _ _ _ _ _ HP3.out.1 (permIn_mono _ _ _ _ _ _ (Nat.zero_le _) (Nat.le_refl _) (by have := hs3.out; omega) P4.out.1), HP3.out.2.done hd3.out ha (by omega) (by have := hs3.out; omega) P4.out.1 P4.out.2⟩, S7⟩
              · have hz4 : ¬ (a : Int) + (bs : Int) < (d.size : Int) := by omega
                go_wp2
                go_roundg (d.size - 2 * bs)
                case measure => omega
                case rel => exact ⟨2 * bs, d3, (by first | rfl | (congr 1; omega) | go_num), by omega, by omega, Nat.le_refl _, hs3, ⟨HP3.out.1, HP3.out.2.done hd3.out ha (by omega) (by have := hs3.out; omega) (permIn_refl _ _ _) (HP3.out.2.rest hd3.out (by omega))⟩, S5⟩
        · have hz2 : ¬ (bs : Int) < (d.size : Int) := by omega
          go_wp2
          go_end0
          exact ⟨rfl, d2, S4.out, HP.out.1, HP.out.2.whole (by omega)⟩

/-- slices.SortStableFunc at []api.Tomb. -/
theorem sortStable_tmb (enc : α → List Value) (cf : α → α → Int) (tag : α → Nat) (g : Nat) (cb : Array Value) (blk off cap L : Nat) (d : Array α) (w : World)
    (eg : ∀ args w, (callFunc g args).run Tryz.prog w = .ok (.enter g args) w) (hO : SWO (ltOf cf)) (hcmp : CmpLays Tryz.prog g cb enc 3 cf blk off d.size w) (R : RowT enc w blk off d) (hL : d.size = L) (hsz : d.size < 1152921504606846976)
    (ht : TagsIn tag 0 d.size d) :
    Calls Tryz.prog 29 #[.slice (some ⟨blk, off, none⟩) L cap, .func (.func g) #[] cb] w fun e w' =>
      e = .returned (.tuple #[]) ∧ ∃ d', SWK enc 3 w blk off d' w' ∧ PermIn 0 d.size d d' ∧ SortedR (ltOf cf) tag 0 d.size d' := by
  subst hL
  have hc := stable_tmb enc cf tag g cb blk off cap _ _ d w eg hO hcmp R rfl rfl hsz ht
  have HC := Lib.hid hc
  clear hc hcmp ht
  go_enter Tryz.func29, Tryz.ntmps29
  go_wp2_with fail
  refine HC.out.mono ?_
  rintro e w' ⟨rfl, d', S, hp, hs⟩
  have S1 : Aside _ := S
  have P := Lib.hid (And.intro hp hs)
  clear S hp hs
  go_wp2
  go_end0
  exact ⟨rfl, d', S1.out, P.out.1, P.out.2⟩
end Go.Proofs.YtihidnmpngeohaaGreat
