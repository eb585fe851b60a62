/-  slices.SortStableFunc at []api.Sample, of whatever length: a permutation of what the row held, in the order in which ties go by a tag that rises. The stable sort of samples: slices.SortStableFunc by their times leaves them sorted, those of one time in their order. -/
import Derived.Test.YtihidnmpngeohaaGreatG27
import Derived.Deep.Cut
import Derived.Test.YtihidnmpngeohaaGreatG17
import Derived.Test.YtihidnmpngeohaaGreatG04
import Derived.Shelf.SlSortCmp.PdqK
import Derived.Test.YtihidnmpngeohaaGreatSamples
import Derived.LoopN
namespace Go.Proofs.YtihidnmpngeohaaGreat
open Go.RowKit Go.Lib Go.Sort
variable {α : Type} [Inhabited α]
set_option maxHeartbeats 2000000 in
set_option maxRecDepth 1000000 in
theorem symMerge_sam_step (enc : α → List Value) (cf : α → α → Int) (tag : α → Nat) (g : Nat) (cb : Array Value) (blk off cap L a m b mid lo hi : Nat) (A M B : Int) (d0 d : Array α) (w0 w : World)
    (eg : ∀ args w, (callFunc g args).run Tryz.prog w = .ok (.enter g args) w) (hO : SWO (ltOf cf)) (hcmp : CmpLays Tryz.prog g cb enc 2 cf blk off d0.size w0) (R : RowS enc w0 blk off d0) (hs : d0.size = d.size) (S : SWK enc 2 w0 blk off d w)
    (hL : d.size = L) (hA : A = (a : Int)) (hM : M = (m : Int)) (hB : B = (b : Int)) (ham : a + 1 < m) (hbm : m + 1 < b) (hb : b ≤ d.size) (hsz : d.size < 1152921504606846976) (hR : Runs (ltOf cf) tag a m b d)
    (hmid : mid = (a + b) / 2) (hcase : (mid < m ∧ lo + b = mid + m ∧ hi = mid) ∨ (m ≤ mid ∧ lo = a ∧ hi = m))
    (ih : Hid (∀ (a' m' b' : Nat) (d' : Array α) (w' : World) (A' M' B' : Int), b' - a' < b - a → a' < m' → m' < b' → b' ≤ d'.size → d'.size = d.size → Runs (ltOf cf) tag a' m' b' d' → SWK enc 2 w0 blk off d' w' → A' = (a' : Int) → M' = (m' : Int) → B' = (b' : Int) →
      Calls Tryz.prog 163 #[.slice (some ⟨blk, off, none⟩) L cap, .int .i64 A', .int .i64 M', .int .i64 B', .func (.func g) #[] cb] w' fun e w'' =>
      e = .returned (.tuple #[]) ∧ ∃ d'', SWK enc 2 w0 blk off d'' w'' ∧ PermIn a' b' d' d'' ∧ SortedR (ltOf cf) tag a' b' d'')) :
    Calls Tryz.prog 163 #[.slice (some ⟨blk, off, none⟩) L cap, .int .i64 A, .int .i64 M, .int .i64 B, .func (.func g) #[] cb] w fun e w' =>
      e = .returned (.tuple #[]) ∧ ∃ d', SWK enc 2 w0 blk off d' w' ∧ PermIn a b d d' ∧ SortedR (ltOf cf) tag a b d' := by
  subst hL hA hM hB
  have mixed : Tryz.prog.follows .mixedOrders = true := by kernel_rfl
  have HC : Aside _ := hcmp
  have HR := Lib.hid hR
  have S0 : Aside (SWK enc 2 w0 blk off d w) := S
  clear S hcmp hR
  have z1 : ((m : Int) - (a : Int) == 1) = false := by rw [beq_eq_false_iff_ne]; omega
  have z2 : ((b : Int) - (m : Int) == 1) = false := by rw [beq_eq_false_iff_ne]; omega
  obtain ⟨nn, hnn⟩ : ∃ nn, nn = mid + m := ⟨_, rfl⟩
  have Hmid := Lib.hid hmid
  have Hnn := Lib.hid hnn
  have b1 : a < mid := by omega
  have b2 : mid < b := by omega
  have l1 : a ≤ lo := by omega
  have l2 : lo ≤ hi := by omega
  have l3 : hi ≤ m := by omega
  have l4 : hi ≤ mid := by omega
  have l5 : nn ≤ lo + b := by omega
  have l6 : mid + hi ≤ nn := by omega
  have l7 : m + hi ≤ nn := by omega
  have l8 : nn < b + b := by omega
  have Hcase := Lib.hid hcase
  clear hmid hnn hcase
  go_enter Tryz.func163, Tryz.ntmps163
  go_upto_if 140 with (fail)
  go_cut [18, 19, 20, 21] from 129 (fun s18 s19 s20 s21 wc => s18 = .int .i64 mid ∧ s19 = .int .i64 nn ∧ s20 = .int .i64 lo ∧ s21 = .int .i64 hi ∧ wc = w)
  case first =>
    have hm := Hmid.out
    have hn := Hnn.out
    rcases Hcase.out with ⟨h1, h2, h3⟩ | ⟨h1, h2, h3⟩
    · have q : ((a : Int) + (b : Int)) / 2 < (m : Int) := by omega
      have HH := Lib.hid (And.intro hm (And.intro hn (And.intro h2 h3)))
      clear hm hn h1 h2 h3
      go_wp2
      go_meet
      obtain ⟨hm, hn, h2, h3⟩ := HH.out
      exact ⟨by congr 1; omega, by congr 1; omega, by congr 1; omega, by congr 1; omega, rfl⟩
    · have q : ¬ ((a : Int) + (b : Int)) / 2 < (m : Int) := by omega
      have HH := Lib.hid (And.intro hm (And.intro hn (And.intro h2 h3)))
      clear hm hn h1 h2 h3
      go_wp2
      go_meet
      obtain ⟨hm, hn, h2, h3⟩ := HH.out
      exact ⟨by congr 1; omega, by congr 1; omega, by congr 1; omega, by congr 1; omega, rfl⟩
  case rest =>
    obtain ⟨rfl, rfl, rfl, rfl, rfl⟩ := hcut
    go_wp2
    go_loopg [20, 21] (hi - lo) (fun g1 vi vj wr => ∃ i j : Nat, vi = .int .i64 i ∧ vj = .int .i64 j ∧ lo ≤ i ∧ i ≤ j ∧ j ≤ hi ∧ j - i ≤ g1 ∧ Hid (lo < i → ltOf cf d[nn - i]! d[i - 1]! = false) ∧ Hid (j < hi → ltOf cf d[nn - 1 - j]! d[j]! = true) ∧ Aside (SWK enc 2 w0 blk off d wr))
    case atStart => exact ⟨lo, hi, rfl, rfl, Nat.le_refl _, l2, Nat.le_refl _, Nat.le_refl _, (show Hid _ from fun h => by omega), (show Hid _ from fun h => by omega), S0⟩
    case round =>
      clear S0
      obtain ⟨i, j, rfl, rfl, hmi, hij, hjb, hg1, HI, HJ, S1⟩ := hrel
      by_cases hlt : i < j
      · have hz : (i : Int) < (j : Int) := by omega
        obtain ⟨h, hh⟩ : ∃ h, h = (i + j) / 2 := ⟨_, rfl⟩
        have hi1 : i ≤ h := by omega
        have hi2 : h < j := by omega
        obtain ⟨hN, hhN⟩ : ∃ q, q = h := ⟨_, rfl⟩
        obtain ⟨pN, hpN⟩ : ∃ q, q = nn - 1 - h := ⟨_, rfl⟩
        have eh : (((i : Int) + (j : Int)) / 2).toNat = hN := by omega
        have ph : (0 : Int) ≤ ((i : Int) + (j : Int)) / 2 := by omega
        have bh : ((i : Int) + (j : Int)) / 2 < (d.size : Int) := by omega
        have ep : ((nn : Int) - 1 - ((i : Int) + (j : Int)) / 2).toNat = pN := by omega
        have pp : (0 : Int) ≤ (nn : Int) - 1 - ((i : Int) + (j : Int)) / 2 := by omega
        have pp2 : ((i : Int) + (j : Int)) / 2 ≤ (nn : Int) - 1 := by omega
        have bp : (nn : Int) - 1 - ((i : Int) + (j : Int)) / 2 < (d.size : Int) := by omega
        have rp : IntKind.i64.wrap ((nn : Int) - 1 - ((i : Int) + (j : Int)) / 2) = (nn : Int) - 1 - ((i : Int) + (j : Int)) / 2 := by rw [IntKind.wrap_i64]; omega
        obtain ⟨x, hx⟩ : ∃ x, x = d[nn - 1 - h]! := ⟨_, rfl⟩
        obtain ⟨y, hy⟩ : ∃ x, x = d[h]! := ⟨_, rfl⟩
        obtain ⟨x0, x1, hex⟩ := R.two x
        obtain ⟨y0, y1, hey⟩ := R.two y
        have la0 := S1.out.cl2 R (by omega) (nn - 1 - h) (by omega) (hx ▸ hex)
        have lb0 := S1.out.cl2 R (by omega) h (by omega) (hy ▸ hey)
        have la := fun n os => (la0 n os).1
        have la1 := fun n os => (la0 n os).2
        have lb := fun n os => (lb0 n os).1
        have lb1 := fun n os => (lb0 n os).2
        clear la0 lb0
        rw [← hpN] at la la1
        rw [← hhN] at lb lb1
        have hc := S1.out.cmp HC.out (by omega) x y
        rw [hex, hey] at hc
        have Hx := Lib.hid hx
        have Hy := Lib.hid hy
        have Hh := Lib.hid hh
        have hne : nn - (h + 1) = nn - 1 - h := by omega
        have Hne := Lib.hid hne
        clear hx hy hhN hh hex hey hpN hne
        cases hlv : decide (cf x y < 0) with
        | true =>
          have hv : cf x y < 0 := of_decide_eq_true hlv
          go_wp2_with fail
          go_quiet_grown (first | (go_at_fn g; refine Calls.grown_of (hc _ _)))
          have S2 : Aside (SWK enc 2 w0 blk off d (grow (wr.drewN nq) osq)) := S1.out.grown nq osq
          clear la la1 lb lb1 hc S1
          generalize grow (wr.drewN nq) osq = w2 at S2 ⊢
          clear nq osq eh ep rp
          go_wp2
          go_roundg (h - i)
          case measure => omega
          case rel => exact ⟨i, h, rfl, (by have := Hh.out; congr 1; omega), hmi, hi1, by omega, Nat.le_refl _, HI, (show Hid _ from fun _ => by rw [← Hx.out, ← Hy.out]; exact hlv), S2⟩
        | false =>
          have hv : ¬ cf x y < 0 := of_decide_eq_false hlv
          go_wp2_with fail
          go_quiet_grown (first | (go_at_fn g; refine Calls.grown_of (hc _ _)))
          have S2 : Aside (SWK enc 2 w0 blk off d (grow (wr.drewN nq) osq)) := S1.out.grown nq osq
          clear la la1 lb lb1 hc S1
          generalize grow (wr.drewN nq) osq = w2 at S2 ⊢
          clear nq osq eh ep rp
          go_wp2
          go_roundg (j - (h + 1))
          case measure => omega
          case rel => exact ⟨h + 1, j, (by have := Hh.out; congr 1; omega), rfl, by omega, by omega, hjb, Nat.le_refl _, (show Hid _ from fun _ => by rw [Nat.add_sub_cancel, Hne.out, ← Hx.out, ← Hy.out]; exact hlv), HJ, S2⟩
      · have hz : ¬ (i : Int) < (j : Int) := by omega
        obtain rfl : i = j := by omega
        obtain ⟨e, he⟩ : ∃ e, e = nn - i := ⟨_, rfl⟩
        have e1 : m ≤ e := by omega
        have e2 : e ≤ b := by omega
        have e3 : i + e = nn := by omega
        have hc1 : a < i → e < b → ltOf cf d[e]! d[i - 1]! = false := fun h1 h2 => by
          rw [he]
          exact HI.out (by rcases Hcase.out with ⟨q1, q2, q3⟩ | ⟨q1, q2, q3⟩ <;> (have := Hnn.out; omega))
        have hc2 : i < m → m < e → ltOf cf d[e - 1]! d[i]! = true := fun h1 h2 => by
          have := HJ.out (by rcases Hcase.out with ⟨q1, q2, q3⟩ | ⟨q1, q2, q3⟩ <;> (have := Hnn.out; omega))
          rwa [show e - 1 = nn - 1 - i by omega]
        have hcut := merge_cut hO (mid := mid) hb HR.out (by omega) (by omega) e1 e2 (by have := Hnn.out; omega) hc1 hc2
        have HCUT := Lib.hid hcut
        have hp1 := rotA_permIn d i m e a b (by omega) (by omega) e1 e2 hb
        have HP1 := Lib.hid hp1
        have He := Lib.hid he
        have e4 : e ≤ mid + (m - i) := by have := Hnn.out; omega
        have e5 : mid + (m - i) ≤ e := by have := Hnn.out; omega
        have z3 : (nn : Int) - (i : Int) = (e : Int) := by omega
        have Z3 := Lib.hid z3
        clear hc1 hc2 hcut hp1 he HI HJ e3 z3
        go_upto_region 39 with (fail)
        go_cut [185] from 178 (fun s185 wc => s185 = .bool (decide (i < m ∧ m < e)) ∧ wc = wr)
        case first =>
          by_cases q1 : i < m
          · have q1z : (i : Int) < (m : Int) := by omega
            by_cases q2 : m < e
            · have q3 : (m : Int) < (nn : Int) - (i : Int) := by have := Z3.out; omega
              go_wp2
              go_meet
              exact ⟨by rw [decide_eq_true (show i < m ∧ m < e from ⟨q1, q2⟩)], rfl⟩
            · have q3 : ¬ (m : Int) < (nn : Int) - (i : Int) := by have := Z3.out; omega
              go_wp2
              go_meet
              exact ⟨by rw [decide_eq_false (show ¬ (i < m ∧ m < e) from fun h => q2 h.2)], rfl⟩
          · have q3 : ¬ (i : Int) < (m : Int) := by omega
            go_wp2
            go_meet
            exact ⟨by rw [decide_eq_false (show ¬ (i < m ∧ m < e) from fun h => q1 h.1)], rfl⟩
        case rest =>
        obtain ⟨rfl, rfl⟩ := hcut
        obtain ⟨bb, hbb⟩ : ∃ bb, bb = decide (i < m ∧ m < e) := ⟨_, rfl⟩
        rw [← hbb]
        have Hbb := Lib.hid hbb
        clear hbb
        go_upto_if 185 with (fail)
        go_cut [24] from 175 (fun s24 wc => s24 = .int .i64 e ∧ Aside (SWK enc 2 w0 blk off (rotA d i m e) wc))
        case first =>
          cases bb with
          | true =>
            have q := of_decide_eq_true Hbb.out.symm
            have q1 := q.1
            have q2 := q.2
            clear q
            go_wp2_with fail
            refine (rotate_sam enc blk off cap _ i m e _ _ _ _ d0 d w0 _ R hs S1.out rfl rfl rfl Z3.out q1 q2 (by omega) (by omega)).mono ?_
            rintro e' w' ⟨rfl, S2⟩
            go_wp2
            go_meet
            exact ⟨by rw [Z3.out], S2⟩
          | false =>
            have q := of_decide_eq_false Hbb.out.symm
            have hrot : rotA d i m e = d := by
              by_cases q1 : i < m
              · rw [show e = m by omega, rotA_none]
              · rw [show i = m by omega, rotA_none']
            have Hrot := Lib.hid hrot
            clear hrot q
            go_wp2
            go_meet
            exact ⟨by rw [Z3.out], (show Aside (SWK _ _ _ _ _ _ _) from by rw [Hrot.out]; exact S1.out)⟩
        case rest =>
        clear S1
        obtain ⟨rfl, S2⟩ := hcut
        obtain ⟨r1, r2, r3⟩ := HCUT.out
        have hs1 : (rotA d i m e).size = d.size := size_rotA _ _ _ _
        generalize hd1 : rotA d i m e = d1 at *
        have R1 := Lib.hid r1
        have R2 := Lib.hid r2
        have R3 := Lib.hid r3
        have Hs1 := Lib.hid hs1
        clear r1 r2 r3 hs1 hd1 HCUT Z3 He
        go_upto_region 41 with (fail)
        go_cut [199] from 192 (fun sx wd => sx = .bool (decide (a < i ∧ i < mid)) ∧ wd = wc)
        case first =>
          by_cases q1 : a < i
          · have q1z : (a : Int) < (i : Int) := by omega
            by_cases q2 : i < mid
            · have q3 : (i : Int) < (mid : Int) := by omega
              go_wp2
              go_meet
              exact ⟨by rw [decide_eq_true (show a < i ∧ i < mid from ⟨q1, q2⟩)], rfl⟩
            · have q3 : ¬ (i : Int) < (mid : Int) := by omega
              go_wp2
              go_meet
              exact ⟨by rw [decide_eq_false (show ¬ (a < i ∧ i < mid) from fun h => q2 h.2)], rfl⟩
          · have q3 : ¬ (a : Int) < (i : Int) := by omega
            go_wp2
            go_meet
            exact ⟨by rw [decide_eq_false (show ¬ (a < i ∧ i < mid) from fun h => q1 h.1)], rfl⟩
        case rest =>
        obtain ⟨rfl, rfl⟩ := hcut
        obtain ⟨bb, hbb⟩ : ∃ bb, bb = decide (a < i ∧ i < mid) := ⟨_, rfl⟩
        rw [← hbb]
        have Hbb := Lib.hid hbb
        clear hbb
        go_upto_if 199 with (fail)
        go_cut [] from 192 (fun wd => ∃ d2 : Array α, Aside (SWK enc 2 w0 blk off d2 wd) ∧ Hid (PermIn a mid d1 d2 ∧ SortedR (ltOf cf) tag a mid d2))
        case first =>
          cases bb with
          | true =>
            have q := of_decide_eq_true Hbb.out.symm
            have q1 := q.1
            have q2 := q.2
            clear q
            go_wp2_with fail
            refine (ih.out a i mid d1 _ _ _ _ (by omega) q1 q2 (by have := Hs1.out; omega) Hs1.out R1.out S2.out rfl rfl rfl).mono ?_
            rintro e' w' ⟨rfl, d2, S3, p2, s2⟩
            have S4 : Aside _ := S3
            have P2 := Lib.hid (And.intro p2 s2)
            clear S3 p2 s2
            go_wp2
            go_meet
            exact ⟨d2, S4, P2.out⟩
          | false =>
            have q := of_decide_eq_false Hbb.out.symm
            have hsrt : SortedR (ltOf cf) tag a mid d1 := R1.out.whole hO fun h1 h2 => absurd (And.intro h1 h2) q
            have HSRT := Lib.hid hsrt
            clear hsrt q
            go_wp2
            go_meet
            exact ⟨d1, S2, permIn_refl _ _ _, HSRT.out⟩
        case rest =>
        clear S2 Hbb bb
        obtain ⟨d2, S3, P2⟩ := hcut
        go_upto_region 43 with (fail)
        go_cut [213] from 206 (fun sx wd => sx = .bool (decide (mid < e ∧ e < b)) ∧ wd = wc)
        case first =>
          by_cases q1 : mid < e
          · have q1z : (mid : Int) < (e : Int) := by omega
            by_cases q2 : e < b
            · have q3 : (e : Int) < (b : Int) := by omega
              go_wp2
              go_meet
              exact ⟨by rw [decide_eq_true (show mid < e ∧ e < b from ⟨q1, q2⟩)], rfl⟩
            · have q3 : ¬ (e : Int) < (b : Int) := by omega
              go_wp2
              go_meet
              exact ⟨by rw [decide_eq_false (show ¬ (mid < e ∧ e < b) from fun h => q2 h.2)], rfl⟩
          · have q3 : ¬ (mid : Int) < (e : Int) := by omega
            go_wp2
            go_meet
            exact ⟨by rw [decide_eq_false (show ¬ (mid < e ∧ e < b) from fun h => q1 h.1)], rfl⟩
        case rest =>
        obtain ⟨rfl, rfl⟩ := hcut
        obtain ⟨bb, hbb⟩ : ∃ bb, bb = decide (mid < e ∧ e < b) := ⟨_, rfl⟩
        rw [← hbb]
        have Hbb := Lib.hid hbb
        clear hbb
        go_upto_if 213 with (fail)
        cases bb with
        | true =>
          have q := of_decide_eq_true Hbb.out.symm
          have q1 := q.1
          have q2 := q.2
          clear q
          have sz2 : d2.size = d.size := by rw [P2.out.1.1, Hs1.out]
          have SZ2 := Lib.hid sz2
          have r2' := R2.out.behind P2.out.1 (Nat.le_refl _) (by omega)
          have R2' := Lib.hid r2'
          clear r2' sz2
          go_wp2_with fail
          refine (ih.out mid e b d2 _ _ _ _ (by omega) q1 q2 (by have := SZ2.out; omega) SZ2.out R2'.out S3.out rfl rfl rfl).mono ?_
          rintro e' w' ⟨rfl, d3, S4, p3, s3⟩
          have P3 := Lib.hid (And.intro p3 s3)
          have S5 : Aside _ := S4
          clear S4 p3 s3
          go_wp2
          go_end0
          refine ⟨rfl, d3, S5.out, ?_, merge_done (by have := Hs1.out; omega) P2.out.1 P3.out.1 P2.out.2 P3.out.2 R3.out⟩
          exact permIn_trans _ _ _ _ _ HP1.out (permIn_trans _ _ _ _ _ (permIn_mono _ _ _ _ _ _ (Nat.le_refl _) (by omega) (by have := Hs1.out; omega) P2.out.1) (permIn_mono _ _ _ _ _ _ (by omega) (Nat.le_refl _) (by have := SZ2.out; omega) P3.out.1))
        | false =>
          have q := of_decide_eq_false Hbb.out.symm
          have r2' := R2.out.behind P2.out.1 (Nat.le_refl _) (by omega)
          have hsrt : SortedR (ltOf cf) tag mid b d2 := r2'.whole hO fun h1 h2 => absurd (And.intro h1 h2) q
          have HSRT := Lib.hid hsrt
          clear hsrt q r2'
          go_wp2
          go_end0
          refine ⟨rfl, d2, S3.out, ?_, merge_done (by have := Hs1.out; omega) P2.out.1 (permIn_refl _ _ _) P2.out.2 HSRT.out R3.out⟩
          exact permIn_trans _ _ _ _ _ HP1.out (permIn_mono _ _ _ _ _ _ (Nat.le_refl _) (by omega) (by have := Hs1.out; omega) P2.out.1)
end Go.Proofs.YtihidnmpngeohaaGreat
namespace Go.Proofs.YtihidnmpngeohaaGreat
open Go.RowKit Go.Lib Go.Sort
variable {α : Type} [Inhabited α]

theorem symMerge_sam (enc : α → List Value) (cf : α → α → Int) (tag : α → Nat) (g : Nat) (cb : Array Value) (blk off cap L : Nat) (d0 : Array α) (w0 : World)
    (eg : ∀ args w, (callFunc g args).run Tryz.prog w = .ok (.enter g args) w) (hO : SWO (ltOf cf)) (hcmp : CmpLays Tryz.prog g cb enc 2 cf blk off d0.size w0) (R : RowS enc w0 blk off d0) (hsz : d0.size < 1152921504606846976) :
    ∀ (r a m b : Nat) (d : Array α) (w : World) (A M B : Int), b - a ≤ r → a < m → m < b → b ≤ d.size → d.size = L → d0.size = d.size → Runs (ltOf cf) tag a m b d → SWK enc 2 w0 blk off d w → A = (a : Int) → M = (m : Int) → B = (b : Int) →
    Calls Tryz.prog 163 #[.slice (some ⟨blk, off, none⟩) L cap, .int .i64 A, .int .i64 M, .int .i64 B, .func (.func g) #[] cb] w fun e w' =>
      e = .returned (.tuple #[]) ∧ ∃ d', SWK enc 2 w0 blk off d' w' ∧ PermIn a b d d' ∧ SortedR (ltOf cf) tag a b d' := by
  intro r
  induction r with
  | zero => intro a m b d w A M B hr; omega
  | succ r ih =>
    intro a m b d w A M B hr ham hmb hb hL hs hR S hA hM hB
    by_cases h1 : m = a + 1
    · exact symMerge_sam_left enc cf tag g cb blk off cap L a m b A M B d0 d w0 w eg hO hcmp R hs S hL hA hM hB h1 hmb hb (by omega) hR
    · by_cases h2 : b = m + 1
      · exact symMerge_sam_right enc cf tag g cb blk off cap L a m b A M B d0 d w0 w eg hO hcmp R hs S hL hA hM hB (by omega) h2 hb (by omega) hR
      · by_cases h3 : (a + b) / 2 < m
        · exact symMerge_sam_step enc cf tag g cb blk off cap L a m b ((a + b) / 2) ((a + b) / 2 + m - b) ((a + b) / 2) A M B d0 d w0 w eg hO hcmp R hs S hL hA hM hB (by omega) (by omega) hb (by omega) hR rfl (.inl ⟨h3, by omega, rfl⟩)
            (fun a' m' b' d' w' A' M' B' q1 q2 q3 q4 q5 q6 q7 q8 q9 q10 => ih a' m' b' d' w' A' M' B' (by omega) q2 q3 q4 (by omega) (by omega) q6 q7 q8 q9 q10)
        · exact symMerge_sam_step enc cf tag g cb blk off cap L a m b ((a + b) / 2) a m A M B d0 d w0 w eg hO hcmp R hs S hL hA hM hB (by omega) (by omega) hb (by omega) hR rfl (.inr ⟨by omega, rfl, rfl⟩)
            (fun a' m' b' d' w' A' M' B' q1 q2 q3 q4 q5 q6 q7 q8 q9 q10 => ih a' m' b' d' w' A' M' B' (by omega) q2 q3 q4 (by omega) (by omega) q6 q7 q8 q9 q10)

theorem insertion_sam (enc : α → List Value) (cf : α → α → Int) (g : Nat) (cb : Array Value) (blk off cap L a b : Nat) (A B : Int) (d0 d : Array α) (w0 w : World)
    (eg : ∀ args w, (callFunc g args).run Tryz.prog w = .ok (.enter g args) w) (hO : SWO (ltOf cf)) (hcmp : CmpLays Tryz.prog g cb enc 2 cf blk off d0.size w0) (R : RowS enc w0 blk off d0) (hs : d0.size = d.size) (S : SWK enc 2 w0 blk off d w)
    (hL : d.size = L) (hA : A = (a : Int)) (hB : B = (b : Int)) (hab : a ≤ b) (hb : b ≤ d.size) (hsz : d.size < 1152921504606846976) :
    Calls Tryz.prog 162 #[.slice (some ⟨blk, off, none⟩) L cap, .int .i64 A, .int .i64 B, .func (.func g) #[] cb] w fun e w' =>
      e = .returned (.tuple #[]) ∧ SWK enc 2 w0 blk off (Sort.insertionSort (ltOf cf) d a b) w' := by
  subst hL hA hB
  exact AnyQ.insertionSortCmpFunc_w Tryz.insSample 2 Tryz.isAgg95 Tryz.sizeOf95 enc cf g cb blk off cap a b d0 d w0 w eg hcmp R.toRowK hs S hO hab hb (by omega)

set_option maxHeartbeats 2000000 in
set_option maxRecDepth 1000000 in
theorem stable_sam (enc : α → List Value) (cf : α → α → Int) (tag : α → Nat) (g : Nat) (cb : Array Value) (blk off cap L : Nat) (N : Int) (d : Array α) (w : World)
    (eg : ∀ args w, (callFunc g args).run Tryz.prog w = .ok (.enter g args) w) (hO : SWO (ltOf cf)) (hcmp : CmpLays Tryz.prog g cb enc 2 cf blk off d.size w) (R : RowS enc w blk off d) (hL : d.size = L) (hN : N = (L : Int)) (hsz : d.size < 1152921504606846976)
    (ht : TagsIn tag 0 d.size d) :
    Calls Tryz.prog 133 #[.slice (some ⟨blk, off, none⟩) L cap, .int .i64 N, .func (.func g) #[] cb] w fun e w' =>
      e = .returned (.tuple #[]) ∧ ∃ d', SWK enc 2 w blk off d' w' ∧ PermIn 0 d.size d d' ∧ SortedR (ltOf cf) tag 0 d.size d' := by
  subst hL hN
  have HC : Aside _ := hcmp
  have S0 : Aside (SWK enc 2 w blk off d w) := SWK.start R.hH
  have HT := Lib.hid ht
  clear hcmp ht
  go_enter Tryz.func133, Tryz.ntmps133
  go_wp2
  go_loopg [7, 8] (d.size) (fun g1 va vb wr => ∃ (a : Nat) (dk : Array α), va = .int .i64 a ∧ vb = .int .i64 (a + 20) ∧ a ≤ d.size ∧ d.size - a ≤ g1 ∧ Hid (20 ∣ a) ∧ Hid (dk.size = d.size) ∧ Hid (PermIn 0 d.size d dk ∧ FirstB (ltOf cf) tag 20 d.size a dk) ∧ Aside (SWK enc 2 w blk off dk wr))
  case atStart => exact ⟨0, d, rfl, rfl, Nat.zero_le _, by omega, Nat.dvd_zero _, rfl, ⟨permIn_refl _ _ _, FirstB.start (by omega) HT.out⟩, S0⟩
  case round =>
    clear S0
    obtain ⟨a, dk, rfl, rfl, ha, hg1, hd, hsk, HP, S1⟩ := hrel
    by_cases hlt : a + 20 ≤ d.size
    · have hz : (a : Int) + 20 ≤ (d.size : Int) := by omega
      obtain ⟨s1, p1⟩ := insertionSort_R (lt := ltOf cf) (tag := tag) hO a (a + 20) dk (by omega) (by have := hsk.out; omega) (fun i j hi hij hj => HP.out.2.f3 i j hi hij (by omega))
      have PP := Lib.hid (And.intro s1 p1)
      clear s1 p1
      go_wp2_with fail
      refine (insertion_sam enc cf g cb blk off cap _ a (a + 20) _ _ d dk w _ eg hO HC.out R (by have := hsk.out; omega) S1.out hsk.out rfl (by omega) (by omega) (by have := hsk.out; omega) (by have := hsk.out; omega)).mono ?_
      rintro e w' ⟨rfl, S2⟩
      have S3 : Aside _ := S2
      clear S2
      go_wp2
      go_roundg (d.size - (a + 20))
      case measure => omega
      case rel => exact ⟨a + 20, _, by go_num, by go_num, hlt, Nat.le_refl _, (show 20 ∣ a + 20 from Nat.dvd_add hd.out (Nat.dvd_refl _)), (show _ = _ from by rw [PP.out.2.1, hsk.out]), ⟨permIn_trans _ _ _ _ _ HP.out.1 (permIn_mono _ _ _ _ _ _ (Nat.zero_le _) hlt (by have := hsk.out; omega) PP.out.2), HP.out.2.step hd.out hlt (by have := hsk.out; omega) PP.out.2 PP.out.1⟩, S3⟩
    · have hz : ¬ (a : Int) + 20 ≤ (d.size : Int) := by omega
      obtain ⟨s1, p1⟩ := insertionSort_R (lt := ltOf cf) (tag := tag) hO a d.size dk ha (by have := hsk.out; omega) HP.out.2.f3
      have hp2 := permIn_trans _ _ _ _ _ HP.out.1 (permIn_mono _ _ _ _ _ _ (Nat.zero_le _) (Nat.le_refl _) (by have := hsk.out; omega) p1)
      have hb2 := HP.out.2.done hd.out ha (by omega) (by have := hsk.out; omega) p1 s1
      have hs2 : (insertionSort (ltOf cf) dk a d.size).size = d.size := by rw [p1.1, hsk.out]
      have PP := Lib.hid (And.intro hp2 hb2)
      have HS2 := Lib.hid hs2
      clear s1 p1 hp2 hb2 hs2
      go_wp2_with fail
      refine (insertion_sam enc cf g cb blk off cap _ a d.size _ _ d dk w _ eg hO HC.out R (by have := hsk.out; omega) S1.out hsk.out rfl rfl ha (by have := hsk.out; omega) (by have := hsk.out; omega)).mono ?_
      rintro e w' ⟨rfl, S2⟩
      have S3 : Aside _ := S2
      clear S2 S1 HP
      generalize hd2 : insertionSort (ltOf cf) dk a d.size = d2 at *
      clear hd2
      go_wp2
      go_loopg [6, 7, 8, 9] (d.size) (fun g1 vs va vb vm wr => ∃ (bs : Nat) (d2 : Array α), vs = .int .i64 bs ∧ 20 ≤ bs ∧ bs < 2305843009213693952 ∧ d.size - bs ≤ g1 ∧ Hid (d2.size = d.size) ∧ Hid (PermIn 0 d.size d d2 ∧ Blocks (ltOf cf) tag bs d.size d2) ∧ Aside (SWK enc 2 w blk off d2 wr))
      case atStart => exact ⟨20, d2, rfl, Nat.le_refl _, by omega, by omega, HS2, PP, S3⟩
      case round =>
        clear S3 PP HS2 hsk hd
        clear d2
        obtain ⟨bs, d2, rfl, hb20, hbb, hg2, hs2, HP, S4⟩ := hrel
        by_cases hlt2 : bs < d.size
        · have hz2 : (bs : Int) < (d.size : Int) := by omega
          go_wp2
          go_loopg [7, 8] (d.size) (fun g3 va vb wr => ∃ (a : Nat) (d3 : Array α), va = .int .i64 a ∧ vb = .int .i64 ((a : Int) + 2 * (bs : Int)) ∧ a ≤ d.size ∧ d.size - a ≤ g3 ∧ Hid (2 * bs ∣ a) ∧ Hid (d3.size = d.size) ∧ Hid (PermIn 0 d.size d d3 ∧ HalfB (ltOf cf) tag bs d.size a d3) ∧ Aside (SWK enc 2 w blk off d3 wr))
          case atStart => exact ⟨0, d2, rfl, by go_num, Nat.zero_le _, by omega, Nat.dvd_zero _, hs2, ⟨HP.out.1, HP.out.2.half (by omega)⟩, S4⟩
          case round =>
            clear S4 HP hs2
            clear d2
            obtain ⟨a, d3, rfl, rfl, ha, hg3, hd3, hs3, HP3, S5⟩ := hrel
            by_cases hlt3 : a + 2 * bs ≤ d.size
            · have hz3 : (a : Int) + 2 * (bs : Int) ≤ (d.size : Int) := by omega
              have hr := HP3.out.2.runs hd3.out (b := a + 2 * bs) (by omega) hlt3 (Nat.le_refl _)
              have HR := Lib.hid hr
              clear hr
              go_wp2_with fail
              refine (symMerge_sam enc cf tag g cb blk off cap _ d w eg hO HC.out R hsz _ a (a + bs) (a + 2 * bs) d3 _ _ _ _ (Nat.le_refl _) (by omega) (by omega) (by have := hs3.out; omega) hs3.out hs3.out.symm HR.out S5.out rfl (by omega) (by omega)).mono ?_
              rintro e w' ⟨rfl, d4, S6, p4, s4⟩
              have S7 : Aside _ := S6
              have P4 := Lib.hid (And.intro p4 s4)
              clear S6 p4 s4
              go_wp2
              go_roundg (d.size - (a + 2 * bs))
              case measure => omega
              case rel => exact ⟨a + 2 * bs, d4, by go_num, (by first | rfl | (congr 1; omega) | go_num), hlt3, Nat.le_refl _, (show 2 * bs ∣ a + 2 * bs from Nat.dvd_add hd3.out (Nat.dvd_refl _)), (show _ = _ from by rw [P4.out.1.1, hs3.out]), ⟨permIn_trans _ _ _ _ _ HP3.out.1 (permIn_mono _ _ _ _ _ _ (Nat.zero_le _) hlt3 (by have := hs3.out; omega) P4.out.1), HP3.out.2.step hd3.out hlt3 (by have := hs3.out; omega) P4.out.1 P4.out.2⟩, S7⟩
            · have hz3 : ¬ (a : Int) + 2 * (bs : Int) ≤ (d.size : Int) := by omega
              by_cases hlt4 : a + bs < d.size
              · have hz4 : (a : Int) + (bs : Int) < (d.size : Int) := by omega
                have hr := HP3.out.2.runs hd3.out (b := d.size) hlt4 (Nat.le_refl _) (by omega)
                have HR := Lib.hid hr
                clear hr
                go_wp2_with fail
                refine (symMerge_sam enc cf tag g cb blk off cap _ d w eg hO HC.out R hsz _ a (a + bs) d.size d3 _ _ _ _ (Nat.le_refl _) (by omega) hlt4 (by have := hs3.out; omega) hs3.out hs3.out.symm HR.out S5.out rfl (by omega) rfl).mono ?_
                rintro e w' ⟨rfl, d4, S6, p4, s4⟩
                have S7 : Aside _ := S6
                have P4 := Lib.hid (And.intro p4 s4)
                clear S6 p4 s4
                go_wp2
                go_roundg (d.size - 2 * bs)
                case measure => omega
                case rel => exact ⟨2 * bs, d4, (by first | rfl | (congr 1; omega) | go_num), by omega, by omega, Nat.le_refl _, (show _ = _ from by rw [P4.out.1.1, hs3.out]), ⟨permIn_trans _ _ _ _ _ HP3.out.1 (permIn_mono _ _ _ _ _ _ (Nat.zero_le _) (Nat.le_refl _) (by have := hs3.out; omega) P4.out.1), HP3.out.2.done hd3.out ha (by omega) (by have := hs3.out; omega) P4.out.1 P4.out.2⟩, S7⟩
              · have hz4 : ¬ (a : Int) + (bs : Int) < (d.size : Int) := by omega
                go_wp2
                go_roundg (d.size - 2 * bs)
                case measure => omega
                case rel => exact ⟨2 * bs, d3, (by first | rfl | (congr 1; omega) | go_num), by omega, by omega, Nat.le_refl _, hs3, ⟨HP3.out.1, HP3.out.2.done hd3.out ha (by omega) (by have := hs3.out; omega) (permIn_refl _ _ _) (HP3.out.2.rest hd3.out (by omega))⟩, S5⟩
        · have hz2 : ¬ (bs : Int) < (d.size : Int) := by omega
          go_wp2
          go_end0
          exact ⟨rfl, d2, S4.out, HP.out.1, HP.out.2.whole (by omega)⟩

/-- slices.SortStableFunc at []api.Sample. -/
theorem sortStable_sam (enc : α → List Value) (cf : α → α → Int) (tag : α → Nat) (g : Nat) (cb : Array Value) (blk off cap L : Nat) (d : Array α) (w : World)
    (eg : ∀ args w, (callFunc g args).run Tryz.prog w = .ok (.enter g args) w) (hO : SWO (ltOf cf)) (hcmp : CmpLays Tryz.prog g cb enc 2 cf blk off d.size w) (R : RowS enc w blk off d) (hL : d.size = L) (hsz : d.size < 1152921504606846976)
    (ht : TagsIn tag 0 d.size d) :
    Calls Tryz.prog 103 #[.slice (some ⟨blk, off, none⟩) L cap, .func (.func g) #[] cb] w fun e w' =>
      e = .returned (.tuple #[]) ∧ ∃ d', SWK enc 2 w blk off d' w' ∧ PermIn 0 d.size d d' ∧ SortedR (ltOf cf) tag 0 d.size d' := by
  subst hL
  have hc := stable_sam enc cf tag g cb blk off cap _ _ d w eg hO hcmp R rfl rfl hsz ht
  have HC := Lib.hid hc
  clear hc hcmp ht
  go_enter Tryz.func103, Tryz.ntmps103
  go_wp2_with fail
  refine HC.out.mono ?_
  rintro e w' ⟨rfl, d', S, hp, hs⟩
  have S1 : Aside _ := S
  have P := Lib.hid (And.intro hp hs)
  clear S hp hs
  go_wp2
  go_end0
  exact ⟨rfl, d', S1.out, P.out.1, P.out.2⟩
end Go.Proofs.YtihidnmpngeohaaGreat
namespace Go.Proofs.YtihidnmpngeohaaGreat
open Go.RowKit Go.Lib Go.Sort

abbrev Tx := (Int × Int) × Nat
def encT (x : Tx) : List Value := [.int .i64 x.1.1, .int .u64 x.1.2]
theorem encT_len (x : Tx) : (encT x).length = 2 := rfl
def cmpT (x y : Tx) : Int := Lib.compareInt x.1.1 y.1.1
theorem cmpT_lt (x y : Tx) : ltOf cmpT x y = decide (x.1.1 < y.1.1) := by
  unfold ltOf cmpT Lib.compareInt
  by_cases h1 : x.1.1 < y.1.1
  · simp [h1]
  · by_cases h2 : y.1.1 < x.1.1 <;> simp [h1, h2]
theorem cmpT_swo : SWO (ltOf cmpT) where
  irrefl x := by rw [cmpT_lt]; simp
  trans x y z h1 h2 := by rw [cmpT_lt] at *; simp at *; omega
  ntrans x y z h1 h2 := by rw [cmpT_lt] at *; simp at *; omega
theorem zip_enc (l : List (Int × Int)) : l.zipIdx.flatMap encT = l.flatMap encS := by
  conv => rhs; rw [← List.zipIdx_map_fst 0 l]
  rw [List.flatMap_map]; rfl
theorem map_enc (l : List Tx) : l.flatMap encT = (l.map (·.1)).flatMap encS := by rw [List.flatMap_map]; rfl
theorem stable_is {l : List (Int × Int)} {d' : Array Tx} (hp : PermIn 0 l.zipIdx.toArray.size l.zipIdx.toArray d') (hs : SortedR (ltOf cmpT) (fun x => x.2) 0 l.zipIdx.toArray.size d') : d'.toList.map (·.1) = sortS l := by
  have hsz : d'.size = l.zipIdx.length := by have := hp.1; simpa using this
  have hperm : d'.toList.Perm l.zipIdx := by
    have := hp.2.2
    rw [show (l.zipIdx.toArray.extract 0 l.zipIdx.toArray.size).toList = l.zipIdx by simp; exact List.take_of_length_le (by simp), show (d'.extract 0 l.zipIdx.toArray.size).toList = d'.toList by rw [show l.zipIdx.toArray.size = d'.size by rw [hsz]; simp]; simp] at this
    exact this
  let le : Int × Int → Int × Int → Bool := fun a b => decide (a.1 ≤ b.1)
  have hle : ∀ x y : Tx, List.zipIdxLE le x y = true ↔ (x.1.1 < y.1.1 ∨ (x.1.1 = y.1.1 ∧ x.2 ≤ y.2)) := by
    intro x y; unfold List.zipIdxLE; simp only [le]
    by_cases h1 : x.1.1 ≤ y.1.1
    · by_cases h2 : y.1.1 ≤ x.1.1
      · simp [h1, h2]; omega
      · simp [h1, h2]; omega
    · simp [h1]; omega
  have h1 : d'.toList.Pairwise (fun x y => List.zipIdxLE le x y = true) := by
    rw [List.pairwise_iff_getElem]; intro i j hi hj hij
    rw [Array.length_toList] at hi hj
    have := hs i j (Nat.zero_le _) hij (by rw [List.size_toArray]; omega)
    rw [getElem!_pos d' j hj, getElem!_pos d' i hi] at this
    simp only [Array.getElem_toList]; rw [hle]
    rcases this with h | ⟨h, h'⟩
    · rw [cmpT_lt] at h; simp only [decide_eq_true_eq] at h; exact .inl h
    · rw [cmpT_lt] at h; simp only [decide_eq_false_iff_not] at h
      have h2 : d'[i].2 < d'[j].2 := h'
      omega
  have h2 : (l.zipIdx.mergeSort (List.zipIdxLE le)).Pairwise (fun x y => List.zipIdxLE le x y = true) :=
    List.pairwise_mergeSort (fun a b c h g => by have h := (hle _ _).1 h; have g := (hle _ _).1 g; exact (hle _ _).2 (by omega)) (fun a b => by rw [Bool.or_eq_true, hle a b, hle b a]; omega) _
  have h3 : d'.toList = l.zipIdx.mergeSort (List.zipIdxLE le) := by
    refine List.Perm.eq_of_pairwise (fun a b ha hb h g => ?_) h1 h2 (hperm.trans (List.mergeSort_perm _ _).symm)
    have ha' := List.mem_zipIdx' (hperm.mem_iff.1 ha)
    have hb' := List.mem_zipIdx' ((List.mergeSort_perm _ _).mem_iff.1 hb)
    have e : a.2 = b.2 := by rw [hle] at h g; omega
    refine Prod.ext ?_ e
    rw [ha'.2, hb'.2]; simp only [e]
  rw [h3, List.mergeSort_zipIdx]; rfl
set_option maxHeartbeats 1000000 in
theorem samCmp (x y : Tx) (W : World) : Calls Tryz.prog 104 (#[.agg (encT x).toArray, .agg (encT y).toArray] ++ #[]) W fun e w' => e = .returned (.int .i64 (cmpT x y)) ∧ ∃ q os', w' = grow (W.drewN q) os' := by
  have hcon := fun W' => compare_i64 x.1.1 y.1.1 W'
  change ∀ W', Calls _ _ _ _ (fun e w' => e = .returned (.int .i64 (cmpT x y)) ∧ w' = W') at hcon
  show Calls _ _ #[.agg #[.int .i64 x.1.1, .int .u64 x.1.2], .agg #[.int .i64 y.1.1, .int .u64 y.1.2]] W _
  generalize cmpT x y = r at hcon ⊢
  go_enter Tryz.func104, Tryz.ntmps104
  go_wp2_with (go_at_call 101; refine (hcon _).mono ?_; rintro e w' ⟨rfl, rfl⟩)
  go_ret
  exact ⟨rfl, 0, _, by rw [alloc_eq_grow, alloc_eq_grow, grow_grow]; rfl⟩
theorem tags_in (l : List (Int × Int)) : TagsIn (fun x : Tx => x.2) 0 l.zipIdx.toArray.size l.zipIdx.toArray := by
  have h : ∀ i, i < l.zipIdx.toArray.size → (l.zipIdx.toArray[i]!).2 = i := fun i hi => by
    rw [getElem!_pos _ i hi, List.getElem_toArray, List.getElem_zipIdx]; simp
  intro i j _ hij hj
  show (l.zipIdx.toArray[i]!).2 < (l.zipIdx.toArray[j]!).2
  rw [h i (by omega), h j hj]
  exact hij
theorem encT_one (x : Tx) : ∀ v ∈ encT x, v.oneCell' = true := by
  intro v hv
  simp only [encT, List.mem_cons, List.not_mem_nil, or_false] at hv
  rcases hv with rfl | rfl <;> rfl
set_option maxHeartbeats 1000000 in
theorem insertion_none (c : Nat) (f : Value) (w : World) : Calls Tryz.prog 162 #[.slice none 0 c, .int .i64 0, .int .i64 0, f] w fun e w' => e = .returned (.tuple #[]) ∧ w' = w := by
  go_enter Tryz.func162, Tryz.ntmps162
  go_wp2
  refine wp_loop_rounds 1 ?_
  rw [rounds_succ]
  go_wp2
  go_end0
  exact ⟨rfl, rfl⟩
set_option maxHeartbeats 1000000 in
theorem stable_none (c : Nat) (f : Value) (w : World) : Calls Tryz.prog 133 #[.slice none 0 c, .int .i64 0, f] w fun e w' => e = .returned (.tuple #[]) ∧ w' = w := by
  go_enter Tryz.func133, Tryz.ntmps133
  go_wp2
  refine wp_loop_rounds 1 ?_
  rw [rounds_succ]
  go_wp2_with fail
  refine (insertion_none c f _).mono ?_
  rintro e w' ⟨rfl, rfl⟩
  go_wp2
  refine wp_loop_rounds 1 ?_
  rw [rounds_succ]
  go_wp2
  go_end0
  exact ⟨rfl, rfl⟩
set_option maxHeartbeats 1000000 in
theorem sortStable_none (c : Nat) (f : Value) (w : World) : Calls Tryz.prog 103 #[.slice none 0 c, f] w fun e w' => e = .returned (.tuple #[]) ∧ w' = w := by
  go_enter Tryz.func103, Tryz.ntmps103
  go_wp2_with fail
  refine (stable_none c f _).mono ?_
  rintro e w' ⟨rfl, rfl⟩
  go_wp2
  go_end0
  exact ⟨rfl, rfl⟩
theorem sortsStable (m : Nat) (hm : m ≤ 1000000000) : SortsStable m := by
  intro A n c l w B ho hn
  have hll := owns_len ho encS_len (by omega)
  have eg : ∀ args w, (callFunc 104 args).run Tryz.prog w = .ok (.enter 104 args) w := enters_of Tryz.func104 (by kernel_rfl) rfl
  rcases A with _ | ad
  · have hn0 : n = 0 := by
      rcases ho.2 with ⟨_, h⟩ | ⟨_, _, _, h, _⟩
      · exact h
      · cases h
    subst hn0
    have hl0 : l = [] := List.length_eq_zero_iff.1 hll
    subst hl0
    refine (sortStable_none c _ w).mono ?_
    rintro e w' ⟨rfl, rfl⟩
    have e : sortS [] = [] := by simp [sortS]
    exact ⟨rfl, by rw [e]; exact ho, grownBy_refl _ _⟩
  · obtain ⟨g, rfl, hg⟩ : ∃ g, ad = ⟨g, 0, none⟩ ∧ g < w.heap.size := by
      rcases ho.2 with ⟨h, _⟩ | ⟨g, _, _, h, _, h', _⟩
      · cases h
      · injection h with h _ _; injection h with h; exact ⟨g, h, (Array.getElem?_eq_some_iff.1 h').1⟩
    have hoT : w.ownsRow B 95 2 (.slice (some ⟨g, 0, none⟩) n c) n (l.zipIdx.flatMap encT) := by rw [zip_enc]; exact ho
    have hzl : l.zipIdx.toArray.size = n := by simpa using hll
    have hcmp : CmpLays Tryz.prog 104 #[] encT 2 cmpT g 0 l.zipIdx.toArray.size w := fun _ _ _ _ x y => samCmp x y _
    have R : RowS encT w g 0 l.zipIdx.toArray := ⟨⟨encT_len, encT_one, holdsK_own encT_len hoT, hg⟩, fun x => ⟨x.1.1, x.1.2, rfl⟩⟩
    refine (sortStable_sam encT cmpT (fun x => x.2) 104 #[] g 0 c n l.zipIdx.toArray w eg cmpT_swo hcmp R hzl (by omega) (tags_in l)).mono ?_
    rintro e w' ⟨rfl, d', ⟨q, os, rfl⟩, hp, hs⟩
    have hsz : d'.size = l.zipIdx.length := by have := hp.1; simpa using this
    obtain ⟨h1, h2⟩ := ownsK_sorted encT_len hoT q os d' hsz (by simpa using hll)
    refine ⟨rfl, ?_, h2⟩
    rw [map_enc, stable_is hp hs] at h1
    exact h1
end Go.Proofs.YtihidnmpngeohaaGreat
