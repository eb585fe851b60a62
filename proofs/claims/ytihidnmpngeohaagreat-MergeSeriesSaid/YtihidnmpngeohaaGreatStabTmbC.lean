/-  -/
import Derived.Test.YtihidnmpngeohaaGreatStabTmbB
import Derived.Deep.Cut
namespace Go.Proofs.YtihidnmpngeohaaGreat
open Go.RowKit Go.Lib Go.Sort
variable {α : Type} [Inhabited α]
set_option maxHeartbeats 2000000 in
set_option maxRecDepth 1000000 in
theorem symMerge_tmb_step (enc : α → List Value) (cf : α → α → Int) (tag : α → Nat) (g : Nat) (cb : Array Value) (blk off cap L a m b mid lo hi : Nat) (A M B : Int) (d0 d : Array α) (w0 w : World)
    (eg : ∀ args w, (callFunc g args).run Tryz.prog w = .ok (.enter g args) w) (hO : SWO (ltOf cf)) (hcmp : CmpLays Tryz.prog g cb enc 3 cf blk off d0.size w0) (R : RowT enc w0 blk off d0) (hs : d0.size = d.size) (S : SWK enc 3 w0 blk off d w)
    (hL : d.size = L) (hA : A = (a : Int)) (hM : M = (m : Int)) (hB : B = (b : Int)) (ham : a + 1 < m) (hbm : m + 1 < b) (hb : b ≤ d.size) (hsz : d.size < 1152921504606846976) (hR : Runs (ltOf cf) tag a m b d)
    (hmid : mid = (a + b) / 2) (hcase : (mid < m ∧ lo + b = mid + m ∧ hi = mid) ∨ (m ≤ mid ∧ lo = a ∧ hi = m))
    (ih : Hid (∀ (a' m' b' : Nat) (d' : Array α) (w' : World) (A' M' B' : Int), b' - a' < b - a → a' < m' → m' < b' → b' ≤ d'.size → d'.size = d.size → Runs (ltOf cf) tag a' m' b' d' → SWK enc 3 w0 blk off d' w' → A' = (a' : Int) → M' = (m' : Int) → B' = (b' : Int) →
      Calls Tryz.prog 128 #[.slice (some ⟨blk, off, none⟩) L cap, .int .i64 A', .int .i64 M', .int .i64 B', .func (.func g) #[] cb] w' fun e w'' =>
      e = .returned (.tuple #[]) ∧ ∃ d'', SWK enc 3 w0 blk off d'' w'' ∧ PermIn a' b' d' d'' ∧ SortedR (ltOf cf) tag a' b' d'')) :
    Calls Tryz.prog 128 #[.slice (some ⟨blk, off, none⟩) L cap, .int .i64 A, .int .i64 M, .int .i64 B, .func (.func g) #[] cb] w fun e w' =>
      e = .returned (.tuple #[]) ∧ ∃ d', SWK enc 3 w0 blk off d' w' ∧ PermIn a b d d' ∧ SortedR (ltOf cf) tag a b d' := by
  subst hL hA hM hB
  have mixed : Tryz.prog.follows .mixedOrders = true := by kernel_rfl
  have HC : Aside _ := hcmp
  have HR := Lib.hid hR
  have S0 : Aside (SWK enc 3 w0 blk off d w) := S
  clear S hcmp hR
  have z1 : ((m : Int) - (a : Int) == 1) = false := by rw [beq_eq_false_iff_ne]; omega
  have z2 : ((b : Int) - (m : Int) == 1) = false := by rw [beq_eq_false_iff_ne]; omega
  obtain ⟨nn, hnn⟩ : ∃ nn, nn = mid + m := ⟨_, rfl⟩
  have Hmid := Lib.hid hmid
  have Hnn := Lib.hid hnn
  have b1 : a < mid := by omega
  have b2 : mid < b := by omega
  have l1 : a ≤ lo := by omega
  have l2 : lo ≤ hi := by omega
  have l3 : hi ≤ m := by omega
  have l4 : hi ≤ mid := by omega
  have l5 : nn ≤ lo + b := by omega
  have l6 : mid + hi ≤ nn := by omega
  have l7 : m + hi ≤ nn := by omega
  have l8 : nn < b + b := by omega
  have Hcase := Lib.hid hcase
  clear hmid hnn hcase
  go_enter Tryz.func128, Tryz.ntmps128
  go_upto_if 140 with (fail)
  go_cut [18, 19, 20, 21] from 129 (fun s18 s19 s20 s21 wc => s18 = .int .i64 mid ∧ s19 = .int .i64 nn ∧ s20 = .int .i64 lo ∧ s21 = .int .i64 hi ∧ wc = w)
  case first =>
    have hm := Hmid.out
    have hn := Hnn.out
    rcases Hcase.out with ⟨h1, h2, h3⟩ | ⟨h1, h2, h3⟩
    · have q : ((a : Int) + (b : Int)) / 2 < (m : Int) := by omega
      have HH := Lib.hid (And.intro hm (And.intro hn (And.intro h2 h3)))
      clear hm hn h1 h2 h3
      go_wp2
      go_meet
      obtain ⟨hm, hn, h2, h3⟩ := HH.out
      exact ⟨by congr 1; omega, by congr 1; omega, by congr 1; omega, by congr 1; omega, rfl⟩
    · have q : ¬ ((a : Int) + (b : Int)) / 2 < (m : Int) := by omega
      have HH := Lib.hid (And.intro hm (And.intro hn (And.intro h2 h3)))
      clear hm hn h1 h2 h3
      go_wp2
      go_meet
      obtain ⟨hm, hn, h2, h3⟩ := HH.out
      exact ⟨by congr 1; omega, by congr 1; omega, by congr 1; omega, by congr 1; omega, rfl⟩
  case rest =>
    obtain ⟨rfl, rfl, rfl, rfl, rfl⟩ := hcut
    go_wp2
    go_loopg [20, 21] (hi - lo) (fun g1 vi vj wr => ∃ i j : Nat, vi = .int .i64 i ∧ vj = .int .i64 j ∧ lo ≤ i ∧ i ≤ j ∧ j ≤ hi ∧ j - i ≤ g1 ∧ Hid (lo < i → ltOf cf d[nn - i]! d[i - 1]! = false) ∧ Hid (j < hi → ltOf cf d[nn - 1 - j]! d[j]! = true) ∧ Aside (SWK enc 3 w0 blk off d wr))
    case atStart => exact ⟨lo, hi, rfl, rfl, Nat.le_refl _, l2, Nat.le_refl _, Nat.le_refl _, (show Hid _ from fun h => by omega), (show Hid _ from fun h => by omega), S0⟩
    case round =>
      clear S0
      obtain ⟨i, j, rfl, rfl, hmi, hij, hjb, hg1, HI, HJ, S1⟩ := hrel
      by_cases hlt : i < j
      · have hz : (i : Int) < (j : Int) := by omega
        obtain ⟨h, hh⟩ : ∃ h, h = (i + j) / 2 := ⟨_, rfl⟩
        have hi1 : i ≤ h := by omega
        have hi2 : h < j := by omega
        obtain ⟨hN, hhN⟩ : ∃ q, q = h := ⟨_, rfl⟩
        obtain ⟨pN, hpN⟩ : ∃ q, q = nn - 1 - h := ⟨_, rfl⟩
        have eh : (((i : Int) + (j : Int)) / 2).toNat = hN := by omega
        have ph : (0 : Int) ≤ ((i : Int) + (j : Int)) / 2 := by omega
        have bh : ((i : Int) + (j : Int)) / 2 < (d.size : Int) := by omega
        have ep : ((nn : Int) - 1 - ((i : Int) + (j : Int)) / 2).toNat = pN := by omega
        have pp : (0 : Int) ≤ (nn : Int) - 1 - ((i : Int) + (j : Int)) / 2 := by omega
        have pp2 : ((i : Int) + (j : Int)) / 2 ≤ (nn : Int) - 1 := by omega
        have bp : (nn : Int) - 1 - ((i : Int) + (j : Int)) / 2 < (d.size : Int) := by omega
        have rp : IntKind.i64.wrap ((nn : Int) - 1 - ((i : Int) + (j : Int)) / 2) = (nn : Int) - 1 - ((i : Int) + (j : Int)) / 2 := by rw [IntKind.wrap_i64]; omega
        obtain ⟨x, hx⟩ : ∃ x, x = d[nn - 1 - h]! := ⟨_, rfl⟩
        obtain ⟨y, hy⟩ : ∃ x, x = d[h]! := ⟨_, rfl⟩
        obtain ⟨xA, xn, xc, x1, x2, hex⟩ := R.three x
        obtain ⟨yA, yn, yc, y1, y2, hey⟩ := R.three y
        have la0 := S1.out.cl3 R (by omega) (nn - 1 - h) (by omega) (hx ▸ hex)
        have lb0 := S1.out.cl3 R (by omega) h (by omega) (hy ▸ hey)
        have la := fun n os => (la0 n os).1
        have la1 := fun n os => (la0 n os).2.1
        have la2 := fun n os => (la0 n os).2.2
        have lb := fun n os => (lb0 n os).1
        have lb1 := fun n os => (lb0 n os).2.1
        have lb2 := fun n os => (lb0 n os).2.2
        clear la0 lb0
        rw [← hpN] at la la1 la2
        rw [← hhN] at lb lb1 lb2
        have hc := S1.out.cmp HC.out (by omega) x y
        rw [hex, hey] at hc
        have Hx := Lib.hid hx
        have Hy := Lib.hid hy
        have Hh := Lib.hid hh
        have hne : nn - (h + 1) = nn - 1 - h := by omega
        have Hne := Lib.hid hne
        clear hx hy hhN hh hex hey hpN hne
        cases hlv : decide (cf x y < 0) with
        | true =>
          have hv : cf x y < 0 := of_decide_eq_true hlv
          go_wp2_with fail
          go_quiet_grown (first | (go_at_fn g; refine Calls.grown_of (hc _ _)))
          have S2 : Aside (SWK enc 3 w0 blk off d (grow (wr.drewN nq) osq)) := S1.out.grown nq osq
          clear la la1 la2 lb lb1 lb2 hc S1
          generalize grow (wr.drewN nq) osq = w2 at S2 ⊢
          clear nq osq eh ep rp
          go_wp2
          go_roundg (h - i)
          case measure => omega
          case rel => exact ⟨i, h, rfl, (by have := Hh.out; congr 1; omega), hmi, hi1, by omega, Nat.le_refl _, HI, (show Hid _ from fun _ => by rw [← Hx.out, ← Hy.out]; exact hlv), S2⟩
        | false =>
          have hv : ¬ cf x y < 0 := of_decide_eq_false hlv
          go_wp2_with fail
          go_quiet_grown (first | (go_at_fn g; refine Calls.grown_of (hc _ _)))
          have S2 : Aside (SWK enc 3 w0 blk off d (grow (wr.drewN nq) osq)) := S1.out.grown nq osq
          clear la la1 la2 lb lb1 lb2 hc S1
          generalize grow (wr.drewN nq) osq = w2 at S2 ⊢
          clear nq osq eh ep rp
          go_wp2
          go_roundg (j - (h + 1))
          case measure => omega
          case rel => exact ⟨h + 1, j, (by have := Hh.out; congr 1; omega), rfl, by omega, by omega, hjb, Nat.le_refl _, (show Hid _ from fun _ => by rw [Nat.add_sub_cancel, Hne.out, ← Hx.out, ← Hy.out]; exact hlv), HJ, S2⟩
      · have hz : ¬ (i : Int) < (j : Int) := by omega
        obtain rfl : i = j := by omega
        obtain ⟨e, he⟩ : ∃ e, e = nn - i := ⟨_, rfl⟩
        have e1 : m ≤ e := by omega
        have e2 : e ≤ b := by omega
        have e3 : i + e = nn := by omega
        have hc1 : a < i → e < b → ltOf cf d[e]! d[i - 1]! = false := fun h1 h2 => by
          rw [he]
          exact HI.out (by rcases Hcase.out with ⟨q1, q2, q3⟩ | ⟨q1, q2, q3⟩ <;> (have := Hnn.out; omega))
        have hc2 : i < m → m < e → ltOf cf d[e - 1]! d[i]! = true := fun h1 h2 => by
          have := HJ.out (by rcases Hcase.out with ⟨q1, q2, q3⟩ | ⟨q1, q2, q3⟩ <;> (have := Hnn.out; omega))
          rwa [show e - 1 = nn - 1 - i by omega]
        have hcut := merge_cut hO (mid := mid) hb HR.out (by omega) (by omega) e1 e2 (by have := Hnn.out; omega) hc1 hc2
        have HCUT := Lib.hid hcut
        have hp1 := rotA_permIn d i m e a b (by omega) (by omega) e1 e2 hb
        have HP1 := Lib.hid hp1
        have He := Lib.hid he
        have e4 : e ≤ mid + (m - i) := by have := Hnn.out; omega
        have e5 : mid + (m - i) ≤ e := by have := Hnn.out; omega
        have z3 : (nn : Int) - (i : Int) = (e : Int) := by omega
        have Z3 := Lib.hid z3
        clear hc1 hc2 hcut hp1 he HI HJ e3 z3
        go_upto_region 39 with (fail)
        go_cut [185] from 178 (fun s185 wc => s185 = .bool (decide (i < m ∧ m < e)) ∧ wc = wr)
        case first =>
          by_cases q1 : i < m
          · have q1z : (i : Int) < (m : Int) := by omega
            by_cases q2 : m < e
            · have q3 : (m : Int) < (nn : Int) - (i : Int) := by have := Z3.out; omega
              go_wp2
              go_meet
              exact ⟨by rw [decide_eq_true (show i < m ∧ m < e from ⟨q1, q2⟩)], rfl⟩
            · have q3 : ¬ (m : Int) < (nn : Int) - (i : Int) := by have := Z3.out; omega
              go_wp2
              go_meet
              exact ⟨by rw [decide_eq_false (show ¬ (i < m ∧ m < e) from fun h => q2 h.2)], rfl⟩
          · have q3 : ¬ (i : Int) < (m : Int) := by omega
            go_wp2
            go_meet
            exact ⟨by rw [decide_eq_false (show ¬ (i < m ∧ m < e) from fun h => q1 h.1)], rfl⟩
        case rest =>
        obtain ⟨rfl, rfl⟩ := hcut
        obtain ⟨bb, hbb⟩ : ∃ bb, bb = decide (i < m ∧ m < e) := ⟨_, rfl⟩
        rw [← hbb]
        have Hbb := Lib.hid hbb
        clear hbb
        go_upto_if 185 with (fail)
        go_cut [24] from 175 (fun s24 wc => s24 = .int .i64 e ∧ Aside (SWK enc 3 w0 blk off (rotA d i m e) wc))
        case first =>
          cases bb with
          | true =>
            have q := of_decide_eq_true Hbb.out.symm
            have q1 := q.1
            have q2 := q.2
            clear q
            go_wp2_with fail
            refine (rotate_tmb enc blk off cap _ i m e _ _ _ _ d0 d w0 _ R hs S1.out rfl rfl rfl Z3.out q1 q2 (by omega) (by omega)).mono ?_
            rintro e' w' ⟨rfl, S2⟩
            go_wp2
            go_meet
            exact ⟨by rw [Z3.out], S2⟩
          | false =>
            have q := of_decide_eq_false Hbb.out.symm
            have hrot : rotA d i m e = d := by
              by_cases q1 : i < m
              · rw [show e = m by omega, rotA_none]
              · rw [show i = m by omega, rotA_none']
            have Hrot := Lib.hid hrot
            clear hrot q
            go_wp2
            go_meet
            exact ⟨by rw [Z3.out], (show Aside (SWK _ _ _ _ _ _ _) from by rw [Hrot.out]; exact S1.out)⟩
        case rest =>
        clear S1
        obtain ⟨rfl, S2⟩ := hcut
        obtain ⟨r1, r2, r3⟩ := HCUT.out
        have hs1 : (rotA d i m e).size = d.size := size_rotA _ _ _ _
        generalize hd1 : rotA d i m e = d1 at *
        have R1 := Lib.hid r1
        have R2 := Lib.hid r2
        have R3 := Lib.hid r3
        have Hs1 := Lib.hid hs1
        clear r1 r2 r3 hs1 hd1 HCUT Z3 He
        go_upto_region 41 with (fail)
        go_cut [199] from 192 (fun sx wd => sx = .bool (decide (a < i ∧ i < mid)) ∧ wd = wc)
        case first =>
          by_cases q1 : a < i
          · have q1z : (a : Int) < (i : Int) := by omega
            by_cases q2 : i < mid
            · have q3 : (i : Int) < (mid : Int) := by omega
              go_wp2
              go_meet
              exact ⟨by rw [decide_eq_true (show a < i ∧ i < mid from ⟨q1, q2⟩)], rfl⟩
            · have q3 : ¬ (i : Int) < (mid : Int) := by omega
              go_wp2
              go_meet
              exact ⟨by rw [decide_eq_false (show ¬ (a < i ∧ i < mid) from fun h => q2 h.2)], rfl⟩
          · have q3 : ¬ (a : Int) < (i : Int) := by omega
            go_wp2
            go_meet
            exact ⟨by rw [decide_eq_false (show ¬ (a < i ∧ i < mid) from fun h => q1 h.1)], rfl⟩
        case rest =>
        obtain ⟨rfl, rfl⟩ := hcut
        obtain ⟨bb, hbb⟩ : ∃ bb, bb = decide (a < i ∧ i < mid) := ⟨_, rfl⟩
        rw [← hbb]
        have Hbb := Lib.hid hbb
        clear hbb
        go_upto_if 199 with (fail)
        go_cut [] from 192 (fun wd => ∃ d2 : Array α, Aside (SWK enc 3 w0 blk off d2 wd) ∧ Hid (PermIn a mid d1 d2 ∧ SortedR (ltOf cf) tag a mid d2))
        case first =>
          cases bb with
          | true =>
            have q := of_decide_eq_true Hbb.out.symm
            have q1 := q.1
            have q2 := q.2
            clear q
            go_wp2_with fail
            refine (ih.out a i mid d1 _ _ _ _ (by omega) q1 q2 (by have := Hs1.out; omega) Hs1.out R1.out S2.out rfl rfl rfl).mono ?_
            rintro e' w' ⟨rfl, d2, S3, p2, s2⟩
            have S4 : Aside _ := S3
            have P2 := Lib.hid (And.intro p2 s2)
            clear S3 p2 s2
            go_wp2
            go_meet
            exact ⟨d2, S4, P2.out⟩
          | false =>
            have q := of_decide_eq_false Hbb.out.symm
            have hsrt : SortedR (ltOf cf) tag a mid d1 := R1.out.whole hO fun h1 h2 => absurd (And.intro h1 h2) q
            have HSRT := Lib.hid hsrt
            clear hsrt q
            go_wp2
            go_meet
            exact ⟨d1, S2, permIn_refl _ _ _, HSRT.out⟩
        case rest =>
        clear S2 Hbb bb
        obtain ⟨d2, S3, P2⟩ := hcut
        go_upto_region 43 with (fail)
        go_cut [213] from 206 (fun sx wd => sx = .bool (decide (mid < e ∧ e < b)) ∧ wd = wc)
        case first =>
          by_cases q1 : mid < e
          · have q1z : (mid : Int) < (e : Int) := by omega
            by_cases q2 : e < b
            · have q3 : (e : Int) < (b : Int) := by omega
              go_wp2
              go_meet
              exact ⟨by rw [decide_eq_true (show mid < e ∧ e < b from ⟨q1, q2⟩)], rfl⟩
            · have q3 : ¬ (e : Int) < (b : Int) := by omega
              go_wp2
              go_meet
              exact ⟨by rw [decide_eq_false (show ¬ (mid < e ∧ e < b) from fun h => q2 h.2)], rfl⟩
          · have q3 : ¬ (mid : Int) < (e : Int) := by omega
            go_wp2
            go_meet
            exact ⟨by rw [decide_eq_false (show ¬ (mid < e ∧ e < b) from fun h => q1 h.1)], rfl⟩
        case rest =>
        obtain ⟨rfl, rfl⟩ := hcut
        obtain ⟨bb, hbb⟩ : ∃ bb, bb = decide (mid < e ∧ e < b) := ⟨_, rfl⟩
        rw [← hbb]
        have Hbb := Lib.hid hbb
        clear hbb
        go_upto_if 213 with (fail)
        cases bb with
        | true =>
          have q := of_decide_eq_true Hbb.out.symm
          have q1 := q.1
          have q2 := q.2
          clear q
          have sz2 : d2.size = d.size := by rw [P2.out.1.1, Hs1.out]
          have SZ2 := Lib.hid sz2
          have r2' := R2.out.behind P2.out.1 (Nat.le_refl _) (by omega)
          have R2' := Lib.hid r2'
          clear r2' sz2
          go_wp2_with fail
          refine (ih.out mid e b d2 _ _ _ _ (by omega) q1 q2 (by have := SZ2.out; omega) SZ2.out R2'.out S3.out rfl rfl rfl).mono ?_
          rintro e' w' ⟨rfl, d3, S4, p3, s3⟩
          have P3 := Lib.hid (And.intro p3 s3)
          have S5 : Aside _ := S4
          clear S4 p3 s3
          go_wp2
          go_end0
          refine ⟨rfl, d3, S5.out, ?_, merge_done (by have := Hs1.out; omega) P2.out.1 P3.out.1 P2.out.2 P3.out.2 R3.out⟩
          exact permIn_trans _ _ _ _ _ HP1.out (permIn_trans _ _ _ _ _ (permIn_mono _ _ _ _ _ _ (Nat.le_refl _) (by omega) (by have := Hs1.out; omega) P2.out.1) (permIn_mono _ _ _ _ _ _ (by omega) (Nat.le_refl _) (by have := SZ2.out; omega) P3.out.1))
        | false =>
          have q := of_decide_eq_false Hbb.out.symm
          have r2' := R2.out.behind P2.out.1 (Nat.le_refl _) (by omega)
          have hsrt : SortedR (ltOf cf) tag mid b d2 := r2'.whole hO fun h1 h2 => absurd (And.intro h1 h2) q
          have HSRT := Lib.hid hsrt
          clear hsrt q r2'
          go_wp2
          go_end0
          refine ⟨rfl, d2, S3.out, ?_, merge_done (by have := Hs1.out; omega) P2.out.1 (permIn_refl _ _ _) P2.out.2 HSRT.out R3.out⟩
          exact permIn_trans _ _ _ _ _ HP1.out (permIn_mono _ _ _ _ _ _ (Nat.le_refl _) (by omega) (by have := Hs1.out; omega) P2.out.1)
end Go.Proofs.YtihidnmpngeohaaGreat
