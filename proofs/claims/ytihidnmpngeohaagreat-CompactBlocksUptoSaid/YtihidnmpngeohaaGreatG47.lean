/- slices.SortStableFunc at []int, of whatever length: a permutation of what the row held, in the order in which ties go by a tag that rises. cmp.Compare at uint32, and the closure by which compact.Plan sorts a group: as the blocks' numbers are. -/
import Derived.Test.YtihidnmpngeohaaGreatG46
import Derived.Test.YtihidnmpngeohaaGreatG17
import Derived.Test.YtihidnmpngeohaaGreatG45
import Derived.Test.YtihidnmpngeohaaGreatG13
import Derived.Test.YtihidnmpngeohaaGreatG00
namespace Go.Proofs.YtihidnmpngeohaaGreat
open Go.RowKit Go.Lib Go.Sort
variable {α : Type} [Inhabited α]

theorem symMerge_int (enc : α → Value) (cf : α → α → Int) (tag : α → Nat) (g : Nat) (cb : Array Value) (blk off cap L : Nat) (d0 : Array α) (w0 : World)
    (eg : ∀ args w, (callFunc g args).run Tryz.prog w = .ok (.enter g args) w) (hO : SWO (ltOf cf)) (hcmp : CmpLays1 Tryz.prog g cb enc cf blk off d0.size w0) (R : Row1 enc w0 blk off d0) (hsz : d0.size < 1152921504606846976) :
    ∀ (r a m b : Nat) (d : Array α) (w : World) (A M B : Int), b - a ≤ r → a < m → m < b → b ≤ d.size → d.size = L → d0.size = d.size → Runs (ltOf cf) tag a m b d → SW enc w0 blk off d w → A = (a : Int) → M = (m : Int) → B = (b : Int) →
    Calls Tryz.prog 171 #[.slice (some ⟨blk, off, none⟩) L cap, .int .i64 A, .int .i64 M, .int .i64 B, .func (.func g) #[] cb] w fun e w' =>
      e = .returned (.tuple #[]) ∧ ∃ d', SW enc w0 blk off d' w' ∧ PermIn a b d d' ∧ SortedR (ltOf cf) tag a b d' := by
  intro r
  induction r with
  | zero => intro a m b d w A M B hr; omega
  | succ r ih =>
    intro a m b d w A M B hr ham hmb hb hL hs hR S hA hM hB
    by_cases h1 : m = a + 1
    · exact symMerge_int_left enc cf tag g cb blk off cap L a m b A M B d0 d w0 w eg hO hcmp R hs S hL hA hM hB h1 hmb hb (by omega) hR
    · by_cases h2 : b = m + 1
      · exact symMerge_int_right enc cf tag g cb blk off cap L a m b A M B d0 d w0 w eg hO hcmp R hs S hL hA hM hB (by omega) h2 hb (by omega) hR
      · by_cases h3 : (a + b) / 2 < m
        · exact symMerge_int_step enc cf tag g cb blk off cap L a m b ((a + b) / 2) ((a + b) / 2 + m - b) ((a + b) / 2) A M B d0 d w0 w eg hO hcmp R hs S hL hA hM hB (by omega) (by omega) hb (by omega) hR rfl (.inl ⟨h3, by omega, rfl⟩)
            (fun a' m' b' d' w' A' M' B' q1 q2 q3 q4 q5 q6 q7 q8 q9 q10 => ih a' m' b' d' w' A' M' B' (by omega) q2 q3 q4 (by omega) (by omega) q6 q7 q8 q9 q10)
        · exact symMerge_int_step enc cf tag g cb blk off cap L a m b ((a + b) / 2) a m A M B d0 d w0 w eg hO hcmp R hs S hL hA hM hB (by omega) (by omega) hb (by omega) hR rfl (.inr ⟨by omega, rfl, rfl⟩)
            (fun a' m' b' d' w' A' M' B' q1 q2 q3 q4 q5 q6 q7 q8 q9 q10 => ih a' m' b' d' w' A' M' B' (by omega) q2 q3 q4 (by omega) (by omega) q6 q7 q8 q9 q10)

theorem insertion_int (enc : α → Value) (cf : α → α → Int) (g : Nat) (cb : Array Value) (blk off cap L a b : Nat) (A B : Int) (d0 d : Array α) (w0 w : World)
    (eg : ∀ args w, (callFunc g args).run Tryz.prog w = .ok (.enter g args) w) (hcmp : CmpLays1 Tryz.prog g cb enc cf blk off d0.size w0) (R : Row1 enc w0 blk off d0) (hs : d0.size = d.size) (S : SW enc w0 blk off d w)
    (hL : d.size = L) (hA : A = (a : Int)) (hB : B = (b : Int)) (hab : a ≤ b) (hb : b ≤ d.size) (hsz : d.size < 1152921504606846976) :
    Calls Tryz.prog 170 #[.slice (some ⟨blk, off, none⟩) L cap, .int .i64 A, .int .i64 B, .func (.func g) #[] cb] w fun e w' =>
      e = .returned (.tuple #[]) ∧ SW enc w0 blk off (Sort.insertionSort (ltOf cf) d a b) w' := by
  subst hL hA hB
  exact Any.insertionSortCmpFunc_s Tryz.insInt enc cf g cb blk off cap a b d0 d w0 w eg hcmp R hs S hab hb (by omega)

set_option maxHeartbeats 2000000 in
set_option maxRecDepth 1000000 in
theorem stable_int (enc : α → Value) (cf : α → α → Int) (tag : α → Nat) (g : Nat) (cb : Array Value) (blk off cap L : Nat) (N : Int) (d : Array α) (w : World)
    (eg : ∀ args w, (callFunc g args).run Tryz.prog w = .ok (.enter g args) w) (hO : SWO (ltOf cf)) (hcmp : CmpLays1 Tryz.prog g cb enc cf blk off d.size w) (R : Row1 enc w blk off d) (hL : d.size = L) (hN : N = (L : Int)) (hsz : d.size < 1152921504606846976)
    (ht : TagsIn tag 0 d.size d) :
    Calls Tryz.prog 150 #[.slice (some ⟨blk, off, none⟩) L cap, .int .i64 N, .func (.func g) #[] cb] w fun e w' =>
      e = .returned (.tuple #[]) ∧ ∃ d', SW enc w blk off d' w' ∧ PermIn 0 d.size d d' ∧ SortedR (ltOf cf) tag 0 d.size d' := by
  subst hL hN
  have HC : Aside _ := hcmp
  have S0 : Aside (SW enc w blk off d w) := SW.start R.hH
  have HT := Lib.hid ht
  clear hcmp ht
  go_enter Tryz.func150, Tryz.ntmps150
  go_wp2
  go_loopg [7, 8] (d.size) (fun g1 va vb wr => ∃ (a : Nat) (dk : Array α), va = .int .i64 a ∧ vb = .int .i64 (a + 20) ∧ a ≤ d.size ∧ d.size - a ≤ g1 ∧ Hid (20 ∣ a) ∧ Hid (dk.size = d.size) ∧ Hid (PermIn 0 d.size d dk ∧ FirstB (ltOf cf) tag 20 d.size a dk) ∧ Aside (SW enc w blk off dk wr))
  case atStart => exact ⟨0, d, rfl, rfl, Nat.zero_le _, by omega, Nat.dvd_zero _, rfl, ⟨permIn_refl _ _ _, FirstB.start (by omega) HT.out⟩, S0⟩
  case round =>
    clear S0
    obtain ⟨a, dk, rfl, rfl, ha, hg1, hd, hsk, HP, S1⟩ := hrel
    by_cases hlt : a + 20 ≤ d.size
    · have hz : (a : Int) + 20 ≤ (d.size : Int) := by omega
      obtain ⟨s1, p1⟩ := insertionSort_R (lt := ltOf cf) (tag := tag) hO a (a + 20) dk (by omega) (by have := hsk.out; omega) (fun i j hi hij hj => HP.out.2.f3 i j hi hij (by omega))
      have PP := Lib.hid (And.intro s1 p1)
      clear s1 p1
      go_wp2_with fail
      refine (insertion_int enc cf g cb blk off cap _ a (a + 20) _ _ d dk w _ eg HC.out R (by have := hsk.out; omega) S1.out hsk.out rfl (by omega) (by omega) (by have := hsk.out; omega) (by have := hsk.out; omega)).mono ?_
      rintro e w' ⟨rfl, S2⟩
      have S3 : Aside _ := S2
      clear S2
      go_wp2
      go_roundg (d.size - (a + 20))
      case measure => omega
      case rel => exact ⟨a + 20, _, by go_num, by go_num, hlt, Nat.le_refl _, (show 20 ∣ a + 20 from Nat.dvd_add hd.out (Nat.dvd_refl _)), (show _ = _ from by rw [PP.out.2.1, hsk.out]), ⟨permIn_trans _ _ _ _ _ HP.out.1 (permIn_mono _ _ _ _ _ _ (Nat.zero_le _) hlt (by have := hsk.out; omega) PP.out.2), HP.out.2.step hd.out hlt (by have := hsk.out; omega) PP.out.2 PP.out.1⟩, S3⟩
    · have hz : ¬ (a : Int) + 20 ≤ (d.size : Int) := by omega
      obtain ⟨s1, p1⟩ := insertionSort_R (lt := ltOf cf) (tag := tag) hO a d.size dk ha (by have := hsk.out; omega) HP.out.2.f3
      have hp2 := permIn_trans _ _ _ _ _ HP.out.1 (permIn_mono _ _ _ _ _ _ (Nat.zero_le _) (Nat.le_refl _) (by have := hsk.out; omega) p1)
      have hb2 := HP.out.2.done hd.out ha (by omega) (by have := hsk.out; omega) p1 s1
      have hs2 : (insertionSort (ltOf cf) dk a d.size).size = d.size := by rw [p1.1, hsk.out]
      have PP := Lib.hid (And.intro hp2 hb2)
      have HS2 := Lib.hid hs2
      clear s1 p1 hp2 hb2 hs2
      go_wp2_with fail
      refine (insertion_int enc cf g cb blk off cap _ a d.size _ _ d dk w _ eg HC.out R (by have := hsk.out; omega) S1.out hsk.out rfl rfl ha (by have := hsk.out; omega) (by have := hsk.out; omega)).mono ?_
      rintro e w' ⟨rfl, S2⟩
      have S3 : Aside _ := S2
      clear S2 S1 HP
      generalize hd2 : insertionSort (ltOf cf) dk a d.size = d2 at *
      clear hd2
      go_wp2
      go_loopg [6, 7, 8, 9] (d.size) (fun g1 vs va vb vm wr => ∃ (bs : Nat) (d2 : Array α), vs = .int .i64 bs ∧ 20 ≤ bs ∧ bs < 2305843009213693952 ∧ d.size - bs ≤ g1 ∧ Hid (d2.size = d.size) ∧ Hid (PermIn 0 d.size d d2 ∧ Blocks (ltOf cf) tag bs d.size d2) ∧ Aside (SW enc w blk off d2 wr))
      case atStart => exact ⟨20, d2, rfl, Nat.le_refl _, by omega, by omega, HS2, PP, S3⟩
      case round =>
        clear S3 PP HS2 hsk hd
        clear d2
        obtain ⟨bs, d2, rfl, hb20, hbb, hg2, hs2, HP, S4⟩ := hrel
        by_cases hlt2 : bs < d.size
        · have hz2 : (bs : Int) < (d.size : Int) := by omega
          go_wp2
          go_loopg [7, 8] (d.size) (fun g3 va vb wr => ∃ (a : Nat) (d3 : Array α), va = .int .i64 a ∧ vb = .int .i64 ((a : Int) + 2 * (bs : Int)) ∧ a ≤ d.size ∧ d.size - a ≤ g3 ∧ Hid (2 * bs ∣ a) ∧ Hid (d3.size = d.size) ∧ Hid (PermIn 0 d.size d d3 ∧ HalfB (ltOf cf) tag bs d.size a d3) ∧ Aside (SW enc w blk off d3 wr))
          case atStart => exact ⟨0, d2, rfl, by go_num, Nat.zero_le _, by omega, Nat.dvd_zero _, hs2, ⟨HP.out.1, HP.out.2.half (by omega)⟩, S4⟩
          case round =>
            clear S4 HP hs2
            clear d2
            obtain ⟨a, d3, rfl, rfl, ha, hg3, hd3, hs3, HP3, S5⟩ := hrel
            by_cases hlt3 : a + 2 * bs ≤ d.size
            · have hz3 : (a : Int) + 2 * (bs : Int) ≤ (d.size : Int) := by omega
              have hr := HP3.out.2.runs hd3.out (b := a + 2 * bs) (by omega) hlt3 (Nat.le_refl _)
              have HR := Lib.hid hr
              clear hr
              go_wp2_with fail
              refine (symMerge_int enc cf tag g cb blk off cap _ d w eg hO HC.out R hsz _ a (a + bs) (a + 2 * bs) d3 _ _ _ _ (Nat.le_refl _) (by omega) (by omega) (by have := hs3.out; omega) hs3.out hs3.out.symm HR.out S5.out rfl (by omega) (by omega)).mono ?_
              rintro e w' ⟨rfl, d4, S6, p4, s4⟩
              have S7 : Aside _ := S6
              have P4 := Lib.hid (And.intro p4 s4)
              clear S6 p4 s4
              go_wp2
              go_roundg (d.size - (a + 2 * bs))
              case measure => omega
              case rel => exact ⟨a + 2 * bs, d4, by go_num, (by first | rfl | (congr 1; omega) | go_num), hlt3, Nat.le_refl _, (show 2 * bs ∣ a + 2 * bs from Nat.dvd_add hd3.out (Nat.dvd_refl _)), (show _ = _ from by rw [P4.out.1.1, hs3.out]), ⟨permIn_trans _ _ _ _ _ HP3.out.1 (permIn_mono _ _ _ _ _ _ (Nat.zero_le _) hlt3 (by have := hs3.out; omega) P4.out.1), HP3.out.2.step hd3.out hlt3 (by have := hs3.out; omega) P4.out.1 P4.out.2⟩, S7⟩
            · have hz3 : ¬ (a : Int) + 2 * (bs : Int) ≤ (d.size : Int) := by omega
              by_cases hlt4 : a + bs < d.size
              · have hz4 : (a : Int) + (bs : Int) < (d.size : Int) := by omega
                have hr := HP3.out.2.runs hd3.out (b := d.size) hlt4 (Nat.le_refl _) (by omega)
                have HR := Lib.hid hr
                clear hr
                go_wp2_with fail
                refine (symMerge_int enc cf tag g cb blk off cap _ d w eg hO HC.out R hsz _ a (a + bs) d.size d3 _ _ _ _ (Nat.le_refl _) (by omega) hlt4 (by have := hs3.out; omega) hs3.out hs3.out.symm HR.out S5.out rfl (by omega) rfl).mono ?_
                rintro e w' ⟨rfl, d4, S6, p4, s4⟩
                have S7 : Aside _ := S6
                have P4 := Lib.hid (And.intro p4 s4)
                clear S6 p4 s4
                go_wp2
                go_roundg (d.size - 2 * bs)
                case measure => omega
                case rel => exact ⟨2 * bs, d4, (by first | rfl | (congr 1; omega) | go_num), by omega, by omega, Nat.le_refl _, (show _ = _ from by rw [P4.out.1.1, hs3.out]), ⟨permIn_trans _ _ _ _ _ HP3.out.1 (permIn_mono _ _ _ _ _ _ (Nat.zero_le _) (Nat.le_refl _) (by have := hs3.out; omega) P4.out.1), HP3.out.2.done hd3.out ha (by omega) (by have := hs3.out; omega) P4.out.1 P4.out.2⟩, S7⟩
              · have hz4 : ¬ (a : Int) + (bs : Int) < (d.size : Int) := by omega
                go_wp2
                go_roundg (d.size - 2 * bs)
                case measure => omega
                case rel => exact ⟨2 * bs, d3, (by first | rfl | (congr 1; omega) | go_num), by omega, by omega, Nat.le_refl _, hs3, ⟨HP3.out.1, HP3.out.2.done hd3.out ha (by omega) (by have := hs3.out; omega) (permIn_refl _ _ _) (HP3.out.2.rest hd3.out (by omega))⟩, S5⟩
        · have hz2 : ¬ (bs : Int) < (d.size : Int) := by omega
          go_wp2
          go_end0
          exact ⟨rfl, d2, S4.out, HP.out.1, HP.out.2.whole (by omega)⟩

/-- slices.SortStableFunc at []int. -/
theorem sortStable_int (enc : α → Value) (cf : α → α → Int) (tag : α → Nat) (g : Nat) (cb : Array Value) (blk off cap L : Nat) (d : Array α) (w : World)
    (eg : ∀ args w, (callFunc g args).run Tryz.prog w = .ok (.enter g args) w) (hO : SWO (ltOf cf)) (hcmp : CmpLays1 Tryz.prog g cb enc cf blk off d.size w) (R : Row1 enc w blk off d) (hL : d.size = L) (hsz : d.size < 1152921504606846976)
    (ht : TagsIn tag 0 d.size d) :
    Calls Tryz.prog 121 #[.slice (some ⟨blk, off, none⟩) L cap, .func (.func g) #[] cb] w fun e w' =>
      e = .returned (.tuple #[]) ∧ ∃ d', SW enc w blk off d' w' ∧ PermIn 0 d.size d d' ∧ SortedR (ltOf cf) tag 0 d.size d' := by
  subst hL
  have hc := stable_int enc cf tag g cb blk off cap _ _ d w eg hO hcmp R rfl rfl hsz ht
  have HC := Lib.hid hc
  clear hc hcmp ht
  go_enter Tryz.func121, Tryz.ntmps121
  go_wp2_with fail
  refine HC.out.mono ?_
  rintro e w' ⟨rfl, d', S, hp, hs⟩
  have S1 : Aside _ := S
  have P := Lib.hid (And.intro hp hs)
  clear S hp hs
  go_wp2
  go_end0
  exact ⟨rfl, d', S1.out, P.out.1, P.out.2⟩
end Go.Proofs.YtihidnmpngeohaaGreat
namespace Go.Proofs.YtihidnmpngeohaaGreat
open Go.RowKit Go.Lib Go.Sort

/-- A block's meta. -/
structure Mt where
  id : Int
  frm : Int
  upto : Int
  many : Int
  level : Int
def Mt.cells (m : Mt) : List Value := [.int .u32 m.id, .int .i64 m.frm, .int .i64 m.upto, .int .i64 m.many, .int .i64 m.level]
/-- Its numbers fit their kinds. -/
def Mt.ok (m : Mt) : Prop := 0 ≤ m.id ∧ m.id < 4294967296 ∧ (Lit.int .i64 m.level).wf = true

theorem sortWorld_other {α : Type} [Inhabited α] (enc : α → Value) (w : World) (blk off m : Nat) (dk : Array α) (os : Array Obj) (a : Addr) (h : a.block ≠ blk) (hlt : a.block < w.heap.size) : (sortWorld enc w blk off m dk os).cell? a = w.cell? a := by
  unfold sortWorld
  rw [cell?_grow _ _ _ (by rw [size_putRow]; exact hlt), cell?_putRow_other enc _ blk off dk a (Or.inl h)]
  rfl

theorem compare_u32 (x y : Int) (w : World) : Calls Tryz.prog 123 #[.int .u32 x, .int .u32 y] w fun e w' => e = .returned (.int .i64 (Lib.compareInt x y)) ∧ w' = w := by
  have nx : (x != x) = false := by simp
  have ny : (y != y) = false := by simp
  unfold Lib.compareInt
  by_cases h1 : x < y
  · rw [if_pos h1]
    go_enter Tryz.func123, Tryz.ntmps123
    go_wp2
    go_ret
    exact ⟨rfl, rfl⟩
  · rw [if_neg h1]
    by_cases h2 : y < x
    · rw [if_pos h2]
      go_enter Tryz.func123, Tryz.ntmps123
      go_wp2
      go_ret
      exact ⟨rfl, rfl⟩
    · rw [if_neg h2]
      go_enter Tryz.func123, Tryz.ntmps123
      go_wp2
      go_ret
      exact ⟨rfl, rfl⟩

set_option maxHeartbeats 1000000 in
set_option maxRecDepth 100000 in
theorem planCmp_any (B b off n c i j : Nat) (x y : Int) (w : World) (hbox : w.cell? ⟨B, 0, none⟩ = some (.slice (some ⟨b, off, none⟩) n c)) (hi : i < n) (hj : j < n) (hx : w.cell? ⟨b, off + i * 5, none⟩ = some (.int .u32 x)) (hy : w.cell? ⟨b, off + j * 5, none⟩ = some (.int .u32 y)) :
    Calls Tryz.prog 122 #[.int .i64 i, .int .i64 j, .pointer (some ⟨B, 0, none⟩)] w fun e w' => e = .returned (.int .i64 (Lib.compareInt x y)) ∧ ∃ q, w' = w.drewN q := by
  have i0 : (0 : Int) ≤ (i : Int) := by omega
  have i1 : (i : Int) < (n : Int) := by omega
  have j0 : (0 : Int) ≤ (j : Int) := by omega
  have j1 : (j : Int) < (n : Int) := by omega
  go_enter Tryz.func122, Tryz.ntmps122
  go_wp2_with fail
  go_quiet ((go_at_call 123; exact Calls.quiet_of_same (compare_u32 _ _ _)))
  go_wp2
  go_ret
  exact ⟨rfl, _, rfl⟩

/-- How a place in a list of n stands as a value. -/
def encFin (n : Nat) (k : Fin n) : Value := .int .i64 (k.val : Int)
def cmpFin (l : List Mt) (n : Nat) (x y : Fin n) : Int := Lib.compareInt ((l[x.val]?.map (·.id)).getD 0) ((l[y.val]?.map (·.id)).getD 0)
theorem lt_compare (x y : Int) : decide (Lib.compareInt x y < 0) = decide (x < y) := by
  unfold Lib.compareInt
  by_cases h1 : x < y
  · simp [h1]
  · by_cases h2 : y < x <;> simp [h1, h2]
theorem swo_fin (l : List Mt) (n : Nat) : SWO (ltOf (cmpFin l n)) where
  irrefl x := by unfold ltOf cmpFin; rw [lt_compare]; simp
  trans x y z h1 h2 := by unfold ltOf cmpFin at *; rw [lt_compare] at *; simp at *; omega
  ntrans x y z h1 h2 := by unfold ltOf cmpFin at *; rw [lt_compare] at *; simp at *; omega
theorem planCmp_lays (B b off n c : Nat) (l : List Mt) (hl : l.length = n) (hn : 0 < n) (w : World) (blk ro size : Nat) (hbox : w.cell? ⟨B, 0, none⟩ = some (.slice (some ⟨b, off, none⟩) n c)) (hB : B ≠ blk) (hb : b ≠ blk) (hBl : B < w.heap.size) (hbl : b < w.heap.size)
    (hc : ∀ k x, l[k]? = some x → ∀ i u, x.cells[i]? = some u → w.cell? ⟨b, off + k * 5 + i, none⟩ = some u) :
    letI : Inhabited (Fin n) := ⟨⟨0, hn⟩⟩
    CmpLays1 Tryz.prog 122 #[.pointer (some ⟨B, 0, none⟩)] (encFin n) (cmpFin l n) blk ro size w := by
  intro m os dk hs x y
  have hx : x.val < l.length := by have := x.isLt; omega
  have hy : y.val < l.length := by have := y.isLt; omega
  letI : Inhabited (Fin n) := ⟨⟨0, hn⟩⟩
  refine (planCmp_any B b off n c x.val y.val (l[x.val]).id (l[y.val]).id _ ?_ x.isLt y.isLt ?_ ?_).mono ?_
  · rw [sortWorld_other _ _ _ _ _ _ _ _ hB hBl]; exact hbox
  · rw [sortWorld_other _ _ _ _ _ _ _ _ hb hbl]; exact hc x.val _ (List.getElem?_eq_getElem hx) 0 _ rfl
  · rw [sortWorld_other _ _ _ _ _ _ _ _ hb hbl]; exact hc y.val _ (List.getElem?_eq_getElem hy) 0 _ rfl
  · rintro e w' ⟨rfl, q, rfl⟩
    refine ⟨by simp [cmpFin, hx, hy], q, #[], (grow_empty _).symm⟩
end Go.Proofs.YtihidnmpngeohaaGreat
