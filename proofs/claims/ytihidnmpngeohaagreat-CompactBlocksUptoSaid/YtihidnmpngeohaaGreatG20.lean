/- Series in memory: a slice of labels and a slice of samples. The document's Cmp of two lists of labels. What merge.Intervals hands back as a row; the words for what the document's answers hand back. -/
import Derived.Test.YtihidnmpngeohaaGreatG11
import Derived.Test.YtihidnmpngeohaaGreatG18
import Derived.Test.YtihidnmpngeohaaGreatG19
import Derived.Test.YtihidnmpngeohaaGreatG12
import Derived.Test.YtihidnmpngeohaaGreatG13
import Derived.Test.YtihidnmpngeohaaGreatG04
import Derived.Test.YtihidnmpngeohaaGreatG05
import Derived.Test.YtihidnmpngeohaaGreatG09
import Derived.BigQuiet
namespace Go.Proofs.YtihidnmpngeohaaGreat
open Go.RowKit Go.Lib Go.Sort

/-- A series, as the program has it: where its labels lie, what they are; its samples likewise. -/
structure Sv where
  A : Option Addr
  n : Nat
  c : Nat
  l : List Lb
  D : Option Addr
  m : Nat
  d : Nat
  s : List (Int × Int)
def valL (y : Sv) : Value := .slice y.A y.n y.c
def valD (y : Sv) : Value := .slice y.D y.m y.d
def encSv (y : Sv) : List Value := [.slice y.A y.n y.c, .slice y.D y.m y.d]
theorem encSv_len (y : Sv) : (encSv y).length = 2 := rfl
/-- What it says. -/
def Sv.sr (y : Sv) : List Lb × List (Int × Int) := (y.l, y.s)
theorem oneSv (ys : List Sv) : ∀ u ∈ ys.flatMap encSv, u.oneCell' = true := by
  intro u hu
  obtain ⟨m, _, h⟩ := List.mem_flatMap.1 hu
  simp only [encSv, List.mem_cons, List.not_mem_nil, or_false] at h
  rcases h with rfl | rfl <;> rfl
/-- What is known of a series that lies below a block. -/
structure Sat (w : World) (B : Nat) (y : Sv) : Prop where
  lst : Lst Lb.cells 2 w B y.A y.n y.l
  nil : y.A = none → y.n = 0 ∧ y.c = 0
  few : y.n ≤ 100000
  sst : Lst encS 2 w B y.D y.m y.s
  snil : y.D = none → y.m = 0 ∧ y.d = 0
  sfew : y.m ≤ 100000
theorem Sat.below {w w' : World} {B : Nat} {y : Sv} (h : Sat w B y) (hb : Below B w w') : Sat w' B y := ⟨h.lst.below hb, h.nil, h.few, h.sst.below hb, h.snil, h.sfew⟩
theorem Sat.more {w : World} {B B' : Nat} {y : Sv} (h : Sat w B y) (hB : B ≤ B') : Sat w B' y := ⟨h.lst.more hB, h.nil, h.few, h.sst.more hB, h.snil, h.sfew⟩
theorem Sat.keep {w w' : World} {B : Nat} {y : Sv} (h : Sat w B y) (hk : ∀ p : Addr, p.block < B → w'.cell? p = w.cell? p) : Sat w' B y := ⟨h.lst.keep hk, h.nil, h.few, h.sst.keep hk, h.snil, h.sfew⟩
theorem Sat.on {w w' : World} {y : Sv} (h : Sat w w.heap.size y) (hb : Below w.heap.size w w') : Sat w' w'.heap.size y := (h.below hb).more hb.size
theorem Tryz.infoSeries : (Tryz.prog.info? 132).map (fun i => (i.zero, i.size, i.bytes)) = some (some (.agg #[.slice none 0 0, .slice none 0 0]), 2, 48) := by kernel_rfl
/-- Series of the call's own: the row, each one's labels and samples in memory of their own, no two together. -/
structure OutSv (w : World) (B : Nat) (v : Value) (os : List Sv) : Prop where
  row : w.ownsRow B 132 2 v os.length (os.flatMap encSv)
  each : ∀ z ∈ os, w.ownsRow B 29 2 (valL z) z.n (z.l.flatMap Lb.cells) ∧ w.ownsRow B 95 2 (valD z) z.m (z.s.flatMap encS)
  apart : os.Pairwise fun a b => ∀ g, (valL a).ownBlock = some g → (valL b).ownBlock ≠ some g
  sapart : os.Pairwise fun a b => ∀ g, (valD a).ownBlock = some g → (valD b).ownBlock ≠ some g
theorem OutSv.nil (w : World) (B : Nat) : OutSv w B (.slice none 0 0) [] := ⟨World.ownsRow_nil _ _ _ _, by simp, List.Pairwise.nil, List.Pairwise.nil⟩
theorem OutSv.below {w w' : World} {B : Nat} {v : Value} {os : List Sv} (h : OutSv w B v os) (hb : Below w.heap.size w w') : OutSv w' B v os :=
  ⟨owns_below h.row hb, fun z hz => ⟨owns_below (h.each z hz).1 hb, owns_below (h.each z hz).2 hb⟩, h.apart, h.sapart⟩
theorem OutSv.kept {S : Nat → Prop} {w w' : World} {B : Nat} {v : Value} {os : List Sv} (h : OutSv w B v os) (hg : GrownIn S w w') (hS : ∀ k, S k → k < B) : OutSv w' B v os :=
  ⟨hg.owns h.row (fun k hk hs => by have := (h.row.lt k hk).1; have := hS k hs; omega), fun z hz => ⟨hg.owns (h.each z hz).1 (fun k hk hs => by have := ((h.each z hz).1.lt k hk).1; have := hS k hs; omega), hg.owns (h.each z hz).2 (fun k hk hs => by have := ((h.each z hz).2.lt k hk).1; have := hS k hs; omega)⟩, h.apart, h.sapart⟩
theorem OutSv.base {w : World} {B B' : Nat} {v : Value} {os : List Sv} (h : OutSv w B v os) (hB : B' ≤ B) : OutSv w B' v os := ⟨owns_base h.row hB, fun z hz => ⟨owns_base (h.each z hz).1 hB, owns_base (h.each z hz).2 hB⟩, h.apart, h.sapart⟩
theorem owns_apart {w : World} {B B' n m : Nat} {e e' : TypeId} {s s' : Nat} {v v' : Value} {xs xs' : List Value} (h : w.ownsRow B e s v n xs) (h' : w.ownsRow B' e' s' v' m xs') (hne : e ≠ e') : v.ownBlock = none ∨ v.ownBlock ≠ v'.ownBlock := by
  cases hv : v.ownBlock with
  | none => exact .inl rfl
  | some b => exact .inr fun e => owns_other h h' hne hv e.symm
/-- One series more: its labels and samples are new, then the row grew. -/
theorem OutSv.snoc {w w1 wa wz : World} {B : Nat} {v v' : Value} {os : List Sv} {z : Sv} (h : OutSv w B v os) (hB : B ≤ w.heap.size) (hb : Below w.heap.size w w1) (hl : w1.ownsRow w.heap.size 29 2 (valL z) z.n (z.l.flatMap Lb.cells))
    (hd : w1.ownsRow w.heap.size 95 2 (valD z) z.m (z.s.flatMap encS))
    (hba : Below w1.heap.size w1 wa) (hr : wz.ownsRow B 132 2 v' (os.length + 1) (os.flatMap encSv ++ encSv z)) (hg : wa.grownBy wz v.ownBlock) : OutSv wz B v' (os ++ [z]) := by
  have ha := (h.below hb).below hba
  have hla := owns_below hl hba
  have hda := owns_below hd hba
  refine ⟨by rw [List.length_append, List.length_singleton, List.flatMap_append, List.flatMap_singleton]; exact hr, fun y hy => ?_, ?_, ?_⟩
  · rcases List.mem_append.1 hy with hy | hy
    · exact ⟨(ha.each y hy).1.kept hg (owns_apart (ha.each y hy).1 ha.row (by decide)), (ha.each y hy).2.kept hg (owns_apart (ha.each y hy).2 ha.row (by decide))⟩
    · rw [List.mem_singleton.1 hy]
      exact ⟨(owns_base hla hB).kept hg (owns_apart hla ha.row (by decide)), (owns_base hda hB).kept hg (owns_apart hda ha.row (by decide))⟩
  · refine List.pairwise_append.2 ⟨h.apart, List.pairwise_singleton _ _, fun a ha' b hb' g h1 h2 => ?_⟩
    rw [List.mem_singleton.1 hb'] at h2
    have := ((h.each a ha').1.lt g h1).2
    have := (hl.lt g h2).1
    omega
  · refine List.pairwise_append.2 ⟨h.sapart, List.pairwise_singleton _ _, fun a ha' b hb' g h1 h2 => ?_⟩
    rw [List.mem_singleton.1 hb'] at h2
    have := ((h.each a ha').2.lt g h1).2
    have := (hd.lt g h2).1
    omega
theorem owns_lst {α : Type} {enc : α → List Value} {w : World} {B n c size : Nat} {A : Option Addr} {e : TypeId} {l : List α} (h : w.ownsRow B e size (.slice A n c) n (l.flatMap enc)) (hl : ∀ x, (enc x).length = size) (h0 : 0 < size) : Lst enc size w w.heap.size A n l ∧ (A = none → n = 0 ∧ c = 0) ∧ l.length = n := by
  have h2 := owns_len h hl h0
  obtain ⟨A', c', e, _, h3⟩ := ownsRow_lst h h2 hl
  injection e with e1 _ e3
  subst e1 e3
  refine ⟨h3, fun e => ?_, h2⟩
  rcases h.2 with ⟨e', h0⟩ | ⟨g, cap, cur, e', _⟩
  · injection e' with _ _ e'
    exact ⟨h0, e'⟩
  · rw [e] at e'; cases e'
theorem OutSv.sat {w : World} {B : Nat} {v : Value} {os : List Sv} (h : OutSv w B v os) {m : Nat} (hm : m ≤ 100000) (hl : ∀ z ∈ os, z.l.length ≤ m ∧ z.s.length ≤ m) : ∀ z ∈ os, Sat w w.heap.size z := fun z hz => by
  obtain ⟨h1, h2⟩ := h.each z hz
  obtain ⟨a1, a2, a3⟩ := owns_lst h1 Lb.len (by omega)
  obtain ⟨b1, b2, b3⟩ := owns_lst h2 encS_len (by omega)
  have := hl z hz
  exact ⟨a1, a2, by omega, b1, b2, by omega⟩
/-- What Series hands back. -/
def SeriesPost (r : List (List Lb × List (Int × Int))) (w : World) (e : Ending) (w' : World) : Prop :=
  ∃ v os, e = .returned v ∧ OutSv w' w.heap.size v os ∧ os.map Sv.sr = serU labelsC r ∧ Below w.heap.size w w'
/-- Lists of series. -/
def Sls (w : World) (B : Nat) (A : Option Addr) (n : Nat) (ls : List (List Sv)) : Prop :=
  ls.length = n ∧ (0 < n → ∃ b off, A = some ⟨b, off, none⟩ ∧ b < B ∧ ∀ (k : Nat) xs, ls[k]? = some xs → ∃ A' c', w.cell? ⟨b, off + k, none⟩ = some (.slice A' xs.length c') ∧ Lst encSv 2 w B A' xs.length xs)
theorem Sls.below {w w' : World} {B n : Nat} {A : Option Addr} {ls : List (List Sv)} (h : Sls w B A n ls) (hb : Below B w w') : Sls w' B A n ls :=
  ⟨h.1, fun h0 => by
    obtain ⟨b, off, e, hlt, hc⟩ := h.2 h0
    refine ⟨b, off, e, hlt, fun k xs hxs => ?_⟩
    obtain ⟨A', c', h1, h2⟩ := hc k xs hxs
    exact ⟨A', c', (hb.cell hlt).trans h1, h2.below hb⟩⟩
end Go.Proofs.YtihidnmpngeohaaGreat
namespace Go.Proofs.YtihidnmpngeohaaGreat
open Go.RowKit Go.Lib

/-- Two labels, by what the document asks of them. -/
theorem labelC_cases (x y : Lb) :
    (labelC x y = -1 ∧ Op.bytesLess x.nm.toList y.nm.toList = true) ∨
    (labelC x y = -1 ∧ Op.bytesLess x.nm.toList y.nm.toList = false ∧ (x.nm.toList == y.nm.toList) = true ∧ Op.bytesLess x.vl.toList y.vl.toList = true) ∨
    (labelC x y = 0 ∧ Op.bytesLess x.nm.toList y.nm.toList = false ∧ (x.nm.toList == y.nm.toList) = true ∧ Op.bytesLess x.vl.toList y.vl.toList = false ∧ (x.vl.toList == y.vl.toList) = true) ∨
    (labelC x y = 1 ∧ Op.bytesLess x.nm.toList y.nm.toList = false ∧ (x.nm.toList == y.nm.toList) = true ∧ Op.bytesLess x.vl.toList y.vl.toList = false ∧ (x.vl.toList == y.vl.toList) = false) ∨
    (labelC x y = 1 ∧ Op.bytesLess x.nm.toList y.nm.toList = false ∧ (x.nm.toList == y.nm.toList) = false) := by
  unfold labelC textC
  cases h1 : Op.bytesLess x.nm.toList y.nm.toList with
  | true => exact .inl ⟨by simp, rfl⟩
  | false =>
    cases h2 : Op.bytesLess y.nm.toList x.nm.toList with
    | true =>
      have h3 : (x.nm.toList == y.nm.toList) = false := by rw [Bool.beq_comm]; exact less_ne h2
      exact .inr (.inr (.inr (.inr ⟨by simp, rfl, h3⟩)))
    | false =>
      have h3 := less_eq h1 h2
      cases g1 : Op.bytesLess x.vl.toList y.vl.toList with
      | true => exact .inr (.inl ⟨by simp, rfl, h3, rfl⟩)
      | false =>
        cases g2 : Op.bytesLess y.vl.toList x.vl.toList with
        | true =>
          have g3 : (x.vl.toList == y.vl.toList) = false := by rw [Bool.beq_comm]; exact less_ne g2
          exact .inr (.inr (.inr (.inl ⟨by simp, rfl, h3, rfl, g3⟩)))
        | false => exact .inr (.inr (.inl ⟨by simp, rfl, h3, rfl, less_eq g1 g2⟩))
set_option maxHeartbeats 4000000 in
set_option maxRecDepth 100000 in
theorem refCmp_any (A A' : Option Addr) (n c n' c' : Nat) (la lb : List Lb) (w : World) (hA : Lst Lb.cells 2 w w.heap.size A n la) (hB : Lst Lb.cells 2 w w.heap.size A' n' lb) (hn : n ≤ 1099511627776) (hn' : n' ≤ 1099511627776) :
    Calls Tryz.prog 43 #[.slice A n c, .slice A' n' c'] w fun e w' => e = .returned (.int .i64 (labelsC la lb)) ∧ Below w.heap.size w w' := by
  obtain ⟨r, hr⟩ : ∃ r, labelsC la lb = r := ⟨_, rfl⟩
  rw [hr]
  have HL := Lib.hid (show _ ∧ _ ∧ _ from ⟨hA, hB, hr⟩)
  clear hA hB hr
  go_enter Tryz.func43, Tryz.ntmps43
  go_wp2
  go_loopw [5] (fun iv wr => ∃ k q : Nat, k ≤ n ∧ k ≤ n' ∧ iv = .int .i64 k ∧ wr = w.drewN q ∧ Hid (lexC labelC (la.drop k) (lb.drop k) = r)) (fun iv _ => n - (intOf iv).toNat)
  case atStart => exact ⟨0, 0, Nat.zero_le _, Nat.zero_le _, rfl, rfl, Lib.hid HL.out.2.2⟩
  case round =>
    obtain ⟨k, q, hk, hk', rfl, rfl, HE⟩ := hrel
    have i0 : (0 : Int) ≤ (k : Int) := by omega
    by_cases hlt : k < n
    · have i1 : (k : Int) < (n : Int) := by omega
      by_cases hlt2 : k < n'
      · have i2 : (k : Int) < (n' : Int) := by omega
        obtain ⟨b, off, x, rfl, hb, hx, hc⟩ := HL.out.1.at hlt
        obtain ⟨b', off', y, rfl, hb', hy, hc'⟩ := HL.out.2.1.at hlt2
        have c0 := hc 0 _ rfl
        have c1 := hc 1 _ rfl
        have d0 := hc' 0 _ rfl
        have d1 := hc' 1 _ rfl
        simp only [Nat.add_zero] at c0 d0
        have hdr := lexC_drop (c := labelC) hx hy
        have HD := Lib.hid hdr
        clear hc hc' hx hy hdr
        rcases labelC_cases x y with ⟨hl, p1⟩ | ⟨hl, p1, p2, p3⟩ | ⟨hl, p1, p2, p3, p4⟩ | ⟨hl, p1, p2, p3, p4⟩ | ⟨hl, p1, p2⟩
        case inr.inr.inl =>
          have HG : Hid (lexC labelC (la.drop (k + 1)) (lb.drop (k + 1)) = r) := Lib.hid (by rw [← HE.out, HD.out, if_pos hl])
          clear hl
          go_wp2_with (go_quiet (fail))
          go_roundw
          case measure => simp [intOf]; omega
          case rel => exact ⟨k + 1, _, hlt, hlt2, by simp, by first | rfl | exact World.drewN_drewN _ _ _, HG⟩
        all_goals
          have hr := HE.out.symm.trans HD.out
          rw [hl] at hr
          simp at hr
          subst hr
          clear hl
          go_wp2_with (go_quiet (fail))
          go_ret
          exact ⟨rfl, by first | exact below_drewN (Below.refl _ _) _ | exact below_drewN (below_drewN (Below.refl _ _) _) _ | exact below_drewN (below_drewN (below_drewN (Below.refl _ _) _) _) _⟩
      · have i2 : ¬ (k : Int) < (n' : Int) := by omega
        obtain rfl : k = n' := by omega
        have hr : r = 1 := by
          rw [← HE.out, List.drop_eq_nil_of_le (by have := HL.out.2.1.1; omega : lb.length ≤ k), List.drop_eq_getElem_cons (by have := HL.out.1.1; omega : k < la.length)]
          rfl
        subst hr
        have i3 : ¬ (n : Int) < (k : Int) := by omega
        go_wp2_with (go_quiet (fail))
        go_ret
        exact ⟨rfl, by first | exact below_drewN (Below.refl _ _) _ | exact below_drewN (below_drewN (Below.refl _ _) _) _ | exact below_drewN (below_drewN (below_drewN (Below.refl _ _) _) _) _⟩
    · have i1 : ¬ (k : Int) < (n : Int) := by omega
      obtain rfl : k = n := by omega
      have hd : la.drop k = [] := List.drop_eq_nil_of_le (by have := HL.out.1.1; omega)
      by_cases hlt2 : k < n'
      · have hr : r = -1 := by
          rw [← HE.out, hd, List.drop_eq_getElem_cons (by have := HL.out.2.1.1; omega : k < lb.length)]
          rfl
        subst hr
        have i3 : (k : Int) < (n' : Int) := by omega
        clear hd
        go_wp2_with (go_quiet (fail))
        go_ret
        exact ⟨rfl, by first | exact below_drewN (Below.refl _ _) _ | exact below_drewN (below_drewN (Below.refl _ _) _) _ | exact below_drewN (below_drewN (below_drewN (Below.refl _ _) _) _) _⟩
      · obtain rfl : k = n' := by omega
        have hr : r = 0 := by
          rw [← HE.out, hd, List.drop_eq_nil_of_le (by have := HL.out.2.1.1; omega : lb.length ≤ k)]
          rfl
        subst hr
        clear hd
        go_wp2_with (go_quiet (fail))
        go_ret
        exact ⟨rfl, by first | exact below_drewN (Below.refl _ _) _ | exact below_drewN (below_drewN (Below.refl _ _) _) _ | exact below_drewN (below_drewN (below_drewN (Below.refl _ _) _) _) _⟩
end Go.Proofs.YtihidnmpngeohaaGreat
namespace Go.Proofs.YtihidnmpngeohaaGreat
open Go.RowKit Go.Lib

def PutS (r : List (Int × Int)) (w : World) (e : Ending) (w' : World) : Prop := ∃ v, e = .returned v ∧ w'.ownsRow w.heap.size 95 2 v r.length (r.flatMap encS) ∧ Below w.heap.size w w'
def PutI (r : List (Int × Int)) (w : World) (e : Ending) (w' : World) : Prop := ∃ v, e = .returned v ∧ w'.ownsRow w.heap.size 25 2 v r.length (r.flatMap encI) ∧ Below w.heap.size w w'
theorem Lst.kept {α : Type} {enc : α → List Value} {size n : Nat} {A : Option Addr} {l : List α} {w w' : World} (h : Lst enc size w w.heap.size A n l) (hb : Below w.heap.size w w') : Lst enc size w' w'.heap.size A n l := (h.below hb).more hb.size
/-- merge.Intervals, in the document's words. -/
theorem ivs_row (A : Option Addr) (n c : Nat) (l : List (Int × Int)) (w : World) (hL : Lst encI 2 w w.heap.size A n l) (hnil : A = none → n = 0 ∧ c = 0) (hn : n ≤ 1099511627776) (hw : ∀ x ∈ l, -9223372036854775808 ≤ x.1 ∧ x.1 ≤ 9223372036854775807 ∧ -9223372036854775808 ≤ x.2 ∧ x.2 ≤ 9223372036854775807) :
    Calls Tryz.prog 34 #[.slice A n c] w (PutI (l.foldl refIv []) w) := by
  refine (ivs_any A n c l w hL hnil hn hw).mono ?_
  rintro e w' ⟨v, d, h1, hp, hs, h2, h3⟩
  rw [ivs_ref hp hs] at h2
  exact ⟨v, h1, h2, h3⟩
theorem refIvs_len (l : List (Int × Int)) (w w' : World) (B n : Nat) (v : Value) (h : w.ownsRow B 25 2 v (l.foldl refIv []).length ((l.foldl refIv []).flatMap encI)) : (l.foldl refIv []).length ≤ maxLen := by
  obtain ⟨_, _, _, h, _⟩ := ownsRow_lst h rfl encI_len
  exact h
end Go.Proofs.YtihidnmpngeohaaGreat
