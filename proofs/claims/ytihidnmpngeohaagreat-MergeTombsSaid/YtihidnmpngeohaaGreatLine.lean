/- The lists in line: what a step of the merge does to them. No walk. -/
import Derived.Test.YtihidnmpngeohaaGreatG40
namespace Go.Proofs.YtihidnmpngeohaaGreat
open Go.RowKit Go.Lib

/-- The lists in line: the queue holds the first sample of each, a cursor stands ahead of the rest. -/
structure Line (w : World) (B U qb : Nat) (qv : Value) (l : List It) (ss : List Src) : Prop where
  queue : Qu w B qb qv l
  perm : l.Perm (ss.map Src.it)
  heap : HeapOK l
  curs : ∀ s ∈ ss, Cur w B U s.it.cur s.it.rank s.rest
  ok : ∀ s ∈ ss, s.ok
  apart : (ss.map fun s => s.it.cur).Nodup
  ranks : (ss.map fun s => s.it.rank).Nodup
theorem nodup_perm_cons {α β : Type} {f : α → β} {ss ss' : List α} {s : α} (h : (ss.map f).Nodup) (hp : ss.Perm (s :: ss')) : (∀ u ∈ ss', f u ≠ f s) ∧ (ss'.map f).Nodup := by
  have h1 := (hp.map f).nodup_iff.1 h
  rw [List.map_cons, List.nodup_cons] at h1
  exact ⟨fun u hu e => h1.1 (List.mem_map.2 ⟨u, hu, e⟩), h1.2⟩
/-- The list whose sample comes first has left the line. -/
theorem Line.pop {w w1 : World} {B U qb : Nat} {qv qv1 : Value} {l l1 : List It} {ss : List Src} {x : It} (h : Line w B U qb qv l ss) (h0 : l[0]? = some x) (hq1 : Qu w1 B qb qv1 l1) (hp : (l1 ++ [x]).Perm l) (hok : HeapOK l1) (hk : KeptT B QT w w1) :
    ∃ s ss', s.it = x ∧ ss.Perm (s :: ss') ∧ Line w1 B U qb qv1 l1 ss' ∧ Cur w1 B U x.cur x.rank s.rest ∧ s.ok ∧ (∀ u ∈ ss', u.it.cur ≠ x.cur) ∧ (∀ u ∈ ss', u.it.rank ≠ x.rank) ∧
      sortT (ss.flatMap Src.flow) = s.tg :: sortT (tagsFrom x.rank (s.i + 1) s.rest ++ ss'.flatMap Src.flow) := by
  have hx : x ∈ ss.map Src.it := h.perm.mem_iff.1 (List.mem_of_getElem? h0)
  obtain ⟨s, hs, rfl⟩ := List.mem_map.1 hx
  obtain ⟨a, b, rfl⟩ := List.append_of_mem hs
  have hpm : (a ++ s :: b).Perm (s :: (a ++ b)) := List.perm_middle
  have h1 := nodup_perm_cons h.apart hpm
  have h2 := nodup_perm_cons h.ranks hpm
  have hsub : ∀ u ∈ a ++ b, u ∈ a ++ s :: b := fun u hu => hpm.mem_iff.2 (List.mem_cons_of_mem _ hu)
  have hperm1 : l1.Perm ((a ++ b).map Src.it) := by
    have h3 : (s.it :: l1).Perm (s.it :: (a ++ b).map Src.it) := by
      have h4 : (s.it :: l1).Perm (l1 ++ [s.it]) := (List.perm_append_singleton s.it l1).symm
      exact h4.trans (hp.trans (h.perm.trans (hpm.map Src.it)))
    exact h3.cons_inv
  refine ⟨s, a ++ b, rfl, hpm, ⟨hq1, hperm1, hok, fun u hu => (h.curs u (hsub u hu)).kept hk, fun u hu => h.ok u (hsub u hu), h1.2, h2.2⟩, (h.curs s hs).kept hk, h.ok s hs, h1.1, h2.1, ?_⟩
  have hmin : ∀ u ∈ a ++ b, itLess u.it s.it = false := fun u hu => by
    have h3 : u.it ∈ l := h.perm.mem_iff.2 (List.mem_map.2 ⟨u, hsub u hu, rfl⟩)
    obtain ⟨i, hi, e⟩ := List.getElem_of_mem h3
    exact h.heap.top h0 i u.it (by rw [List.getElem?_eq_getElem hi, e])
  have hall := least_of_all (h.ok s hs) (fun u hu => h.ok u (hsub u hu)) hmin h2.1
  rw [← sortT_cons hall]
  refine sortT_congr ?_
  have h5 := List.Perm.flatMap_right Src.flow hpm
  simpa [Src.flow] using h5
/-- The line in a world that has turned nothing of it. -/
theorem Line.keep {w w' : World} {B U qb : Nat} {qv : Value} {l : List It} {ss : List Src} (h : Line w B U qb qv l ss) (hq : Qu w' B qb qv l) (hc : ∀ s ∈ ss, Cur w' B U s.it.cur s.it.rank s.rest) : Line w' B U qb qv l ss :=
  ⟨hq, h.perm, h.heap, hc, h.ok, h.apart, h.ranks⟩
theorem apart_of' {v : Value} {r : Option Nat} (h : ∀ b, v.ownBlock = some b → r ≠ some b) : v.ownBlock = none ∨ v.ownBlock ≠ r := by
  cases hv : v.ownBlock with
  | none => exact .inl rfl
  | some b => exact .inr fun e => h b hv e.symm
theorem Qu.grown {w w' : World} {B qb : Nat} {qv : Value} {l : List It} (h : Qu w B qb qv l) {r : Option Nat} (hg : w.grownBy w' r) (h1 : r ≠ some qb) (h2 : ∀ g, qv.ownBlock = some g → r ≠ some g) : Qu w' B qb qv l :=
  ⟨(hg.block qb h.lt (fun e => h1 e.symm)).trans h.var, h.own.kept hg (apart_of' h2), h.base⟩
/-- The list joins the line again. -/
theorem Line.push {w w1 : World} {B U qb : Nat} {qv qv1 : Value} {l l1 : List It} {ss : List Src} {s : Src} (h : Line w B U qb qv l ss) (hs : Cur w B U s.it.cur s.it.rank s.rest) (hok : s.ok) (hne : ∀ u ∈ ss, u.it.cur ≠ s.it.cur) (hnr : ∀ u ∈ ss, u.it.rank ≠ s.it.rank)
    (hq1 : Qu w1 B qb qv1 l1) (hp : l1.Perm (l ++ [s.it])) (hh : HeapOK l1) (hk : KeptT B QT w w1) : Line w1 B U qb qv1 l1 (s :: ss) where
  queue := hq1
  perm := hp.trans (((List.perm_append_singleton s.it l)).trans (h.perm.cons s.it))
  heap := hh
  curs u hu := by
    rcases List.mem_cons.1 hu with rfl | hu
    · exact hs.kept hk
    · exact (h.curs u hu).kept hk
  ok u hu := by
    rcases List.mem_cons.1 hu with rfl | hu
    · exact hok
    · exact h.ok u hu
  apart := by
    rw [List.map_cons, List.nodup_cons]
    refine ⟨fun hm => ?_, h.apart⟩
    obtain ⟨u, hu, e⟩ := List.mem_map.1 hm
    exact hne u hu e
  ranks := by
    rw [List.map_cons, List.nodup_cons]
    refine ⟨fun hm => ?_, h.ranks⟩
    obtain ⟨u, hu, e⟩ := List.mem_map.1 hm
    exact hnr u hu e
/-- What the row of what comes out is. -/
def OutRow (w : World) (U : Nat) (r : Option Nat) : Prop := ∀ g, r = some g → U ≤ g ∧ ∃ cs fz, w.heap[g]? = some (.cells cs 95 fz)
theorem OutRow.of_own {w : World} {U n : Nat} {v : Value} {xs : List Value} (h : w.ownsRow U 95 2 v n xs) : OutRow w U v.ownBlock := by
  intro g hg
  rcases h.2 with ⟨rfl, _⟩ | ⟨b, cap, cur, rfl, hb, hh, _⟩
  · cases hg
  · obtain rfl : b = g := by simpa [Value.ownBlock] using hg
    exact ⟨hb, cur, _, hh⟩
theorem Qu.out {w w' : World} {B U qb : Nat} {qv : Value} {l : List It} (h : Qu w B qb qv l) {r : Option Nat} (hg : w.grownBy w' r) (hr : OutRow w U r) : Qu w' B qb qv l := by
  refine h.grown hg (fun e => ?_) (fun g hq e => ?_)
  · obtain ⟨_, cs, fz, h'⟩ := hr qb e
    rw [h.var] at h'
    injection h' with h'
    injection h' with _ h'
    revert h'; decide
  · obtain ⟨_, cs, fz, h'⟩ := hr g e
    have := h.type hq cs _ fz h'
    revert this; decide
theorem Line.out {w w' : World} {B U qb : Nat} {qv : Value} {l : List It} {ss : List Src} (h : Line w B U qb qv l ss) {r : Option Nat} (hg : w.grownBy w' r) (hr : OutRow w U r) : Line w' B U qb qv l ss :=
  h.keep (h.queue.out hg hr) fun s hs => (h.curs s hs).out hg hr
/-- Another list's cursor has gone on. -/
theorem Line.next {w w' : World} {B U qb cb : Nat} {qv : Value} {l : List It} {ss : List Src} (h : Line w B U qb qv l ss) (hg : w.grownBy w' (some cb)) (ht : ∃ cs fz, w.heap[cb]? = some (.cells cs 165 fz)) (hne : ∀ u ∈ ss, u.it.cur ≠ cb) : Line w' B U qb qv l ss := by
  refine h.keep (h.queue.grown hg (fun e => ?_) (fun g hq e => ?_)) fun s hs => (h.curs s hs).other hg (hne s hs) ht
  · injection e with e
    subst e
    obtain ⟨cs, fz, h'⟩ := ht
    rw [h.queue.var] at h'
    injection h' with h'
    injection h' with _ h'
    revert h'; decide
  · injection e with e
    subst e
    obtain ⟨cs, fz, h'⟩ := ht
    have := h.queue.type hq cs _ fz h'
    revert this; decide
theorem Cur.type {w : World} {B U cb : Nat} {rank : Int} {xs : List (Int × Int)} (h : Cur w B U cb rank xs) : ∃ cs fz, w.heap[cb]? = some (.cells cs 165 fz) := by
  obtain ⟨_, A, c, h1, _⟩ := h
  exact ⟨_, _, h1⟩
theorem owns_next {w w' : World} {U n cb : Nat} {v : Value} {xs : List Value} (h : w.ownsRow U 95 2 v n xs) (hg : w.grownBy w' (some cb)) (ht : ∃ cs fz, w.heap[cb]? = some (.cells cs 165 fz)) : w'.ownsRow U 95 2 v n xs := by
  refine h.kept hg (apart_of' fun g hv e => ?_)
  injection e with e
  subst e
  obtain ⟨_, cs, fz, h'⟩ := OutRow.of_own h cb hv
  obtain ⟨cs2, fz2, h2⟩ := ht
  rw [h'] at h2
  injection h2 with h2
  injection h2 with _ h2
  revert h2; decide
theorem Line.mono {w : World} {B U V qb : Nat} {qv : Value} {l : List It} {ss : List Src} (h : Line w B U qb qv l ss) (hU : U ≤ V) : Line w B V qb qv l ss :=
  ⟨h.queue, h.perm, h.heap, fun s hs => (h.curs s hs).mono hU, h.ok, h.apart, h.ranks⟩
theorem Line.below {w w' : World} {B U qb : Nat} {qv : Value} {l : List It} {ss : List Src} (h : Line w B U qb qv l ss) (hb : Below w.heap.size w w') : Line w' B U qb qv l ss :=
  h.out (r := none) ⟨hb.os, hb.tape, hb.output, hb.size, fun k hk _ => hb.block k hk⟩ (fun g hg => by cases hg)
/-- The lists that are handed in: slices of samples. -/
def Lls (w : World) (B : Nat) (A : Option Addr) (n : Nat) (ls : List (List (Int × Int))) : Prop :=
  ls.length = n ∧ (0 < n → ∃ b off, A = some ⟨b, off, none⟩ ∧ b < B ∧ ∀ k xs, ls[k]? = some xs → ∃ Ak ck, w.cell? ⟨b, off + k, none⟩ = some (.slice Ak xs.length ck) ∧ Lst encS 2 w B Ak xs.length xs ∧ (Ak = none → xs.length = 0 ∧ ck = 0))
theorem Lls.below {w w' : World} {B n : Nat} {A : Option Addr} {ls : List (List (Int × Int))} (h : Lls w B A n ls) (hb : Below B w w') : Lls w' B A n ls :=
  ⟨h.1, fun h0 => by
    obtain ⟨b, off, e, hlt, hc⟩ := h.2 h0
    refine ⟨b, off, e, hlt, fun k xs hx => ?_⟩
    obtain ⟨Ak, ck, h1, h2, h3⟩ := hc k xs hx
    exact ⟨Ak, ck, (hb.cell (p := ⟨b, off + k, none⟩) hlt).trans h1, h2.below hb, h3⟩⟩
/-- A new cursor over a row of the call's own. -/
theorem cur_new {w : World} {B cb U n c : Nat} {A : Option Addr} {rank : Int} {xs : List (Int × Int)} (hB : B ≤ cb) (h : w.heap[cb]? = some (.cells #[.slice A n c, .int .i64 rank] 165 (0, 0))) {B' : Nat} (ho : w.ownsRow B' 95 2 (.slice A n c) n (xs.flatMap encS)) (hU : w.heap.size ≤ U) : Cur w B U cb rank xs := by
  have hl := owns_len ho encS_len (by omega)
  have hcap := owns_cap ho
  subst hl
  refine ⟨hB, A, c, h, hcap.2, hcap.1, fun h0 => ?_⟩
  obtain ⟨g, rfl, hg⟩ := owns_some' ho h0
  obtain ⟨_, cs, fz, hh⟩ := OutRow.of_own ho g rfl
  refine ⟨g, 0, rfl, by omega, ⟨cs, fz, hh⟩, fun k x hx i u hu => ?_⟩
  rw [Nat.zero_add]
  exact owns_at ho encS_len hx hu
end Go.Proofs.YtihidnmpngeohaaGreat
