/- Patterns' machine: what is laid of any tree. Patterns: Compile. -/
import Derived.Test.YtamlnkmcbbeicaaDoorRgEith
import Derived.Test.YtamlnkmcbbeicaaDoorRgRead
namespace Go.Proofs.YtamlnkmcbbeicaaDoor
open Go.RowKit Go.Lib
open RX (PS Tr Pr Stp)

set_option maxHeartbeats 4000000 in
set_option maxRecDepth 100000 in
theorem lay_alts (us : List Tr) (tl : Tr) (hls : ∀ (i : Nat) t, us[i]? = some t → LayOk t) (hlast : LayOk tl) : LayOk (.alts (us ++ [tl])) := by
  intro B rp many a l v w h ht hn
  rw [TreeV] at ht
  obtain ⟨av, vs, rfl, ho, hob, hvn, hts⟩ := ht
  obtain ⟨A, c, rfl, _, _⟩ := owns_slice ho
  have sw4 := is_branches
  have sw0 := branches_not_bytesOf
  have sw1 := branches_not_edge
  have sw2 := branches_not_group
  have sw3 := branches_not_row
  have hb1 : Below w.heap.size w (w.alloc (.cells #[.slice A vs.length c] 93)) := (Below.refl _ _).alloc (Nat.le_refl _) _
  have HH := Lib.hid (show _ ∧ _ ∧ _ ∧ _ ∧ _ ∧ _ ∧ _ from ⟨h, hn, hts, hb1, ho, hob, hvn⟩)
  clear h hn hts hb1 ho hob hvn
  go_enter Tryd.func23, Tryd.ntmps23
  go_wp2_with fail
  refine (either_any us tl hls hlast B rp many a l (.slice A vs.length c) vs _ (HH.out.1.below HH.out.2.2.2.1) (owns_below HH.out.2.2.2.2.1 HH.out.2.2.2.1) HH.out.2.2.2.2.2.1 HH.out.2.2.2.2.2.2.2 (TreesV.move (fun _ h => h) (fun b hb _ => (HH.out.2.2.2.1.mono HH.out.1.size).block b hb) _ _ HH.out.2.2.1) HH.out.2.1).mono ?_
  rintro e w3 ⟨rfl, a3, h3, hm3⟩
  have H3 := Lib.hid (show _ ∧ _ from ⟨h3, Mch.pre HH.out.2.2.2.1 hm3⟩)
  clear h3 hm3
  go_wp2_with fail
  refine bodyPost_end (v := .tuple #[]) (by simp [results, Tryd.results23, go_sem]) rfl ⟨rfl, a3, H3.out.1, H3.out.2⟩
set_option maxHeartbeats 4000000 in
set_option maxRecDepth 100000 in
theorem lay_rep (t : Tr) (hl : LayOk t) (least : Nat) (most : Option Nat) (plus lazy : Bool) : LayOk (.rep t least most plus lazy) := by
  intro B rp many a l v w h ht hn
  rw [TreeV] at ht
  obtain ⟨u, rfl, hle, hmo, htu⟩ := ht
  have hag : AgainOk t least most plus lazy := by
    cases plus with
    | true => exact again_plus t hl least most lazy
    | false =>
      cases most with
      | none => exact again_star t hl least hle lazy
      | some m => exact again_most t hl least m (hmo m rfl) lazy
  obtain ⟨ty, x, rfl⟩ := htu.face
  have sw5 := is_repeat
  have sw0 := repeat_not_bytesOf
  have sw1 := repeat_not_edge
  have sw2 := repeat_not_group
  have sw3 := repeat_not_row
  have sw4 := repeat_not_branches
  obtain ⟨m, hm⟩ : ∃ m, mostV most = m := ⟨_, rfl⟩
  unfold AgainOk at hag
  rw [hm] at hag ⊢
  have hb1 : Below w.heap.size w (w.alloc (.cells #[.iface ty x, .int .i64 least, .int .i64 m, .bool plus, .bool lazy] 96)) := (Below.refl _ _).alloc (Nat.le_refl _) _
  have HH := Lib.hid (show _ ∧ _ ∧ _ ∧ _ ∧ _ from ⟨h, hn, htu, hb1, hag⟩)
  clear h hn htu hb1 hag hm hle hmo
  go_enter Tryd.func23, Tryd.ntmps23
  go_wp2_with fail
  refine (HH.out.2.2.2.2 B rp many a l (.iface ty x) _ (HH.out.1.below HH.out.2.2.2.1) (HH.out.1.tree HH.out.2.2.1 (HH.out.2.2.2.1.mono HH.out.1.size)) HH.out.2.1).mono ?_
  rintro e w3 ⟨rfl, a3, h3, hm3⟩
  have H3 := Lib.hid (show _ ∧ _ from ⟨h3, Mch.pre HH.out.2.2.2.1 hm3⟩)
  clear h3 hm3
  go_wp2_with fail
  refine bodyPost_end (v := .tuple #[]) (by simp [results, Tryd.results23, go_sem]) rfl ⟨rfl, a3, H3.out.1, H3.out.2⟩
theorem lay_alts' (ts : List Tr) (hls : ∀ (i : Nat) t, ts[i]? = some t → LayOk t) : LayOk (.alts ts) := by
  rcases List.eq_nil_or_concat ts with rfl | ⟨us, tl, rfl⟩
  · intro B rp many a l v w h ht hn
    rw [TreeV] at ht
    obtain ⟨av, vs, rfl, ho, hob, hvn, hts⟩ := ht
    have := hts.length
    simp at this
    omega
  · rw [List.concat_eq_append] at hls ⊢
    refine lay_alts us tl (fun i t hi => hls i t ?_) (hls us.length tl ?_)
    · rw [List.getElem?_append_left (List.getElem?_eq_some_iff.1 hi).1]; exact hi
    · simp
mutual
theorem lay_any : ∀ t : Tr, LayOk t
  | .bytes p => lay_bytes p
  | .edge e => lay_edge e
  | .group n t => lay_group n t (lay_any t)
  | .row l => lay_row l (lay_each l)
  | .alts l => lay_alts' l (lay_each l)
  | .rep t least most plus lazy => lay_rep t (lay_any t) least most plus lazy
theorem lay_each : ∀ (l : List Tr) (i : Nat) (t : Tr), l[i]? = some t → LayOk t
  | [], i, t, h => by cases i <;> cases h
  | u :: l, i, t, h => by
    cases i with
    | zero =>
      have h' : u = t := by simpa using h
      exact h' ▸ lay_any u
    | succ i => exact lay_each l i t (by simpa using h)
end
end Go.Proofs.YtamlnkmcbbeicaaDoor
namespace Go.Proofs.YtamlnkmcbbeicaaDoor
open Go.RowKit Go.Lib
open RX (PS Tr Pr Stp)

/-- What Compile answers of any pattern. -/
def CompPost (w : World) (s : ByteArray) (e : Ending) (w' : World) : Prop :=
  if s.size ≤ 500 then match RX.readRx s.data.toList with
    | .ok t g => ∃ B rp a, e = .returned (.tuple #[.pointer (some ⟨rp, 0, none⟩), .int .u16 0, .int .i64 0]) ∧ Rgx B w' rp a (RX.machine t) g ∧ w.heap.size ≤ B ∧ g ≤ 500 ∧ Below w.heap.size w w'
    | .bad x a => e = .returned (.tuple #[.pointer none, .int .u16 x, .int .i64 a]) ∧ Below w.heap.size w w'
  else e = .returned (.tuple #[.pointer none, .int .u16 81, .int .i64 0]) ∧ Below w.heap.size w w'
theorem read_size {s : List UInt8} {t : Tr} {g : Nat} (h : RX.readRx s = .ok t g) : t.size + 1 ≤ 1000 := by
  unfold RX.readRx at h
  revert h
  cases RX.pAll s (s.length + 1) ⟨0, 0, 0, 0⟩ with
  | bad a => intro h; cases h
  | ok u st =>
    intro h
    simp only at h
    split at h
    · cases h
    · split at h
      · cases h
      · cases h
        omega
theorem rd_bad {s : List UInt8} {x : Int} {a : Nat} (h : RX.readRx s = .bad x a) : x = 80 ∨ x = 81 := by
  unfold RX.readRx at h
  revert h
  cases RX.pAll s (s.length + 1) ⟨0, 0, 0, 0⟩ with
  | bad a => intro h; cases h; exact .inl rfl
  | ok u st =>
    intro h
    simp only at h
    split at h
    · cases h; exact .inl rfl
    · split at h
      · cases h; exact .inr rfl
      · cases h
theorem Rgx.start (w : World) (g : Nat) : Rgx w.heap.size (w.alloc (.cells #[.slice none 0 0, .int .i64 g] 57)) w.heap.size (.slice none 0 0) [] g :=
  ⟨heap_alloc_new _ _, ⟨rfl, .inl ⟨rfl, rfl⟩⟩, by simp [Value.ownBlock], Nat.le_refl _⟩
set_option maxHeartbeats 4000000 in
set_option maxRecDepth 100000 in
theorem compile_any (s : ByteArray) (w : World) : Calls Tryd.prog 12 #[.string s] w (CompPost w s) := by
  by_cases hs : s.size ≤ 500
  · have i1 : ¬ (500 : Int) < (s.size : Int) := by omega
    have hp : CompPost w s = fun e w' => match RX.readRx s.data.toList with
      | .ok t g => ∃ B rp a, e = .returned (.tuple #[.pointer (some ⟨rp, 0, none⟩), .int .u16 0, .int .i64 0]) ∧ Rgx B w' rp a (RX.machine t) g ∧ w.heap.size ≤ B ∧ g ≤ 500 ∧ Below w.heap.size w w'
      | .bad x a => e = .returned (.tuple #[.pointer none, .int .u16 x, .int .i64 a]) ∧ Below w.heap.size w w' := by
      funext e w'; unfold CompPost; rw [if_pos hs]
    rw [hp]
    have HR := Lib.hid (read_any s w hs)
    clear hp hs
    cases hr : RX.readRx s.data.toList with
    | bad x a =>
      have hx := rd_bad hr
      have hx2 : ¬ x = 0 := by omega
      have hx3 : IntKind.u16.wrap x = x := by rcases hx with rfl | rfl <;> rfl
      have HRR := Lib.hid hr
      clear hr
      go_enter Tryd.func12, Tryd.ntmps12
      go_wp2_with (first
        | (go_at_call 22; refine HR.out.mono ?_; intro e w1 h1; unfold ReadPost at h1; rw [HRR.out] at h1; obtain ⟨rfl, hb⟩ := h1; have H1 := Lib.hid hb; clear hb)
        | fail)
      exact bodyPost_ret (v := .tuple #[.pointer none, .int .u16 x, .int .i64 a]) (by simp [results, Tryd.results12, go_sem]) rfl ⟨rfl, H1.out⟩
    | ok t g =>
      have hsz := read_size hr
      have HRR := Lib.hid hr
      clear hr
      go_enter Tryd.func12, Tryd.ntmps12
      go_wp2_with fail
      refine HR.out.mono ?_
      intro e w1 h1
      unfold ReadPost at h1
      rw [HRR.out] at h1
      obtain ⟨v, rfl, htv, hg, hb⟩ := h1
      obtain ⟨ty, x, rfl⟩ := htv.face
      have H1 := Lib.hid (show _ ∧ _ ∧ _ ∧ _ from ⟨htv, hg, hb, Rgx.start w1 g⟩)
      have hb1 : Below w1.heap.size w1 (w1.alloc (.cells #[.slice none 0 0, .int .i64 g] 57)) := (Below.refl _ _).alloc (Nat.le_refl _) _
      have HB := Lib.hid hb1
      clear htv hg hb hb1
      go_wp2_with fail
      refine (lay_any t w1.heap.size w1.heap.size g _ [] (.iface ty x) _ H1.out.2.2.2 (TreeV.move (fun b hb => hb.2) (fun b hb _ => HB.out.block b hb.2) t _ H1.out.1) (by simp; omega)).mono ?_
      rintro e w3 ⟨rfl, a3, h3, hm3⟩
      rw [List.nil_append, List.length_nil] at h3
      have H3 := Lib.hid (show _ ∧ _ from ⟨h3, hm3.below H1.out.2.2.2⟩)
      clear h3 hm3
      go_wp2_with (first
        | (refine wpList_build_step rfl _ rfl [(0, .int .i64 6)] rfl (built_plain 6) ?_)
        | fail)
      refine (add_any w1.heap.size w1.heap.size g a3 _ (Stp.plain 6) _ H3.out.1 (by rw [t.lay_length]; omega)).mono ?_
      rintro e w4 ⟨rfl, a4, h4, hm4⟩
      have H4 := Lib.hid (show _ ∧ _ from ⟨h4, hm4.below H3.out.1⟩)
      clear h4 hm4
      go_wp2_with fail
      refine bodyPost_ret (v := .tuple #[.pointer (some ⟨w1.heap.size, 0, none⟩), .int .u16 0, .int .i64 0]) (by simp [results, Tryd.results12, go_sem]) rfl ⟨w1.heap.size, w1.heap.size, a4, rfl, H4.out.1, H1.out.2.2.1.size, H1.out.2.1, ?_⟩
      exact H1.out.2.2.1.trans (((HB.out.trans H3.out.2).trans H4.out.2).mono H1.out.2.2.1.size)
  · have i1 : (500 : Int) < (s.size : Int) := by omega
    have hp : CompPost w s = fun e w' => e = .returned (.tuple #[.pointer none, .int .u16 81, .int .i64 0]) ∧ Below w.heap.size w w' := by
      funext e w'; unfold CompPost; rw [if_neg hs]
    rw [hp]
    clear hp hs
    go_enter Tryd.func12, Tryd.ntmps12
    go_wp2_with fail
    exact bodyPost_ret (v := .tuple #[.pointer none, .int .u16 81, .int .i64 0]) (by simp [results, Tryd.results12, go_sem]) rfl ⟨rfl, Below.refl _ _⟩
end Go.Proofs.YtamlnkmcbbeicaaDoor
