/- Patterns' machine: what is laid of any tree. -/
import Derived.Test.YtdpakjkldkddcaaRgEith
namespace Go.Proofs.Ytdpakjkldkddcaa
open Go.RowKit Go.Lib
open RX (PS Tr Pr Stp)

set_option maxHeartbeats 4000000 in
set_option maxRecDepth 100000 in
theorem lay_alts (us : List Tr) (tl : Tr) (hls : ∀ (i : Nat) t, us[i]? = some t → LayOk t) (hlast : LayOk tl) : LayOk (.alts (us ++ [tl])) := by
  intro B rp many a l v w h ht hn
  rw [TreeV] at ht
  obtain ⟨av, vs, rfl, ho, hob, hvn, hts⟩ := ht
  obtain ⟨A, c, rfl, _, _⟩ := owns_slice ho
  have sw4 := is_branches
  have sw0 := branches_not_bytesOf
  have sw1 := branches_not_edge
  have sw2 := branches_not_group
  have sw3 := branches_not_row
  have hb1 : Below w.heap.size w (w.alloc (.cells #[.slice A vs.length c] 74)) := (Below.refl _ _).alloc (Nat.le_refl _) _
  have HH := Lib.hid (show _ ∧ _ ∧ _ ∧ _ ∧ _ ∧ _ ∧ _ from ⟨h, hn, hts, hb1, ho, hob, hvn⟩)
  clear h hn hts hb1 ho hob hvn
  go_enter Try.func17, Try.ntmps17
  go_wp2_with fail
  refine (either_any us tl hls hlast B rp many a l (.slice A vs.length c) vs _ (HH.out.1.below HH.out.2.2.2.1) (owns_below HH.out.2.2.2.2.1 HH.out.2.2.2.1) HH.out.2.2.2.2.2.1 HH.out.2.2.2.2.2.2.2 (TreesV.move (fun _ h => h) (fun b hb _ => (HH.out.2.2.2.1.mono HH.out.1.size).block b hb) _ _ HH.out.2.2.1) HH.out.2.1).mono ?_
  rintro e w3 ⟨rfl, a3, h3, hm3⟩
  have H3 := Lib.hid (show _ ∧ _ from ⟨h3, Mch.pre HH.out.2.2.2.1 hm3⟩)
  clear h3 hm3
  go_wp2_with fail
  refine bodyPost_end (v := .tuple #[]) (by simp [results, Try.results17, go_sem]) rfl ⟨rfl, a3, H3.out.1, H3.out.2⟩
set_option maxHeartbeats 4000000 in
set_option maxRecDepth 100000 in
theorem lay_rep (t : Tr) (hl : LayOk t) (least : Nat) (most : Option Nat) (plus lazy : Bool) : LayOk (.rep t least most plus lazy) := by
  intro B rp many a l v w h ht hn
  rw [TreeV] at ht
  obtain ⟨u, rfl, hle, hmo, htu⟩ := ht
  have hag : AgainOk t least most plus lazy := by
    cases plus with
    | true => exact again_plus t hl least most lazy
    | false =>
      cases most with
      | none => exact again_star t hl least hle lazy
      | some m => exact again_most t hl least m (hmo m rfl) lazy
  obtain ⟨ty, x, rfl⟩ := htu.face
  have sw5 := is_repeat
  have sw0 := repeat_not_bytesOf
  have sw1 := repeat_not_edge
  have sw2 := repeat_not_group
  have sw3 := repeat_not_row
  have sw4 := repeat_not_branches
  obtain ⟨m, hm⟩ : ∃ m, mostV most = m := ⟨_, rfl⟩
  unfold AgainOk at hag
  rw [hm] at hag ⊢
  have hb1 : Below w.heap.size w (w.alloc (.cells #[.iface ty x, .int .i64 least, .int .i64 m, .bool plus, .bool lazy] 77)) := (Below.refl _ _).alloc (Nat.le_refl _) _
  have HH := Lib.hid (show _ ∧ _ ∧ _ ∧ _ ∧ _ from ⟨h, hn, htu, hb1, hag⟩)
  clear h hn htu hb1 hag hm hle hmo
  go_enter Try.func17, Try.ntmps17
  go_wp2_with fail
  refine (HH.out.2.2.2.2 B rp many a l (.iface ty x) _ (HH.out.1.below HH.out.2.2.2.1) (HH.out.1.tree HH.out.2.2.1 (HH.out.2.2.2.1.mono HH.out.1.size)) HH.out.2.1).mono ?_
  rintro e w3 ⟨rfl, a3, h3, hm3⟩
  have H3 := Lib.hid (show _ ∧ _ from ⟨h3, Mch.pre HH.out.2.2.2.1 hm3⟩)
  clear h3 hm3
  go_wp2_with fail
  refine bodyPost_end (v := .tuple #[]) (by simp [results, Try.results17, go_sem]) rfl ⟨rfl, a3, H3.out.1, H3.out.2⟩
theorem lay_alts' (ts : List Tr) (hls : ∀ (i : Nat) t, ts[i]? = some t → LayOk t) : LayOk (.alts ts) := by
  rcases List.eq_nil_or_concat ts with rfl | ⟨us, tl, rfl⟩
  · intro B rp many a l v w h ht hn
    rw [TreeV] at ht
    obtain ⟨av, vs, rfl, ho, hob, hvn, hts⟩ := ht
    have := hts.length
    simp at this
    omega
  · rw [List.concat_eq_append] at hls ⊢
    refine lay_alts us tl (fun i t hi => hls i t ?_) (hls us.length tl ?_)
    · rw [List.getElem?_append_left (List.getElem?_eq_some_iff.1 hi).1]; exact hi
    · simp
mutual
theorem lay_any : ∀ t : Tr, LayOk t
  | .bytes p => lay_bytes p
  | .edge e => lay_edge e
  | .group n t => lay_group n t (lay_any t)
  | .row l => lay_row l (lay_each l)
  | .alts l => lay_alts' l (lay_each l)
  | .rep t least most plus lazy => lay_rep t (lay_any t) least most plus lazy
theorem lay_each : ∀ (l : List Tr) (i : Nat) (t : Tr), l[i]? = some t → LayOk t
  | [], i, t, h => by cases i <;> cases h
  | u :: l, i, t, h => by
    cases i with
    | zero =>
      have h' : u = t := by simpa using h
      exact h' ▸ lay_any u
    | succ i => exact lay_each l i t (by simpa using h)
end
end Go.Proofs.Ytdpakjkldkddcaa
