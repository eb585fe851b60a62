/- The example of the chapter, read by labels.Parse. -/
import Derived.Test.YtchggapclmdpaaaGreatDoorGo
import Derived.Test.YtchggapclmdpaaaGreatDoorGq
namespace Go.Proofs.YtchggapclmdpaaaGreatDoor
open Go.RowKit Go.Lib

def exT : ByteArray := ⟨#[123, 32, 98, 61, 34, 120, 34, 44, 97, 61, 34, 49, 34, 44, 32, 125]⟩
def posL : Nat → Nat | 0 => 2 | 1 => 8 | _ => 15
def midL : Nat → Nat | 0 => 7 | _ => 13
def bxL : Lb := ⟨⟨#[98]⟩, ⟨#[120]⟩⟩
def a1L : Lb := ⟨⟨#[97]⟩, ⟨#[49]⟩⟩
def labL : Nat → Lb | 0 => bxL | _ => a1L
theorem ex_size : exT.size = 16 := rfl
theorem ex_begin : signB exT.data.toList 0 123 = true ∧ signK exT.data.toList 0 123 = 2 := by decide +kernel
theorem ex_end0 : ∀ r, r < 2 → signB exT.data.toList (posL r) 125 = false ∧ signK exT.data.toList (posL r) 125 = posL r := by decide +kernel
theorem ex_end1 : signB exT.data.toList 15 125 = true ∧ signK exT.data.toList 15 125 = 16 := by decide +kernel
theorem ex_comma : ∀ r, r < 2 → signB exT.data.toList (midL r) 44 = true ∧ signK exT.data.toList (midL r) 44 = posL (r + 1) := by decide +kernel
theorem ex_name : ∀ r, r < 2 → nameK exT.data.toList (posL r) = posL r + 1 ∧ signB exT.data.toList (posL r + 1) 61 = true ∧ signK exT.data.toList (posL r + 1) 61 = posL r + 2 := by decide +kernel
theorem ex_nm : ∀ r, r < 2 → exT.extract (posL r) (posL r + 1) = (labL r).nm ∧ ((labL r).nm.toList == []) = false := by
  intro r hr
  have : r = 0 ∨ r = 1 := by omega
  rcases this with rfl | rfl <;> exact ⟨rfl, by decide +kernel⟩
theorem ex_val (r : Nat) (hr : r < 2) : ∃ b rest, exT.data.toList.drop (posL r + 2) = 34 :: ([b] ++ 34 :: rest) ∧ plainB b ∧ (labL r).vl = ⟨[b].toArray⟩ ∧ posL r + 2 + 1 + 2 = midL r := by
  have : r = 0 ∨ r = 1 := by omega
  rcases this with rfl | rfl
  · exact ⟨120, _, rfl, by unfold plainB; decide, rfl, rfl⟩
  · exact ⟨49, _, rfl, by unfold plainB; decide, rfl, rfl⟩
theorem ex_label (bk r : Nat) (hr : r < 2) (w : World) (hS : Scan w bk exT (posL r)) :
    Calls Tryz.prog 115 #[.pointer (some ⟨bk, 0, none⟩)] w fun e w' => e = .returned (.tuple #[.agg #[.string (labL r).nm, .string (labL r).vl], .bool true]) ∧ Scan w' bk exT (midL r) ∧ GrownIn (fun b => b = bk) w w' := by
  obtain ⟨b, rest, hd, hp, hv, hm⟩ := ex_val r hr
  have hle : posL r ≤ exT.size := by
    have : r = 0 ∨ r = 1 := by omega
    rcases this with rfl | rfl <;> decide
  refine label_value bk exT (labL r).nm (labL r).vl true (posL r) (posL r + 1) (posL r + 2) (midL r) w hS hle (by decide) (ex_name r hr).1 (ex_nm r hr).1 (ex_nm r hr).2 (ex_name r hr).2.1 (ex_name r hr).2.2 ?_
  intro W hW
  have := svalue_plain bk exT (posL r + 2) [b] rest W hW hd (fun c hc => by rw [List.mem_singleton.1 hc]; exact hp) (by decide)
  rw [hv, ← hm]
  exact this
theorem owns_gone {w w' : World} {bk B size n : Nat} {e : TypeId} {v : Value} {xs : List Value} (h : w.ownsRow B e size v n xs) (hg : GrownIn (fun k => k = bk) w w') (hb : bk < B) : w'.ownsRow B e size v n xs :=
  hg.owns h fun k hk e => by have := (h.lt k hk).1; omega
theorem ex_take (r : Nat) (hr : r < 2) : ([bxL, a1L].take (r + 1)).flatMap Lb.cells = ([bxL, a1L].take r).flatMap Lb.cells ++ (labL r).cells := by
  have : r = 0 ∨ r = 1 := by omega
  rcases this with rfl | rfl <;> rfl
set_option maxHeartbeats 2000000 in
set_option maxRecDepth 100000 in
theorem ex_labels (bk : Nat) (w : World) (hS : Scan w bk exT 0) :
    Calls Tryz.prog 48 #[.pointer (some ⟨bk, 0, none⟩)] w fun e w' => ∃ v, e = .returned (.tuple #[v, .bool true]) ∧ w'.ownsRow w.heap.size 94 2 v 2 ([bxL, a1L].flatMap Lb.cells) ∧ Scan w' bk exT 16 ∧ GrownIn (fun b => b = bk) w w' := by
  have hbk := hS.lt
  obtain ⟨i0, hi, hz0, hz1, hz2⟩ := info_parts Tryz.infoLabel
  have hsign := fun k (c : UInt8) W (h : Scan W bk exT k) (h1 : k ≤ exT.size) => sign_any bk exT k c W h h1 (by decide)
  have HI := Lib.hid (show _ ∧ _ ∧ _ ∧ _ ∧ _ from ⟨hi, hz0, hz1, hz2, hsign⟩)
  have HS := Lib.hid (show _ ∧ _ from ⟨hS, hbk⟩)
  clear hi hz0 hz1 hz2 hS hbk hsign
  go_enter Tryz.func48, Tryz.ntmps48
  go_wp2_with (go_at_call 114; refine (HI.out.2.2.2.2 0 123 _ HS.out.1 (by decide)).mono ?_; rw [ex_begin.1, ex_begin.2]; rintro e w1 ⟨rfl, hS1, _, hg1⟩; have H1 := Lib.hid (show _ ∧ _ from ⟨hS1, hg1⟩); clear hS1 hg1)
  go_loopw [2] (fun v wr => ∃ r : Nat, r ≤ 2 ∧ Hid (Scan wr bk exT (posL r) ∧ wr.ownsRow w.heap.size 94 2 v r (([bxL, a1L].take r).flatMap Lb.cells) ∧ GrownIn (fun b => b = bk ∨ w.heap.size ≤ b) w wr)) (fun _ wr => 16 - atOf wr bk)
  case atStart => exact ⟨0, Nat.zero_le _, Lib.hid ⟨H1.out.1, World.ownsRow_nil _ _ _ _, H1.out.2.mono (fun _ _ h => .inl h)⟩⟩
  case round =>
    obtain ⟨r, hr, HR⟩ := hrel
    obtain ⟨hi, hz0, hz1, hz2⟩ : _ ∧ _ ∧ _ ∧ _ := ⟨HI.out.1, HI.out.2.1, HI.out.2.2.1, HI.out.2.2.2.1⟩
    have hgs := HR.out.2.2.size
    by_cases hlt : r < 2
    · have hple : posL r ≤ exT.size := by
        have : r = 0 ∨ r = 1 := by omega
        rcases this with rfl | rfl <;> decide
      have hmle : midL r ≤ exT.size := by
        have : r = 0 ∨ r = 1 := by omega
        rcases this with rfl | rfl <;> decide
      have hmp : atOf wr bk < posL (r + 1) ∧ posL (r + 1) ≤ 16 := by
        rw [HR.out.1.at]
        have : r = 0 ∨ r = 1 := by omega
        rcases this with rfl | rfl <;> decide
      have hne : wr.heap.size ≠ bk := by have := HR.out.1.lt; omega
      have HN := Lib.hid (show _ ∧ _ ∧ _ ∧ _ from ⟨hple, hmle, hmp, hne⟩)
      clear hple hmle hmp hne
      have htk := ex_take r hlt
      have HT := Lib.hid htk
      clear htk
      go_wp2_with (first
        | (go_at_call 115; refine (ex_label bk r hlt _ H2.out.1).mono ?_; rintro e w3 ⟨rfl, hS3, hg3⟩; have H3 := Lib.hid (show _ ∧ _ ∧ _ from ⟨hS3, H2.out.2.1.trans hg3 (fun _ _ h => .inl h), owns_gone H2.out.2.2 hg3 HS.out.2⟩); have hs3 := H3.out.2.1.size; clear hS3 hg3)
        | (at_builtin; refine wpList_append_own _ rfl _ _ 22 rfl w.heap.size 94 i0 _ 2 32 Tryz.underlying22 hi hz0 hz1 hz2 rfl (by omega) _ r (([bxL, a1L].take r).flatMap Lb.cells) rfl ((H3.out.2.2.alloc _).alloc _) ⟨w3.heap.size + 1, 0, none⟩ 1 1 (labL r).cells rfl rfl (cells_at _ (by simp) (labL r).cells _) (by intro u hu; simp only [Lb.cells, List.mem_cons, List.not_mem_nil, or_false] at hu; rcases hu with rfl | rfl <;> rfl) (by unfold maxLen; omega) (by omega) (by simp; omega) ?_; intro v' w5 hown5 hg5 _; have hs5 : Scan w5 bk exT (midL r) := (hg5.block bk (by simp; have := H3.out.1.lt; omega) (fun e => by have := (H3.out.2.2.lt bk e.symm).1; have := HS.out.2; omega)).trans ((H3.out.1.alloc _).alloc _); have H5 := Lib.hid (show _ ∧ _ ∧ w5.ownsRow w.heap.size 94 2 v' (r + 1) (([bxL, a1L].take (r + 1)).flatMap Lb.cells) from ⟨hs5, ((H3.out.2.1.alloc _).alloc _).trans (GrownIn.of_grownBy hg5) (fun k _ e => .inr (H3.out.2.2.lt k e).1), by (rw [HT.out]; exact hown5)⟩); clear hown5 hg5 hs5)
        | (go_at_call 114; refine (HI.out.2.2.2.2 (midL r) 44 _ H5.out.1 HN.out.2.1).mono ?_; rw [(ex_comma r hlt).1, (ex_comma r hlt).2]; rintro e w6 ⟨rfl, hS6, _, hg6⟩; have H6 := Lib.hid (show _ ∧ _ ∧ _ from ⟨hS6, H5.out.2.1.trans hg6 (fun _ _ h => .inl h), owns_gone H5.out.2.2 hg6 HS.out.2⟩); clear hS6 hg6)
        | (go_at_call 114; refine (HI.out.2.2.2.2 (posL r) 125 _ HR.out.1 HN.out.1).mono ?_; rw [(ex_end0 r hlt).1, (ex_end0 r hlt).2]; rintro e w2 ⟨rfl, hS2, _, hg2⟩; have H2 := Lib.hid (show _ ∧ _ ∧ _ from ⟨hS2, HR.out.2.2.trans hg2 (fun _ _ h => .inl h), owns_gone HR.out.2.1 hg2 HS.out.2⟩); clear hS2 hg2))
      go_roundw
      case measure =>
        rw [H6.out.1.at]
        have := HN.out.2.2.1
        omega
      case rel => exact ⟨r + 1, hlt, Lib.hid ⟨H6.out.1, H6.out.2.2, H6.out.2.1⟩⟩
    · obtain rfl : r = 2 := by omega
      clear hi hz0 hz1 hz2
      have hsz : ((16 : Int) == (exT.size : Int)) = true := rfl
      go_wp2_with (first
        | (go_quiet (fail))
        | (go_at_call 114; refine (HI.out.2.2.2.2 15 125 _ HR.out.1 (by decide)).mono ?_; rw [ex_end1.1, ex_end1.2]; rintro e w2 ⟨rfl, hS2, _, hg2⟩; have H2 := Lib.hid (show _ ∧ _ ∧ _ from ⟨hS2, HR.out.2.2.trans hg2 (fun _ _ h => .inl h), owns_gone HR.out.2.1 hg2 HS.out.2⟩); have c0 := hS2.c0; have c1 := hS2.c1; clear hS2 hg2))
      exact bodyPost_ret (v := .tuple #[u2, .bool true]) (by simp [results, Tryz.results48, go_sem]) rfl ⟨u2, rfl, H2.out.2.2, H2.out.1, (H2.out.2.1.drewN nq).mono fun k hk h => h.elim id (fun h => by omega)⟩
/-- The example's labels, as a set. -/
theorem ex_set : setE [bxL, a1L] = 0 ∧ setL [bxL, a1L] = [a1L, bxL] := by
  refine ⟨by decide +kernel, ?_⟩
  have h1 : nameC a1L bxL < 0 := by decide +kernel
  have h2 : [bxL, a1L].filter fullV = [bxL, a1L] := by rfl
  unfold setL
  rw [h2]
  simp [intoL, h1]
set_option maxHeartbeats 2000000 in
set_option maxRecDepth 100000 in
theorem ex_parse (w : World) :
    Calls Tryz.prog 10 #[.string exT] w fun e w' => ∃ v, e = .returned (.tuple #[v, .int .u16 0, .int .i64 0]) ∧ w'.ownsRow w.heap.size 94 2 v 2 ([a1L, bxL].flatMap Lb.cells) ∧ Below w.heap.size w w' := by
  go_enter Tryz.func10, Tryz.ntmps10
  have hS0 : Scan (w.alloc (.cells #[.string exT, .int .i64 0] 97)) w.heap.size exT 0 := heap_alloc_new w _
  have HS := Lib.hid hS0
  clear hS0
  go_wp2_with (first
    | (go_at_call 48; refine (ex_labels w.heap.size _ HS.out).mono ?_; rintro e w1 ⟨v, rfl, ho1, _, hg1⟩; obtain ⟨A, c, rfl, _, hL1⟩ := ownsRow_lst ho1 rfl Lb.len; have H1 := Lib.hid (show _ ∧ Below w.heap.size w w1 from ⟨set_any A 2 c [bxL, a1L] w1 hL1 (by decide), ((Below.refl _ w).alloc (Nat.le_refl _) _).trans (hg1.below (fun k hk => by omega) (by simp))⟩); clear ho1 hg1 hL1)
    | (go_at_call 19; refine H1.out.1.mono ?_; rintro e w2 ⟨v2, rfl, hb2, _, ho2⟩; rw [ex_set.1]; have H2 := Lib.hid (show _ ∧ Below w.heap.size w w2 from ⟨owns_base (ho2 ex_set.1) H1.out.2.size, H1.out.2.trans (hb2.mono H1.out.2.size)⟩); clear hb2 ho2))
  exact bodyPost_ret (v := .tuple #[v2, .int .u16 0, .int .i64 0]) (by simp [results, Tryz.results10, go_sem]) rfl ⟨v2, rfl, by have h := H2.out.1; rw [ex_set.2] at h; exact h, H2.out.2⟩
end Go.Proofs.YtchggapclmdpaaaGreatDoor
