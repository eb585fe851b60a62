/- Patterns' machine: what is laid of rows. Patterns' machine: again: a count with a plus; without an end. -/
import Derived.Test.YtamlnkmcbbeicaaDoorRgLay
namespace Go.Proofs.YtamlnkmcbbeicaaDoor
open Go.RowKit Go.Lib
open RX (PS Tr Pr Stp)

theorem sizes_append : ∀ (l k : List Tr), RX.sizes (l ++ k) = RX.sizes l + RX.sizes k
  | [], k => by simp [RX.sizes]
  | x :: l, k => by simp only [List.cons_append, RX.sizes, sizes_append l k]; omega
theorem layRow_snoc (t : Tr) : ∀ (l : List Tr) (b : Nat), RX.layRow (l ++ [t]) b = RX.layRow l b ++ t.lay (b + RX.sizes l)
  | [], b => by simp [RX.layRow, RX.sizes]
  | u :: l, b => by
    rw [List.cons_append, RX.layRow, RX.layRow, RX.sizes, layRow_snoc t l, List.append_assoc, Nat.add_assoc]
set_option maxHeartbeats 4000000 in
set_option maxRecDepth 100000 in
theorem lay_row (ts : List Tr) (hls : ∀ (i : Nat) t, ts[i]? = some t → LayOk t) : LayOk (.row ts) := by
  intro B rp many a l v w h ht hn
  rw [TreeV] at ht
  obtain ⟨av, vs, rfl, ho, hob, hvn, hts⟩ := ht
  obtain ⟨A, c, rfl, _, _⟩ := owns_slice ho
  rw [RX.Tr.size] at hn
  rw [RX.Tr.lay]
  have hll := hts.length
  have sw3 := is_row
  have sw0 := row_not_bytesOf
  have sw1 := row_not_edge
  have sw2 := row_not_group
  have hb1 : Below w.heap.size w (w.alloc (.cells #[.slice A vs.length c] 92)) := (Below.refl _ _).alloc (Nat.le_refl _) _
  have HH := Lib.hid (show _ ∧ _ ∧ _ ∧ _ ∧ _ ∧ _ ∧ _ from ⟨h, hn, hts, hb1, ho, hob, hll⟩)
  clear h hn hts hb1 ho hob hll
  go_enter Tryd.func23, Tryd.ntmps23
  go_wp2_with fail
  go_loopw [57] (fun iv wr => ∃ (i : Nat) (ai : Value), i ≤ vs.length ∧ iv = .int .i64 i ∧ Hid (Rgx B wr rp ai (l ++ RX.layRow (ts.take i) l.length) many ∧ Mch rp a w ai wr)) (fun iv _ => vs.length - (intOf iv).toNat)
  case atStart =>
    refine ⟨0, a, Nat.zero_le _, rfl, Lib.hid ⟨?_, Mch.post (Mch.refl _ _ _) HH.out.2.2.2.1⟩⟩
    rw [List.take_zero, RX.layRow, List.append_nil]
    exact HH.out.1.below HH.out.2.2.2.1
  case round =>
    obtain ⟨i, ai, hi, rfl, HR⟩ := hrel
    have w2 : IntKind.i64.wrap ((i : Int) + 1) = (i : Int) + 1 := IntWalk.i64_in _ (by omega)
    by_cases hlt : i < vs.length
    · have i1 : (i : Int) < (vs.length : Int) := by omega
      have i0 : (0 : Int) ≤ (i : Int) := by omega
      obtain ⟨g, hg, _⟩ := owns_some' HH.out.2.2.2.2.1 (by omega)
      subst hg
      have hv : vs[i]? = some (vs[i]'hlt) := List.getElem?_eq_getElem _
      have hlt2 : i < ts.length := by have := HH.out.2.2.2.2.2.2; omega
      have ht : ts[i]? = some (ts[i]'hlt2) := List.getElem?_eq_getElem _
      obtain ⟨v, hve⟩ : ∃ v, vs[i]'hlt = v := ⟨_, rfl⟩
      obtain ⟨t, hte⟩ : ∃ t, ts[i]'hlt2 = t := ⟨_, rfl⟩
      have hsz : RX.sizes (ts.take (i + 1)) = RX.sizes (ts.take i) + t.size := by rw [List.take_succ_eq_append_getElem hlt2, hte, sizes_snoc]
      have hla : RX.layRow (ts.take (i + 1)) l.length = RX.layRow (ts.take i) l.length ++ t.lay (l.length + RX.sizes (ts.take i)) := by rw [List.take_succ_eq_append_getElem hlt2, hte, layRow_snoc]
      have hle : RX.sizes (ts.take (i + 1)) ≤ RX.sizes ts := by
        conv => rhs; rw [← List.take_append_drop (i + 1) ts, sizes_append]
        omega
      rw [hve] at hv
      rw [hte] at ht
      have hbw := HR.out.2.below HH.out.1
      have c0 : wr.cell? ⟨g, i, none⟩ = some v := (hbw.cell (HH.out.2.2.2.2.2.1 g rfl)).trans (owns_cell HH.out.2.2.2.2.1 rfl hv)
      have htv := HH.out.1.tree (HH.out.2.2.1.at ht hv) hbw
      have HV := Lib.hid (show _ ∧ _ ∧ _ ∧ _ ∧ _ from ⟨hls i t ht, htv, hsz, hla, hle⟩)
      clear hve hte hv ht htv hsz hla hle hbw
      go_wp2_with fail
      refine (HV.out.1 B rp many ai _ v _ HR.out.1 HV.out.2.1 (by have := HH.out.2.1; have := HV.out.2.2.1; have := HV.out.2.2.2.2; rw [List.length_append, RX.layRow_length]; omega)).mono ?_
      rintro e w3 ⟨rfl, a3, h3, hm3⟩
      have H3 := Lib.hid (show _ ∧ _ from ⟨h3, HR.out.2.trans hm3⟩)
      clear h3 hm3
      go_wp2_with fail
      go_roundw
      case measure => simp [intOf]; omega
      case rel =>
        refine ⟨i + 1, a3, hlt, by simp, Lib.hid ⟨?_, H3.out.2⟩⟩
        have := H3.out.1
        rw [List.length_append, RX.layRow_length, List.append_assoc, ← HV.out.2.2.2.1] at this
        exact this
    · obtain rfl : i = vs.length := by omega
      have i1 : ¬ ((vs.length : Nat) : Int) < (vs.length : Int) := by omega
      have htk : ts.take vs.length = ts := List.take_of_length_le (by have := HH.out.2.2.2.2.2.2; omega)
      rw [htk] at HR
      clear htk
      go_wp2_with fail
      refine bodyPost_end (v := .tuple #[]) (by simp [results, Tryd.results23, go_sem]) rfl ⟨rfl, ai, HR.out.1, HR.out.2⟩
end Go.Proofs.YtamlnkmcbbeicaaDoor
namespace Go.Proofs.YtamlnkmcbbeicaaDoor
open Go.RowKit Go.Lib
open RX (PS Tr Pr Stp)

def zStp : Stp := ⟨0, fun _ => false, 0, 0, 0⟩
theorem split_at {l : List Stp} {k : Nat} (hk : k < l.length) : ∃ x, l = l.take k ++ x :: l.drop (k + 1) ∧ (l.take k).length = k :=
  ⟨l[k], by rw [← List.drop_eq_getElem_cons hk, List.take_append_drop], by rw [List.length_take]; omega⟩
/-- fork at any of the machine's steps. -/
theorem fork_at (B rp many : Nat) (a : Value) (l : List Stp) (k on by_ : Nat) (lazy : Bool) (w : World) (h : Rgx B w rp a l many) (hk : k < l.length) :
    Calls Tryd.prog 48 #[.pointer (some ⟨rp, 0, none⟩), .int .i64 k, .int .i64 on, .int .i64 by_, .bool lazy] w fun e w' => e = .returned (.tuple #[]) ∧ Rgx B w' rp a (l.set k (Stp.fork on by_ lazy)) many ∧ Mch rp a w a w' := by
  obtain ⟨x, e, hl⟩ := split_at hk
  rw [e] at h
  have := fork_any B rp many a (l.take k) (l.drop (k + 1)) x on by_ lazy w h
  rw [hl] at this
  rw [List.set_eq_take_append_cons_drop, if_pos hk]
  exact this
/-- What again does of a count. -/
def AgainOk (t : Tr) (least : Nat) (most : Option Nat) (plus lazy : Bool) : Prop := ∀ (B rp many : Nat) (a : Value) (l : List Stp) (u : Value) (w : World), Rgx B w rp a l many → TreeV w (fun b => b < B) t u → l.length + (Tr.rep t least most plus lazy).size ≤ 100000 →
  Calls Tryd.prog 39 #[.pointer (some ⟨rp, 0, none⟩), .agg #[u, .int .i64 least, .int .i64 (mostV most), .bool plus, .bool lazy]] w (LayP B rp many a w (l ++ (Tr.rep t least most plus lazy).lay l.length))
set_option maxHeartbeats 4000000 in
set_option maxRecDepth 100000 in
theorem again_plus (t : Tr) (hl : LayOk t) (least : Nat) (most : Option Nat) (lazy : Bool) : AgainOk t least most true lazy := by
  intro B rp many a l u w h htu hn
  obtain ⟨ty, x, rfl⟩ := htu.face
  have hs : (Tr.rep t least most true lazy).size = t.size + 1 := by simp [RX.Tr.size]
  have hla : (Tr.rep t least most true lazy).lay l.length = t.lay l.length ++ [.fork l.length (l.length + t.size + 1) lazy] := by simp [RX.Tr.lay]
  rw [hs] at hn
  rw [hla]
  clear hs hla
  obtain ⟨m, hm⟩ : ∃ m, mostV most = m := ⟨_, rfl⟩
  rw [hm]
  clear hm
  obtain ⟨A, c, rfl, _, _⟩ := owns_slice h.row
  have hb1 : Below w.heap.size w (w.alloc (.cells #[.iface ty x, .int .i64 least, .int .i64 m, .bool true, .bool lazy] 96)) := (Below.refl _ _).alloc (Nat.le_refl _) _
  have hx1 := Bx.new h #[.iface ty x, .int .i64 least, .int .i64 m, .bool true, .bool lazy] 96
  have c0 := (h.below hb1).c0
  have HH := Lib.hid (show _ ∧ _ ∧ _ ∧ _ ∧ _ from ⟨h, hn, htu, hb1, hx1⟩)
  clear h hn htu hb1 hx1
  go_enter Tryd.func39, Tryd.ntmps39
  go_wp2_with fail
  refine (hl B rp many _ l (.iface ty x) _ (HH.out.1.below HH.out.2.2.2.1) (HH.out.1.tree HH.out.2.2.1 (HH.out.2.2.2.1.mono HH.out.1.size)) (by have := HH.out.2.1; omega)).mono ?_
  rintro e w3 ⟨rfl, a3, h3, hm3⟩
  have hq3 := HH.out.2.2.2.2.step hm3
  have z4 : w3.cell? ⟨w.heap.size, 4, none⟩ = some (.bool lazy) := hq3.cell 4
  have H3 := Lib.hid (show _ ∧ _ ∧ _ from ⟨h3, Mch.pre HH.out.2.2.2.1 hm3, hq3⟩)
  clear h3 hm3 hq3 c0
  go_wp2_with (first
    | (refine wpList_build_step rfl [] rfl [] rfl built_none ?_)
    | fail)
  refine (add_any B rp many a3 _ zStp w3 H3.out.1 (by have := HH.out.2.1; rw [List.length_append, t.lay_length]; omega)).mono ?_
  rintro e w4 ⟨rfl, a4, h4, hm4⟩
  have hq4 := H3.out.2.2.step hm4
  have y4 : w4.cell? ⟨w.heap.size, 4, none⟩ = some (.bool lazy) := hq4.cell 4
  have H4 := Lib.hid (show _ ∧ _ from ⟨h4, H3.out.2.1.trans hm4⟩)
  have hlen : (l ++ t.lay l.length).length = l.length + t.size := by rw [List.length_append, t.lay_length]
  have k1 : IntKind.i64.wrap (((l.length + t.size : Nat) : Int) + 1) = ((l.length + t.size : Nat) : Int) + 1 := IntWalk.i64_in _ (by have := HH.out.2.1; omega)
  rw [hlen]
  obtain ⟨q, hq⟩ : ∃ q, l.length + t.size = q := ⟨_, rfl⟩
  rw [hq] at k1 hlen ⊢
  have HL := Lib.hid (show _ ∧ _ from ⟨hq, hlen⟩)
  clear h4 hm4 hq4 z4 hq hlen
  go_wp2_with fail
  refine (fork_at B rp many a4 _ q l.length (q + 1) lazy w4 H4.out.1 (by rw [List.length_append, HL.out.2]; simp)).mono ?_
  rintro e w5 ⟨rfl, h5, hm5⟩
  have H5 := Lib.hid (show _ ∧ _ from ⟨h5, H4.out.2.trans hm5⟩)
  clear h5 hm5
  go_wp2_with fail
  refine bodyPost_end (v := .tuple #[]) (by simp [results, Tryd.results39, go_sem]) rfl ⟨rfl, a4, ?_, H5.out.2⟩
  have := H5.out.1
  rw [List.set_append_right _ _ (by rw [HL.out.2]; exact Nat.le_refl _), HL.out.2, Nat.sub_self, List.set_cons_zero, ← HL.out.1, List.append_assoc] at this
  exact this
end Go.Proofs.YtamlnkmcbbeicaaDoor
