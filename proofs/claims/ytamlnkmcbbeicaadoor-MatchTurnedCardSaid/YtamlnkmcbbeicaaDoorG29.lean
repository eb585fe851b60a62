/- Patterns' machine: again: a count with an end. Patterns' machine: branches laid one behind the other, their jumps mended later. -/
import Derived.Test.YtamlnkmcbbeicaaDoorG28
namespace Go.Proofs.YtamlnkmcbbeicaaDoor
open Go.RowKit Go.Lib
open RX (PS Tr Pr Stp)

set_option maxHeartbeats 16000000 in
set_option maxRecDepth 100000 in
theorem again_most (t : Tr) (hl : LayOk t) (least m : Nat) (hlm : least ≤ m ∧ m ≤ 1000) (lazy : Bool) : AgainOk t least (some m) false lazy := by
  intro B rp many a l u w h htu hn
  obtain ⟨ty, x, rfl⟩ := htu.face
  obtain ⟨i0, hi0, hz0, hz1, hz2⟩ := info_parts Tryd.infoIntM
  have hs : (Tr.rep t least (some m) false lazy).size = least * t.size + (m - least) * (t.size + 1) := by simp [RX.Tr.size]
  have hla : (Tr.rep t least (some m) false lazy).lay l.length = RX.copies t.lay t.size l.length least ++ RX.forks t.lay t.size (l.length + least * t.size + (m - least) * (t.size + 1)) lazy (l.length + least * t.size) (m - least) := by simp [RX.Tr.lay]
  rw [hs] at hn
  rw [hla]
  clear hs hla
  rw [show mostV (some m) = (m : Int) from rfl]
  have hb1 : Below w.heap.size w (w.alloc (.cells #[.iface ty x, .int .i64 least, .int .i64 m, .bool false, .bool lazy] 96)) := (Below.refl _ _).alloc (Nat.le_refl _) _
  have hx1 := Bx.new h #[.iface ty x, .int .i64 least, .int .i64 m, .bool false, .bool lazy] 96
  have HH := Lib.hid (show _ ∧ _ ∧ _ ∧ _ ∧ _ from ⟨h, hn, htu, hb1, hx1⟩)
  have HI := Lib.hid (show _ ∧ _ ∧ _ ∧ _ from ⟨hi0, hz0, hz1, hz2⟩)
  clear h hn htu hb1 hx1 hi0 hz0 hz1 hz2
  go_enter Tryd.func39, Tryd.ntmps39
  go_wp2_with fail
  go_loopw [34] (fun iv wr => ∃ (i : Nat) (ai : Value), i ≤ least ∧ iv = .int .i64 i ∧ Hid (Rgx B wr rp ai (l ++ RX.copies t.lay t.size l.length i) many ∧ Mch rp a w ai wr ∧ Bx rp ai wr w.heap.size (.cells #[.iface ty x, .int .i64 least, .int .i64 m, .bool false, .bool lazy] 96 (0, 0)))) (fun iv _ => least - (intOf iv).toNat)
  case atStart =>
    refine ⟨0, a, Nat.zero_le _, rfl, Lib.hid ⟨?_, Mch.post (Mch.refl _ _ _) HH.out.2.2.2.1, HH.out.2.2.2.2⟩⟩
    rw [RX.copies, List.append_nil]
    exact HH.out.1.below HH.out.2.2.2.1
  case round =>
    obtain ⟨i, ai, hi, rfl, HR⟩ := hrel
    have w2 : IntKind.i64.wrap ((i : Int) + 1) = (i : Int) + 1 := IntWalk.i64_in _ (by omega)
    have z0 : wr.cell? ⟨w.heap.size, 0, none⟩ = some (.iface ty x) := HR.out.2.2.cell 0
    have z1 : wr.cell? ⟨w.heap.size, 1, none⟩ = some (.int .i64 least) := HR.out.2.2.cell 1
    have z2 : wr.cell? ⟨w.heap.size, 2, none⟩ = some (.int .i64 m) := HR.out.2.2.cell 2
    have hmul : i * t.size ≤ least * t.size := Nat.mul_le_mul_right _ hi
    by_cases hlt : i < least
    · have i1 : (i : Int) < (least : Int) := by omega
      have hmul2 : (i + 1) * t.size ≤ least * t.size := Nat.mul_le_mul_right _ hlt
      have HM := Lib.hid hmul2
      clear hmul hmul2
      go_wp2_with fail
      refine (hl B rp many ai _ (.iface ty x) _ HR.out.1 (HH.out.1.tree HH.out.2.2.1 (HR.out.2.1.below HH.out.1)) (by have := HH.out.2.1; have := HM.out; rw [len_copies]; rw [Nat.succ_mul] at this; omega)).mono ?_
      rintro e w3 ⟨rfl, a3, h3, hm3⟩
      have hq3 := HR.out.2.2.step hm3
      have H3 := Lib.hid (show _ ∧ _ ∧ _ from ⟨h3, HR.out.2.1.trans hm3, hq3⟩)
      clear h3 hm3 hq3
      go_wp2_with fail
      go_roundw
      case measure => simp [intOf]; omega
      case rel =>
        refine ⟨i + 1, a3, hlt, by simp, Lib.hid ⟨?_, H3.out.2⟩⟩
        have := H3.out.1
        rw [len_copies, List.append_assoc, ← copies_snoc] at this
        exact this
    · obtain rfl : i = least := by omega
      have i1 : ¬ ((i : Nat) : Int) < (i : Int) := by omega
      have i2 : ¬ (m : Int) < 0 := by omega
      have k1 : IntKind.i64.wrap ((m : Int) - (i : Int)) = ((m - i : Nat) : Int) := by rw [IntWalk.i64_in _ (by omega)]; omega
      obtain ⟨k, hk⟩ : ∃ k, m - i = k := ⟨_, rfl⟩
      obtain ⟨L, hL⟩ : ∃ L, l ++ RX.copies t.lay t.size l.length i = L := ⟨_, rfl⟩
      obtain ⟨q, hq⟩ : ∃ q, L.length = q := ⟨_, rfl⟩
      have hq2 : l.length + i * t.size = q := by rw [← hq, ← hL, len_copies]
      have hR := HR.out
      rw [hL] at hR
      have hn := HH.out.2.1
      rw [hk] at k1 hn
      have hfin : q + k * (t.size + 1) ≤ 100000 := by omega
      have HQ := Lib.hid (show _ ∧ _ ∧ _ ∧ _ ∧ _ from ⟨hL, hq, hq2, hk, hfin⟩)
      have HR := Lib.hid hR
      have hkm : k ≤ 1000 := by omega
      clear hmul hi hlt hL hq hq2 hk hfin hR hn
      go_wp2_with fail
      go_loopw [7, 72] (fun fv jv wr => ∃ (j : Nat) (aj : Value), j ≤ k ∧ jv = .int .i64 j ∧ Hid (Rgx B wr rp aj (L ++ forksZ t.lay t.size q j) many ∧ Mch rp a w aj wr ∧ Bx rp aj wr w.heap.size (.cells #[.iface ty x, .int .i64 i, .int .i64 m, .bool false, .bool lazy] 96 (0, 0)) ∧ Sd rp aj wr (w.heap.size + 1) fv j (posV q t.size j))) (fun _ jv _ => k - (intOf jv).toNat)
      case atStart =>
        refine ⟨0, ai, Nat.zero_le _, rfl, Lib.hid ⟨?_, HR.out.2.1, HR.out.2.2, Sd.nil _ _ _ _⟩⟩
        rw [forksZ, List.append_nil]
        exact HR.out.1
      case round =>
        obtain ⟨j, aj, hj, rfl, HJ⟩ := hrel
        have w3 : IntKind.i64.wrap ((j : Int) + 1) = (j : Int) + 1 := IntWalk.i64_in _ (by omega)
        have hlenj : (L ++ forksZ t.lay t.size q j).length = q + j * (t.size + 1) := by rw [List.length_append, forksZ_length t.lay_length, HQ.out.2.1]
        have hmulj : j * (t.size + 1) ≤ k * (t.size + 1) := Nat.mul_le_mul_right _ hj
        by_cases hjk : j < k
        · have j1 : (j : Int) < (k : Int) := by omega
          have hmul2 : (j + 1) * (t.size + 1) ≤ k * (t.size + 1) := Nat.mul_le_mul_right _ hjk
          have hpn : q + j * (t.size + 1) + (t.size + 1) ≤ 100000 := by have := HQ.out.2.2.2.2; rw [Nat.succ_mul] at hmul2; omega
          obtain ⟨p, hp⟩ : ∃ p, q + j * (t.size + 1) = p := ⟨_, rfl⟩
          rw [hp] at hlenj hpn
          have HP := Lib.hid (show _ ∧ _ ∧ _ from ⟨hp, hlenj, hpn⟩)
          have hu7 := HJ.out.2.2.2.own
          obtain ⟨Af, cf, rfl, _, _⟩ := owns_slice hu7
          clear hu7 hp hlenj hpn hmul2 hmulj
          have x0 : wr.cell? ⟨w.heap.size, 0, none⟩ = some (.iface ty x) := HJ.out.2.2.1.cell 0
          go_wp2_with (first
            | (refine wpList_build_step rfl [] rfl [] rfl built_none ?_)
            | fail)
          refine (add_any B rp many aj _ zStp _ HJ.out.1 (by rw [HP.out.2.1]; have := HP.out.2.2; omega)).mono ?_
          rintro e w4 ⟨rfl, a4, h4, hm4⟩
          rw [HP.out.2.1]
          have H4 := Lib.hid (show _ ∧ _ ∧ _ ∧ _ from ⟨h4, HJ.out.2.1.trans hm4, HJ.out.2.2.1.step hm4, HJ.out.2.2.2.step hm4⟩)
          clear h4 hm4 x0
          have hsz4 : w.heap.size ≤ w4.heap.size := H4.out.2.1.grown.size
          have HS4 := Lib.hid hsz4
          clear hsz4
          obtain ⟨hi0, hz0, hz1, hz2⟩ := HI.out
          have hbx4 : w.heap.size + 1 ≤ w4.heap.size := (Array.getElem?_eq_some_iff.1 H4.out.2.2.1.heap).1
          go_wp2_with (first
            | (at_builtin; refine wpList_append_full _ rfl _ _ 98 rfl (w.heap.size + 1) 3 i0 _ 1 8 Tryd.underlying98 hi0 hz0 hz1 hz2 rfl (by omega) (.slice Af j cf) j (posV q t.size j) rfl (H4.out.2.2.2.own.alloc _) ⟨w4.heap.size, 0, none⟩ 1 1 [.int .i64 (p : Int)] rfl rfl (cells_newL w4 [.int .i64 (p : Int)] _) (by simp [Value.oneCell']) (by omega) (by unfold maxLen; omega) (by omega) (by simp; omega) ?_; intro g6 c6 w6 hown6 hg6 hl6 _; have hba : Below w4.heap.size w4 (w4.alloc (.cells #[.int .i64 (p : Int)] 3)) := (Below.refl _ _).alloc (Nat.le_refl _) _; have R6 := (H4.out.2.2.2.below hba).keep (H4.out.1.below hba) hg6; have M6 := (H4.out.2.1.post hba).keep hg6 (fun k hk => by have := (H4.out.2.2.2.own.lt k hk).1; omega); have B6 := (H4.out.2.2.1.below hba).keep hg6 (fun e => by have := (H4.out.2.2.2.own.lt _ e).1; omega); have S6 := H4.out.2.2.2.snoc H4.out.1 hba hl6 hown6; have x0 : w6.cell? ⟨w.heap.size, 0, none⟩ = some (.iface ty x) := B6.cell 0; have H6 := Lib.hid (show _ ∧ _ ∧ _ ∧ _ from ⟨R6, M6, B6, S6⟩); clear hown6 hg6 hl6 hba R6 M6 B6 S6)
            | fail)
          clear hi0 hz0 hz1 hz2
          refine (hl B rp many a4 _ (.iface ty x) _ H6.out.1 (HH.out.1.tree HH.out.2.2.1 (H6.out.2.1.below HH.out.1)) (by have := HP.out.2.2; rw [List.length_append, HP.out.2.1, List.length_singleton]; omega)).mono ?_
          rintro e w7 ⟨rfl, a7, h7, hm7⟩
          have H7 := Lib.hid (show _ ∧ _ ∧ _ ∧ _ from ⟨h7, H6.out.2.1.trans hm7, H6.out.2.2.1.step hm7, H6.out.2.2.2.step hm7⟩)
          clear h7 hm7 x0
          go_wp2_with fail
          go_roundw
          case measure => simp [intOf]; omega
          case rel =>
            refine ⟨j + 1, a7, hjk, by simp, Lib.hid ⟨?_, H7.out.2.1, H7.out.2.2.1, ?_⟩⟩
            · have := H7.out.1
              rw [List.length_append, HP.out.2.1, List.length_singleton, ← HP.out.1] at this
              rw [forksZ_snoc]
              simpa using this
            · have := H7.out.2.2.2
              rw [← HP.out.1, ← posV_snoc] at this
              exact this
        · obtain rfl : j = k := by omega
          have j1 : ¬ ((j : Nat) : Int) < (j : Int) := by omega
          have hu7 := HJ.out.2.2.2.own
          obtain ⟨Af, cf, rfl, _, _⟩ := owns_slice hu7
          obtain ⟨n6, hn6⟩ : ∃ n6, q + j * (t.size + 1) = n6 := ⟨_, rfl⟩
          rw [hn6] at hlenj
          have HP := Lib.hid (show _ ∧ _ from ⟨hn6, hlenj⟩)
          clear hu7 hlenj hmulj hn6 hjk hj
          go_wp2_with fail
          go_loopw [87] (fun gv wr => ∃ (g : Nat) (ag : Value), g ≤ j ∧ gv = .int .i64 g ∧ Hid (Rgx B wr rp ag (mended t.lay t.size n6 lazy L j g) many ∧ Mch rp a w ag wr ∧ Bx rp ag wr w.heap.size (.cells #[.iface ty x, .int .i64 i, .int .i64 m, .bool false, .bool lazy] 96 (0, 0)) ∧ Sd rp ag wr (w.heap.size + 1) (.slice Af j cf) j (posV q t.size j))) (fun gv _ => j - (intOf gv).toNat)
          case atStart =>
            refine ⟨0, aj, Nat.zero_le _, rfl, Lib.hid ⟨?_, HJ.out.2.1, HJ.out.2.2.1, HJ.out.2.2.2⟩⟩
            rw [mended_zero, HQ.out.2.1]
            exact HJ.out.1
          case round =>
            obtain ⟨g, ag, hg, rfl, HG⟩ := hrel
            have w5 : IntKind.i64.wrap ((g : Int) + 1) = (g : Int) + 1 := IntWalk.i64_in _ (by omega)
            by_cases hgj : g < j
            · have g0 : (0 : Int) ≤ (g : Int) := by omega
              have g1 : (g : Int) < (j : Int) := by omega
              obtain ⟨gf, hgf, _⟩ := owns_some' HG.out.2.2.2.own (by omega)
              subst hgf
              have hmul3 : (g + 1) * (t.size + 1) ≤ j * (t.size + 1) := Nat.mul_le_mul_right _ hgj
              have hmul4 : g * (t.size + 1) + (t.size + 1) ≤ j * (t.size + 1) := by rw [Nat.succ_mul] at hmul3; exact hmul3
              have hpos : q + g * (t.size + 1) < n6 := by have := HP.out.1; omega
              have hn6 : n6 ≤ 100000 := by have := HQ.out.2.2.2.2; have := HP.out.1; omega
              have hcp := owns_cell HG.out.2.2.2.own rfl (posV_at q t.size hgj)
              have hst := mended_step (fin := n6) (lazy := lazy) (L := L) t.lay_length hgj
              rw [HQ.out.2.1] at hst
              obtain ⟨p, hp⟩ : ∃ p, q + g * (t.size + 1) = p := ⟨_, rfl⟩
              rw [hp] at hpos hcp hst
              have k5 : IntKind.i64.wrap ((p : Int) + 1) = (p : Int) + 1 := IntWalk.i64_in _ (by omega)
              have hml : (mended t.lay t.size n6 lazy L j g).length = n6 := by rw [mended_length t.lay_length hg, HQ.out.2.1, HP.out.1]
              have hrow := HG.out.1.row
              have x0 := HG.out.1.c0
              obtain ⟨Ag, cg, rfl, _, _⟩ := owns_slice hrow
              rw [hml] at x0
              have x4 : wr.cell? ⟨w.heap.size, 4, none⟩ = some (.bool lazy) := HG.out.2.2.1.cell 4
              have HZ := Lib.hid (show _ ∧ _ ∧ _ from ⟨hpos, hst, hml⟩)
              clear hmul3 hmul4 hpos hn6 hst hp hml hrow hg
              go_wp2_with fail
              go_region_held3 (fun w' => w'.cell? ⟨rp, 0, none⟩ = some (.slice Ag n6 cg) ∧ w'.cell? ⟨w.heap.size, 4, none⟩ = some (.bool lazy)) (first | exact ⟨v0, v4⟩ | exact ⟨x0, x4⟩ | go_keep)
                (first
                  | (go_at_call 48; refine (fork_at B rp many _ _ p (p + 1) n6 lazy _ (HG.out.1.below (bdN _ 1)) (by rw [HZ.out.2.2]; exact HZ.out.1)).mono ?_; rintro e w7 ⟨rfl, h7, hm7⟩; have v0 := h7.c0; rw [HZ.out.2.2] at v0; have v4 : w7.cell? ⟨w.heap.size, 4, none⟩ = some (.bool lazy) := ((HG.out.2.2.1.below (bdN _ 1)).step hm7).cell 4; have H7 := Lib.hid (show _ ∧ _ ∧ _ ∧ _ from ⟨h7, HG.out.2.1.trans (Mch.pre (bdN _ 1) hm7), (HG.out.2.2.1.below (bdN _ 1)).step hm7, (HG.out.2.2.2.below (bdN _ 1)).step hm7⟩); clear h7 hm7)
                  | fail)
              go_wp2_with fail
              go_roundw
              case measure => simp [intOf]; omega
              case rel =>
                refine ⟨g + 1, _, hgj, by simp, Lib.hid ⟨?_, H7.out.2⟩⟩
                have := H7.out.1
                rw [HZ.out.2.1] at this
                exact this
            · obtain rfl : g = j := by omega
              have g1 : ¬ ((g : Nat) : Int) < (g : Int) := by omega
              clear hgj hg
              go_wp2_with fail
              refine bodyPost_end (v := .tuple #[]) (by simp [results, Tryd.results39, go_sem]) rfl ⟨rfl, ag, ?_, HG.out.2.1⟩
              have := HG.out.1
              rw [mended_end, HQ.out.2.1, ← HQ.out.1] at this
              rw [HQ.out.2.2.1, HQ.out.2.2.2.1, HP.out.1]
              simpa using this
end Go.Proofs.YtamlnkmcbbeicaaDoor
namespace Go.Proofs.YtamlnkmcbbeicaaDoor
open Go.RowKit Go.Lib
open RX (PS Tr Pr Stp)

/-- All branches but the last. -/
def preA (fin : Nat) : List Tr → Nat → List Stp
  | [], _ => []
  | t :: l, b => .fork (b + 1) (b + t.size + 2) false :: (t.lay (b + 1) ++ .jump fin :: preA fin l (b + t.size + 2))
/-- Where the branch behind these begins. -/
def offA (l : List Tr) (b : Nat) : Nat := b + RX.sizes l + 2 * l.length
theorem offA_snoc (l : List Tr) (t : Tr) (b : Nat) : offA (l ++ [t]) b = offA l b + t.size + 2 := by
  unfold offA; rw [sizes_snoc, List.length_append, List.length_singleton]; omega
theorem offA_cons (l : List Tr) (t : Tr) (b : Nat) : offA (t :: l) b = offA l (b + t.size + 2) := by
  unfold offA; rw [RX.sizes, List.length_cons]; omega
theorem preA_length (fin : Nat) : ∀ (l : List Tr) (b : Nat), b + (preA fin l b).length = offA l b
  | [], b => by simp [preA, offA, RX.sizes]
  | t :: l, b => by
    rw [offA_cons, ← preA_length fin l (b + t.size + 2), preA, List.length_cons, List.length_append, List.length_cons, t.lay_length]; omega
theorem preA_snoc (fin : Nat) (t : Tr) : ∀ (l : List Tr) (b : Nat), preA fin (l ++ [t]) b = preA fin l b ++ .fork (offA l b + 1) (offA l b + t.size + 2) false :: (t.lay (offA l b + 1) ++ [.jump fin])
  | [], b => by simp [preA, offA, RX.sizes]
  | u :: l, b => by
    rw [List.cons_append, preA, preA_snoc fin t l, preA, offA_cons]
    simp
theorem alts_snoc (fin : Nat) (t : Tr) : ∀ (l : List Tr) (b : Nat), RX.layAlts (l ++ [t]) b fin = preA fin l b ++ t.lay (offA l b)
  | [], b => by simp [preA, offA, RX.sizes, RX.layAlts]
  | [u], b => by
    rw [offA_cons, preA]
    simp [RX.layAlts, preA, offA, RX.sizes]
  | u :: v :: l, b => by
    have h := alts_snoc fin t (v :: l) (b + u.size + 2)
    rw [List.cons_append] at h
    rw [List.cons_append, List.cons_append, RX.layAlts, h]
    conv => rhs; rw [preA, offA_cons]
    simp
/-- Where the jumps stand. -/
def posA (l : List Tr) (b : Nat) : List Value := match l with
  | [] => []
  | t :: r => .int .i64 ((b + 1 + t.size : Nat) : Int) :: posA r (b + t.size + 2)
theorem posA_length : ∀ (l : List Tr) (b : Nat), (posA l b).length = l.length
  | [], _ => rfl
  | t :: l, b => by rw [posA, List.length_cons, List.length_cons, posA_length l]
theorem posA_snoc (t : Tr) : ∀ (l : List Tr) (b : Nat), posA (l ++ [t]) b = posA l b ++ [.int .i64 ((offA l b + 1 + t.size : Nat) : Int)]
  | [], b => by simp [posA, offA, RX.sizes]
  | u :: l, b => by rw [List.cons_append, posA, posA_snoc t l, posA, offA_cons]; rfl
theorem posA_at : ∀ (l r : List Tr) (t : Tr) (b : Nat), (posA (l ++ t :: r) b)[l.length]? = some (.int .i64 ((offA l b + 1 + t.size : Nat) : Int))
  | [], r, t, b => by simp [posA, offA, RX.sizes]
  | u :: l, r, t, b => by
    rw [List.cons_append, posA, List.length_cons, List.getElem?_cons_succ, posA_at l r t, offA_cons]
/-- The machine with its first jumps mended. -/
def mendA (fin : Nat) (L : List Stp) (l r : List Tr) (T : List Stp) : List Stp := L ++ preA fin l L.length ++ preA 0 r (offA l L.length) ++ T
theorem mendA_first {fin : Nat} {L T : List Stp} {l r : List Tr} {t : Tr} : ∃ l1 l2, mendA fin L l (t :: r) T = l1 ++ Stp.jump 0 :: l2 ∧ l1.length = offA l L.length + 1 + t.size ∧ mendA fin L (l ++ [t]) r T = l1 ++ Stp.jump fin :: l2 := by
  refine ⟨L ++ preA fin l L.length ++ .fork (offA l L.length + 1) (offA l L.length + t.size + 2) false :: t.lay (offA l L.length + 1), preA 0 r (offA l L.length + t.size + 2) ++ T, ?_, ?_, ?_⟩
  · simp [mendA, preA]
  · rw [List.length_append, List.length_append, List.length_cons, t.lay_length, preA_length]; omega
  · rw [mendA, preA_snoc, offA_snoc]
    simp
theorem jump_first (fin : Nat) : { Stp.jump 0 with first := fin } = Stp.jump fin := rfl
/-- fork's two places, mended one by one. -/
theorem plain_mend (a b : Nat) : ({ ({ Stp.plain 5 with first := a } : Stp) with other := b } : Stp) = Stp.fork a b false := rfl
theorem plain_mend' (a b : Nat) : ({ ({ Stp.plain 5 with other := b } : Stp) with first := a } : Stp) = Stp.fork a b false := rfl
end Go.Proofs.YtamlnkmcbbeicaaDoor
