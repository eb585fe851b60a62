/- Patterns' machine at work: run. -/
import Derived.Test.YtamlnkmcbbeicaaDoorRgTwo
import Derived.Lib.SliceRun
namespace Go.Proofs.YtamlnkmcbbeicaaDoor
open Go.RowKit Go.Lib
open RX (PS Tr Pr Stp Th)

theorem Tryd.infoBoolM : (Tryd.prog.info? 4).map (fun i => (i.zero, i.size, i.bytes)) = some (some (.bool false), 1, 1) := by kernel_rfl
theorem bool_zero (w : World) : (zeroValue 4).run Tryd.prog w = .ok (.bool false) w := by kernel_rfl
theorem scan_step {prog : List Stp} {s : List UInt8} {i j p : Nat} {m : List Int} {now l : List Th} {seen : List Bool} {x : Stp} (ht : now[j]? = some (p, m)) (hx : prog[p]? = some x) :
    RX.scan prog s i (now.drop j) seen l = if x.op = 6 ∧ i = s.length then (some m, l)
      else if x.op = 0 ∧ i < s.length ∧ x.inn (s[i]!).toNat = true then RX.scan prog s i (now.drop (j + 1)) (RX.follow prog (i + 1) s.length (2 * prog.length + 1) [(p + 1, m)] seen l).1 (RX.follow prog (i + 1) s.length (2 * prog.length + 1) [(p + 1, m)] seen l).2
      else RX.scan prog s i (now.drop (j + 1)) seen l := by
  obtain ⟨h1, h2⟩ := List.getElem?_eq_some_iff.1 ht
  rw [List.drop_eq_getElem_cons h1, h2, RX.scan, bang_of hx]
theorem runFrom_some {prog : List Stp} {s : List UInt8} {i f : Nat} {now l : List Th} {m : List Int} (hne : 0 < now.length) (h : RX.scan prog s i now (List.replicate prog.length false) [] = (some m, l)) : RX.runFrom prog s (f + 1) i now = some m := by
  cases now with
  | nil => cases hne
  | cons t rest => rw [RX.runFrom, h]
/-- What run answers. -/
def RunP (w : World) (M : Nat) (R : Option (List Int)) (e : Ending) (w' : World) : Prop :=
  (match R with
  | some m => ∃ mv, e = .returned (.tuple #[mv, .bool true]) ∧ MarkV w' mv m ∧ m.length = M
  | none => e = .returned (.tuple #[.slice none 0 0, .bool false])) ∧ Below w.heap.size w w'
set_option maxHeartbeats 16000000 in
set_option maxRecDepth 100000 in
theorem run_any (B rp many : Nat) (a : Value) (prog : List Stp) (s : ByteArray) (w : World) (h : Rgx B w rp a prog many) (hw : RX.Within prog) (hmk : RX.MarksLt (2 * many + 2) prog) (hn : prog.length ≤ 10000) (hmany : many ≤ 1000) (hs : s.size ≤ 50000) :
    Calls Tryd.prog 40 #[.pointer (some ⟨rp, 0, none⟩), .string s] w (RunP w (2 * many + 2) (RX.runRx prog (2 * many + 2) s.data.toList)) := by
  obtain ⟨Aa, ca, rfl, _, _⟩ := owns_slice h.row
  obtain ⟨ab, rfl, _⟩ := owns_some' h.row hw.1
  obtain ⟨N, hN⟩ : ∃ N, prog.length = N := ⟨_, rfl⟩
  rw [hN] at h hn
  have c0 := h.c0
  have c1 := h.c1
  have hN0 : 0 < N := by rw [← hN]; exact hw.1
  have k1 : IntKind.i64.wrap (2 * (many : Int)) = 2 * (many : Int) := IntWalk.i64_in _ (by omega)
  have k2 : IntKind.i64.wrap (2 * (many : Int) + 2) = ((2 * many + 2 : Nat) : Int) := by rw [IntWalk.i64_in _ (by omega)]; omega
  have hmkb := run_make_row' (P := Tryd.prog) 108 4 (.bool false) 1 Tryd.underlying108 Tryd.infoBoolM rfl .i64 .i64 N (by omega) (by omega)
  have HE := Lib.hid hN
  have HH := Lib.hid (show _ ∧ _ ∧ _ ∧ _ ∧ _ ∧ _ from ⟨h, hw, hmk, hn, hmany, hs⟩)
  have hb1 : Below w.heap.size w (w.alloc (.cells #[.int .i64 (-1)] 3)) := (Below.refl _ _).alloc (Nat.le_refl _) _
  have d0 := (h.below hb1).c0
  have d1 := (h.below hb1).c1
  have HB := Lib.hid (show _ ∧ _ from ⟨hb1, heap_alloc_new w (.cells #[.int .i64 (-1)] 3)⟩)
  clear h hw hmk hn hmany hs hN hb1
  go_enter Tryd.func40, Tryd.ntmps40
  go_wp2_with fail
  go_step3
  go_wp2_with fail
  refine (repeat_one w.heap.size 1 (2 * many + 2) _ HB.out.2 (by omega) (by have := HH.out.2.2.2.2.1; omega)).mono ?_
  rintro e w2 ⟨g2, rfl, ho2, hb2⟩
  have hr2 := (HH.out.1.below HB.out.1).below hb2
  have e0 := hr2.c0
  have e1 := hr2.c1
  have hb3 : Below w2.heap.size w2 ((w2.alloc (.cells (madeCells #[.bool false] N) 4)).alloc (.cells #[.slice none 0 0, .slice (some ⟨w2.heap.size, 0, none⟩) N N] 111)) := ((Below.refl _ _).alloc (Nat.le_refl _) _).alloc (by simp) _
  have hr3 := hr2.below hb3
  have e2 := hr3.c0
  have hn3 : N ≤ 100000 := by have := HH.out.2.2.2.1; omega
  have hT3 := Thr.fresh w2 N hn3
  have hs3 : ((w2.alloc (.cells (madeCells #[.bool false] N) 4)).alloc (.cells #[.slice none 0 0, .slice (some ⟨w2.heap.size, 0, none⟩) N N] 111)).heap.size = w2.heap.size + 1 + 1 := by simp
  have hb5 : Below w2.heap.size w2 ((((w2.alloc (.cells (madeCells #[.bool false] N) 4)).alloc (.cells #[.slice none 0 0, .slice (some ⟨w2.heap.size, 0, none⟩) N N] 111)).alloc (.cells (madeCells #[.bool false] N) 4)).alloc (.cells #[.slice none 0 0, .slice (some ⟨w2.heap.size + 1 + 1, 0, none⟩) N N] 111)) := (hb3.alloc (by simp; omega) _).alloc (by simp; omega) _
  have hT5 := Thr.fresh ((w2.alloc (.cells (madeCells #[.bool false] N) 4)).alloc (.cells #[.slice none 0 0, .slice (some ⟨w2.heap.size, 0, none⟩) N N] 111)) N hn3
  have hT3' := hT3.below (((Below.refl _ _).alloc (Nat.le_refl _) (.cells (madeCells #[.bool false] N) 4)).alloc (by simp) (.cells #[.slice none 0 0, .slice (some ⟨w2.heap.size + 1 + 1, 0, none⟩) N N] 111))
  rw [hs3] at hT5
  have H5 := Lib.hid (show _ ∧ _ ∧ _ from ⟨hT3', hT5, hb5⟩)
  clear hb3 hr3 hT3 hs3 hb5 hT5 hT3' hn3
  have H2 := Lib.hid (show _ ∧ _ ∧ _ from ⟨own_base0 ho2, hr2, HB.out.1.trans (hb2.mono HB.out.1.size)⟩)
  clear ho2 hb2 hr2 c0 c1 d0 d1
  go_wp2_with fail
  generalize (((w2.alloc (.cells (madeCells #[.bool false] N) 4)).alloc (.cells #[.slice none 0 0, .slice (some ⟨w2.heap.size, 0, none⟩) N N] 111)).alloc (.cells (madeCells #[.bool false] N) 4)).alloc (.cells #[.slice none 0 0, .slice (some ⟨w2.heap.size + 1 + 1, 0, none⟩) N N] 111) = W5 at H5 ⊢
  have hT := H5.out
  have hw2 : w.heap.size ≤ w2.heap.size := H2.out.2.2.size
  have hTwo : Two B rp many (.slice (some ⟨ab, 0, none⟩) N ca) prog w W5 (w2.heap.size + 1) (w2.heap.size + 1 + 1 + 1) (.slice none 0 0) (.slice none 0 0) (.slice (some ⟨w2.heap.size, 0, none⟩) N N) (.slice (some ⟨w2.heap.size + 1 + 1, 0, none⟩) N N) [] [] (List.replicate N false) (List.replicate N false) :=
    ⟨H2.out.2.1.below hT.2.2, hT.1, hT.2.1, H2.out.2.2.trans (hT.2.2.mono hw2), ⟨by omega, by omega⟩, (fun k hk => by
      simp only [Value.ownBlock, Option.some.injEq] at hk
      rcases hk with e | e | e | e
      · cases e
      · cases e
      · omega
      · omega), (by omega), (fun k hk => by cases hk), (fun k hk e => by
      simp only [Value.ownBlock, Option.some.injEq] at hk e
      omega)⟩
  have hm5 : MarkV W5 (.slice (some ⟨g2, 0, none⟩) (2 * many + 2) (2 * many + 2)) (List.replicate (2 * many + 2) (-1)) := by
    unfold MarkV
    rw [List.length_replicate]
    exact owns_below H2.out.1 hT.2.2
  have HT := Lib.hid (show _ ∧ _ from ⟨hTwo, hm5⟩)
  clear hTwo hm5 hT H5 hw2
  generalize w2.heap.size + 1 + 1 + 1 = tx at HT ⊢
  generalize w2.heap.size + 1 = tn at HT ⊢
  have hlen := HE.out
  refine (follow_any B rp many tn _ _ _ _ prog _ [] (List.replicate N false) 0 0 s.size (2 * many + 2) (2 * prog.length + 1) (List.replicate (2 * many + 2) (-1)) _ HT.out.1.rgx HT.out.1.now HT.out.2 (FlP.begin (by omega) List.length_replicate (fun t h => by cases h) (by rw [List.length_replicate, hlen]) (by rw [List.count_replicate_self, hlen]; simp)) HH.out.2.1 HH.out.2.2.1 (by have := HH.out.2.2.2.1; omega) (by have := HH.out.2.2.2.1; omega) (by have := HH.out.2.2.2.2.1; omega) (by omega) (by have := HH.out.2.2.2.2.2; omega)).mono ?_
  rintro e w6 ⟨rfl, lv6, hr6, ht6, hf6, hl6, hn6, hc6⟩
  have hsl : s.data.toList.length = s.size := Array.length_toList
  have hlaw : RX.runFrom prog s.data.toList (s.size + 1) 0 (RX.follow prog 0 s.size (2 * prog.length + 1) [(0, List.replicate (2 * many + 2) (-1))] (List.replicate N false) []).2 = RX.runRx prog (2 * many + 2) s.data.toList := by
    unfold RX.runRx
    rw [hsl, hlen]
  obtain ⟨now6, hnow6⟩ : ∃ l, (RX.follow prog 0 s.size (2 * prog.length + 1) [(0, List.replicate (2 * many + 2) (-1))] (List.replicate N false) []).2 = l := ⟨_, rfl⟩
  obtain ⟨seen6, hseen6⟩ : ∃ l, (RX.follow prog 0 s.size (2 * prog.length + 1) [(0, List.replicate (2 * many + 2) (-1))] (List.replicate N false) []).1 = l := ⟨_, rfl⟩
  rw [hnow6] at hlaw ht6 hl6 hc6
  rw [hseen6] at ht6 hn6 hc6
  have hTwo6 := (HT.out.1.turn.follow hf6 hr6 ht6).turn
  have hc7 : now6.length ≤ prog.length := by omega
  have H6 := Lib.hid (show _ ∧ _ ∧ _ ∧ _ ∧ _ from ⟨hTwo6, hl6, hn6, hlaw, hc7⟩)
  clear hTwo6 hl6 hn6 hlaw hsl hc6 hc7 hr6 ht6 hf6 hnow6 hseen6 hlen e0 e1 e2 hmkb
  go_wp2_with fail
  go_step3
  go_wp2_with fail
  go_loopg [7, 8, 9] (s.size + 1) (fun gk nv xv iv wr => ∃ (i tn tx : Nat) (ln lx sn sx : Value) (now : List Th) (seenN : List Bool), nv = .pointer (some ⟨tn, 0, none⟩) ∧ xv = .pointer (some ⟨tx, 0, none⟩) ∧ iv = .int .i64 i ∧ gk + i = s.size + 1 ∧ i ≤ s.size ∧
    Hid (Two B rp many (.slice (some ⟨ab, 0, none⟩) N ca) prog w wr tn tx ln lx sn sx now [] seenN (List.replicate N false) ∧ (∀ t ∈ now, t.1 < prog.length ∧ t.2.length = 2 * many + 2) ∧ seenN.length = prog.length ∧ RX.runFrom prog s.data.toList gk i now = RX.runRx prog (2 * many + 2) s.data.toList ∧ now.length ≤ prog.length))
  case atStart => exact ⟨0, tn, tx, _, _, _, _, _, _, rfl, rfl, rfl, rfl, Nat.zero_le _, H6⟩
  case round =>
    obtain ⟨i, tn, tx, ln, lx, sn, sx, now, seenN, rfl, rfl, rfl, hgk, his, HR⟩ := hrel
    obtain ⟨g, rfl⟩ : ∃ g, gk = g + 1 := ⟨gk - 1, by omega⟩
    have hsN : s.size ≤ 50000 := HH.out.2.2.2.2.2
    have w9 : IntKind.i64.wrap ((i : Int) + 1) = ((i + 1 : Nat) : Int) := by rw [IntWalk.i64_in _ (by omega)]; omega
    obtain ⟨An, cn, rfl, _, _⟩ := HR.out.1.now.row.form
    have t0 := HR.out.1.now.c0
    by_cases hz : now.length = 0
    · obtain rfl : now = [] := List.length_eq_zero_iff.1 hz
      clear hz
      go_wp2_with fail
      rw [Exit.noGoto_ret]
      refine bodyPost_ret (v := .tuple #[.slice none 0 0, .bool false]) (by simp [results, Tryd.results40, go_sem]) rfl ⟨?_, HR.out.1.below⟩
      rw [← HR.out.2.2.2.1, RX.runFrom]
    · obtain ⟨nn, hnn⟩ : ∃ n, now.length = n := ⟨_, rfl⟩
      rw [hnn] at hz HR t0
      have hnnN : nn ≤ 10000 := by have h1 := HR.out.2.2.2.2; have h2 := HE.out; have h3 := HH.out.2.2.2.1; omega
      obtain ⟨gn, rfl, _⟩ : ∃ gn, An = some ⟨gn, 0, none⟩ ∧ True := by
        obtain ⟨xs0, ho0, _⟩ := HR.out.1.now.row
        obtain ⟨gn, e, _⟩ := owns_some' (by rw [hnn] at ho0; exact ho0) (by omega)
        exact ⟨gn, e, trivial⟩
      have HNN := Lib.hid (show _ ∧ _ from ⟨hnn, hz⟩)
      have bnn : ((nn : Int) == 0) = false := by simp; omega
      clear hnn hz
      go_wp2_with fail
      go_loopg [57] nn (fun hk jv wr => ∃ (j : Nat) (lx' : Value) (seenX : List Bool) (next : List Th), jv = .int .i64 j ∧ hk + j = nn ∧ j ≤ nn ∧
        Hid (Two B rp many (.slice (some ⟨ab, 0, none⟩) N ca) prog w wr tn tx (.slice (some ⟨gn, 0, none⟩) nn cn) lx' sn sx now next seenN seenX ∧ (∀ t ∈ next, t.1 < prog.length ∧ t.2.length = 2 * many + 2) ∧ seenX.length = prog.length ∧ next.length + seenX.count false ≤ prog.length ∧
          RX.scan prog s.data.toList i (now.drop j) seenX next = RX.scan prog s.data.toList i now (List.replicate prog.length false) []))
      case atStart =>
        refine ⟨0, lx, List.replicate N false, [], rfl, rfl, Nat.zero_le _, Lib.hid ⟨HR.out.1, (fun t h => by cases h), (by rw [List.length_replicate, HE.out]), (by rw [List.count_replicate_self, HE.out]; simp), ?_⟩⟩
        rw [List.drop_zero, HE.out]
      case round =>
        obtain ⟨j, lx', seenX, next, rfl, hhk, hjn, HJ⟩ := hrel
        have w57 : IntKind.i64.wrap ((j : Int) + 1) = (j : Int) + 1 := IntWalk.i64_in _ (by omega)
        by_cases hlt : j < nn
        · have i1 : (j : Int) < (nn : Int) := by omega
          have i0 : (0 : Int) ≤ (j : Int) := by omega
          obtain ⟨xs, hox, hxs⟩ := HJ.out.1.now.row
          have hjl : j < now.length := by rw [HNN.out.1]; exact hlt
          obtain ⟨t, ht⟩ : ∃ t, now[j]? = some t := ⟨_, List.getElem?_eq_getElem hjl⟩
          obtain ⟨p, m⟩ := t
          obtain ⟨mv, hxj, hmv⟩ := @ThsV.at wr 0 p m xs now hxs j ht
          have hpm := HR.out.2.1 (p, m) (List.mem_of_getElem? ht)
          obtain ⟨Am, cm, rfl, _, _⟩ := hmv.form
          rw [show m.length = 2 * many + 2 from hpm.2] at hmv hxj
          have y0 : wr.cell? ⟨gn, j * 2, none⟩ = some (.int .i64 p) := owns_cell hox rfl (by rw [show j * 2 = j * 2 + 0 from rfl, flat_get encT_len hxj (by omega)]; rfl)
          have y1 : wr.cell? ⟨gn, j * 2 + 1, none⟩ = some (.slice Am (2 * many + 2) cm) := owns_cell hox rfl (by rw [flat_get encT_len hxj (by omega)]; rfl)
          have HK := Lib.hid (show _ ∧ _ ∧ _ from ⟨ht, hmv, hpm⟩)
          clear hox hxs hjl ht hxj hmv hpm
          go_wp2_with fail
          have hb1 : Below wr.heap.size wr (wr.alloc (.cells #[.int .i64 p, .slice Am (2 * many + 2) cm] 114)) := (Below.refl _ _).alloc (Nat.le_refl _) _
          have hx3 := heap_alloc_new wr (.cells #[.int .i64 p, .slice Am (2 * many + 2) cm] 114)
          have hT3 := HJ.out.1.step hb1
          have hm3 := HK.out.2.1.keepS (GrownIn.of_below hb1) (off_new _ _)
          generalize wr.alloc (.cells #[.int .i64 p, .slice Am (2 * many + 2) cm] 114) = W3 at hT3 hm3 hx3 ⊢
          have hpl : p < prog.length := HK.out.2.2.1
          have hpN : p < N := by rw [← HE.out]; exact hpl
          have p0 : (0 : Int) ≤ (p : Int) := by omega
          have p1 : (p : Int) < (N : Int) := by omega
          obtain ⟨x, hstep⟩ : ∃ x, prog[p]? = some x := ⟨_, List.getElem?_eq_getElem hpl⟩
          clear hb1 y0 y1
          obtain ⟨Z, hZe⟩ : ∃ Z, stpV ⟨0, fun _ => false, 0, 0, 0⟩ = Z := ⟨_, rfl⟩
          obtain ⟨C, hCe⟩ : ∃ C, stpV x = C := ⟨_, rfl⟩
          have hzr : ∀ w, (zeroValue 63).run Tryd.prog w = .ok (.agg Z) w := fun w => by rw [← hZe]; exact step_zero w
          have hZs : Z.size = 260 := by rw [← hZe]; exact stpV_size _
          have hCs : C.size = 260 := by rw [← hCe]; exact stpV_size _
          have hC1 : C.all (·.oneCell') = true := by rw [← hCe]; exact stpV_one _
          clear hZe
          have cp := copied W3 Z C
          refine wp_region_held_drew (S := fun w' => Below (W3).heap.size W3 w') (by kernel_rfl) ((Below.refl _ _).drew) (fun hHeld => ?_)
          refine take_dst (i := 0) (v := (.pointer (some ⟨rp, 0, none⟩))) (some 61) rfl rfl (by kernel_rfl) (by kernel_rfl) (by kernel_rfl) (fun _ _ _ h => h) (Or.inl ⟨by rfl, by
            intro w' hSw; clear hSw hHeld cp hzr hZs hCs hC1 hCe; go_simp⟩) hHeld ?_
          try simp only [Act.put, List.setIfInBounds_toArray, List.set_cons_zero, List.set_cons_succ]
          refine take_dst (i := 1) (v := (.pointer (some ⟨rp, 0, none⟩))) (some 62) rfl rfl (by kernel_rfl) (by kernel_rfl) (by kernel_rfl) (fun _ _ _ h => h) (Or.inl ⟨by rfl, by
            intro w' hSw; clear hSw hHeld cp hzr hZs hCs hC1 hCe; go_simp⟩) hHeld ?_
          try simp only [Act.put, List.setIfInBounds_toArray, List.set_cons_zero, List.set_cons_succ]
          refine take_dst (i := 2) (v := (.pointer (some ⟨rp, 0, none⟩))) (some 63) rfl rfl (by kernel_rfl) (by kernel_rfl) (by kernel_rfl) (fun _ _ _ h => h) (Or.inl ⟨by rfl, by
            intro w' hSw; clear hSw hHeld cp hzr hZs hCs hC1 hCe; go_simp⟩) hHeld ?_
          try simp only [Act.put, List.setIfInBounds_toArray, List.set_cons_zero, List.set_cons_succ]
          refine take_dst (i := 3) (v := (.slice (some ⟨ab, 0, none⟩) N ca)) (some 64) rfl rfl (by kernel_rfl) (by kernel_rfl) (by kernel_rfl) (fun _ _ _ h => h) (Or.inl ⟨by rfl, by
            intro w' hSw; have q0 := ((hT3.rgx).below hSw).c0; clear hSw hHeld cp hzr hZs hCs hC1 hCe; go_simp⟩) hHeld ?_
          try simp only [Act.put, List.setIfInBounds_toArray, List.set_cons_zero, List.set_cons_succ]
          refine take_dst (i := 4) (v := (.pointer (some ⟨wr.heap.size, 0, none⟩))) (some 65) rfl rfl (by kernel_rfl) (by kernel_rfl) (by kernel_rfl) (fun _ _ _ h => h) (Or.inl ⟨by rfl, by
            intro w' hSw; clear hSw hHeld cp hzr hZs hCs hC1 hCe; go_simp⟩) hHeld ?_
          try simp only [Act.put, List.setIfInBounds_toArray, List.set_cons_zero, List.set_cons_succ]
          refine take_dst (i := 5) (v := (.int .i64 p)) (some 66) rfl rfl (by kernel_rfl) (by kernel_rfl) (by kernel_rfl) (fun _ _ _ h => h) (Or.inl ⟨by rfl, by
            intro w' hSw; have q1 : w'.cell? ⟨wr.heap.size, 0, none⟩ = some (.int .i64 p) := by (rw [cell_of_row w' (wr.heap.size) 0 _ _ (0, 0) ((hSw.block _ (Array.getElem?_eq_some_iff.1 hx3).1).trans hx3)]; rfl)
            clear hSw hHeld cp hzr hZs hCs hC1 hCe; go_simp⟩) hHeld ?_
          try simp only [Act.put, List.setIfInBounds_toArray, List.set_cons_zero, List.set_cons_succ]
          refine take_dst (i := 6) (v := (.pointer (some ⟨ab, p * 260, none⟩))) (some 67) rfl rfl (by kernel_rfl) (by kernel_rfl) (by kernel_rfl) (fun _ _ _ h => h) (Or.inl ⟨by rfl, by
            intro w' hSw; clear hSw hHeld cp hzr hZs hCs hC1 hCe; go_simp⟩) hHeld ?_
          try simp only [Act.put, List.setIfInBounds_toArray, List.set_cons_zero, List.set_cons_succ]
          refine take_dst (i := 7) (v := .agg C) (some 68) rfl rfl (by kernel_rfl) (by kernel_rfl) (by kernel_rfl) (fun _ _ _ h => h) (Or.inl ⟨by rfl, by
            intro w' hSw
            refine load_exec (.tmp 67) (by rfl) (by rfl) (((hT3.rgx).below hSw).range hstep) hCe⟩) hHeld ?_
          try simp only [Act.put, List.setIfInBounds_toArray, List.set_cons_zero, List.set_cons_succ]
          refine wpAnyH_ready (rs := [8]) (by kernel_rfl) (by simp) ?_
          refine AllReadyH.cons rfl (fun K hK => ?_) AllReadyH.nil
          refine step_alloc_step (some 12) rfl rfl rfl hzr ?_
          refine hK.out _ _ (((Below.refl _ _).drew).alloc (Nat.le_refl _) _) (fun hHeld => ?_)
          clear hK K
          try simp only [Act.put, List.setIfInBounds_toArray, List.set_cons_zero, List.set_cons_succ]
          refine wpAnyH_ready (rs := [9]) (by kernel_rfl) (by simp) ?_
          refine AllReadyH.cons rfl (fun K hK => ?_) AllReadyH.nil
          refine step_store_step rfl rfl _ _ rfl (W3).heap.size Z C rfl rfl (heap_alloc_new (W3).drew _) hZs hCs hC1 ?_
          refine hK.out _ _ cp.2 (fun hHeld => ?_)
          clear hK K
          try simp only [Act.put, List.setIfInBounds_toArray, List.set_cons_zero, List.set_cons_succ]
          refine wpAnyH_done (by kernel_rfl) ?_ _
          have hT4 := hT3.step cp.2
          have hm4 := hm3.keepS (GrownIn.of_below cp.2) (off_new _ _)
          have hx4 := (cp.2.block _ (Array.getElem?_eq_some_iff.1 hx3).1).trans hx3
          have hs4 := cp.1
          generalize (W3.drew.alloc (.cells Z 63)).setRow W3.heap.size C = W4 at hT4 hm4 hx4 hs4 ⊢
          obtain ⟨n12, hn12⟩ : ∃ n, W3.heap.size = n := ⟨_, rfl⟩
          rw [hn12] at hs4
          rw [show W3.drew.heap.size = n12 from hn12]
          have z0 : W4.cell? ⟨wr.heap.size, 0, none⟩ = some (.int .i64 p) := by rw [cell_of_row W4 wr.heap.size 0 _ _ (0, 0) hx4]; rfl
          have z1 : W4.cell? ⟨wr.heap.size, 1, none⟩ = some (.slice Am (2 * many + 2) cm) := by rw [cell_of_row W4 wr.heap.size 1 _ _ (0, 0) hx4]; rfl
          have s0 : W4.cell? ⟨n12, 0, none⟩ = some (.int .i64 x.op) := by rw [cell_of_row W4 n12 0 _ _ (0, 0) hs4, ← hCe, stpV_get]; rfl
          have k5 : IntKind.i64.wrap ((p : Int) + 1) = ((p + 1 : Nat) : Int) := by rw [IntWalk.i64_in _ (by have := HH.out.2.2.2.1; omega)]; omega
          have hop := HH.out.2.1.2 p x hstep
          have hscn := scan_step (s := s.data.toList) (i := i) (seen := seenX) (l := next) HK.out.1 hstep
          rw [show s.data.toList.length = s.size from Array.length_toList] at hscn
          have HS4 := Lib.hid (show _ ∧ _ from ⟨hs4, hCe⟩)
          have HQ4 := Lib.hid (show _ ∧ _ ∧ _ ∧ _ ∧ _ from ⟨hT4, hm4, hop, hscn.symm.trans HJ.out.2.2.2.2, hstep⟩)
          have hbelow := hT4.below.size
          clear hT4 hm4 hx4 hs4 hT3 hm3 hx3 cp hHeld hzr hZs hCs hC1 hCe hn12 hpl hstep hop hscn
          have hop := HQ4.out.2.2.1.1
          obtain ⟨q, hq⟩ : ∃ q, x.op = q := ⟨_, rfl⟩
          rw [hq] at s0 hop
          have hqc : q = 0 ∨ q = 6 ∨ (q ≠ 0 ∧ q ≠ 6) := by omega
          have HO := Lib.hid hq
          clear hq hop
          rcases hqc with rfl | rfl | ⟨hq0, hq6⟩
          · by_cases hc : i < s.size ∧ x.inn (s.data.toList[i]!).toNat = true
            · obtain ⟨hlts, hin⟩ := hc
              have i2 : (i : Int) < (s.size : Int) := by omega
              have i3 : (0 : Int) ≤ (i : Int) := by omega
              have hby : s.data.toList[i]! = s[i]'hlts := bang_of (byte_at hlts)
              rw [hby] at hin
              have hc256 : (s[i]'hlts).toNat < 256 := UInt8.toNat_lt _
              have i4 : (((s[i]'hlts).toNat : Nat) : Int) < 256 := by omega
              have i5 : (0 : Int) ≤ (((s[i]'hlts).toNat : Nat) : Int) := by omega
              have s1 : W4.cell? ⟨n12, 1 + (s[i]'hlts).toNat, none⟩ = some (.bool true) := by
                rw [cell_of_row W4 n12 _ _ _ (0, 0) HS4.out.1, ← HS4.out.2, stpV_get, if_neg (by omega), if_pos (by omega), Nat.add_sub_cancel_left, setV_get _ hc256, hin]
              have hw1 := HQ4.out.2.2.1.2.1
              have HIN := Lib.hid (show _ ∧ _ from ⟨hby, hin⟩)
              clear hby hin
              go_wp2_with fail
              have hfl := follow_any B rp many tx _ _ _ _ prog W4 next seenX (p + 1) (i + 1) s.size (2 * many + 2) (2 * prog.length + 1) m _ HQ4.out.1.rgx HQ4.out.1.next HQ4.out.2.1 (FlP.begin (hw1 (by rw [HO.out]; omega)) HK.out.2.2.2 HJ.out.2.1 HJ.out.2.2.1 HJ.out.2.2.2.1) HH.out.2.1 HH.out.2.2.1 (by have := HH.out.2.2.2.1; have := HE.out; omega) (by have := HH.out.2.2.2.1; have := HE.out; omega) (by have := HH.out.2.2.2.2.1; omega) (by omega) (by omega)
              refine hfl.mono ?_
              clear hfl
              rintro e w5 ⟨rfl, lv5, hr5, ht5, hf5, hl5, hn5, hc5⟩
              have H5 := Lib.hid (show _ ∧ _ ∧ _ ∧ _ from ⟨HQ4.out.1.follow hf5 hr5 ht5, hl5, hn5, hc5⟩)
              clear hr5 ht5 hf5 hl5 hn5 hc5
              go_wp2_with fail
              go_roundg (gk - 1)
              case measure => omega
              case rel =>
                refine ⟨j + 1, lv5, _, _, by simp, by omega, hlt, Lib.hid ⟨H5.out.1, H5.out.2.1, H5.out.2.2.1, H5.out.2.2.2, ?_⟩⟩
                have h1 := HQ4.out.2.2.2.1
                rw [HO.out, if_neg (by omega), if_pos ⟨rfl, hlts, by rw [HIN.out.1]; exact HIN.out.2⟩] at h1
                exact h1
            · have HC := Lib.hid hc
              by_cases hlts : i < s.size
              · have hin : x.inn (s.data.toList[i]!).toNat = false := by
                  rcases hb : x.inn (s.data.toList[i]!).toNat with _ | _
                  · rfl
                  · exact absurd ⟨hlts, hb⟩ hc
                have i2 : (i : Int) < (s.size : Int) := by omega
                have i3 : (0 : Int) ≤ (i : Int) := by omega
                have hby : s.data.toList[i]! = s[i]'hlts := bang_of (byte_at hlts)
                rw [hby] at hin
                have hc256 : (s[i]'hlts).toNat < 256 := UInt8.toNat_lt _
                have i4 : (((s[i]'hlts).toNat : Nat) : Int) < 256 := by omega
                have i5 : (0 : Int) ≤ (((s[i]'hlts).toNat : Nat) : Int) := by omega
                have s1 : W4.cell? ⟨n12, 1 + (s[i]'hlts).toNat, none⟩ = some (.bool false) := by
                  rw [cell_of_row W4 n12 _ _ _ (0, 0) HS4.out.1, ← HS4.out.2, stpV_get, if_neg (by omega), if_pos (by omega), Nat.add_sub_cancel_left, setV_get _ hc256, hin]
                clear hby hin hc
                go_wp2_with fail
                go_roundg (gk - 1)
                case measure => omega
                case rel =>
                  refine ⟨j + 1, lx', seenX, next, by simp, by omega, hlt, Lib.hid ⟨HQ4.out.1, HJ.out.2.1, HJ.out.2.2.1, HJ.out.2.2.2.1, ?_⟩⟩
                  have h1 := HQ4.out.2.2.2.1
                  rw [HO.out, if_neg (by omega), if_neg (fun h => HC.out h.2)] at h1
                  exact h1
              · have i2 : ¬ (i : Int) < (s.size : Int) := by omega
                clear hc
                go_wp2_with fail
                go_roundg (gk - 1)
                case measure => omega
                case rel =>
                  refine ⟨j + 1, lx', seenX, next, by simp, by omega, hlt, Lib.hid ⟨HQ4.out.1, HJ.out.2.1, HJ.out.2.2.1, HJ.out.2.2.2.1, ?_⟩⟩
                  have h1 := HQ4.out.2.2.2.1
                  rw [HO.out, if_neg (by omega), if_neg (fun h => HC.out h.2)] at h1
                  exact h1
          · by_cases e : i = s.size
            · have HEi := Lib.hid e
              have be : ((i : Int) == (s.size : Int)) = true := by rw [e]; simp
              clear e
              go_wp2_with fail
              rw [Exit.noGoto_ret]
              refine bodyPost_ret (v := .tuple #[.slice Am (2 * many + 2) cm, .bool true]) (by simp [results, Tryd.results40, go_sem]) rfl ⟨?_, HQ4.out.1.below⟩
              have h1 := HQ4.out.2.2.2.1
              rw [if_pos ⟨HO.out, HEi.out⟩] at h1
              rw [← HR.out.2.2.2.1, runFrom_some (by rw [HNN.out.1]; omega) h1.symm]
              exact ⟨_, rfl, HQ4.out.2.1, HK.out.2.2.2⟩
            · have HEi := Lib.hid e
              have be : ((i : Int) == (s.size : Int)) = false := by simp; omega
              clear e
              go_wp2_with fail
              go_roundg (gk - 1)
              case measure => omega
              case rel =>
                refine ⟨j + 1, lx', seenX, next, by simp, by omega, hlt, Lib.hid ⟨HQ4.out.1, HJ.out.2.1, HJ.out.2.2.1, HJ.out.2.2.2.1, ?_⟩⟩
                have h1 := HQ4.out.2.2.2.1
                rw [HO.out, if_neg (fun h => HEi.out h.2), if_neg (by omega)] at h1
                exact h1
          · have b6 : ((q : Int) == 6) = false := by simp; omega
            have b0 : ((q : Int) == 0) = false := by simp; omega
            have HQ := Lib.hid (show _ ∧ _ from ⟨hq0, hq6⟩)
            clear hq0 hq6
            go_wp2_with fail
            go_roundg (gk - 1)
            case measure => omega
            case rel =>
              refine ⟨j + 1, lx', seenX, next, by simp, by omega, hlt, Lib.hid ⟨HQ4.out.1, HJ.out.2.1, HJ.out.2.2.1, HJ.out.2.2.2.1, ?_⟩⟩
              have h1 := HQ4.out.2.2.2.1
              rw [HO.out, if_neg (by have := HQ.out; omega), if_neg (by have := HQ.out; omega)] at h1
              exact h1
        · obtain rfl : j = nn := by omega
          have i1 : ¬ (j : Int) < (j : Int) := by omega
          have hsc := HJ.out.2.2.2.2
          rw [List.drop_of_length_le (by rw [HNN.out.1]; exact Nat.le_refl _), RX.scan] at hsc
          have hrf : RX.runFrom prog s.data.toList (g + 1) i now = if i = s.data.toList.length then none else RX.runFrom prog s.data.toList g (i + 1) next := by
            obtain ⟨t1, rest, rfl⟩ : ∃ t1 rest, now = t1 :: rest := by
              cases now with
              | nil => exact absurd HNN.out.1.symm HNN.out.2
              | cons t1 rest => exact ⟨t1, rest, rfl⟩
            rw [RX.runFrom, ← hsc]
          have hsl : s.data.toList.length = s.size := Array.length_toList
          rw [hsl] at hrf
          have HF := Lib.hid (show _ ∧ _ from ⟨hrf, HR.out.2.2.2.1⟩)
          clear hsc hrf hsl t0
          have t0 := HJ.out.1.now.c0
          by_cases e : i = s.size
          · have HEi := Lib.hid e
            have be : ((i : Int) == (s.size : Int)) = true := by rw [e]; simp
            clear e
            go_wp2_with fail
            refine bodyPost_ret (v := .tuple #[.slice none 0 0, .bool false]) (by simp [results, Tryd.results40, go_sem]) rfl ⟨?_, HJ.out.1.below⟩
            rw [← HF.out.2, HF.out.1, if_pos HEi.out]
          · have HEi := Lib.hid e
            have be : ((i : Int) == (s.size : Int)) = false := by simp; omega
            have hile : i + 1 ≤ s.size := by omega
            clear e
            have hcn : j ≤ cn := by
              obtain ⟨A', c', e', h1, _⟩ := HJ.out.1.now.row.form
              cases e'
              rw [← HNN.out.1]; exact h1
            have hcn0 : ¬ cn = 0 := by have := HNN.out.2; omega
            have hss := HJ.out.1.now.seen
            obtain ⟨As, cs, rfl, _, _⟩ := owns_slice hss
            obtain ⟨sb, rfl, _⟩ := owns_some' hss (by rw [HR.out.2.2.1, HE.out]; exact hN0)
            rw [HR.out.2.2.1, HE.out] at hss
            have hbx := HJ.out.1.now.box
            rw [HR.out.2.2.1, HE.out] at hbx
            have hT0 := HJ.out.1.turn
            rw [HR.out.2.2.1, HE.out] at hT0
            have t1 : (wr.setCell ⟨tn, 0, none⟩ (.slice (some ⟨gn, 0, none⟩) 0 cn)).cell? ⟨tn, 1, none⟩ = some (.slice (some ⟨sb, 0, none⟩) N cs) := by
              rw [cell_of_row _ tn 1 _ _ (0, 0) (heap_setCell_same wr tn 0 _ _ _ hbx)]; rfl
            have tf := HJ.out.1.now.fr 0
            have hT := hT0.cleared
            have hso := own_keepS hss (GrownIn.of_grownBy (grownBy_set1 (w := wr) tn (.slice (some ⟨gn, 0, none⟩) 0 cn))) (fun k e => by injection e with e; rw [← e, ty_box HJ.out.1.now.box]; decide)
            have hcl : ∀ ty, (Builtin.clear_ #[108] ty #[.slice (some ⟨sb, 0, none⟩) N cs]).run Tryd.prog (wr.setCell ⟨tn, 0, none⟩ (.slice (some ⟨gn, 0, none⟩) 0 cn)) = .ok (.tuple #[]) ((wr.setCell ⟨tn, 0, none⟩ (.slice (some ⟨gn, 0, none⟩) 0 cn)).setCells sb 0 (List.replicate N (.bool false))) :=
              fun ty => Lib.run_clear_slice _ 108 4 ty (.bool false) Tryd.underlying108 bool_zero rfl rfl sb 0 N cs hN0 (fun q hq => by rw [Nat.zero_add, hso.cellAt q (by omega)]; simp [HR.out.2.2.1, HE.out, hq]) (fun q _ => by rw [Nat.zero_add]; exact hso.frozenAt q)
            have H8 := Lib.hid hT
            clear hT hso hss hbx hT0
            go_wp2_with (simp only [hcl])
            go_roundg g
            case measure => omega
            case rel =>
              refine ⟨i + 1, tx, tn, lx', .slice (some ⟨gn, 0, none⟩) 0 cn, sx, .slice (some ⟨sb, 0, none⟩) N cs, next, seenX, rfl, rfl, by simp, by omega, hile, Lib.hid ⟨H8.out, HJ.out.2.1, HJ.out.2.2.1, ?_, by have := HJ.out.2.2.2.1; omega⟩⟩
              have h1 := HF.out.2
              rw [HF.out.1, if_neg HEi.out] at h1
              exact h1
end Go.Proofs.YtamlnkmcbbeicaaDoor
