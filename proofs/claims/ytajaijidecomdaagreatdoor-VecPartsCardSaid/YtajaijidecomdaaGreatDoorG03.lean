/- SameLabels: whether two lists of labels are the same. One append onto a row of the call's own, said in full: where the new row lies, and that what stood in the old one can still be read there. -/
import Derived.Test.YtajaijidecomdaaGreatDoorLabCmp
import Derived.Test.YtajaijidecomdaaGreatDoorG01
import Derived.Deep.AppendLies
import Derived.Below
namespace Go.Proofs.YtajaijidecomdaaGreatDoor
open Go.RowKit Go.Lib

theorem labelsC_len {la lb : List Lb} (h : labelsC la lb = 0) : la.length = lb.length := by rw [(labelsC_cmp3.zero la lb).1 h]
set_option maxHeartbeats 1000000 in
set_option maxRecDepth 100000 in
theorem sameLabels_any (A A' : Option Addr) (n c n' c' : Nat) (la lb : List Lb) (w : World) (hA : Lst Lb.cells 2 w w.heap.size A n la) (hB : Lst Lb.cells 2 w w.heap.size A' n' lb) (hn : n ≤ 1099511627776) (hn' : n' ≤ 1099511627776) :
    Calls Tryz.prog 29 #[.slice A n c, .slice A' n' c'] w fun e w' => e = .returned (.bool (decide (labelsC la lb = 0))) ∧ ∃ q, w' = w.drewN q := by
  by_cases hnn : n = n'
  · subst hnn
    have HA := Lib.hid (show _ ∧ _ from ⟨hA, hB⟩)
    clear hA hB
    go_enter Tryz.func29, Tryz.ntmps29
    go_wp2
    go_loopw [5] (fun iv wr => ∃ k q : Nat, k ≤ n ∧ iv = .int .i64 k ∧ wr = w.drewN q ∧ Hid (labelsC la lb = lexC labelC (la.drop k) (lb.drop k))) (fun iv _ => n - (intOf iv).toNat)
    case atStart => exact ⟨0, 0, Nat.zero_le _, rfl, rfl, Lib.hid rfl⟩
    case round =>
      obtain ⟨k, q, hk, rfl, rfl, HE⟩ := hrel
      by_cases hlt : k < n
      · obtain ⟨b, off, x, rfl, hb, hx, hc⟩ := HA.out.1.at hlt
        obtain ⟨b', off', y, rfl, hb', hy, hc'⟩ := HA.out.2.at hlt
        have c0 := hc 0 _ rfl
        have c1 := hc 1 _ rfl
        have d0 := hc' 0 _ rfl
        have d1 := hc' 1 _ rfl
        simp only [Nat.add_zero] at c0 d0
        have i1 : (0 : Int) ≤ (k : Int) := by omega
        have i2 : (k : Int) < (n : Int) := by omega
        have hdr := lexC_drop (c := labelC) hx hy
        have HD := Lib.hid (show _ ∧ _ from ⟨hdr, HE.out⟩)
        clear hc hc' hx hy hdr HE
        by_cases h1 : x.nm = y.nm
        · have e1 : (x.nm.toList == y.nm.toList) = true := by rw [beq_iff_eq, h1]
          by_cases h2 : x.vl = y.vl
          · have e2 : (x.vl.toList == y.vl.toList) = true := by rw [beq_iff_eq, h2]
            have hxy : x = y := by cases x; cases y; simp_all
            go_wp2_with (go_quiet (fail))
            go_roundw
            case measure => simp [intOf]; omega
            case rel => exact ⟨k + 1, _, hlt, by simp, by first | rfl | exact World.drewN_drewN _ _ _, Lib.hid (by rw [HD.out.2, HD.out.1, if_pos ((labelC_cmp3.zero x y).2 hxy)])⟩
          · have e2 : (x.vl.toList == y.vl.toList) = false := by rw [beq_eq_false_iff_ne]; exact fun h => h2 (toList_inj h)
            have hxy : ¬ labelC x y = 0 := fun h => h2 (by rw [(labelC_cmp3.zero x y).1 h])
            go_wp2_with (go_quiet (fail))
            go_ret
            exact ⟨by rw [decide_eq_false (by rw [HD.out.2, HD.out.1, if_neg hxy]; exact hxy)]; rfl, _, by first | rfl | exact World.drewN_drewN _ _ _⟩
        · have e1 : (x.nm.toList == y.nm.toList) = false := by rw [beq_eq_false_iff_ne]; exact fun h => h1 (toList_inj h)
          have hxy : ¬ labelC x y = 0 := fun h => h1 (by rw [(labelC_cmp3.zero x y).1 h])
          go_wp2_with (go_quiet (fail))
          go_ret
          exact ⟨by rw [decide_eq_false (by rw [HD.out.2, HD.out.1, if_neg hxy]; exact hxy)]; rfl, _, by first | rfl | exact World.drewN_drewN _ _ _⟩
      · have he : labelsC la lb = 0 := by
          rw [HE.out, List.drop_eq_nil_of_le (by have := HA.out.1.1; omega), List.drop_eq_nil_of_le (by have := HA.out.2.1; omega)]
          rfl
        have HX := Lib.hid he
        clear he HE
        go_wp2
        go_ret
        exact ⟨by rw [decide_eq_true HX.out]; rfl, q, rfl⟩
  · have he : ¬ labelsC la lb = 0 := fun h => hnn (by rw [← hA.1, ← hB.1]; exact labelsC_len h)
    have hne : ¬ (n : Int) = (n' : Int) := by omega
    have HX := Lib.hid he
    clear hA hB he
    go_enter Tryz.func29, Tryz.ntmps29
    go_wp2
    go_ret
    exact ⟨by rw [decide_eq_false HX.out]; rfl, 0, rfl⟩
end Go.Proofs.YtajaijidecomdaaGreatDoor
namespace Go.Proofs.YtajaijidecomdaaGreatDoor
open Go.RowKit Go.Lib

section
variable {P : Program} (w : World)
theorem run_append_full (t ty : TypeId) (base : Nat) (e : TypeId) (i : TypeInfo) (z : Value) (size bytes : Nat) (ht : P.underlying t = some (.slice e)) (hi : P.info? e = some i) (hz : i.zero = some z)
    (hsize : i.size = size) (hby : i.bytes = bytes) (hzs : z.cells.size = size) (hsz : 0 < size)
    (v : Value) (n : Nat) (xs : List Value) (hown : w.ownsRow base e size v n xs)
    (ad : Addr) (m c : Nat) (news : List Value) (hl : news.length = m * size) (hnews : ∀ j u, news[j]? = some u → w.cell? (ad.add j) = some u) (h1 : ∀ u ∈ news, u.oneCell' = true)
    (hm : 0 < m) (h63 : n + m ≤ maxLen) (hbytes : (n + m) * bytes ≤ 140737488355328) (hbase : base ≤ w.heap.size) :
    ∃ g cap w', (Builtin.append_ #[t, t] ty #[v, .slice (some ad) m c]).run P w = .ok (.slice (some ⟨g, 0, none⟩) (n + m) cap) w' ∧
      w'.ownsRow base e size (.slice (some ⟨g, 0, none⟩) (n + m) cap) (n + m) (xs ++ news) ∧ w.grownBy w' v.ownBlock ∧ (v.ownBlock = some g ∨ g = w.heap.size) ∧
      (∀ k, v.ownBlock = some k → ∀ j u, xs[j]? = some u → w'.cell? ⟨k, j, none⟩ = some u) := by
  obtain ⟨g, cap, w', hr, h2, h3, h4, h5⟩ := run_append_lies (P := P) w t ty base e i z size bytes ht hi hz hsize hby hzs hsz v n xs hown ad m c news hl hnews h1 hm h63 hbytes hbase _ rfl
  refine ⟨g, cap, w', hr, h2, h3, h4, ?_⟩
  intro k hk j u hu
  have hadd : ∀ b, (⟨b, 0, none⟩ : Addr).add j = ⟨b, j, none⟩ := fun b => by unfold Addr.add; split <;> simp_all
  have hj : j < xs.length := (List.getElem?_eq_some_iff.1 hu).1
  rcases h4 with h4 | h4
  · obtain rfl : k = g := by rw [hk] at h4; exact Option.some.inj h4
    have := h2.cells (g := k) rfl j u (by rw [List.getElem?_append_left hj]; exact hu)
    rwa [hadd] at this
  · -- a block of its own: the old row is as it was
    rcases hown.2 with ⟨rfl, _⟩ | ⟨g', cap', cur, rfl, hb, hg, hnc, hcm, hcs, htake⟩
    · cases hk
    · obtain rfl : g' = k := by simpa [Value.ownBlock] using hk
      have hlt : g' < w.heap.size := (Array.getElem?_eq_some_iff.1 hg).1
      have hcell := hown.cells (g := g') rfl j u hu
      rw [hadd] at hcell
      by_cases hroom : n + m ≤ cap'
      · exfalso
        have hr2 := run_append_room (P := P) (ty := ty) w t e i ht hi g' n cap' cur hg ad m c news (by rw [hl, hsize]) hnews h1 hroom (by rw [hl, hcs, hsize, ← Nat.add_mul]; exact Nat.mul_le_mul_right _ hroom)
        have := hr.symm.trans hr2
        simp at this
      · have hr2 := run_append_grow (P := P) (ty := ty) w t e i z ht hi hz ⟨g', 0, none⟩ n cap' xs (by rw [hown.1, hsize]) (hown.cells (g := g') rfl) ad m c news (by rw [hl, hsize]) hnews (by omega) (by simp only [maxLen] at h63; omega) (growslice_fits (by omega) (by rw [hby]; exact hbytes))
        have he := hr.symm.trans hr2
        injection he with _ e2
        rw [e2]
        exact (World.cell?_of_block (w := w) (heap_alloc_old w.drew _ hlt)).trans hcell
theorem wpList_append_full {ops : Array Oper} {rest : List Oper} {o : Oper} {a : Act} {Q : Exit → Act → World → Prop} (hgd : o.guard = none) (s x : Operand) (t : TypeId)
    (ho : o.op = .call { callee := .builtin .append, args := #[s, x], argTypes := #[t, t] })
    (base : Nat) (e : TypeId) (i : TypeInfo) (z : Value) (size bytes : Nat) (ht : P.underlying t = some (.slice e)) (hi : P.info? e = some i) (hz : i.zero = some z)
    (hsize : i.size = size) (hby : i.bytes = bytes) (hzs : z.cells.size = size) (hsz : 0 < size)
    (v : Value) (n : Nat) (xs : List Value) (hs : a.eval s = v) (hown : w.ownsRow base e size v n xs)
    (ad : Addr) (m c : Nat) (news : List Value) (hx : a.eval x = .slice (some ad) m c) (hl : news.length = m * size) (hnews : ∀ j u, news[j]? = some u → w.cell? (ad.add j) = some u) (h1 : ∀ u ∈ news, u.oneCell' = true)
    (hm : 0 < m) (h63 : n + m ≤ maxLen) (hbytes : (n + m) * bytes ≤ 140737488355328) (hbase : base ≤ w.heap.size)
    (h : ∀ g cap w', w'.ownsRow base e size (.slice (some ⟨g, 0, none⟩) (n + m) cap) (n + m) (xs ++ news) → w.grownBy w' v.ownBlock → (v.ownBlock = some g ∨ g = w.heap.size) →
      (∀ k, v.ownBlock = some k → ∀ j u, xs[j]? = some u → w'.cell? ⟨k, j, none⟩ = some u) → wpList P ops Q rest (a.put o.dst (.slice (some ⟨g, 0, none⟩) (n + m) cap)) w') :
    wpList P ops Q (o :: rest) a w := by
  refine wpList_plain hgd fun K hK => ?_
  obtain ⟨g, cap, w', hr, h2, h3, h4, h5⟩ := run_append_full (P := P) w t o.type base e i z size bytes ht hi hz hsize hby hzs hsz v n xs hown ad m c news hl hnews h1 hm h63 hbytes hbase
  unfold Oper.wp execOp
  simp only [ho, resolve, invoke, builtin, Sem.run_bind, Sem.run_pure, Result.andThen_ok, List.map_toArray, List.map_cons, List.map_nil, hs, hx, hr]
  exact hK _ _ (h g cap w' h2 h3 h4 h5)
end

/-- w' is w but for new blocks and the blocks of S. -/
structure GrownIn (S : Nat → Prop) (w w' : World) : Prop where
  os : w'.os = w.os
  tape : w'.tape = w.tape
  output : w'.output = w.output
  size : w.heap.size ≤ w'.heap.size
  block : ∀ k, k < w.heap.size → ¬ S k → w'.heap[k]? = w.heap[k]?
section
variable {S T : Nat → Prop} {a w w' : World}
theorem GrownIn.refl (S : Nat → Prop) (w : World) : GrownIn S w w := ⟨rfl, rfl, rfl, Nat.le_refl _, fun _ _ _ => rfl⟩
theorem GrownIn.mono (h : GrownIn S w w') (hs : ∀ k, k < w.heap.size → S k → T k) : GrownIn T w w' := ⟨h.os, h.tape, h.output, h.size, fun k hk hn => h.block k hk fun hs' => hn (hs k hk hs')⟩
theorem GrownIn.trans (h : GrownIn S a w) (g : GrownIn T w w') (hs : ∀ k, k < a.heap.size → T k → S k) : GrownIn S a w' :=
  ⟨g.os.trans h.os, g.tape.trans h.tape, g.output.trans h.output, Nat.le_trans h.size g.size, fun k hk hn =>
    (g.block k (Nat.lt_of_lt_of_le hk h.size) fun ht => hn (hs k hk ht)).trans (h.block k hk hn)⟩
theorem GrownIn.of_grownBy {r : Option Nat} (h : w.grownBy w' r) : GrownIn (fun k => r = some k) w w' :=
  ⟨h.os, h.tape, h.output, h.size, fun k hk hn => h.block k hk fun e => hn e.symm⟩
theorem GrownIn.of_below {B : Nat} (h : Below B w w') : GrownIn (fun k => B ≤ k) w w' :=
  ⟨h.os, h.tape, h.output, h.size, fun k _ hn => h.block k (by omega)⟩
theorem GrownIn.below {B : Nat} (h : GrownIn S w w') (hs : ∀ k, S k → B ≤ k) (hB : B ≤ w.heap.size) : Below B w w' :=
  ⟨h.os, h.tape, h.output, h.size, fun k hk => h.block k (by omega) fun hsk => by have := hs k hsk; omega⟩
theorem GrownIn.cell (h : GrownIn S w w') {p : Addr} {v : Value} (hc : w.cell? p = some v) (hn : ¬ S p.block) : w'.cell? p = some v :=
  (World.cell?_of_block (h.block p.block (World.block_lt_of_cell? w p hc) hn)).trans hc
theorem GrownIn.owns {base : Nat} {e : TypeId} {size : Nat} {v : Value} {n : Nat} {xs : List Value} (g : GrownIn S w w') (h : w.ownsRow base e size v n xs) (hn : ∀ k, v.ownBlock = some k → ¬ S k) : w'.ownsRow base e size v n xs := by
  refine ⟨h.1, ?_⟩
  rcases h.2 with h2 | ⟨b, cap, cur, rfl, hb, hg, rest⟩
  · exact .inl h2
  · refine .inr ⟨b, cap, cur, rfl, hb, ?_, rest⟩
    rw [g.block b (Array.getElem?_eq_some_iff.1 hg).1 (hn b rfl)]
    exact hg
theorem GrownIn.alloc (h : GrownIn S a w) (o : Obj) : GrownIn S a (w.alloc o) :=
  h.trans (GrownIn.of_grownBy (World.grownBy_alloc w o none)) (fun _ _ e => by cases e)
theorem GrownIn.drewN (h : GrownIn S a w) (n : Nat) : GrownIn S a (w.drewN n) := ⟨h.os, h.tape, h.output, h.size, h.block⟩
end
end Go.Proofs.YtajaijidecomdaaGreatDoor
