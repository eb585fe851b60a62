/- container/heap over the queue of merge.Samples: up and Push. container/heap over the queue of merge.Samples: down and Pop. -/
import Derived.Test.YtihidnmpngeohaaGreatG07
import Derived.Deep.RegionWith
namespace Go.Proofs.YtihidnmpngeohaaGreat
open Go.RowKit Go.Lib

theorem wrap_ok (xt : TypeId) (a : Addr) (s m : ByteArray) (w : World) : (Builtin.ssaWrapNilChk_ #[xt] xt #[.pointer (some a), .string s, .string m]).run Tryz.prog w = .ok (.pointer (some a)) w := rfl
set_option maxRecDepth 100000 in
/-- A value method called on the queue's pointer: the receiver is what the variable holds. -/
theorem value_method (name : String) (f : FuncId) (h : ((Tryz.prog.info? 160).bind fun i => i.methods.find? (·.name == name)).map (fun m => (m.path.toList, m.func)) = some ([], some (f, false))) (n b : Nat) (qv : Value) (w : World) (hc : w.cell? ⟨b, 0, none⟩ = some qv) :
    (method (n + 1) 160 (.pointer (some ⟨b, 0, none⟩)) name).run Tryz.prog w = .ok (f, qv) w := by
  cases hi : Tryz.prog.info? 160 with
  | none => rw [hi] at h; cases h
  | some i =>
    rw [hi] at h
    simp only [Option.bind_some] at h
    obtain ⟨m, hm, he⟩ := Option.map_eq_some_iff.1 h
    injection he with hp hf
    have hp' : m.path = #[] := by cases hpp : m.path; simp_all
    have u1 : Tryz.prog.underlying 160 = some (.pointer 162) := Tryz.underlying160
    have i1 : ∀ w, (isAgg 162).run Tryz.prog w = .ok false w := by intro w; kernel_rfl
    simp [method, typeInfo, hi, hm, hp', hf, follow, receiverAt, run_underlying u1, Place.get, go_sem, wrap_ok, loadVar, hc, strVal, i1]
set_option maxRecDepth 100000 in
theorem mLen (b : Nat) (qv : Value) (w : World) (h : w.cell? ⟨b, 0, none⟩ = some qv) : (method 426 160 (.pointer (some ⟨b, 0, none⟩)) "Len").run Tryz.prog w = .ok (107, qv) w := value_method "Len" _ (by kernel_rfl) 425 b qv w h
set_option maxRecDepth 100000 in
theorem mLess (b : Nat) (qv : Value) (w : World) (h : w.cell? ⟨b, 0, none⟩ = some qv) : (method 426 160 (.pointer (some ⟨b, 0, none⟩)) "Less").run Tryz.prog w = .ok (212, qv) w := value_method "Less" _ (by kernel_rfl) 425 b qv w h
set_option maxRecDepth 100000 in
theorem mSwap (b : Nat) (qv : Value) (w : World) (h : w.cell? ⟨b, 0, none⟩ = some qv) : (method 426 160 (.pointer (some ⟨b, 0, none⟩)) "Swap").run Tryz.prog w = .ok (215, qv) w := value_method "Swap" _ (by kernel_rfl) 425 b qv w h
theorem mPush (a : Addr) (w : World) : (method 426 160 (.pointer (some a)) "Push").run Tryz.prog w = .ok (214, .pointer (some a)) w := by kernel_rfl
theorem mPop (a : Addr) (w : World) : (method 426 160 (.pointer (some a)) "Pop").run Tryz.prog w = .ok (213, .pointer (some a)) w := by kernel_rfl
theorem queueLess' (B n i j : Nat) (a b : Int) (v : Value) (l : List It) (x y : It) (w : World) (ho : w.ownsRow B 172 4 v n (l.flatMap It.cells)) (hi : l[i]? = some x) (hj : l[j]? = some y) (ha : a = (i : Int)) (hb : b = (j : Int)) :
    Calls Tryz.prog 212 #[v, .int .i64 a, .int .i64 b] w fun e w' => e = .returned (.bool (itLess x y)) ∧ ∃ q, w' = w.drewN q := by
  have hl := owns_len ho It.len (by omega)
  obtain ⟨g, c, rfl, _, _⟩ := ho.form (by have := (List.getElem?_eq_some_iff.1 hi).1; omega)
  subst ha hb
  exact queueLess B g n c i j l x y w ho hi hj
def SwapPost' (w : World) (B n : Nat) (v : Value) (l : List It) (e : Ending) (w' : World) : Prop := e = .returned (.tuple #[]) ∧ w'.ownsRow B 172 4 v n (l.flatMap It.cells) ∧ w.grownBy w' v.ownBlock
theorem queueSwap' (B n i j : Nat) (a b : Int) (v : Value) (l : List It) (x y : It) (w : World) (ho : w.ownsRow B 172 4 v n (l.flatMap It.cells)) (hi : l[i]? = some x) (hj : l[j]? = some y) (hij : i ≠ j) (ha : a = (i : Int)) (hb : b = (j : Int)) :
    Calls Tryz.prog 215 #[v, .int .i64 a, .int .i64 b] w (SwapPost' w B n v (swapL l i j x y)) := by
  have hl := owns_len ho It.len (by omega)
  obtain ⟨g, c, rfl, _, _⟩ := ho.form (by have := (List.getElem?_eq_some_iff.1 hi).1; omega)
  subst ha hb
  exact queueSwap B g n c i j l x y w ho hi hj hij
theorem queueSwapSame' (B n i : Nat) (a b : Int) (v : Value) (l : List It) (x : It) (w : World) (ho : w.ownsRow B 172 4 v n (l.flatMap It.cells)) (hi : l[i]? = some x) (ha : a = (i : Int)) (hb : b = (i : Int)) :
    Calls Tryz.prog 215 #[v, .int .i64 a, .int .i64 b] w (SwapPost' w B n v (swapL l i i x x)) := by
  have hl := owns_len ho It.len (by omega)
  obtain ⟨g, c, rfl, _, _⟩ := ho.form (by have := (List.getElem?_eq_some_iff.1 hi).1; omega)
  subst ha hb
  exact queueSwapSame B g n c i l x w ho hi
/-- Items change places. -/
theorem Qu.swap {w w' : World} {B qb : Nat} {v : Value} {l l' : List It} (h : Qu w B qb v l) (ho : w'.ownsRow B 172 4 v l.length (l'.flatMap It.cells)) (hg : w.grownBy w' v.ownBlock) (hl : l'.length = l.length) : Qu w' B qb v l' ∧ KeptT B QT w w' :=
  ⟨⟨(hg.block qb h.lt (fun e => h.ne e.symm)).trans h.var, by rw [hl]; exact ho, h.base⟩, KeptT.of_grownBy hg fun k hk => ⟨(h.own.lt k hk).1, fun cs t fz e => .inr (h.type hk cs t fz e)⟩⟩
/-- What a function over the heap leaves: the queue holds the same items in another order. -/
def UpPost (w : World) (B qb : Nat) (l : List It) (e : Ending) (w' : World) : Prop := e = .returned (.tuple #[]) ∧ ∃ qv l', Qu w' B qb qv l' ∧ l'.Perm l ∧ HeapOK l' ∧ KeptT B QT w w'
set_option maxHeartbeats 4000000 in
set_option maxRecDepth 100000 in
theorem heapUp (B qb : Nat) (qv : Value) (l : List It) (j : Nat) (w : World) (hq : Qu w B qb qv l) (hm : l.length ≤ 1000000) (hj : j < l.length) (hu : UpInv l j) :
    Calls Tryz.prog 134 #[.iface 160 (.pointer (some ⟨qb, 0, none⟩)), .int .i64 j] w (UpPost w B qb l) := by
  have HQ := Lib.hid (show _ ∧ _ from ⟨hq, hu⟩)
  clear hq hu
  go_enter Tryz.func134, Tryz.ntmps134
  go_wp2_with fail
  go_loopw [1] (fun s wr => ∃ (i : Nat) (v : Value) (k : List It), s = .int .i64 i ∧ i < k.length ∧ k.length ≤ 1000000 ∧ Hid (Qu wr B qb v k ∧ UpInv k i ∧ k.Perm l ∧ KeptT B QT w wr)) (fun s _ => (intOf s).toNat)
  case atStart => exact ⟨j, qv, l, rfl, hj, hm, Lib.hid ⟨HQ.out.1, HQ.out.2, List.Perm.refl _, KeptT.refl _ _ _⟩⟩
  case round =>
    obtain ⟨i, v, k, rfl, hik, hkm, HR⟩ := hrel
    have hcell := HR.out.1.cell
    by_cases h0 : i = 0
    · subst h0
      clear hcell
      go_wp2_with fail
      go_end0
      exact ⟨rfl, v, k, HR.out.1, HR.out.2.2.1, HR.out.2.1.zero, HR.out.2.2.2⟩
    · obtain ⟨q, rfl⟩ : ∃ q, i = q + 1 := ⟨i - 1, by omega⟩
      obtain ⟨x, hx⟩ : ∃ x, k[q + 1]? = some x := ⟨_, List.getElem?_eq_getElem hik⟩
      obtain ⟨y, hy⟩ : ∃ y, k[q / 2]? = some y := ⟨_, List.getElem?_eq_getElem (by omega)⟩
      have hml := mLess qb v wr hcell
      have hne : ((q : Int) / 2 == (q : Int) + 1) = false := beq_eq_false_iff_ne.2 (by omega)
      have HX := Lib.hid (show _ ∧ _ from ⟨hx, hy⟩)
      clear hx hy h0
      go_wp2_with fail
      refine (queueLess' B k.length (q + 1) (q / 2) _ _ v k x y wr HR.out.1.own HX.out.1 HX.out.2 (by simp) (by simp)).mono ?_
      rintro e w' ⟨rfl, z, rfl⟩
      have hc2 : (wr.drewN z).cell? ⟨qb, 0, none⟩ = some v := hcell
      have HQ2 : Hid (Qu (wr.drewN z) B qb v k ∧ KeptT B QT w (wr.drewN z)) := Lib.hid ⟨HR.out.1.drewN z, HR.out.2.2.2.drewN z⟩
      generalize wr.drewN z = wz at hc2 HQ2 ⊢
      clear hml hcell
      cases hle : itLess x y with
      | false =>
        have HLE := Lib.hid hle
        clear hle
        go_wp2_with fail
        go_end0
        exact ⟨rfl, v, k, HQ2.out.1, HR.out.2.2.1, HR.out.2.1.stay HX.out.1 HX.out.2 HLE.out, HQ2.out.2⟩
      | true =>
        have HLE := Lib.hid hle
        have hms := mSwap qb v wz hc2
        clear hle
        go_wp2_with fail
        refine (queueSwap' B k.length (q / 2) (q + 1) _ _ v k y x wz HQ2.out.1.own HX.out.2 HX.out.1 (by omega) (by simp) (by simp)).mono ?_
        rintro e w5 ⟨rfl, ho5, hg5⟩
        have h5 := HQ2.out.1.swap ho5 hg5 (swapL_length _ _ _ _ _)
        have h6 := HR.out.2.1.step (by omega) HX.out.1 HX.out.2 HLE.out
        have H5 := Lib.hid (show _ ∧ _ ∧ _ ∧ _ from ⟨h5.1, h6, (swapL_perm HX.out.2 HX.out.1).trans HR.out.2.2.1, HQ2.out.2.trans h5.2⟩)
        have hkl : (swapL k (q / 2) (q + 1) y x).length = k.length := swapL_length _ _ _ _ _
        clear hms hc2 ho5 hg5 h5 h6
        go_wp2_with fail
        go_roundw
        case measure => simp [intOf]; omega
        case rel => exact ⟨q / 2, v, _, by simp, by omega, by omega, H5⟩
theorem queueLen (v : Value) (A : Option Addr) (n c : Nat) (hv : v = .slice A n c) (w : World) : Calls Tryz.prog 107 #[v] w fun e w' => e = .returned (.int .i64 n) ∧ w' = w := by
  subst hv
  go_enter Tryz.func107, Tryz.ntmps107
  go_wp2
  go_ret
  exact ⟨rfl, rfl⟩
theorem Qu.len {w : World} {B qb : Nat} {v : Value} {l : List It} (h : Qu w B qb v l) (W : World) : Calls Tryz.prog 107 #[v] W fun e w' => e = .returned (.int .i64 l.length) ∧ w' = W := by
  obtain ⟨A, c, hv, _, _⟩ := owns_slice h.own
  exact queueLen v A _ c hv W
set_option maxHeartbeats 4000000 in
set_option maxRecDepth 100000 in
/-- container/heap.Push. -/
theorem heapPush (B qb : Nat) (qv : Value) (l : List It) (x : It) (w : World) (hq : Qu w B qb qv l) (hm : l.length < 1000000) (hB : B ≤ w.heap.size) (hok : HeapOK l) :
    Calls Tryz.prog 106 #[.iface 160 (.pointer (some ⟨qb, 0, none⟩)), x.boxed] w (UpPost w B qb (l ++ [x])) := by
  have HC := Lib.hid (queuePush B qb qv l x w hq (by omega) hB)
  have HK := Lib.hid hok
  have hmp := mPush ⟨qb, 0, none⟩ w
  clear hq hok
  unfold It.boxed
  go_enter Tryz.func106, Tryz.ntmps106
  go_wp2_with fail
  refine HC.out.mono ?_
  rintro e w1 ⟨rfl, v1, hq1, hk1⟩
  have hc1 := hq1.cell
  have hml := mLen qb v1 w1 hc1
  have H1 := Lib.hid (show _ ∧ _ from ⟨hq1, hk1⟩)
  clear hq1 hk1 hmp hc1
  go_wp2_with fail
  refine (H1.out.1.len w1).mono ?_
  rintro e w' ⟨rfl, rfl⟩
  have hlen : (l ++ [x]).length = l.length + 1 := by simp
  rw [hlen]
  clear hml
  go_wp2_with fail
  refine (heapUp B qb v1 (l ++ [x]) l.length _ H1.out.1 (by rw [hlen]; omega) (by omega) (UpInv.push HK.out x)).mono ?_
  rintro e w3 ⟨rfl, v3, l3, hq3, hp3, ho3, hk3⟩
  have H3 := Lib.hid (show _ ∧ _ ∧ _ ∧ _ from ⟨hq3, hp3, ho3, H1.out.2.trans hk3⟩)
  clear hq3 hp3 ho3 hk3 hlen
  go_wp2
  go_end0
  exact ⟨rfl, v3, l3, H3.out⟩
end Go.Proofs.YtihidnmpngeohaaGreat
namespace Go.Proofs.YtihidnmpngeohaaGreat
open Go.RowKit Go.Lib

theorem int_eq {k : IntKind} {a b : Int} (h : a = b) : Value.int k a = Value.int k b := by rw [h]
/-- What down leaves: the first n are a heap; what stands behind them stays. -/
def DownPost (w : World) (B qb n : Nat) (l : List It) (e : Ending) (w' : World) : Prop := ∃ (b : Bool) (qv : Value) (l' : List It), e = .returned (.bool b) ∧ Qu w' B qb qv l' ∧ l'.Perm l ∧ HeapTo l' n ∧ l'[n]? = l[n]? ∧ KeptT B QT w w'
set_option maxHeartbeats 4000000 in
set_option maxRecDepth 100000 in
theorem heapDown (B qb n : Nat) (qv : Value) (l : List It) (w : World) (hq : Qu w B qb qv l) (hm : l.length ≤ 1000000) (hn : n < l.length) (hd : DownInv l n 0) :
    Calls Tryz.prog 135 #[.iface 160 (.pointer (some ⟨qb, 0, none⟩)), .int .i64 0, .int .i64 n] w (DownPost w B qb n l) := by
  have HQ := Lib.hid (show _ ∧ _ from ⟨hq, hd⟩)
  clear hq hd
  go_enter Tryz.func135, Tryz.ntmps135
  go_wp2_with fail
  go_loopw [7] (fun s wr => ∃ (i : Nat) (v : Value) (k : List It), s = .int .i64 i ∧ i < k.length ∧ n < k.length ∧ k.length ≤ 1000000 ∧ Hid (Qu wr B qb v k ∧ DownInv k n i ∧ k.Perm l ∧ k[n]? = l[n]? ∧ KeptT B QT w wr)) (fun s _ => n - (intOf s).toNat)
  case atStart => exact ⟨0, qv, l, rfl, by omega, hn, hm, Lib.hid ⟨HQ.out.1, HQ.out.2, List.Perm.refl _, rfl, KeptT.refl _ _ _⟩⟩
  case round =>
    obtain ⟨i, v, k, rfl, hik, hnk, hkm, HR⟩ := hrel
    have hcell := HR.out.1.cell
    by_cases h0 : n ≤ 2 * i + 1
    · clear hcell
      go_wp2_with fail
      go_ret
      exact ⟨_, v, k, rfl, HR.out.1, HR.out.2.2.1, HR.out.2.1.none h0, HR.out.2.2.2.1, HR.out.2.2.2.2⟩
    · obtain ⟨x, hx⟩ : ∃ x, k[i]? = some x := ⟨_, List.getElem?_eq_getElem hik⟩
      obtain ⟨y, hy⟩ : ∃ y, k[2 * i + 1]? = some y := ⟨_, List.getElem?_eq_getElem (by omega)⟩
      have HX := Lib.hid (show _ ∧ _ from ⟨hx, hy⟩)
      clear hx hy
      have hml := mLess qb v wr hcell
      by_cases h2 : 2 * i + 2 < n
      · obtain ⟨z, hz⟩ : ∃ z, k[2 * i + 2]? = some z := ⟨_, List.getElem?_eq_getElem (by omega)⟩
        have HZ := Lib.hid hz
        clear hz
        go_wp2_with fail
        refine (queueLess' B k.length (2 * i + 2) (2 * i + 1) _ _ v k z y wr HR.out.1.own HZ.out HX.out.2 (by omega) (by omega)).mono ?_
        rintro e w' ⟨rfl, z1, rfl⟩
        have hc2 : (wr.drewN z1).cell? ⟨qb, 0, none⟩ = some v := hcell
        have HA : Hid (Qu (wr.drewN z1) B qb v k ∧ KeptT B QT w (wr.drewN z1)) := Lib.hid ⟨HR.out.1.drewN z1, HR.out.2.2.2.2.drewN z1⟩
        generalize wr.drewN z1 = wa at hc2 HA ⊢
        have hml2 := mLess qb v wa hc2
        clear hml hcell
        cases hzy : itLess z y with
        | false =>
          have HL : Hid (Least k n i (2 * i + 1) ∧ k[2 * i + 1]? = some y) := Lib.hid ⟨⟨by omega, by omega, by omega, fun c a b hc hcn he ha hb => by
            rw [HX.out.2] at hb; injection hb with hb
            rcases (show c = 2 * i + 1 ∨ c = 2 * i + 2 by omega) with rfl | rfl
            · rw [HX.out.2] at ha; injection ha with ha; rw [← ha, ← hb]; exact less_irrefl _
            · rw [HZ.out] at ha; injection ha with ha; rw [← ha, ← hb]; exact hzy⟩, HX.out.2⟩
          clear hzy
          go_wp2_with fail
          refine (queueLess' B k.length (2 * i + 1) i _ _ v k y x wa HA.out.1.own HL.out.2 HX.out.1 (by omega) rfl).mono ?_
          rintro e w' ⟨rfl, z2, rfl⟩
          have hc3 : (wa.drewN z2).cell? ⟨qb, 0, none⟩ = some v := hc2
          have HB : Hid (Qu (wa.drewN z2) B qb v k ∧ KeptT B QT w (wa.drewN z2)) := Lib.hid ⟨HA.out.1.drewN z2, HA.out.2.drewN z2⟩
          generalize wa.drewN z2 = wb at hc3 HB ⊢
          clear hml2 hc2
          cases hle : itLess y x with
          | false =>
            have HLE := Lib.hid hle
            clear hle
            go_wp2_with fail
            go_ret
            exact ⟨_, v, k, rfl, HB.out.1, HR.out.2.2.1, HR.out.2.1.stay HL.out.1 HL.out.2 HX.out.1 HLE.out, HR.out.2.2.2.1, HB.out.2⟩
          | true =>
            have HLE := Lib.hid hle
            have hms := mSwap qb v wb hc3
            clear hle
            go_wp2_with fail
            refine (queueSwap' B k.length i (2 * i + 1) _ _ v k x y wb HB.out.1.own HX.out.1 HL.out.2 (by omega) rfl (by omega)).mono ?_
            rintro e w5 ⟨rfl, ho5, hg5⟩
            have h5 := HB.out.1.swap ho5 hg5 (swapL_length _ _ _ _ _)
            have h6 := HR.out.2.1.step HL.out.1 HX.out.1 HL.out.2 HLE.out
            have h7 : (swapL k i (2 * i + 1) x y)[n]? = l[n]? := by
              rw [swapL_get hik (List.getElem?_eq_some_iff.1 HL.out.2).1, if_neg (by omega), if_neg (by omega)]
              exact HR.out.2.2.2.1
            have H5 := Lib.hid (show _ ∧ _ ∧ _ ∧ _ ∧ _ from ⟨h5.1, h6, (swapL_perm HX.out.1 HL.out.2).trans HR.out.2.2.1, h7, HB.out.2.trans h5.2⟩)
            have hkl : (swapL k i (2 * i + 1) x y).length = k.length := swapL_length _ _ _ _ _
            clear hms hc3 ho5 hg5 h5 h6 h7
            go_wp2_with fail
            go_roundw
            case measure => simp [intOf]; omega
            case rel => exact ⟨2 * i + 1, v, _, int_eq (by omega), by omega, by omega, by omega, H5⟩
        | true =>
          have HL : Hid (Least k n i (2 * i + 2) ∧ k[2 * i + 2]? = some z) := Lib.hid ⟨⟨by omega, by omega, by omega, fun c a b hc hcn he ha hb => by
            rw [HZ.out] at hb; injection hb with hb
            rcases (show c = 2 * i + 1 ∨ c = 2 * i + 2 by omega) with rfl | rfl
            · rw [HX.out.2] at ha; injection ha with ha; rw [← ha, ← hb]; exact less_asymm hzy
            · rw [HZ.out] at ha; injection ha with ha; rw [← ha, ← hb]; exact less_irrefl _⟩, HZ.out⟩
          clear hzy
          go_wp2_with fail
          refine (queueLess' B k.length (2 * i + 2) i _ _ v k z x wa HA.out.1.own HL.out.2 HX.out.1 (by omega) rfl).mono ?_
          rintro e w' ⟨rfl, z2, rfl⟩
          have hc3 : (wa.drewN z2).cell? ⟨qb, 0, none⟩ = some v := hc2
          have HB : Hid (Qu (wa.drewN z2) B qb v k ∧ KeptT B QT w (wa.drewN z2)) := Lib.hid ⟨HA.out.1.drewN z2, HA.out.2.drewN z2⟩
          generalize wa.drewN z2 = wb at hc3 HB ⊢
          clear hml2 hc2
          cases hle : itLess z x with
          | false =>
            have HLE := Lib.hid hle
            clear hle
            go_wp2_with fail
            go_ret
            exact ⟨_, v, k, rfl, HB.out.1, HR.out.2.2.1, HR.out.2.1.stay HL.out.1 HL.out.2 HX.out.1 HLE.out, HR.out.2.2.2.1, HB.out.2⟩
          | true =>
            have HLE := Lib.hid hle
            have hms := mSwap qb v wb hc3
            clear hle
            go_wp2_with fail
            refine (queueSwap' B k.length i (2 * i + 2) _ _ v k x z wb HB.out.1.own HX.out.1 HL.out.2 (by omega) rfl (by omega)).mono ?_
            rintro e w5 ⟨rfl, ho5, hg5⟩
            have h5 := HB.out.1.swap ho5 hg5 (swapL_length _ _ _ _ _)
            have h6 := HR.out.2.1.step HL.out.1 HX.out.1 HL.out.2 HLE.out
            have h7 : (swapL k i (2 * i + 2) x z)[n]? = l[n]? := by
              rw [swapL_get hik (List.getElem?_eq_some_iff.1 HL.out.2).1, if_neg (by omega), if_neg (by omega)]
              exact HR.out.2.2.2.1
            have H5 := Lib.hid (show _ ∧ _ ∧ _ ∧ _ ∧ _ from ⟨h5.1, h6, (swapL_perm HX.out.1 HL.out.2).trans HR.out.2.2.1, h7, HB.out.2.trans h5.2⟩)
            have hkl : (swapL k i (2 * i + 2) x z).length = k.length := swapL_length _ _ _ _ _
            clear hms hc3 ho5 hg5 h5 h6 h7
            go_wp2_with fail
            go_roundw
            case measure => simp [intOf]; omega
            case rel => exact ⟨2 * i + 2, v, _, int_eq (by omega), by omega, by omega, by omega, H5⟩
      · have HL : Hid (Least k n i (2 * i + 1) ∧ k[2 * i + 1]? = some y) := Lib.hid ⟨⟨by omega, by omega, by omega, fun c a b hc hcn he ha hb => by
          obtain rfl : c = 2 * i + 1 := by omega
          rw [ha] at hb; injection hb with hb; rw [← hb]; exact less_irrefl _⟩, HX.out.2⟩
        have hc2 := hcell
        have HA : Hid (Qu wr B qb v k ∧ KeptT B QT w wr) := Lib.hid ⟨HR.out.1, HR.out.2.2.2.2⟩
        have hml2 := hml
        obtain ⟨wa, rfl⟩ : ∃ wa : World, wa = wr := ⟨_, rfl⟩
        clear hml hcell
        go_wp2_with fail
        refine (queueLess' B k.length (2 * i + 1) i _ _ v k y x wa HA.out.1.own HL.out.2 HX.out.1 (by omega) rfl).mono ?_
        rintro e w' ⟨rfl, z2, rfl⟩
        have hc3 : (wa.drewN z2).cell? ⟨qb, 0, none⟩ = some v := hc2
        have HB : Hid (Qu (wa.drewN z2) B qb v k ∧ KeptT B QT w (wa.drewN z2)) := Lib.hid ⟨HA.out.1.drewN z2, HA.out.2.drewN z2⟩
        generalize wa.drewN z2 = wb at hc3 HB ⊢
        clear hml2 hc2
        cases hle : itLess y x with
        | false =>
          have HLE := Lib.hid hle
          clear hle
          go_wp2_with fail
          go_ret
          exact ⟨_, v, k, rfl, HB.out.1, HR.out.2.2.1, HR.out.2.1.stay HL.out.1 HL.out.2 HX.out.1 HLE.out, HR.out.2.2.2.1, HB.out.2⟩
        | true =>
          have HLE := Lib.hid hle
          have hms := mSwap qb v wb hc3
          clear hle
          go_wp2_with fail
          refine (queueSwap' B k.length i (2 * i + 1) _ _ v k x y wb HB.out.1.own HX.out.1 HL.out.2 (by omega) rfl (by omega)).mono ?_
          rintro e w5 ⟨rfl, ho5, hg5⟩
          have h5 := HB.out.1.swap ho5 hg5 (swapL_length _ _ _ _ _)
          have h6 := HR.out.2.1.step HL.out.1 HX.out.1 HL.out.2 HLE.out
          have h7 : (swapL k i (2 * i + 1) x y)[n]? = l[n]? := by
            rw [swapL_get hik (List.getElem?_eq_some_iff.1 HL.out.2).1, if_neg (by omega), if_neg (by omega)]
            exact HR.out.2.2.2.1
          have H5 := Lib.hid (show _ ∧ _ ∧ _ ∧ _ ∧ _ from ⟨h5.1, h6, (swapL_perm HX.out.1 HL.out.2).trans HR.out.2.2.1, h7, HB.out.2.trans h5.2⟩)
          have hkl : (swapL k i (2 * i + 1) x y).length = k.length := swapL_length _ _ _ _ _
          clear hms hc3 ho5 hg5 h5 h6 h7
          go_wp2_with fail
          go_roundw
          case measure => simp [intOf]; omega
          case rel => exact ⟨2 * i + 1, v, _, int_eq (by omega), by omega, by omega, by omega, H5⟩
theorem swapL_same {l : List It} {i : Nat} {x : It} (h : l[i]? = some x) : swapL l i i x x = l := by
  obtain ⟨h1, h2⟩ := List.getElem?_eq_some_iff.1 h
  unfold swapL
  rw [List.set_set, ← h2, List.set_getElem_self]
/-- Swap of the first and the last, whichever they are. -/
theorem queueSwapEnds (B n : Nat) (b : Int) (v : Value) (l : List It) (x z : It) (w : World) (ho : w.ownsRow B 172 4 v (n + 1) (l.flatMap It.cells)) (hx : l[0]? = some x) (hz : l[n]? = some z) (hb : b = (n : Int)) :
    Calls Tryz.prog 215 #[v, .int .i64 0, .int .i64 b] w (SwapPost' w B (n + 1) v (swapL l 0 n x z)) := by
  by_cases h0 : n = 0
  · subst h0
    have e : x = z := by rw [hx] at hz; exact Option.some.inj hz
    subst e
    exact queueSwapSame' B _ 0 0 b v l x w ho hx rfl hb
  · exact queueSwap' B _ 0 n 0 b v l x z w ho hx hz (fun h => h0 h.symm) rfl hb
/-- What Pop leaves. -/
def PopPost (w : World) (B qb : Nat) (l : List It) (x : It) (e : Ending) (w' : World) : Prop := e = .returned x.boxed ∧ ∃ qv l', Qu w' B qb qv l' ∧ (l' ++ [x]).Perm l ∧ HeapOK l' ∧ KeptT B QT w w'
set_option maxHeartbeats 4000000 in
set_option maxRecDepth 100000 in
/-- container/heap.Pop. -/
theorem heapPop (B qb : Nat) (qv : Value) (l : List It) (x : It) (w : World) (hq : Qu w B qb qv l) (hm : l.length ≤ 1000000) (hx : l[0]? = some x) (hok : HeapOK l) :
    Calls Tryz.prog 108 #[.iface 160 (.pointer (some ⟨qb, 0, none⟩))] w (PopPost w B qb l x) := by
  have hl0 := (List.getElem?_eq_some_iff.1 hx).1
  obtain ⟨n, hn⟩ : ∃ n, l.length = n + 1 := ⟨l.length - 1, by omega⟩
  obtain ⟨z, hz⟩ : ∃ z, l[n]? = some z := ⟨_, List.getElem?_eq_getElem (by omega)⟩
  have hc0 := hq.cell
  have hml := mLen qb qv w hc0
  have HQ := Lib.hid (show _ ∧ _ ∧ _ ∧ _ ∧ _ from ⟨hq, hx, hok, hn, hz⟩)
  have hnm : n < 1000000 := by omega
  have hms := mSwap qb qv w hc0
  clear hq hx hok hl0 hm hn hz
  go_enter Tryz.func108, Tryz.ntmps108
  go_wp2_with fail
  refine (HQ.out.1.len w).mono ?_
  rintro e w' ⟨rfl, hw'⟩
  subst hw'
  rw [HQ.out.2.2.2.1]
  go_wp2_with fail
  refine (queueSwapEnds B n _ qv l x z _ (by rw [← HQ.out.2.2.2.1]; exact HQ.out.1.own) HQ.out.2.1 HQ.out.2.2.2.2 (by simp)).mono ?_
  rintro e w1 ⟨rfl, ho1, hg1⟩
  have h1 := HQ.out.1.swap (by rw [HQ.out.2.2.2.1]; exact ho1) hg1 (swapL_length _ _ _ _ _)
  have H1 := Lib.hid h1
  clear ho1 hg1 h1 hml hms hc0
  go_wp2_with fail
  refine (heapDown B qb n qv (swapL l 0 n x z) w1 H1.out.1 (by rw [swapL_length, HQ.out.2.2.2.1]; omega) (by rw [swapL_length, HQ.out.2.2.2.1]; omega) (DownInv.start HQ.out.2.2.1 HQ.out.2.2.2.1.symm HQ.out.2.1 HQ.out.2.2.2.2)).mono ?_
  rintro e w2 ⟨b, v2, k2, rfl, hq2, hp2, hh2, hlast, hk2⟩
  have hlen2 : k2.length = n + 1 := by rw [hp2.length_eq, swapL_length, HQ.out.2.2.2.1]
  have hx2 : k2[n]? = some x := by
    rw [hlast, swapL_get (by rw [HQ.out.2.2.2.1]; omega) (by rw [HQ.out.2.2.2.1]; omega), if_pos rfl]
  have hsplit : k2 = k2.take n ++ [x] := by
    obtain ⟨h1, h2⟩ := List.getElem?_eq_some_iff.1 hx2
    have h3 := List.take_succ_eq_append_getElem h1
    rw [List.take_of_length_le (by omega), h2] at h3
    exact h3
  have hperm : (k2.take n ++ [x]).Perm l := by rw [← hsplit]; exact hp2.trans (swapL_perm HQ.out.2.1 HQ.out.2.2.2.2)
  have hq3 := hq2
  rw [hsplit] at hq3
  have htl : (k2.take n).length = n := by rw [List.length_take]; omega
  have H2 := Lib.hid (show _ ∧ _ ∧ _ ∧ _ from ⟨hq3, hperm, hh2.take, H1.out.2.trans hk2⟩)
  have hmp := mPop ⟨qb, 0, none⟩ w2
  clear hq2 hp2 hh2 hlast hk2 hlen2 hx2 hsplit hperm hq3
  go_wp2_with fail
  refine (queuePop B qb v2 (k2.take n) x w2 H2.out.1 (by omega)).mono ?_
  rintro e w3 ⟨rfl, v3, hq4, hk4⟩
  have H3 := Lib.hid (show _ ∧ _ from ⟨hq4, H2.out.2.2.2.trans hk4⟩)
  clear hq4 hk4 hmp htl
  go_wp2
  go_ret
  exact ⟨rfl, v3, _, H3.out.1, H2.out.2.1, H2.out.2.2.1, H3.out.2⟩
end Go.Proofs.YtihidnmpngeohaaGreat
