/- container/heap over the queue of merge.Samples: up and Push. -/
import Derived.Test.YtglafbfbgjihbaaGreatHeapLaw
import Derived.Deep.RegionWith
namespace Go.Proofs.YtglafbfbgjihbaaGreat
open Go.RowKit Go.Lib

theorem wrap_ok (xt : TypeId) (a : Addr) (s m : ByteArray) (w : World) : (Builtin.ssaWrapNilChk_ #[xt] xt #[.pointer (some a), .string s, .string m]).run Tryz.prog w = .ok (.pointer (some a)) w := rfl
set_option maxRecDepth 100000 in
/-- A value method called on the queue's pointer: the receiver is what the variable holds. -/
theorem value_method (name : String) (f : FuncId) (h : ((Tryz.prog.info? 169).bind fun i => i.methods.find? (·.name == name)).map (fun m => (m.path.toList, m.func)) = some ([], some (f, false))) (n b : Nat) (qv : Value) (w : World) (hc : w.cell? ⟨b, 0, none⟩ = some qv) :
    (method (n + 1) 169 (.pointer (some ⟨b, 0, none⟩)) name).run Tryz.prog w = .ok (f, qv) w := by
  cases hi : Tryz.prog.info? 169 with
  | none => rw [hi] at h; cases h
  | some i =>
    rw [hi] at h
    simp only [Option.bind_some] at h
    obtain ⟨m, hm, he⟩ := Option.map_eq_some_iff.1 h
    injection he with hp hf
    have hp' : m.path = #[] := by cases hpp : m.path; simp_all
    have u1 : Tryz.prog.underlying 169 = some (.pointer 171) := Tryz.underlying169
    have i1 : ∀ w, (isAgg 171).run Tryz.prog w = .ok false w := by intro w; kernel_rfl
    simp [method, typeInfo, hi, hm, hp', hf, follow, receiverAt, run_underlying u1, Place.get, go_sem, wrap_ok, loadVar, hc, strVal, i1]
set_option maxRecDepth 100000 in
theorem mLen (b : Nat) (qv : Value) (w : World) (h : w.cell? ⟨b, 0, none⟩ = some qv) : (method 429 169 (.pointer (some ⟨b, 0, none⟩)) "Len").run Tryz.prog w = .ok (121, qv) w := value_method "Len" _ (by kernel_rfl) 428 b qv w h
set_option maxRecDepth 100000 in
theorem mLess (b : Nat) (qv : Value) (w : World) (h : w.cell? ⟨b, 0, none⟩ = some qv) : (method 429 169 (.pointer (some ⟨b, 0, none⟩)) "Less").run Tryz.prog w = .ok (220, qv) w := value_method "Less" _ (by kernel_rfl) 428 b qv w h
set_option maxRecDepth 100000 in
theorem mSwap (b : Nat) (qv : Value) (w : World) (h : w.cell? ⟨b, 0, none⟩ = some qv) : (method 429 169 (.pointer (some ⟨b, 0, none⟩)) "Swap").run Tryz.prog w = .ok (223, qv) w := value_method "Swap" _ (by kernel_rfl) 428 b qv w h
theorem mPush (a : Addr) (w : World) : (method 429 169 (.pointer (some a)) "Push").run Tryz.prog w = .ok (222, .pointer (some a)) w := by kernel_rfl
theorem mPop (a : Addr) (w : World) : (method 429 169 (.pointer (some a)) "Pop").run Tryz.prog w = .ok (221, .pointer (some a)) w := by kernel_rfl
theorem queueLess' (B n i j : Nat) (a b : Int) (v : Value) (l : List It) (x y : It) (w : World) (ho : w.ownsRow B 181 4 v n (l.flatMap It.cells)) (hi : l[i]? = some x) (hj : l[j]? = some y) (ha : a = (i : Int)) (hb : b = (j : Int)) :
    Calls Tryz.prog 220 #[v, .int .i64 a, .int .i64 b] w fun e w' => e = .returned (.bool (itLess x y)) ∧ ∃ q, w' = w.drewN q := by
  have hl := owns_len ho It.len (by omega)
  obtain ⟨g, c, rfl, _, _⟩ := ho.form (by have := (List.getElem?_eq_some_iff.1 hi).1; omega)
  subst ha hb
  exact queueLess B g n c i j l x y w ho hi hj
def SwapPost' (w : World) (B n : Nat) (v : Value) (l : List It) (e : Ending) (w' : World) : Prop := e = .returned (.tuple #[]) ∧ w'.ownsRow B 181 4 v n (l.flatMap It.cells) ∧ w.grownBy w' v.ownBlock
theorem queueSwap' (B n i j : Nat) (a b : Int) (v : Value) (l : List It) (x y : It) (w : World) (ho : w.ownsRow B 181 4 v n (l.flatMap It.cells)) (hi : l[i]? = some x) (hj : l[j]? = some y) (hij : i ≠ j) (ha : a = (i : Int)) (hb : b = (j : Int)) :
    Calls Tryz.prog 223 #[v, .int .i64 a, .int .i64 b] w (SwapPost' w B n v (swapL l i j x y)) := by
  have hl := owns_len ho It.len (by omega)
  obtain ⟨g, c, rfl, _, _⟩ := ho.form (by have := (List.getElem?_eq_some_iff.1 hi).1; omega)
  subst ha hb
  exact queueSwap B g n c i j l x y w ho hi hj hij
theorem queueSwapSame' (B n i : Nat) (a b : Int) (v : Value) (l : List It) (x : It) (w : World) (ho : w.ownsRow B 181 4 v n (l.flatMap It.cells)) (hi : l[i]? = some x) (ha : a = (i : Int)) (hb : b = (i : Int)) :
    Calls Tryz.prog 223 #[v, .int .i64 a, .int .i64 b] w (SwapPost' w B n v (swapL l i i x x)) := by
  have hl := owns_len ho It.len (by omega)
  obtain ⟨g, c, rfl, _, _⟩ := ho.form (by have := (List.getElem?_eq_some_iff.1 hi).1; omega)
  subst ha hb
  exact queueSwapSame B g n c i l x w ho hi
/-- Items change places. -/
theorem Qu.swap {w w' : World} {B qb : Nat} {v : Value} {l l' : List It} (h : Qu w B qb v l) (ho : w'.ownsRow B 181 4 v l.length (l'.flatMap It.cells)) (hg : w.grownBy w' v.ownBlock) (hl : l'.length = l.length) : Qu w' B qb v l' ∧ KeptT B QT w w' :=
  ⟨⟨(hg.block qb h.lt (fun e => h.ne e.symm)).trans h.var, by rw [hl]; exact ho, h.base⟩, KeptT.of_grownBy hg fun k hk => ⟨(h.own.lt k hk).1, fun cs t fz e => .inr (h.type hk cs t fz e)⟩⟩
/-- What a function over the heap leaves: the queue holds the same items in another order. -/
def UpPost (w : World) (B qb : Nat) (l : List It) (e : Ending) (w' : World) : Prop := e = .returned (.tuple #[]) ∧ ∃ qv l', Qu w' B qb qv l' ∧ l'.Perm l ∧ HeapOK l' ∧ KeptT B QT w w'
set_option maxHeartbeats 4000000 in
set_option maxRecDepth 100000 in
theorem heapUp (B qb : Nat) (qv : Value) (l : List It) (j : Nat) (w : World) (hq : Qu w B qb qv l) (hm : l.length ≤ 1000000) (hj : j < l.length) (hu : UpInv l j) :
    Calls Tryz.prog 150 #[.iface 169 (.pointer (some ⟨qb, 0, none⟩)), .int .i64 j] w (UpPost w B qb l) := by
  have HQ := Lib.hid (show _ ∧ _ from ⟨hq, hu⟩)
  clear hq hu
  go_enter Tryz.func150, Tryz.ntmps150
  go_wp2_with fail
  go_loopw [1] (fun s wr => ∃ (i : Nat) (v : Value) (k : List It), s = .int .i64 i ∧ i < k.length ∧ k.length ≤ 1000000 ∧ Hid (Qu wr B qb v k ∧ UpInv k i ∧ k.Perm l ∧ KeptT B QT w wr)) (fun s _ => (intOf s).toNat)
  case atStart => exact ⟨j, qv, l, rfl, hj, hm, Lib.hid ⟨HQ.out.1, HQ.out.2, List.Perm.refl _, KeptT.refl _ _ _⟩⟩
  case round =>
    obtain ⟨i, v, k, rfl, hik, hkm, HR⟩ := hrel
    have hcell := HR.out.1.cell
    by_cases h0 : i = 0
    · subst h0
      clear hcell
      go_wp2_with fail
      go_end0
      exact ⟨rfl, v, k, HR.out.1, HR.out.2.2.1, HR.out.2.1.zero, HR.out.2.2.2⟩
    · obtain ⟨q, rfl⟩ : ∃ q, i = q + 1 := ⟨i - 1, by omega⟩
      obtain ⟨x, hx⟩ : ∃ x, k[q + 1]? = some x := ⟨_, List.getElem?_eq_getElem hik⟩
      obtain ⟨y, hy⟩ : ∃ y, k[q / 2]? = some y := ⟨_, List.getElem?_eq_getElem (by omega)⟩
      have hml := mLess qb v wr hcell
      have hne : ((q : Int) / 2 == (q : Int) + 1) = false := beq_eq_false_iff_ne.2 (by omega)
      have HX := Lib.hid (show _ ∧ _ from ⟨hx, hy⟩)
      clear hx hy h0
      go_wp2_with fail
      refine (queueLess' B k.length (q + 1) (q / 2) _ _ v k x y wr HR.out.1.own HX.out.1 HX.out.2 (by simp) (by simp)).mono ?_
      rintro e w' ⟨rfl, z, rfl⟩
      have hc2 : (wr.drewN z).cell? ⟨qb, 0, none⟩ = some v := hcell
      have HQ2 : Hid (Qu (wr.drewN z) B qb v k ∧ KeptT B QT w (wr.drewN z)) := Lib.hid ⟨HR.out.1.drewN z, HR.out.2.2.2.drewN z⟩
      generalize wr.drewN z = wz at hc2 HQ2 ⊢
      clear hml hcell
      cases hle : itLess x y with
      | false =>
        have HLE := Lib.hid hle
        clear hle
        go_wp2_with fail
        go_end0
        exact ⟨rfl, v, k, HQ2.out.1, HR.out.2.2.1, HR.out.2.1.stay HX.out.1 HX.out.2 HLE.out, HQ2.out.2⟩
      | true =>
        have HLE := Lib.hid hle
        have hms := mSwap qb v wz hc2
        clear hle
        go_wp2_with fail
        refine (queueSwap' B k.length (q / 2) (q + 1) _ _ v k y x wz HQ2.out.1.own HX.out.2 HX.out.1 (by omega) (by simp) (by simp)).mono ?_
        rintro e w5 ⟨rfl, ho5, hg5⟩
        have h5 := HQ2.out.1.swap ho5 hg5 (swapL_length _ _ _ _ _)
        have h6 := HR.out.2.1.step (by omega) HX.out.1 HX.out.2 HLE.out
        have H5 := Lib.hid (show _ ∧ _ ∧ _ ∧ _ from ⟨h5.1, h6, (swapL_perm HX.out.2 HX.out.1).trans HR.out.2.2.1, HQ2.out.2.trans h5.2⟩)
        have hkl : (swapL k (q / 2) (q + 1) y x).length = k.length := swapL_length _ _ _ _ _
        clear hms hc2 ho5 hg5 h5 h6
        go_wp2_with fail
        go_roundw
        case measure => simp [intOf]; omega
        case rel => exact ⟨q / 2, v, _, by simp, by omega, by omega, H5⟩
theorem queueLen (v : Value) (A : Option Addr) (n c : Nat) (hv : v = .slice A n c) (w : World) : Calls Tryz.prog 121 #[v] w fun e w' => e = .returned (.int .i64 n) ∧ w' = w := by
  subst hv
  go_enter Tryz.func121, Tryz.ntmps121
  go_wp2
  go_ret
  exact ⟨rfl, rfl⟩
theorem Qu.len {w : World} {B qb : Nat} {v : Value} {l : List It} (h : Qu w B qb v l) (W : World) : Calls Tryz.prog 121 #[v] W fun e w' => e = .returned (.int .i64 l.length) ∧ w' = W := by
  obtain ⟨A, c, hv, _, _⟩ := owns_slice h.own
  exact queueLen v A _ c hv W
set_option maxHeartbeats 4000000 in
set_option maxRecDepth 100000 in
/-- container/heap.Push. -/
theorem heapPush (B qb : Nat) (qv : Value) (l : List It) (x : It) (w : World) (hq : Qu w B qb qv l) (hm : l.length < 1000000) (hB : B ≤ w.heap.size) (hok : HeapOK l) :
    Calls Tryz.prog 120 #[.iface 169 (.pointer (some ⟨qb, 0, none⟩)), x.boxed] w (UpPost w B qb (l ++ [x])) := by
  have HC := Lib.hid (queuePush B qb qv l x w hq (by omega) hB)
  have HK := Lib.hid hok
  have hmp := mPush ⟨qb, 0, none⟩ w
  clear hq hok
  unfold It.boxed
  go_enter Tryz.func120, Tryz.ntmps120
  go_wp2_with fail
  refine HC.out.mono ?_
  rintro e w1 ⟨rfl, v1, hq1, hk1⟩
  have hc1 := hq1.cell
  have hml := mLen qb v1 w1 hc1
  have H1 := Lib.hid (show _ ∧ _ from ⟨hq1, hk1⟩)
  clear hq1 hk1 hmp hc1
  go_wp2_with fail
  refine (H1.out.1.len w1).mono ?_
  rintro e w' ⟨rfl, rfl⟩
  have hlen : (l ++ [x]).length = l.length + 1 := by simp
  rw [hlen]
  clear hml
  go_wp2_with fail
  refine (heapUp B qb v1 (l ++ [x]) l.length _ H1.out.1 (by rw [hlen]; omega) (by omega) (UpInv.push HK.out x)).mono ?_
  rintro e w3 ⟨rfl, v3, l3, hq3, hp3, ho3, hk3⟩
  have H3 := Lib.hid (show _ ∧ _ ∧ _ ∧ _ from ⟨hq3, hp3, ho3, H1.out.2.trans hk3⟩)
  clear hq3 hp3 ho3 hk3 hlen
  go_wp2
  go_end0
  exact ⟨rfl, v3, l3, H3.out⟩
end Go.Proofs.YtglafbfbgjihbaaGreat
