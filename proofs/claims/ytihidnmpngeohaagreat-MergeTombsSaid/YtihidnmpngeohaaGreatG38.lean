/- Plain laws of the binary heap of items: a step up, a step down. No program. container/heap over the queue of merge.Samples: up and Push. -/
import Derived.Test.YtihidnmpngeohaaGreatQueue
import Derived.Deep.RegionWith
namespace Go.Proofs.YtihidnmpngeohaaGreat

theorem less_irrefl (x : It) : itLess x x = false := by simp [itLess]
theorem less_asymm {x y : It} (h : itLess x y = true) : itLess y x = false := by
  simp only [itLess, decide_eq_true_eq, decide_eq_false_iff_not] at *; omega
theorem less_trans {x y z : It} (h : itLess x y = true) (g : itLess y z = true) : itLess x z = true := by
  simp only [itLess, decide_eq_true_eq] at *; omega
theorem nless_trans {x y z : It} (h : itLess x y = false) (g : itLess y z = false) : itLess x z = false := by
  simp only [itLess, decide_eq_false_iff_not] at *; omega
theorem nless_less {x y z : It} (h : itLess z y = false) (g : itLess x y = true) : itLess z x = false := by
  simp only [itLess, decide_eq_false_iff_not, decide_eq_true_eq] at *; omega
theorem swapL_get {l : List It} {i j : Nat} {x y : It} (hi : i < l.length) (hj : j < l.length) (k : Nat) : (swapL l i j x y)[k]? = if k = j then some x else if k = i then some y else l[k]? := by
  unfold swapL
  rw [List.getElem?_set, List.getElem?_set]
  by_cases h1 : j = k
  · subst h1; simp [hj]
  · rw [if_neg h1, if_neg (show ¬ k = j from fun h => h1 h.symm)]
    by_cases h2 : i = k
    · subst h2; simp [hi]
    · rw [if_neg h2, if_neg (show ¬ k = i from fun h => h2 h.symm)]
theorem swapL_length (l : List It) (i j : Nat) (x y : It) : (swapL l i j x y).length = l.length := by simp [swapL]
theorem swapL_perm {l : List It} {i j : Nat} {x y : It} (hi : l[i]? = some x) (hj : l[j]? = some y) : (swapL l i j x y).Perm l := by
  obtain ⟨h1, e1⟩ := List.getElem?_eq_some_iff.1 hi
  obtain ⟨h2, e2⟩ := List.getElem?_eq_some_iff.1 hj
  unfold swapL
  rw [← e1, ← e2]
  exact List.set_set_perm h1 h2
/-- Each but place j is not below its parent. -/
def HeapAt (l : List It) (j : Nat) : Prop := ∀ i x y, 1 ≤ i → i ≠ j → l[i]? = some x → l[(i - 1) / 2]? = some y → itLess x y = false
def HeapOK (l : List It) : Prop := ∀ i x y, 1 ≤ i → l[i]? = some x → l[(i - 1) / 2]? = some y → itLess x y = false
/-- While one goes up: it may lie wrong at j alone, and j's children aren't below j's parent. -/
def UpInv (l : List It) (j : Nat) : Prop := HeapAt l j ∧ ∀ i x y, 1 ≤ i → (i - 1) / 2 = j → 1 ≤ j → l[i]? = some x → l[(j - 1) / 2]? = some y → itLess x y = false
theorem UpInv.zero {l : List It} (h : UpInv l 0) : HeapOK l := fun i x y hi hx hy => h.1 i x y hi (by omega) hx hy
theorem UpInv.stay {l : List It} {j : Nat} {x y : It} (h : UpInv l j) (hx : l[j]? = some x) (hy : l[(j - 1) / 2]? = some y) (hl : itLess x y = false) : HeapOK l := fun i a b hi ha hb => by
  by_cases e : i = j
  · subst e
    rw [hx] at ha; rw [hy] at hb
    injection ha with ha; injection hb with hb
    rw [← ha, ← hb]; exact hl
  · exact h.1 i a b hi e ha hb
theorem UpInv.step {l : List It} {j : Nat} {x y : It} (h : UpInv l j) (hj : 1 ≤ j) (hx : l[j]? = some x) (hy : l[(j - 1) / 2]? = some y) (hl : itLess x y = true) : UpInv (swapL l ((j - 1) / 2) j y x) ((j - 1) / 2) := by
  have hjl := (List.getElem?_eq_some_iff.1 hx).1
  have hpl := (List.getElem?_eq_some_iff.1 hy).1
  obtain ⟨p, hp⟩ : ∃ p, (j - 1) / 2 = p := ⟨_, rfl⟩
  have hpj : p < j := by omega
  rw [hp] at hy hpl ⊢
  have G := fun k => swapL_get (x := y) (y := x) hpl hjl k
  constructor
  · intro i a b hi hip ha hb
    rw [G] at ha hb
    rw [if_neg hip] at ha
    by_cases hij : i = j
    · rw [if_pos hij] at ha
      rw [if_neg (by omega), if_pos (by rw [hij]; exact hp)] at hb
      injection ha with ha; injection hb with hb
      rw [← ha, ← hb]; exact less_asymm hl
    · rw [if_neg hij] at ha
      by_cases h1 : (i - 1) / 2 = j
      · rw [if_pos h1] at hb
        injection hb with hb
        rw [← hb]
        exact h.2 i a y hi h1 hj ha (by rw [hp]; exact hy)
      · rw [if_neg h1] at hb
        by_cases h2 : (i - 1) / 2 = p
        · rw [if_pos h2] at hb
          injection hb with hb
          rw [← hb]
          exact nless_less (h.1 i a y hi hij ha (by rw [h2]; exact hy)) hl
        · rw [if_neg h2] at hb
          exact h.1 i a b hi hij ha hb
  · intro i a b hi hip hp1 ha hb
    rw [G] at ha hb
    rw [if_neg (by omega), if_neg (by omega)] at hb
    have hyb := h.1 p y b hp1 (by omega) hy hb
    by_cases hij : i = j
    · rw [if_pos hij] at ha
      injection ha with ha
      rw [← ha]; exact hyb
    · rw [if_neg hij, if_neg (by omega)] at ha
      exact nless_trans (h.1 i a y hi hij ha (by rw [hip]; exact hy)) hyb
theorem UpInv.push {l : List It} (h : HeapOK l) (x : It) : UpInv (l ++ [x]) l.length := by
  have hget : ∀ k a, k ≠ l.length → (l ++ [x])[k]? = some a → l[k]? = some a := fun k a hk ha => by
    have := (List.getElem?_eq_some_iff.1 ha).1
    rw [List.length_append, List.length_singleton] at this
    rwa [List.getElem?_append_left (by omega)] at ha
  constructor
  · intro i a b hi hne ha hb
    have h1 := hget i a hne ha
    have h2 := (List.getElem?_eq_some_iff.1 h1).1
    exact h i a b hi h1 (hget _ b (by omega) hb)
  · intro i a b hi he hj ha hb
    have := (List.getElem?_eq_some_iff.1 ha).1
    rw [List.length_append, List.length_singleton] at this
    omega
/-- The top is below none. -/
theorem HeapOK.top {l : List It} (h : HeapOK l) {x : It} (h0 : l[0]? = some x) : ∀ (i : Nat) y, l[i]? = some y → itLess y x = false := by
  intro i
  induction i using Nat.strongRecOn with
  | ind i ih =>
    intro y hy
    by_cases hi : i = 0
    · subst hi
      rw [h0] at hy; injection hy with hy
      rw [hy]; exact less_irrefl _
    · have hlt := (List.getElem?_eq_some_iff.1 hy).1
      have hp : l[(i - 1) / 2]? = some (l[(i - 1) / 2]'(by omega)) := List.getElem?_eq_getElem (by omega)
      exact nless_trans (h i y _ (by omega) hy hp) (ih _ (by omega) _ hp)
/-- Of the first n each is not below its parent. -/
def HeapTo (l : List It) (n : Nat) : Prop := ∀ (c : Nat) x y, 1 ≤ c → c < n → l[c]? = some x → l[(c - 1) / 2]? = some y → itLess x y = false
/-- While one goes down: it may lie wrong at i's children alone, and these aren't below i's parent. -/
def DownInv (l : List It) (n i : Nat) : Prop := (∀ (c : Nat) x y, 1 ≤ c → c < n → (c - 1) / 2 ≠ i → l[c]? = some x → l[(c - 1) / 2]? = some y → itLess x y = false) ∧
  ∀ (c : Nat) x y, 1 ≤ c → c < n → (c - 1) / 2 = i → 1 ≤ i → l[c]? = some x → l[(i - 1) / 2]? = some y → itLess x y = false
theorem HeapTo.take {l : List It} {n : Nat} (h : HeapTo l n) : HeapOK (l.take n) := fun c x y hc hx hy => by
  have h1 := (List.getElem?_eq_some_iff.1 hx).1
  rw [List.length_take] at h1
  rw [List.getElem?_take_of_lt (by omega)] at hx hy
  exact h c x y hc (by omega) hx hy
theorem DownInv.none {l : List It} {n i : Nat} (h : DownInv l n i) (hn : n ≤ 2 * i + 1) : HeapTo l n := fun c x y hc hcn hx hy => h.1 c x y hc hcn (by omega) hx hy
/-- j is i's least child. -/
def Least (l : List It) (n i j : Nat) : Prop := (j - 1) / 2 = i ∧ 1 ≤ j ∧ j < n ∧ ∀ (c : Nat) x y, 1 ≤ c → c < n → (c - 1) / 2 = i → l[c]? = some x → l[j]? = some y → itLess x y = false
theorem DownInv.stay {l : List It} {n i j : Nat} {x y : It} (h : DownInv l n i) (hL : Least l n i j) (hy : l[j]? = some y) (hx : l[i]? = some x) (hl : itLess y x = false) : HeapTo l n := fun c a b hc hcn ha hb => by
  by_cases e : (c - 1) / 2 = i
  · rw [e, hx] at hb
    injection hb with hb
    rw [← hb]
    exact nless_trans (hL.2.2.2 c a y hc hcn e ha hy) hl
  · exact h.1 c a b hc hcn e ha hb
theorem DownInv.step {l : List It} {n i j : Nat} {x y : It} (h : DownInv l n i) (hL : Least l n i j) (hx : l[i]? = some x) (hy : l[j]? = some y) (hl : itLess y x = true) : DownInv (swapL l i j x y) n j := by
  have hil := (List.getElem?_eq_some_iff.1 hx).1
  have hjl := (List.getElem?_eq_some_iff.1 hy).1
  obtain ⟨hp, hj1, hjn, hmin⟩ := hL
  have hij : i < j := by omega
  have G := fun k => swapL_get (x := x) (y := y) hil hjl k
  constructor
  · intro c a b hc hcn hcj ha hb
    rw [G] at ha hb
    rw [if_neg hcj] at hb
    by_cases e1 : c = j
    · rw [if_pos e1] at ha
      rw [if_pos (by rw [e1]; exact hp)] at hb
      injection ha with ha; injection hb with hb
      rw [← ha, ← hb]; exact less_asymm hl
    · rw [if_neg e1] at ha
      by_cases e2 : (c - 1) / 2 = i
      · rw [if_pos e2] at hb
        rw [if_neg (by omega)] at ha
        injection hb with hb
        rw [← hb]
        exact hmin c a y hc hcn e2 ha hy
      · rw [if_neg e2] at hb
        by_cases e3 : c = i
        · rw [if_pos e3] at ha
          injection ha with ha
          rw [← ha]
          exact h.2 j y b hj1 hjn hp (by omega) hy (by rw [← e3]; exact hb)
        · rw [if_neg e3] at ha
          exact h.1 c a b hc hcn e2 ha hb
  · intro c a b hc hcn hcj hj ha hb
    rw [G] at ha hb
    rw [if_neg (by omega), if_neg (by omega)] at ha
    rw [hp, if_neg (by omega), if_pos rfl] at hb
    injection hb with hb
    rw [← hb]
    exact h.1 c a y hc hcn (by omega) ha (by rw [hcj]; exact hy)
/-- The last one has been laid on top. -/
theorem DownInv.start {l : List It} (h : HeapOK l) {n : Nat} (hn : n + 1 = l.length) {x z : It} (hx : l[0]? = some x) (hz : l[n]? = some z) : DownInv (swapL l 0 n x z) n 0 := by
  have h0l := (List.getElem?_eq_some_iff.1 hx).1
  have hnl := (List.getElem?_eq_some_iff.1 hz).1
  have G := fun k => swapL_get (x := x) (y := z) h0l hnl k
  constructor
  · intro c a b hc hcn h1 ha hb
    rw [G] at ha hb
    rw [if_neg (by omega), if_neg (by omega)] at ha
    rw [if_neg (by omega), if_neg (by omega)] at hb
    exact h c a b hc ha hb
  · intro c a b hc hcn h1 h2
    omega
end Go.Proofs.YtihidnmpngeohaaGreat
namespace Go.Proofs.YtihidnmpngeohaaGreat
open Go.RowKit Go.Lib

theorem wrap_ok (xt : TypeId) (a : Addr) (s m : ByteArray) (w : World) : (Builtin.ssaWrapNilChk_ #[xt] xt #[.pointer (some a), .string s, .string m]).run Tryz.prog w = .ok (.pointer (some a)) w := rfl
set_option maxRecDepth 100000 in
/-- A value method called on the queue's pointer: the receiver is what the variable holds. -/
theorem value_method (name : String) (f : FuncId) (h : ((Tryz.prog.info? 160).bind fun i => i.methods.find? (·.name == name)).map (fun m => (m.path.toList, m.func)) = some ([], some (f, false))) (n b : Nat) (qv : Value) (w : World) (hc : w.cell? ⟨b, 0, none⟩ = some qv) :
    (method (n + 1) 160 (.pointer (some ⟨b, 0, none⟩)) name).run Tryz.prog w = .ok (f, qv) w := by
  cases hi : Tryz.prog.info? 160 with
  | none => rw [hi] at h; cases h
  | some i =>
    rw [hi] at h
    simp only [Option.bind_some] at h
    obtain ⟨m, hm, he⟩ := Option.map_eq_some_iff.1 h
    injection he with hp hf
    have hp' : m.path = #[] := by cases hpp : m.path; simp_all
    have u1 : Tryz.prog.underlying 160 = some (.pointer 162) := Tryz.underlying160
    have i1 : ∀ w, (isAgg 162).run Tryz.prog w = .ok false w := by intro w; kernel_rfl
    simp [method, typeInfo, hi, hm, hp', hf, follow, receiverAt, run_underlying u1, Place.get, go_sem, wrap_ok, loadVar, hc, strVal, i1]
set_option maxRecDepth 100000 in
theorem mLen (b : Nat) (qv : Value) (w : World) (h : w.cell? ⟨b, 0, none⟩ = some qv) : (method 426 160 (.pointer (some ⟨b, 0, none⟩)) "Len").run Tryz.prog w = .ok (107, qv) w := value_method "Len" _ (by kernel_rfl) 425 b qv w h
set_option maxRecDepth 100000 in
theorem mLess (b : Nat) (qv : Value) (w : World) (h : w.cell? ⟨b, 0, none⟩ = some qv) : (method 426 160 (.pointer (some ⟨b, 0, none⟩)) "Less").run Tryz.prog w = .ok (212, qv) w := value_method "Less" _ (by kernel_rfl) 425 b qv w h
set_option maxRecDepth 100000 in
theorem mSwap (b : Nat) (qv : Value) (w : World) (h : w.cell? ⟨b, 0, none⟩ = some qv) : (method 426 160 (.pointer (some ⟨b, 0, none⟩)) "Swap").run Tryz.prog w = .ok (215, qv) w := value_method "Swap" _ (by kernel_rfl) 425 b qv w h
theorem mPush (a : Addr) (w : World) : (method 426 160 (.pointer (some a)) "Push").run Tryz.prog w = .ok (214, .pointer (some a)) w := by kernel_rfl
theorem mPop (a : Addr) (w : World) : (method 426 160 (.pointer (some a)) "Pop").run Tryz.prog w = .ok (213, .pointer (some a)) w := by kernel_rfl
theorem queueLess' (B n i j : Nat) (a b : Int) (v : Value) (l : List It) (x y : It) (w : World) (ho : w.ownsRow B 172 4 v n (l.flatMap It.cells)) (hi : l[i]? = some x) (hj : l[j]? = some y) (ha : a = (i : Int)) (hb : b = (j : Int)) :
    Calls Tryz.prog 212 #[v, .int .i64 a, .int .i64 b] w fun e w' => e = .returned (.bool (itLess x y)) ∧ ∃ q, w' = w.drewN q := by
  have hl := owns_len ho It.len (by omega)
  obtain ⟨g, c, rfl, _, _⟩ := ho.form (by have := (List.getElem?_eq_some_iff.1 hi).1; omega)
  subst ha hb
  exact queueLess B g n c i j l x y w ho hi hj
def SwapPost' (w : World) (B n : Nat) (v : Value) (l : List It) (e : Ending) (w' : World) : Prop := e = .returned (.tuple #[]) ∧ w'.ownsRow B 172 4 v n (l.flatMap It.cells) ∧ w.grownBy w' v.ownBlock
theorem queueSwap' (B n i j : Nat) (a b : Int) (v : Value) (l : List It) (x y : It) (w : World) (ho : w.ownsRow B 172 4 v n (l.flatMap It.cells)) (hi : l[i]? = some x) (hj : l[j]? = some y) (hij : i ≠ j) (ha : a = (i : Int)) (hb : b = (j : Int)) :
    Calls Tryz.prog 215 #[v, .int .i64 a, .int .i64 b] w (SwapPost' w B n v (swapL l i j x y)) := by
  have hl := owns_len ho It.len (by omega)
  obtain ⟨g, c, rfl, _, _⟩ := ho.form (by have := (List.getElem?_eq_some_iff.1 hi).1; omega)
  subst ha hb
  exact queueSwap B g n c i j l x y w ho hi hj hij
theorem queueSwapSame' (B n i : Nat) (a b : Int) (v : Value) (l : List It) (x : It) (w : World) (ho : w.ownsRow B 172 4 v n (l.flatMap It.cells)) (hi : l[i]? = some x) (ha : a = (i : Int)) (hb : b = (i : Int)) :
    Calls Tryz.prog 215 #[v, .int .i64 a, .int .i64 b] w (SwapPost' w B n v (swapL l i i x x)) := by
  have hl := owns_len ho It.len (by omega)
  obtain ⟨g, c, rfl, _, _⟩ := ho.form (by have := (List.getElem?_eq_some_iff.1 hi).1; omega)
  subst ha hb
  exact queueSwapSame B g n c i l x w ho hi
/-- Items change places. -/
theorem Qu.swap {w w' : World} {B qb : Nat} {v : Value} {l l' : List It} (h : Qu w B qb v l) (ho : w'.ownsRow B 172 4 v l.length (l'.flatMap It.cells)) (hg : w.grownBy w' v.ownBlock) (hl : l'.length = l.length) : Qu w' B qb v l' ∧ KeptT B QT w w' :=
  ⟨⟨(hg.block qb h.lt (fun e => h.ne e.symm)).trans h.var, by rw [hl]; exact ho, h.base⟩, KeptT.of_grownBy hg fun k hk => ⟨(h.own.lt k hk).1, fun cs t fz e => .inr (h.type hk cs t fz e)⟩⟩
/-- What a function over the heap leaves: the queue holds the same items in another order. -/
def UpPost (w : World) (B qb : Nat) (l : List It) (e : Ending) (w' : World) : Prop := e = .returned (.tuple #[]) ∧ ∃ qv l', Qu w' B qb qv l' ∧ l'.Perm l ∧ HeapOK l' ∧ KeptT B QT w w'
set_option maxHeartbeats 4000000 in
set_option maxRecDepth 100000 in
theorem heapUp (B qb : Nat) (qv : Value) (l : List It) (j : Nat) (w : World) (hq : Qu w B qb qv l) (hm : l.length ≤ 1000000) (hj : j < l.length) (hu : UpInv l j) :
    Calls Tryz.prog 134 #[.iface 160 (.pointer (some ⟨qb, 0, none⟩)), .int .i64 j] w (UpPost w B qb l) := by
  have HQ := Lib.hid (show _ ∧ _ from ⟨hq, hu⟩)
  clear hq hu
  go_enter Tryz.func134, Tryz.ntmps134
  go_wp2_with fail
  go_loopw [1] (fun s wr => ∃ (i : Nat) (v : Value) (k : List It), s = .int .i64 i ∧ i < k.length ∧ k.length ≤ 1000000 ∧ Hid (Qu wr B qb v k ∧ UpInv k i ∧ k.Perm l ∧ KeptT B QT w wr)) (fun s _ => (intOf s).toNat)
  case atStart => exact ⟨j, qv, l, rfl, hj, hm, Lib.hid ⟨HQ.out.1, HQ.out.2, List.Perm.refl _, KeptT.refl _ _ _⟩⟩
  case round =>
    obtain ⟨i, v, k, rfl, hik, hkm, HR⟩ := hrel
    have hcell := HR.out.1.cell
    by_cases h0 : i = 0
    · subst h0
      clear hcell
      go_wp2_with fail
      go_end0
      exact ⟨rfl, v, k, HR.out.1, HR.out.2.2.1, HR.out.2.1.zero, HR.out.2.2.2⟩
    · obtain ⟨q, rfl⟩ : ∃ q, i = q + 1 := ⟨i - 1, by omega⟩
      obtain ⟨x, hx⟩ : ∃ x, k[q + 1]? = some x := ⟨_, List.getElem?_eq_getElem hik⟩
      obtain ⟨y, hy⟩ : ∃ y, k[q / 2]? = some y := ⟨_, List.getElem?_eq_getElem (by omega)⟩
      have hml := mLess qb v wr hcell
      have hne : ((q : Int) / 2 == (q : Int) + 1) = false := beq_eq_false_iff_ne.2 (by omega)
      have HX := Lib.hid (show _ ∧ _ from ⟨hx, hy⟩)
      clear hx hy h0
      go_wp2_with fail
      refine (queueLess' B k.length (q + 1) (q / 2) _ _ v k x y wr HR.out.1.own HX.out.1 HX.out.2 (by simp) (by simp)).mono ?_
      rintro e w' ⟨rfl, z, rfl⟩
      have hc2 : (wr.drewN z).cell? ⟨qb, 0, none⟩ = some v := hcell
      have HQ2 : Hid (Qu (wr.drewN z) B qb v k ∧ KeptT B QT w (wr.drewN z)) := Lib.hid ⟨HR.out.1.drewN z, HR.out.2.2.2.drewN z⟩
      generalize wr.drewN z = wz at hc2 HQ2 ⊢
      clear hml hcell
      cases hle : itLess x y with
      | false =>
        have HLE := Lib.hid hle
        clear hle
        go_wp2_with fail
        go_end0
        exact ⟨rfl, v, k, HQ2.out.1, HR.out.2.2.1, HR.out.2.1.stay HX.out.1 HX.out.2 HLE.out, HQ2.out.2⟩
      | true =>
        have HLE := Lib.hid hle
        have hms := mSwap qb v wz hc2
        clear hle
        go_wp2_with fail
        refine (queueSwap' B k.length (q / 2) (q + 1) _ _ v k y x wz HQ2.out.1.own HX.out.2 HX.out.1 (by omega) (by simp) (by simp)).mono ?_
        rintro e w5 ⟨rfl, ho5, hg5⟩
        have h5 := HQ2.out.1.swap ho5 hg5 (swapL_length _ _ _ _ _)
        have h6 := HR.out.2.1.step (by omega) HX.out.1 HX.out.2 HLE.out
        have H5 := Lib.hid (show _ ∧ _ ∧ _ ∧ _ from ⟨h5.1, h6, (swapL_perm HX.out.2 HX.out.1).trans HR.out.2.2.1, HQ2.out.2.trans h5.2⟩)
        have hkl : (swapL k (q / 2) (q + 1) y x).length = k.length := swapL_length _ _ _ _ _
        clear hms hc2 ho5 hg5 h5 h6
        go_wp2_with fail
        go_roundw
        case measure => simp [intOf]; omega
        case rel => exact ⟨q / 2, v, _, by simp, by omega, by omega, H5⟩
theorem queueLen (v : Value) (A : Option Addr) (n c : Nat) (hv : v = .slice A n c) (w : World) : Calls Tryz.prog 107 #[v] w fun e w' => e = .returned (.int .i64 n) ∧ w' = w := by
  subst hv
  go_enter Tryz.func107, Tryz.ntmps107
  go_wp2
  go_ret
  exact ⟨rfl, rfl⟩
theorem Qu.len {w : World} {B qb : Nat} {v : Value} {l : List It} (h : Qu w B qb v l) (W : World) : Calls Tryz.prog 107 #[v] W fun e w' => e = .returned (.int .i64 l.length) ∧ w' = W := by
  obtain ⟨A, c, hv, _, _⟩ := owns_slice h.own
  exact queueLen v A _ c hv W
set_option maxHeartbeats 4000000 in
set_option maxRecDepth 100000 in
/-- container/heap.Push. -/
theorem heapPush (B qb : Nat) (qv : Value) (l : List It) (x : It) (w : World) (hq : Qu w B qb qv l) (hm : l.length < 1000000) (hB : B ≤ w.heap.size) (hok : HeapOK l) :
    Calls Tryz.prog 106 #[.iface 160 (.pointer (some ⟨qb, 0, none⟩)), x.boxed] w (UpPost w B qb (l ++ [x])) := by
  have HC := Lib.hid (queuePush B qb qv l x w hq (by omega) hB)
  have HK := Lib.hid hok
  have hmp := mPush ⟨qb, 0, none⟩ w
  clear hq hok
  unfold It.boxed
  go_enter Tryz.func106, Tryz.ntmps106
  go_wp2_with fail
  refine HC.out.mono ?_
  rintro e w1 ⟨rfl, v1, hq1, hk1⟩
  have hc1 := hq1.cell
  have hml := mLen qb v1 w1 hc1
  have H1 := Lib.hid (show _ ∧ _ from ⟨hq1, hk1⟩)
  clear hq1 hk1 hmp hc1
  go_wp2_with fail
  refine (H1.out.1.len w1).mono ?_
  rintro e w' ⟨rfl, rfl⟩
  have hlen : (l ++ [x]).length = l.length + 1 := by simp
  rw [hlen]
  clear hml
  go_wp2_with fail
  refine (heapUp B qb v1 (l ++ [x]) l.length _ H1.out.1 (by rw [hlen]; omega) (by omega) (UpInv.push HK.out x)).mono ?_
  rintro e w3 ⟨rfl, v3, l3, hq3, hp3, ho3, hk3⟩
  have H3 := Lib.hid (show _ ∧ _ ∧ _ ∧ _ from ⟨hq3, hp3, ho3, H1.out.2.trans hk3⟩)
  clear hq3 hp3 ho3 hk3 hlen
  go_wp2
  go_end0
  exact ⟨rfl, v3, l3, H3.out⟩
end Go.Proofs.YtihidnmpngeohaaGreat
