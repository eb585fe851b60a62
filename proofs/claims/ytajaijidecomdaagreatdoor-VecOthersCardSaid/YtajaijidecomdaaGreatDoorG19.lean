/- vec.sets, form, done. Maps from texts to lists of elements: what vec.group leaves. -/
import Derived.Test.YtajaijidecomdaaGreatDoorG14
import Derived.Test.YtajaijidecomdaaGreatDoorG07
import Derived.Maps.RangeWalk
import Derived.Maps.OwnOps
import Derived.StringKeys
namespace Go.Proofs.YtajaijidecomdaaGreatDoor
open Go.RowKit Go.Lib Go.Sort

theorem sets1_any (y : Ev) (W : World) (hy : Eat W W.heap.size y) : Calls Tryz.prog 196 #[.agg #[.slice y.A y.n y.c, .int .u64 y.v.toNat]] W fun e w' => e = .returned (.bool (!decide (checkE y.l = 0))) ∧ Below W.heap.size W w' := by
  have hbx : Below W.heap.size W (W.alloc (.cells #[.slice y.A y.n y.c, .int .u64 y.v.toNat] 90)) := (Below.refl _ _).alloc (Nat.le_refl _) _
  have hch := check_any y.A y.n y.c y.l (W.alloc (.cells #[.slice y.A y.n y.c, .int .u64 y.v.toNat] 90)) ((hy.on hbx).lst) (by have := hy.few; omega)
  obtain ⟨q, hq⟩ : ∃ q, checkE y.l = q := ⟨_, rfl⟩
  rw [hq] at hch
  rw [hq]
  have hz : (q != 0) = !decide (q = 0) := rfl
  have HC := Lib.hid (show _ ∧ _ from ⟨hbx, hch⟩)
  clear hch hbx hy hq
  go_enter Tryz.func196, Tryz.ntmps196
  go_wp2_with fail
  refine HC.out.2.mono ?_
  rintro e w1 ⟨rfl, hb1⟩
  have H1 := Lib.hid (HC.out.1.trans (hb1.mono HC.out.1.size))
  clear hb1
  go_wp2
  go_ret
  exact ⟨by first | rfl | (rw [hz]; rfl), H1.out⟩
abbrev Eb (w : World) := {y : Ev // Eat w w.heap.size y}
instance (w : World) : Inhabited (Eb w) := ⟨⟨⟨none, 0, 0, [], 0⟩, ⟨Lst.nil, fun _ => ⟨rfl, rfl⟩, Nat.zero_le _, by simp⟩⟩⟩
def encEb {w : World} (x : Eb w) : List Value := encEv x.1
theorem sets_any (A : Option Addr) (n c : Nat) (es : List Ev) (w : World) (hE : Els w w.heap.size A n c es) : Calls Tryz.prog 146 #[.slice A n c] w fun e w' => e = .returned (.bool (setsL (es.map Ev.el))) ∧ Below w.heap.size w w' := by
  have eg : ∀ args w, (callFunc 196 args).run Tryz.prog w = .ok (.enter 196 args) w := enters_of Tryz.func196 (by kernel_rfl) rfl
  have hcon : Calls Tryz.prog 195 #[.slice A n c, .func (.func 196) #[] #[]] w fun e w' => e = .returned (.bool (!setsL (es.map Ev.el))) ∧ Below w.heap.size w w' := by
    by_cases h0 : n = 0
    · subst h0
      have hl0 : es = [] := List.length_eq_zero_iff.1 hE.lst.1
      rw [hl0]
      clear hE eg
      go_enter Tryz.func195, Tryz.ntmps195
      go_wp2
      refine wp_loop_rounds 1 ?_
      rw [rounds_succ]
      go_wp2
      go_ret
      exact ⟨rfl, Below.refl _ _⟩
    · obtain ⟨zs, hzs⟩ : ∃ zs : List (Eb w), zs = es.attachWith _ hE.each := ⟨_, rfl⟩
      have hval : zs.map (·.1) = es := by rw [hzs]; simp
      have hlz : zs.length = n := by rw [← hE.lst.1, ← hval, List.length_map]
      obtain ⟨b, off, x, rfl, hb, _, _⟩ := hE.lst.at (k := 0) (by omega)
      have h := AnyQ.slices_ContainsFunc { Tryz.hasElem with } 2 Tryz.isAggElem Tryz.sizeOfElem encEb (fun _ => rfl) (fun x : Eb w => !decide (checkE x.1.l = 0)) 196 #[] eg b off n c zs w (fun W x hb => (sets1_any x.1 W (x.2.on hb)).mono fun e w' h => ⟨h.1, hb.trans (h.2.mono hb.size)⟩) (by rw [hlz]; exact Nat.le_refl _) (by have := hE.few; omega) hb (fun j hj i v hv => by
        obtain ⟨b', off', y, hA, _, hy, hcl⟩ := hE.lst.at (k := j) (by omega)
        cases hA
        rw [← hval, List.getElem?_map, List.getElem?_eq_getElem hj] at hy
        injection hy with hy
        rw [getElem!_pos zs j hj] at hv
        exact hcl i v (by rw [← hy]; exact hv))
      rw [show zs.take n = zs by rw [← hlz]; exact List.take_length] at h
      have he : zs.any (fun x : Eb w => !decide (checkE x.1.l = 0)) = !setsL (es.map Ev.el) := by
        rw [← hval]
        unfold setsL
        rw [List.map_map, List.all_map, List.not_all_eq_any_not]
        rfl
      rw [he] at h
      exact h
  generalize setsL (es.map Ev.el) = r at hcon ⊢
  have HC := Lib.hid hcon
  clear hcon hE
  go_enter Tryz.func146, Tryz.ntmps146
  go_wp2_with fail
  refine HC.out.mono ?_
  rintro e w1 ⟨rfl, hb1⟩
  go_wp2
  go_ret
  exact ⟨by cases r <;> rfl, hb1⟩
/-- What Sorted handed back can be read. -/
theorem sorted_els {w w1 : World} {A A1 : Option Addr} {n c n1 c1 : Nat} {es os : List Ev} (hE : Els w w.heap.size A n c es) (hO : OutEv w1 w.heap.size (.slice A1 n1 c1) os) (hm : os.map Ev.el = srtL (es.map Ev.el)) : Els w1 w1.heap.size A1 n1 c1 os ∧ n1 = n := by
  have hl : os.length = n := by
    have := congrArg List.length hm
    rw [List.length_map, FL.sortE_len elL_tot, List.length_map, hE.lst.1] at this
    exact this
  obtain ⟨A', c', e, _, _⟩ := owns_slice hO.row
  injection e with _ e2 _
  obtain rfl : n1 = n := by omega
  refine ⟨(hO.els hE.few fun z hz => ?_).1, rfl⟩
  have h1 : z.el ∈ srtL (es.map Ev.el) := by rw [← hm]; exact List.mem_map.2 ⟨z, hz, rfl⟩
  obtain ⟨y, hy, e⟩ := List.mem_map.1 ((srt_perm _).mem_iff.1 h1)
  have h2 := (hE.each y hy).fine
  have h3 : y.l = z.l := congrArg Prod.fst e
  rw [h3] at h2
  exact h2
theorem form_any (A : Option Addr) (n c : Nat) (es : List Ev) (w : World) (hE : Els w w.heap.size A n c es) : Calls Tryz.prog 52 #[.slice A n c] w fun e w' => e = .returned (.bool (formL (es.map Ev.el))) ∧ Below w.heap.size w w' := by
  have hs := sets_any A n c es w hE
  have hso := fun w1 (hb : Below w.heap.size w w1) => sorted_any A n c es w1 (hE.on hb)
  have hels := fun (w1 w2 : World) (A1 : Option Addr) (n1 c1 : Nat) (os : List Ev) (hb : Below w.heap.size w w1) (hO : OutEv w2 w1.heap.size (.slice A1 n1 c1) os) (hm : os.map Ev.el = srtL (es.map Ev.el)) => (sorted_els (hE.on hb) hO hm).1
  have htw : ∀ os : List Ev, os.map Ev.el = srtL (es.map Ev.el) → FL.sideB labelsC (os.map Ev.el) = twiceL (es.map Ev.el) := fun os h => by rw [h]; rfl
  unfold formL
  generalize setsL (es.map Ev.el) = r at hs ⊢
  generalize twiceL (es.map Ev.el) = t at htw ⊢
  have HC := Lib.hid (show _ ∧ _ ∧ _ from ⟨hs, hso, htw⟩)
  have HL := Lib.hid hels
  clear hs hso hels htw hE
  cases r with
  | false =>
    go_enter Tryz.func52, Tryz.ntmps52
    go_wp2_with (first | (go_at_call 146; refine HC.out.1.mono ?_; rintro e w1 ⟨rfl, hb1⟩))
    go_ret
    exact ⟨rfl, hb1⟩
  | true =>
    go_enter Tryz.func52, Tryz.ntmps52
    go_wp2_with (first
      | (go_at_call 146; refine HC.out.1.mono ?_; rintro e w1 ⟨rfl, hb1⟩; have H1 := Lib.hid hb1; clear hb1)
      | (go_at_call 27; refine (HC.out.2.1 _ H1.out).mono ?_; rintro e w2 ⟨v2, os, rfl, hO, hm, hb2⟩; obtain ⟨A2, c2, rfl, _, _⟩ := owns_slice hO.row; have H2 := Lib.hid (show _ ∧ _ ∧ _ from ⟨twice_el A2 os.length c2 os w2 (HL.out _ _ _ _ _ _ H1.out hO hm), HC.out.2.2 os hm, H1.out.trans (hb2.mono H1.out.size)⟩); clear hO hm hb2)
      | (go_at_call 147; refine H2.out.1.mono ?_; rintro e w3 ⟨rfl, hb3⟩; rw [H2.out.2.1]; have H3 := Lib.hid (H2.out.2.2.trans (hb3.mono H2.out.2.2.size)); clear hb3))
    go_ret
    exact ⟨by cases t <;> rfl, H3.out⟩
/-- What done hands back. -/
def DonePost (r : Int × List El) (w : World) (e : Ending) (w' : World) : Prop := ∃ v os, e = .returned (.tuple #[v, .int .u16 r.1]) ∧ OutEv w' w.heap.size v os ∧ os.map Ev.el = r.2 ∧ Below w.heap.size w w'
theorem done_any (A : Option Addr) (n c : Nat) (es : List Ev) (w : World) (hE : Els w w.heap.size A n c es) : Calls Tryz.prog 54 #[.slice A n c] w (DonePost (doneL (es.map Ev.el)) w) := by
  have hso := sorted_any A n c es w hE
  have hels := fun (w2 : World) (A1 : Option Addr) (n1 c1 : Nat) (os : List Ev) (hO : OutEv w2 w.heap.size (.slice A1 n1 c1) os) (hm : os.map Ev.el = srtL (es.map Ev.el)) => (sorted_els hE hO hm).1
  have htw : ∀ os : List Ev, os.map Ev.el = srtL (es.map Ev.el) → FL.sideB labelsC (os.map Ev.el) = twiceL (es.map Ev.el) ∧ setsL (os.map Ev.el) = setsL (es.map Ev.el) := fun os h => by rw [h, setsL_srt]; exact ⟨rfl, rfl⟩
  unfold doneL
  have HC := Lib.hid (show _ ∧ _ from ⟨hso, htw⟩)
  have HL := Lib.hid hels
  clear hso hels htw hE
  obtain ⟨t, ht⟩ : ∃ t, twiceL (es.map Ev.el) = t := ⟨_, rfl⟩
  obtain ⟨r, hr⟩ : ∃ r, setsL (es.map Ev.el) = r := ⟨_, rfl⟩
  rw [ht, hr]
  have HT := Lib.hid (show _ ∧ _ from ⟨ht, hr⟩)
  clear ht hr
  cases t with
  | true =>
    rw [if_pos rfl]
    go_enter Tryz.func54, Tryz.ntmps54
    go_wp2_with (first
      | (go_at_call 27; refine HC.out.1.mono ?_; rintro e w2 ⟨v2, os, rfl, hO, hm, hb2⟩; obtain ⟨A2, c2, rfl, _, _⟩ := owns_slice hO.row; have H2 := Lib.hid (show _ ∧ _ ∧ _ from ⟨twice_el A2 os.length c2 os w2 (HL.out _ _ _ _ _ hO hm), HC.out.2 os hm, hb2⟩); clear hO hm hb2)
      | (go_at_call 147; refine H2.out.1.mono ?_; rintro e w3 ⟨rfl, hb3⟩; rw [H2.out.2.1.1, HT.out.1]; have H3 := Lib.hid (H2.out.2.2.trans (hb3.mono H2.out.2.2.size)); clear hb3))
    exact bodyPost_ret (v := .tuple #[.slice none 0 0, .int .u16 252]) (by simp [results, Tryz.results54, go_sem]) rfl ⟨.slice none 0 0, [], rfl, OutEv.nil _ _, rfl, H3.out⟩
  | false =>
    rw [if_neg (by decide)]
    cases r with
    | false =>
      rw [if_pos (by rfl)]
      go_enter Tryz.func54, Tryz.ntmps54
      go_wp2_with (first
        | (go_at_call 27; refine HC.out.1.mono ?_; rintro e w2 ⟨v2, os, rfl, hO, hm, hb2⟩; obtain ⟨A2, c2, rfl, _, _⟩ := owns_slice hO.row; have hO2 := HL.out _ _ _ _ _ hO hm; have H2 := Lib.hid (show _ ∧ _ ∧ _ ∧ _ from ⟨twice_el A2 os.length c2 os w2 hO2, HC.out.2 os hm, hb2, hO2⟩); clear hO hm hb2 hO2)
        | (go_at_call 147; refine H2.out.1.mono ?_; rintro e w3 ⟨rfl, hb3⟩; rw [H2.out.2.1.1, HT.out.1]; have H3 := Lib.hid (show _ ∧ _ from ⟨H2.out.2.2.1.trans (hb3.mono H2.out.2.2.1.size), sets_any A2 os.length c2 os w3 (H2.out.2.2.2.on hb3)⟩); clear hb3)
        | (go_at_call 146; refine H3.out.2.mono ?_; rintro e w4 ⟨rfl, hb4⟩; rw [H2.out.2.1.2, HT.out.2]; have H4 := Lib.hid (H3.out.1.trans (hb4.mono H3.out.1.size)); clear hb4))
      exact bodyPost_ret (v := .tuple #[.slice none 0 0, .int .u16 253]) (by simp [results, Tryz.results54, go_sem]) rfl ⟨.slice none 0 0, [], rfl, OutEv.nil _ _, rfl, H4.out⟩
    | true =>
      rw [if_neg (by decide)]
      go_enter Tryz.func54, Tryz.ntmps54
      go_wp2_with (first
        | (go_at_call 27; refine HC.out.1.mono ?_; rintro e w2 ⟨v2, os, rfl, hO, hm, hb2⟩; obtain ⟨A2, c2, rfl, _, _⟩ := owns_slice hO.row; have hO2 := HL.out _ _ _ _ _ hO hm; have H2 := Lib.hid (show _ ∧ _ ∧ _ ∧ _ ∧ _ ∧ _ from ⟨twice_el A2 os.length c2 os w2 hO2, HC.out.2 os hm, hb2, hO2, hO, hm⟩); clear hO hm hb2 hO2)
        | (go_at_call 147; refine H2.out.1.mono ?_; rintro e w3 ⟨rfl, hb3⟩; rw [H2.out.2.1.1, HT.out.1]; have H3 := Lib.hid (show _ ∧ _ ∧ _ from ⟨H2.out.2.2.1.trans (hb3.mono H2.out.2.2.1.size), sets_any A2 os.length c2 os w3 (H2.out.2.2.2.1.on hb3), hb3⟩); clear hb3)
        | (go_at_call 146; refine H3.out.2.1.mono ?_; rintro e w4 ⟨rfl, hb4⟩; rw [H2.out.2.1.2, HT.out.2]; have H4 := Lib.hid (show _ ∧ _ from ⟨H3.out.1.trans (hb4.mono H3.out.1.size), hb4⟩); clear hb4))
      exact bodyPost_ret (by simp [results, Tryz.results54, go_sem]) rfl ⟨_, os, rfl, (H2.out.2.2.2.2.1.below H3.out.2.2).below H4.out.2, H2.out.2.2.2.2.2, H4.out.1⟩
end Go.Proofs.YtajaijidecomdaaGreatDoor
namespace Go.Proofs.YtajaijidecomdaaGreatDoor
open Go.RowKit Go.Lib
open Go.Maps (Keyed)

def tLit (s : ByteArray) : Lit := .string s.data.toList
/-- What stands under a key is the value itself. -/
def RV (v : Value) : Option (DataW Value × List MemPlace) := some (.held v, [])
theorem Tryz.keyedStr : Keyed Tryz.prog 9 := Maps.string_keyed Tryz.underlying9
theorem tkey_of (s : ByteArray) (h : s.size ≤ maxLen) : keyOf Tryz.prog 9 (.string s) = some (tLit s) := Go.WideMaps.keyOf_string_mk (P := Tryz.prog) (k := 9) Tryz.underlying9 (s := s) h
theorem bytes_ext {x y : ByteArray} (h : x.data.toList = y.data.toList) : x = y := by
  cases x; cases y
  congr 1
  exact Array.toList_inj.1 h
theorem tLit_inj {s t : ByteArray} (h : tLit s = tLit t) : s = t := by
  unfold tLit at h
  injection h with h
  exact bytes_ext h
theorem tLit_key (s : ByteArray) : WideAt.IsKeyLit (tLit s) := by unfold tLit; trivial
theorem tkey_back {x s : ByteArray} (h : keyOf Tryz.prog 9 (.string x) = some (tLit s)) : x = s := by
  rw [keyOf_string Tryz.underlying9] at h
  simp only [mapKey, Tryz.underlying9] at h
  split at h
  · unfold tLit at h
    injection h with h
    injection h with h
    exact bytes_ext h
  · cases h
theorem tkeyOf_inv {key : Value} {kl : Lit} (h : keyOf Tryz.prog 9 key = some kl) : ∃ x, key = .string x := by
  rw [Go.keyOf_string Tryz.underlying9] at h
  unfold mapKey at h
  rw [Tryz.underlying9] at h
  cases key <;> simp at h
  exact ⟨_, rfl⟩
theorem wpList_lookup_held {P : Program} (w : World) {ops : Array Oper} {rest : List Oper} {o : Oper} {a : Act} {Q : Exit → Act → World → Prop}
    (hg : o.guard = none) (m x : Operand) (t : TypeId) (hop : o.op = Op.lookup t m x false)
    (k e : TypeId) (K : Keyed P k) (ht : P.underlying t = some (.map k e)) (z : Value) (hz : (zeroValue e).run P w = .ok z w) (b n : Nat) (D : DataW Value)
    (hm : a.eval m = .map (some b)) (hown : w.ownsMap P k RV b n D) (key : Value) (kl : Lit) (hx : a.eval x = key) (hkey : keyOf P k key = some kl) (v : Value) (hv : D.atKey kl (.held z) = .held v)
    (hK : wpList P ops Q rest (a.put o.dst v) w) :
    wpList P ops Q (o :: rest) a w := by
  refine wpList_plain hg fun K' hK' => ?_
  obtain ⟨u, ps, hrun, hat⟩ := hown.lookup K ht hz (zd := .held z) (zp := []) rfl hkey
  rw [hv] at hat
  obtain rfl : u = v := by
    unfold RV at hat
    injection hat with hat
    injection hat with hat _
    injection hat
  unfold Oper.wp
  simp [execOp, hop, hm, hx, hrun, Result.andThen]
  exact hK' _ _ hK
section
variable {w w' w0 : World} {B b n : Nat} {D : DataW Value} {V : ByteArray → Value} {done : List Ev} {kf : List Lb → ByteArray}
theorem ownsMap_below {R : Value → Option (DataW Value × List MemPlace)} {k : TypeId} (h : w.ownsMap Tryz.prog k R b n D) (hb : Below w.heap.size w w') : w'.ownsMap Tryz.prog k R b n D :=
  h.kept (row := none) ⟨hb.os, hb.tape, hb.output, hb.size, fun j hj _ => hb.block j hj⟩ (by simp)
theorem map_off {R : Value → Option (DataW Value × List MemPlace)} {k e : TypeId} {s m : Nat} {v : Value} {xs : List Value} (h : w.ownsMap Tryz.prog k R b n D) (hr : w.ownsRow B e s v m xs) : some b ≠ v.ownBlock := fun e' => by
  obtain ⟨es, clock, hb, _⟩ := h
  obtain ⟨cs, fz, h1⟩ := owns_typed hr e'.symm
  rw [hb] at h1
  injection h1 with h1
  cases h1
theorem isMap_owns {k : TypeId} {R : Value → Option (DataW Value × List MemPlace)} (h : w.ownsMap Tryz.prog k R b n D) : Maps.IsMap D := by
  obtain ⟨es, clock, _, _, _, rfl⟩ := h
  exact ⟨_, rfl⟩
theorem map_size {k : TypeId} {R : Value → Option (DataW Value × List MemPlace)} (h : w.ownsMap Tryz.prog k R b n D) : Maps.size D ≤ n := by
  obtain ⟨es, clock, _, _, hs, rfl⟩ := h
  show ((es.toList.map _).foldr DataW.insert []).length ≤ n
  rw [length_sorted, List.length_map, Array.length_toList]
  exact hs
/-- The elements of a key. -/
def grp (kf : List Lb → ByteArray) (s : ByteArray) (done : List Ev) : List Ev := done.filter fun y => decide (kf y.l = s)
theorem grp_snoc (s : ByteArray) (done : List Ev) (y : Ev) : grp kf s (done ++ [y]) = grp kf s done ++ (if kf y.l = s then [y] else []) := by
  unfold grp
  rw [List.filter_append]
  by_cases h : kf y.l = s <;> simp [h]
theorem grp_mem {s : ByteArray} {y : Ev} (h : y ∈ grp kf s done) : y ∈ done := (List.mem_filter.1 h).1
theorem grp_key {s : ByteArray} {y : Ev} (h : y ∈ grp kf s done) : kf y.l = s := of_decide_eq_true (List.mem_filter.1 h).2
theorem grp_len (s : ByteArray) (done : List Ev) : (grp kf s done).length ≤ done.length := List.length_filter_le _ _
structure Groups (kf : List Lb → ByteArray) (w : World) (B b n : Nat) (D : DataW Value) (V : ByteArray → Value) (done : List Ev) : Prop where
  map : w.ownsMap Tryz.prog 9 RV b n D
  lo : B ≤ b
  has : ∀ kl, Maps.has D kl = true ↔ ∃ y ∈ done, kl = tLit (kf y.l)
  at_ : ∀ s, D.atKey (tLit s) (.held (.slice none 0 0)) = .held (V s)
  rows : ∀ s, w.ownsRow B 90 2 (V s) (grp kf s done).length ((grp kf s done).flatMap encEv)
  apart : ∀ s s' g, s ≠ s' → (V s).ownBlock = some g → (V s').ownBlock ≠ some g
theorem Groups.below (h : Groups kf w B b n D V done) (hb : Below w.heap.size w w') : Groups kf w' B b n D V done :=
  ⟨ownsMap_below h.map hb, h.lo, h.has, h.at_, fun s => owns_below (h.rows s) hb, h.apart⟩
theorem Groups.base {B' : Nat} (h : Groups kf w B b n D V done) (hB : B' ≤ B) : Groups kf w B' b n D V done :=
  ⟨h.map, Nat.le_trans hB h.lo, h.has, h.at_, fun s => owns_base (h.rows s) hB, h.apart⟩
theorem Groups.kept {r : Option Nat} (h : Groups kf w B b n D V done) (hg : w.grownBy w' r) (hr : ∀ k, r = some k → k < B) : Groups kf w' B b n D V done :=
  ⟨h.map.kept hg (fun e => by have := hr _ e.symm; have := h.lo; omega), h.lo, h.has, h.at_, fun s => (h.rows s).kept hg (by
    cases hv : (V s).ownBlock with
    | none => exact .inl rfl
    | some g => exact .inr fun e => by have := hr _ e.symm; have := ((h.rows s).lt g hv).1; omega), h.apart⟩
theorem Groups.start (hL : w.ownsMap Tryz.prog 9 RV b 0 (.map [])) (hlo : B ≤ b) : Groups kf w B b 0 (.map []) (fun _ => .slice none 0 0) [] :=
  ⟨hL, hlo, fun kl => by simp [Maps.has], fun s => rfl, fun s => World.ownsRow_nil _ _ _ _, fun s s' g _ h => by simp [Value.ownBlock] at h⟩
/-- One element more. -/
theorem Groups.step {wa w1 w2 : World} {y : Ev} {g cap : Nat} (h : Groups kf wa B b n D V done)
    (hown : w1.ownsRow B 90 2 (.slice (some ⟨g, 0, none⟩) ((grp kf (kf y.l) done).length + 1) cap) ((grp kf (kf y.l) done).length + 1) ((grp kf (kf y.l) done).flatMap encEv ++ encEv y)) (hg : wa.grownBy w1 (V (kf y.l)).ownBlock) (hlies : (V (kf y.l)).ownBlock = some g ∨ g = wa.heap.size)
    (hm2 : w2.ownsMap Tryz.prog 9 RV b (n + 1) (D.put (tLit (kf y.l)) (.held (.slice (some ⟨g, 0, none⟩) ((grp kf (kf y.l) done).length + 1) cap)))) (hg2 : w1.grownBy w2 (some b)) :
    Groups kf w2 B b (n + 1) (D.put (tLit (kf y.l)) (.held (.slice (some ⟨g, 0, none⟩) ((grp kf (kf y.l) done).length + 1) cap)))
      (fun s => if kf y.l = s then .slice (some ⟨g, 0, none⟩) ((grp kf (kf y.l) done).length + 1) cap else V s) (done ++ [y]) := by
  have hL1 : w1.ownsMap Tryz.prog 9 RV b n D := h.map.kept hg (map_off h.map (h.rows (kf y.l)))
  have hmt : ∀ {e : TypeId} {s m : Nat} {v : Value} {xs : List Value}, w1.ownsRow B e s v m xs → w2.ownsRow B e s v m xs := fun hr =>
    hr.kept hg2 (by
      cases hv : Value.ownBlock _ with
      | none => exact .inl rfl
      | some b => exact .inr fun e => map_off hL1 hr (hv.trans e).symm)
  refine ⟨hm2, h.lo, fun kl => ?_, fun s => ?_, fun s => ?_, fun s s' q hne h1 h2 => ?_⟩
  · by_cases hk : kl = tLit (kf y.l)
    · subst hk
      rw [Maps.has_put_same (isMap_owns h.map) (tLit_key _)]
      exact ⟨fun _ => ⟨y, by simp, rfl⟩, fun _ => rfl⟩
    · rw [Maps.has_put_other hk, h.has]
      constructor
      · rintro ⟨z, hz', e⟩; exact ⟨z, by simp [hz'], e⟩
      · rintro ⟨z, hz', e⟩
        rcases List.mem_append.1 hz' with hz' | hz'
        · exact ⟨z, hz', e⟩
        · rw [List.mem_singleton.1 hz'] at e; exact absurd e hk
  · by_cases hl : kf y.l = s
    · subst hl
      rw [if_pos rfl, Maps.atKey_put_same (isMap_owns h.map) (tLit_key _)]
    · rw [if_neg hl, Maps.atKey_put_other (fun e => hl (tLit_inj e).symm), h.at_]
  · rw [grp_snoc]
    by_cases hl : kf y.l = s
    · subst hl
      rw [if_pos rfl, if_pos rfl, List.length_append, List.flatMap_append, List.flatMap_singleton]
      exact hmt hown
    · rw [if_neg hl, if_neg hl, List.append_nil]
      refine hmt ((h.rows s).kept hg ?_)
      cases hv : (V s).ownBlock with
      | none => exact .inl rfl
      | some b => exact .inr fun e => h.apart s (kf y.l) b (fun e => hl e.symm) hv e.symm
  · have hnew : ∀ s, kf y.l ≠ s → (V s).ownBlock ≠ some g := fun s hl e => by
      rcases hlies with h3 | h3
      · exact h.apart (kf y.l) s g hl h3 e
      · have := ((h.rows s).lt g e).2; omega
    by_cases hl : kf y.l = s
    · have hl' : kf y.l ≠ s' := fun e => hne (hl.symm.trans e)
      simp only [if_pos hl] at h1
      simp only [if_neg hl'] at h2
      obtain rfl : g = q := by simpa [Value.ownBlock] using h1
      exact hnew s' hl' h2
    · simp only [if_neg hl] at h1
      by_cases hl' : kf y.l = s'
      · simp only [if_pos hl'] at h2
        obtain rfl : g = q := by simpa [Value.ownBlock] using h2
        exact hnew s hl h1
      · simp only [if_neg hl'] at h2
        exact h.apart s s' q hne h1 h2
end
end Go.Proofs.YtajaijidecomdaaGreatDoor
