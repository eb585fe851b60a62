/- errors.Is at the two sentinels; errors.As at a *text.wrong, for a **text.wrong and for an *api.Errno; text.told, text.place. What stands behind a backslash: the plain law; text.digit, text.hex, text.number. errors.As at a *text.wrong: for a **text.wrong, and for an *api.Errno, which it wraps; text.told, text.place. text.told, text.place: what a *text.wrong tells. -/
import Derived.Test.YtchggapclmdpaaaGreatDoorGa
import Derived.WalkKit
import Derived.LaidEql
import Derived.Stop.Asserts
import Derived.Stop.LaidTwo
import Derived.LaidHandle
import Derived.RowKitTokens
import Derived.Test.YtchggapclmdpaaaGreatDoorGe
import Derived.Lib.RuneBytes
import Derived.Lib.Small
import Derived.Below
namespace Go.Proofs.YtchggapclmdpaaaGreatDoor
open Go.RowKit Go.Extern.Stop Go.Stop Go.Extern

/-! ### errors.Is -/
theorem Tryz.isTypeOf (v : Value) (w : World) : (Extern.ReflectliteType.typeOf #[.iface 341 v]).run Tryz.prog w = .ok (.iface 326 (.agg #[.pointer (some ⟨6, 341, none⟩)])) w := by kernel_rfl
def comparableM : Array Value → Sem Value := Extern.ReflectliteType.method fun t => do Extern.Rtype.noPackHeld "Comparable" t; pure (.bool (← typeInfo t).comparable)
theorem Tryz.isComparable (w : World) : (comparableM #[.agg #[.pointer (some ⟨6, 341, none⟩)]]).run Tryz.prog w = .ok (.bool true) w := by kernel_rfl
theorem Tryz.isMethodComparable (v : Value) (w : World) : (Go.method 471 326 v "Comparable").run Tryz.prog w = .ok (230, v) w := by kernel_rfl
theorem Tryz.isComp : (Tryz.prog.info? 341).map (·.comparable) = some true := by kernel_rfl
theorem Tryz.isSize : (Tryz.prog.info? 360).map (·.size) = some 1 := by kernel_rfl
theorem Tryz.noIsE (v : Value) (xT : TypeId) (w : World) : (Instr.typeAssert (.iface 341 v) xT 328 true).run Tryz.prog w = .ok (.tuple #[.nilIface, .bool false]) w := run_typeAssert_lacksB Tryz.underlying328 (by kernel_rfl) (by kernel_rfl) v xT w
theorem Tryz.noUnwrapE (v : Value) (xT : TypeId) (w : World) : (Instr.typeAssert (.iface 341 v) xT 331 true).run Tryz.prog w = .ok (.tuple #[.nilIface, .bool false]) w := run_typeAssert_lacksB Tryz.underlying331 (by kernel_rfl) (by kernel_rfl) v xT w
theorem Tryz.noUnwrapsE (v : Value) (xT : TypeId) (w : World) : (Instr.typeAssert (.iface 341 v) xT 333 true).run Tryz.prog w = .ok (.tuple #[.nilIface, .bool false]) w := run_typeAssert_lacksB Tryz.underlying333 (by kernel_rfl) (by kernel_rfl) v xT w
theorem is_same (a : Addr) (w : World) :
    Calls Tryz.prog 188 #[.iface 341 (.pointer (some a)), .iface 341 (.pointer (some a))] w fun e w' => e = .returned (.bool true) ∧ w' = w := by
  obtain ⟨i, hi, hcmp⟩ := Option.map_eq_some_iff.1 Tryz.isComp
  obtain ⟨j, hj, hjs⟩ := Option.map_eq_some_iff.1 Tryz.isSize
  have h8 := @run_callFunc_extern Tryz.prog 193 _ Extern.ReflectliteType.typeOf Tryz.func193 (by kernel_rfl) (by kernel_rfl) (by kernel_rfl) (by kernel_rfl)
  have h32 := @run_callFunc_extern Tryz.prog 230 _ comparableM Tryz.func230 (by kernel_rfl) (by kernel_rfl) (by kernel_rfl) (by kernel_rfl)
  have tT := Tryz.isTypeOf
  have cT := Tryz.isComparable
  have mR := Tryz.isMethodComparable
  have heq := run_eql_iface_ptr_same (P := Tryz.prog) w a Tryz.underlying178 Tryz.underlying341 hi hcmp hj
  go_enter Tryz.func188, Tryz.ntmps188
  go_wp2
  refine wp_loop_rounds 1 ?_
  rw [rounds_succ]
  go_wp2
  go_ret
  exact ⟨rfl, rfl⟩
theorem is_nil (b : Addr) (w : World) :
    Calls Tryz.prog 188 #[.nilIface, .iface 341 (.pointer (some b))] w fun e w' => e = .returned (.bool false) ∧ w' = w := by
  have hn := run_eql_iface_nil_left (P := Tryz.prog) w 341 (.pointer (some b)) Tryz.underlying178
  go_enter Tryz.func188, Tryz.ntmps188
  go_wp2
  go_ret
  exact ⟨rfl, rfl⟩
theorem is_other (a b : Addr) (ca cb : Array Value) (ta tb : TypeId) (w : World) (hne : a ≠ b) (ha : w.heap[a.block]? = some (.cells ca ta (0, 0))) (hb : w.heap[b.block]? = some (.cells cb tb (0, 0))) :
    Calls Tryz.prog 188 #[.iface 341 (.pointer (some a)), .iface 341 (.pointer (some b))] w fun e w' => e = .returned (.bool false) ∧ w' = w := by
  obtain ⟨i, hi, hcmp⟩ := Option.map_eq_some_iff.1 Tryz.isComp
  obtain ⟨j, hj, hjs⟩ := Option.map_eq_some_iff.1 Tryz.isSize
  have h8 := @run_callFunc_extern Tryz.prog 193 _ Extern.ReflectliteType.typeOf Tryz.func193 (by kernel_rfl) (by kernel_rfl) (by kernel_rfl) (by kernel_rfl)
  have h32 := @run_callFunc_extern Tryz.prog 230 _ comparableM Tryz.func230 (by kernel_rfl) (by kernel_rfl) (by kernel_rfl) (by kernel_rfl)
  have tT := Tryz.isTypeOf
  have cT := Tryz.isComparable
  have mR := Tryz.isMethodComparable
  have nE := Tryz.noIsE
  have uE := Tryz.noUnwrapE
  have vE := Tryz.noUnwrapsE
  have heq := run_eql_iface_ptr_other (P := Tryz.prog) w Tryz.underlying178 Tryz.underlying341 hi hcmp hj (by rw [hjs]; decide) hne ha hb
  go_enter Tryz.func188, Tryz.ntmps188
  go_wp2
  refine wp_loop_rounds 1 ?_
  rw [rounds_succ]
  go_wp2
  go_ret
  exact ⟨rfl, rfl⟩
end Go.Proofs.YtchggapclmdpaaaGreatDoor
namespace Go.Proofs.YtchggapclmdpaaaGreatDoor
open Go.RowKit Go.Lib

/-- A hex digit's value; below 0, if it is none. -/
def hexV (c : Nat) : Int := if 48 ≤ c ∧ c ≤ 57 then (c : Int) - 48 else if 97 ≤ c ∧ c ≤ 102 then (c : Int) - 87 else if 65 ≤ c ∧ c ≤ 70 then (c : Int) - 55 else -1
theorem hexV_lt (c : Nat) : -1 ≤ hexV c ∧ hexV c < 16 := by unfold hexV; split <;> (try split) <;> (try split) <;> omega
/-- So many digits of a base. -/
def numR : Nat → Nat → List UInt8 → Nat → Option Nat
  | 0, _, _, n => some n
  | _ + 1, _, [], _ => none
  | k + 1, base, c :: r, n => if hexV c.toNat < 0 ∨ (base : Int) ≤ hexV c.toNat then none else numR k base r (n * base + (hexV c.toNat).toNat)
/-- What a letter behind a backslash stands for; below 0: nothing. -/
def simpleV (c : UInt8) : Int := if c = 97 then 7 else if c = 98 then 8 else if c = 102 then 12 else if c = 110 then 10 else if c = 114 then 13 else if c = 116 then 9 else if c = 118 then 11 else if c = 92 ∨ c = 39 ∨ c = 34 then c.toNat else -1
/-- How many digits, of which base, from where on, up to which number. -/
def escK (c : UInt8) : Option (Nat × Nat × Nat × Nat) := if c = 120 then some (2, 16, 1, 255) else if c = 117 then some (4, 16, 1, 1114111) else if c = 85 then some (8, 16, 1, 1114111) else if 48 ≤ c.toNat ∧ c.toNat ≤ 55 then some (3, 8, 0, 255) else none
/-- The bytes of a number. -/
def outR (most n : Nat) : Option (List UInt8) := if most < n ∨ (most = 1114111 ∧ Lib.validRune n = false) then none else some (if most = 1114111 then Lib.encodeRune n else [UInt8.ofNat n])
/-- What stands behind a backslash, and how many bytes it takes. -/
def escR : List UInt8 → Option (List UInt8 × Nat)
  | [] => none
  | c :: r => if 0 ≤ simpleV c then some ([UInt8.ofNat (simpleV c).toNat], 1) else match escK c with
    | none => none
    | some (need, base, from_, most) => match numR need base ((c :: r).drop from_) 0 with
      | none => none
      | some n => match outR most n with
        | none => none
        | some x => some (x, from_ + need)
theorem digit_any (c : Nat) (w : World) : Calls Tryz.prog 203 #[.int .u8 c] w fun e w' => e = .returned (.bool (decide (48 ≤ c ∧ c ≤ 57))) ∧ w' = w := by
  by_cases h1 : 48 ≤ c
  · by_cases h2 : c ≤ 57
    · have i1 : (48 : Int) ≤ (c : Int) := by omega
      have i2 : (c : Int) ≤ 57 := by omega
      rw [decide_eq_true ⟨h1, h2⟩]
      go_enter Tryz.func203, Tryz.ntmps203
      go_wp2
      go_ret
      exact ⟨rfl, rfl⟩
    · have i1 : (48 : Int) ≤ (c : Int) := by omega
      have i2 : ¬ (c : Int) ≤ 57 := by omega
      rw [decide_eq_false (fun h => h2 h.2)]
      go_enter Tryz.func203, Tryz.ntmps203
      go_wp2
      go_ret
      exact ⟨rfl, rfl⟩
  · have i1 : ¬ (48 : Int) ≤ (c : Int) := by omega
    rw [decide_eq_false (fun h => h1 h.1)]
    go_enter Tryz.func203, Tryz.ntmps203
    go_wp2
    go_ret
    exact ⟨rfl, rfl⟩
theorem u8_in (x : Int) (h : 0 ≤ x ∧ x ≤ 255) : IntKind.u8.wrap x = x := by
  unfold IntKind.wrap
  simp [IntKind.signed, IntKind.bits]
  omega
set_option maxHeartbeats 1000000 in
theorem hex_any (c : Nat) (hc : c < 256) (w : World) : Calls Tryz.prog 199 #[.int .u8 c] w fun e w' => e = .returned (.int .i64 (hexV c)) ∧ w' = w := by
  have hd := fun W => digit_any c W
  by_cases h0 : 48 ≤ c ∧ c ≤ 57
  · rw [decide_eq_true h0] at hd
    have hv : hexV c = (c : Int) - 48 := by unfold hexV; rw [if_pos h0]
    have k1 : IntKind.u8.wrap ((c : Int) - 48) = (c : Int) - 48 := u8_in _ (by omega)
    have k2 : IntKind.i64.wrap ((c : Int) - 48) = (c : Int) - 48 := IntWalk.i64_in _ (by omega)
    rw [hv]
    clear h0 hv
    go_enter Tryz.func199, Tryz.ntmps199
    go_wp2_with (go_at_call 203; refine (hd _).mono ?_; rintro e w' ⟨rfl, rfl⟩)
    go_ret
    exact ⟨rfl, rfl⟩
  · rw [decide_eq_false h0] at hd
    by_cases h1 : 97 ≤ c ∧ c ≤ 102
    · have hv : hexV c = (c : Int) - 87 := by unfold hexV; rw [if_neg h0, if_pos h1]
      have k1 : IntKind.u8.wrap ((c : Int) - 97) = (c : Int) - 97 := u8_in _ (by omega)
      have k2 : IntKind.i64.wrap ((c : Int) - 97) = (c : Int) - 97 := IntWalk.i64_in _ (by omega)
      have k3 : IntKind.i64.wrap ((c : Int) - 97 + 10) = (c : Int) - 97 + 10 := IntWalk.i64_in _ (by omega)
      have i1 : (97 : Int) ≤ (c : Int) := by omega
      have i2 : (c : Int) ≤ 102 := by omega
      rw [hv, show (c : Int) - 87 = (c : Int) - 97 + 10 by omega]
      clear h0 h1 hv
      go_enter Tryz.func199, Tryz.ntmps199
      go_wp2_with (go_at_call 203; refine (hd _).mono ?_; rintro e w' ⟨rfl, rfl⟩)
      go_ret
      exact ⟨rfl, rfl⟩
    · by_cases h2 : 65 ≤ c ∧ c ≤ 70
      · have hv : hexV c = (c : Int) - 55 := by unfold hexV; rw [if_neg h0, if_neg h1, if_pos h2]
        have k1 : IntKind.u8.wrap ((c : Int) - 65) = (c : Int) - 65 := u8_in _ (by omega)
        have k2 : IntKind.i64.wrap ((c : Int) - 65) = (c : Int) - 65 := IntWalk.i64_in _ (by omega)
        have k3 : IntKind.i64.wrap ((c : Int) - 65 + 10) = (c : Int) - 65 + 10 := IntWalk.i64_in _ (by omega)
        have i0 : ¬ (97 : Int) ≤ (c : Int) := by omega
        have i1 : (65 : Int) ≤ (c : Int) := by omega
        have i2 : (c : Int) ≤ 70 := by omega
        rw [hv, show (c : Int) - 55 = (c : Int) - 65 + 10 by omega]
        clear h0 h1 h2 hv
        go_enter Tryz.func199, Tryz.ntmps199
        go_wp2_with (go_at_call 203; refine (hd _).mono ?_; rintro e w' ⟨rfl, rfl⟩)
        go_ret
        exact ⟨rfl, rfl⟩
      · have hv : hexV c = -1 := by unfold hexV; rw [if_neg h0, if_neg h1, if_neg h2]
        rw [hv]
        by_cases a1 : 97 ≤ c
        · have i0 : (97 : Int) ≤ (c : Int) := by omega
          have i1 : ¬ (c : Int) ≤ 102 := by omega
          have i2 : (65 : Int) ≤ (c : Int) := by omega
          have i3 : ¬ (c : Int) ≤ 70 := by omega
          clear h0 h1 h2 hv
          go_enter Tryz.func199, Tryz.ntmps199
          go_wp2_with (go_at_call 203; refine (hd _).mono ?_; rintro e w' ⟨rfl, rfl⟩)
          go_ret
          exact ⟨rfl, rfl⟩
        · by_cases a2 : 65 ≤ c
          · have i0 : ¬ (97 : Int) ≤ (c : Int) := by omega
            have i2 : (65 : Int) ≤ (c : Int) := by omega
            have i3 : ¬ (c : Int) ≤ 70 := by omega
            clear h0 h1 h2 hv
            go_enter Tryz.func199, Tryz.ntmps199
            go_wp2_with (go_at_call 203; refine (hd _).mono ?_; rintro e w' ⟨rfl, rfl⟩)
            go_ret
            exact ⟨rfl, rfl⟩
          · have i0 : ¬ (97 : Int) ≤ (c : Int) := by omega
            have i2 : ¬ (65 : Int) ≤ (c : Int) := by omega
            clear h0 h1 h2 hv
            go_enter Tryz.func199, Tryz.ntmps199
            go_wp2_with (go_at_call 203; refine (hd _).mono ?_; rintro e w' ⟨rfl, rfl⟩)
            go_ret
            exact ⟨rfl, rfl⟩
/-- What the program's variables hold: two errors of text, the type of errors. -/
structure LaidE (K : Nat) (a b : Addr) (w : World) : Prop where
  big : 5 < K
  size : K ≤ w.heap.size
  ty : w.cell? ⟨5, 0, none⟩ = some (.iface 326 (.agg #[.pointer (some ⟨6, 178, none⟩)]))
  fin : w.cell? ⟨3, 0, none⟩ = some (.iface 341 (.pointer (some a)))
  esc : w.cell? ⟨4, 0, none⟩ = some (.iface 341 (.pointer (some b)))
  ne : a ≠ b
  la : a.block < K
  lb : b.block < K
  ca : ∃ (cs : Array Value) (t : TypeId), w.heap[a.block]? = some (.cells cs t (0, 0))
  cb : ∃ (cs : Array Value) (t : TypeId), w.heap[b.block]? = some (.cells cs t (0, 0))
theorem LaidE.kept {K : Nat} {a b : Addr} {w w' : World} (h : LaidE K a b w) (hs : K ≤ w'.heap.size) (hk : ∀ k, k < K → w'.heap[k]? = w.heap[k]?) : LaidE K a b w' where
  big := h.big
  size := hs
  ty := (World.cell?_of_block (hk 5 h.big)).trans h.ty
  fin := (World.cell?_of_block (hk 3 (by have := h.big; omega))).trans h.fin
  esc := (World.cell?_of_block (hk 4 (by have := h.big; omega))).trans h.esc
  ne := h.ne
  la := h.la
  lb := h.lb
  ca := by obtain ⟨cs, t, hc⟩ := h.ca; exact ⟨cs, t, (hk _ h.la).trans hc⟩
  cb := by obtain ⟨cs, t, hc⟩ := h.cb; exact ⟨cs, t, (hk _ h.lb).trans hc⟩
theorem LaidE.below {K : Nat} {a b : Addr} {w w' : World} (h : LaidE K a b w) {B : Nat} (hb : Below B w w') (hB : K ≤ B) : LaidE K a b w' := h.kept (Nat.le_trans h.size hb.size) fun k hk => hb.block k (by omega)
theorem LaidE.drewN {K : Nat} {a b : Addr} {w : World} (h : LaidE K a b w) (q : Nat) : LaidE K a b (w.drewN q) := h.kept h.size fun _ _ => rfl
theorem LaidE.grown {K : Nat} {a b : Addr} {w w' : World} {S : Nat → Prop} (h : LaidE K a b w) (hg : GrownIn S w w') (hS : ∀ k, S k → K ≤ k) : LaidE K a b w' :=
  h.kept (Nat.le_trans h.size hg.size) fun k hk => hg.block k (Nat.lt_of_lt_of_le hk h.size) (fun hs => by have := hS k hs; omega)
/-- One of the two errors. -/
def ErrOf (a b : Addr) (v : Value) : Prop := v = .iface 341 (.pointer (some a)) ∨ v = .iface 341 (.pointer (some b))
set_option maxHeartbeats 2000000 in
set_option maxRecDepth 100000 in
theorem number_any (K : Nat) (a b : Addr) (s : ByteArray) (need base : Nat) (w : World) (hE : LaidE K a b w) (hn : need ≤ 8) (hb : base = 16 ∨ base = 8) (_hbig : s.size ≤ 1099511627776) :
    Calls Tryz.prog 191 #[.string s, .int .i64 need, .int .i64 base] w fun e w' => ((∃ n : Nat, numR need base s.data.toList 0 = some n ∧ n < 4294967296 ∧ e = .returned (.tuple #[.int .i64 n, .nilIface])) ∨ (numR need base s.data.toList 0 = none ∧ ∃ v, ErrOf a b v ∧ e = .returned (.tuple #[.int .i64 0, v]))) ∧ ∃ q, w' = w.drewN q := by
  have hsz : s.size = s.data.toList.length := (Array.length_toList).symm
  obtain ⟨R, hR⟩ : ∃ R, numR need base s.data.toList 0 = R := ⟨_, rfl⟩
  rw [hR]
  have HS := Lib.hid (show _ ∧ _ ∧ _ from ⟨hsz, hR, hE⟩)
  clear hsz hR hE
  go_enter Tryz.func191, Tryz.ntmps191
  go_wp2
  go_loopw [8, 9, 10, 12] (fun nv _ _ iv wr => ∃ (k n q : Nat), k ≤ need ∧ nv = .int .i64 n ∧ iv = .int .i64 k ∧ wr = w.drewN q ∧ Hid (n < 16 ^ k ∧ numR (need - k) base (s.data.toList.drop k) n = R)) (fun _ _ _ iv _ => need - (intOf iv).toNat)
  case atStart => exact ⟨0, 0, 0, Nat.zero_le _, rfl, rfl, rfl, Lib.hid ⟨by decide, HS.out.2.1⟩⟩
  case round =>
    obtain ⟨k, n, q, hk, rfl, rfl, rfl, HR⟩ := hrel
    have cf := HS.out.2.2.fin
    have ce := HS.out.2.2.esc
    by_cases hlt : k < need
    · have j1 : (k : Int) < (need : Int) := by omega
      have j0 : (0 : Int) ≤ (k : Int) := by omega
      have hpow : n < 16 ^ 7 := Nat.lt_of_lt_of_le HR.out.1 (Nat.pow_le_pow_right (by decide) (by omega))
      have hst : need - k = (need - (k + 1)) + 1 := by omega
      by_cases hks : k < s.size
      · have j2 : ¬ (s.size : Int) ≤ (k : Int) := by omega
        have j3 : (k : Int) < (s.size : Int) := by omega
        obtain ⟨c, hc⟩ : ∃ c, s[k]'hks = c := ⟨_, rfl⟩
        have hcl : s.data.toList[k]? = some c := by
          rw [← hc, List.getElem?_eq_getElem (by have := HS.out.1; omega)]
          rfl
        have hdr : s.data.toList.drop k = c :: s.data.toList.drop (k + 1) := by
          obtain ⟨g1, g2⟩ := List.getElem?_eq_some_iff.1 hcl
          rw [List.drop_eq_getElem_cons g1, g2]
        have hnr := HR.out.2
        rw [hst, hdr, numR] at hnr
        have hx := fun W => hex_any c.toNat c.toNat_lt W
        have hv := hexV_lt c.toNat
        generalize hexV c.toNat = v at hnr hx hv
        have HX := Lib.hid (show _ ∧ _ from ⟨hnr, hx⟩)
        clear hnr hx hdr hcl hst
        by_cases h0 : v < 0
        · have hno : R = none := by have := HX.out.1; rw [if_pos (.inl h0)] at this; exact this.symm
          have HN := Lib.hid hno
          clear hno
          go_wp2_with (first | (go_at_call 199; refine (HX.out.2 _).mono ?_; rintro e w' ⟨rfl, rfl⟩) | go_quiet (fail))
          exact bodyPost_ret (v := .tuple #[.int .i64 0, .iface 341 (.pointer (some b))]) (by simp [results, Tryz.results191, go_sem]) rfl ⟨.inr ⟨HN.out, _, .inr rfl, rfl⟩, _, by first | rfl | exact World.drewN_drewN _ _ _⟩
        · by_cases h1 : (base : Int) ≤ v
          · have hno : R = none := by have := HX.out.1; rw [if_pos (.inr h1)] at this; exact this.symm
            have HN := Lib.hid hno
            clear hno
            go_wp2_with (first | (go_at_call 199; refine (HX.out.2 _).mono ?_; rintro e w' ⟨rfl, rfl⟩) | go_quiet (fail))
            exact bodyPost_ret (v := .tuple #[.int .i64 0, .iface 341 (.pointer (some b))]) (by simp [results, Tryz.results191, go_sem]) rfl ⟨.inr ⟨HN.out, _, .inr rfl, rfl⟩, _, by first | rfl | exact World.drewN_drewN _ _ _⟩
          · have hnr : numR (need - (k + 1)) base (s.data.toList.drop (k + 1)) (n * base + v.toNat) = R := by have := HX.out.1; rwa [if_neg (by omega)] at this
            have hbb : base ≤ 16 := by omega
            have hnb : n * base ≤ n * 16 := Nat.mul_le_mul_left _ hbb
            have hlt2 : n * base + v.toNat < 16 ^ (k + 1) := by
              have := HR.out.1
              rw [Nat.pow_succ]
              omega
            have k1 : IntKind.i64.wrap ((n : Int) * (base : Int)) = ((n * base : Nat) : Int) := by
              rw [← Int.natCast_mul]
              exact IntWalk.i64_in _ (by omega)
            have k2 : IntKind.i64.wrap (((n * base : Nat) : Int) + v) = ((n * base + v.toNat : Nat) : Int) := by
              rw [show ((n * base : Nat) : Int) + v = ((n * base + v.toNat : Nat) : Int) by omega]
              exact IntWalk.i64_in _ (by omega)
            have HN := Lib.hid (show _ ∧ _ from ⟨hlt2, hnr⟩)
            clear hnr hlt2
            go_wp2_with (first | (go_at_call 199; refine (HX.out.2 _).mono ?_; rintro e w' ⟨rfl, rfl⟩) | go_quiet (fail))
            go_roundw
            case measure => simp [intOf]; omega
            case rel => exact ⟨k + 1, n * base + v.toNat, _, hlt, by first | rfl | (congr 1; omega) | (simp; omega), by simp, by first | rfl | exact World.drewN_drewN _ _ _, HN⟩
      · have j2 : (s.size : Int) ≤ (k : Int) := by omega
        have hno : R = none := by
          have := HR.out.2
          rw [hst, List.drop_eq_nil_of_le (by have := HS.out.1; omega)] at this
          exact this.symm
        have HN := Lib.hid hno
        clear hno hst
        go_wp2_with (go_quiet (fail))
        exact bodyPost_ret (v := .tuple #[.int .i64 0, .iface 341 (.pointer (some a))]) (by simp [results, Tryz.results191, go_sem]) rfl ⟨.inr ⟨HN.out, _, .inl rfl, rfl⟩, _, by first | rfl | exact World.drewN_drewN _ _ _⟩
    · obtain rfl : k = need := by omega
      have hyes : R = some n := by
        have := HR.out.2
        rw [Nat.sub_self] at this
        exact this.symm
      have hpow : n < 4294967296 := Nat.lt_of_lt_of_le HR.out.1 (Nat.le_trans (Nat.pow_le_pow_right (by decide) hn) (by decide))
      have HN := Lib.hid (show _ ∧ _ from ⟨hyes, hpow⟩)
      clear hyes
      go_wp2
      exact bodyPost_ret (v := .tuple #[.int .i64 n, .nilIface]) (by simp [results, Tryz.results191, go_sem]) rfl ⟨.inl ⟨n, HN.out.1, HN.out.2, rfl⟩, q, rfl⟩
end Go.Proofs.YtchggapclmdpaaaGreatDoor
namespace Go.Proofs.YtchggapclmdpaaaGreatDoor
open Go.RowKit Go.Extern.Stop Go.Stop Go.Extern

def typeM : Array Value → Sem Value := ReflectliteValue.methodAny (ReflectliteValue.valueError "reflectlite.Value.Type" 0) (fun t _ _ _ => ReflectliteType.toType t)
def kindM : Array Value → Sem Value := ReflectliteType.abiMethod fun t => do pure (.int .u8 (← Rtype.kind t))
def isNilM : Array Value → Sem Value := ReflectliteValue.method (ReflectliteValue.valueError "reflectlite.Value.IsNil" 0) ReflectliteValue.isNil
def elemM : Array Value → Sem Value := ReflectliteType.method ReflectliteType.elem
def implM : Array Value → Sem Value := ReflectliteType.relation "Implements" ReflectliteType.implements_
def asgnM : Array Value → Sem Value := ReflectliteType.relation "AssignableTo" ReflectliteType.assignableTo
def elemVM : Array Value → Sem Value := ReflectliteValue.method (ReflectliteValue.valueError "reflectlite.Value.Elem" 0) ReflectliteValue.elem
def valueM : Array Value → Sem Value := fun args => ReflectliteValue.unpack (args.getD 0 (.tuple #[]))
theorem rlm (z : Sem Value) (f : TypeId → Addr → Nat → Nat → Sem Value) (v : Value) :
    ReflectliteValue.method z f #[v] = (do match ← ReflectliteValue.parts v with | none => z | some (t, a, fl) => f t a fl (fl % 32)) := rfl
theorem rls (v x : Value) : ReflectliteValue.set #[v, x] = (do
    let (some (dst, a, fl), some (src, b, _)) := (← ReflectliteValue.parts v, ← ReflectliteValue.parts x)
      | unsupported (.noEntry "extern/(internal/reflectlite.Value).Set.zeroValue")
    if fl / ReflectliteValue.flagAddr % 2 == 0 then unsupported (.noEntry "extern/(internal/reflectlite.Value).Set.unaddressable")
    let val ← loadVar src b
    if ← Rtype.directlyAssignable dst src then storeVar dst a val
    else if ← Rtype.implements dst src then
      if (← Rtype.kind src) == 20 then
        match val with
        | .nilIface => unsupported (.noEntry "extern/reflectlite: a nil value of one interface type handed on as a value of another")
        | _ => storeVar dst a val
      else storeVar dst a (.iface src val)
    else panicString ("reflectlite.Set: value of type " ++ (← Rtype.spelt src) ++ " is not assignable to type " ++ (← Rtype.spelt dst))
    pure (.tuple #[])) := rfl
theorem Tryz.methodKind (h : Value) (w : World) : (Go.method 471 326 (.agg #[h]) "Kind").run Tryz.prog w = .ok (218, h) w := by kernel_rfl
theorem Tryz.methodElem (h : Value) (w : World) : (Go.method 471 326 (.agg #[h]) "Elem").run Tryz.prog w = .ok (231, .agg #[h]) w := by kernel_rfl
theorem Tryz.methodImplements (h : Value) (w : World) : (Go.method 471 326 (.agg #[h]) "Implements").run Tryz.prog w = .ok (232, .agg #[h]) w := by kernel_rfl
theorem Tryz.methodAssignableTo (h : Value) (w : World) : (Go.method 471 326 (.agg #[h]) "AssignableTo").run Tryz.prog w = .ok (229, .agg #[h]) w := by kernel_rfl
theorem Tryz.methodUnwrapW (v : Value) (w : World) : (Go.method 471 301 v "Unwrap").run Tryz.prog w = .ok (224, v) w := by kernel_rfl
theorem Tryz.noAsW (v : Value) (xT : TypeId) (w : World) : (Instr.typeAssert (.iface 301 v) xT 338 true).run Tryz.prog w = .ok (.tuple #[.nilIface, .bool false]) w := run_typeAssert_lacksB Tryz.underlying338 (by kernel_rfl) (by kernel_rfl) v xT w
theorem Tryz.hasUnwrapW (v : Value) (xT : TypeId) (w : World) : (Instr.typeAssert (.iface 301 v) xT 331 true).run Tryz.prog w = .ok (.tuple #[.iface 301 v, .bool true]) w := run_typeAssert_hasB Tryz.underlying331 (by kernel_rfl) v xT w
theorem Tryz.typeOfW (v : Value) (w : World) : (ReflectliteType.typeOf #[.iface 301 v]).run Tryz.prog w = .ok (.iface 326 (.agg #[.pointer (some ⟨6, 301, none⟩)])) w := by kernel_rfl
theorem Tryz.typeOfE (v : Value) (w : World) : (ReflectliteType.typeOf #[.iface 25 v]).run Tryz.prog w = .ok (.iface 326 (.agg #[.pointer (some ⟨6, 25, none⟩)])) w := by kernel_rfl

/-! ### A target of type Wr -/
theorem Tryz.valueOfWr (t : Addr) (w : World) : (valueM #[.iface 309 (.pointer (some t))]).run Tryz.prog w
    = .ok (.agg #[.pointer (some ⟨6, 309, none⟩), .pointer (some ⟨w.heap.size, 0, none⟩), .int .u64 150]) (w.alloc (.cells #[.pointer (some t)] 309)) := by kernel_rfl
theorem Tryz.typeWr (a : Addr) (w : World) : (typeM #[.agg #[.pointer (some ⟨6, 309, none⟩), .pointer (some a), .int .u64 150]]).run Tryz.prog w
    = .ok (.iface 326 (.agg #[.pointer (some ⟨6, 309, none⟩)])) w := by kernel_rfl
theorem Tryz.kindWr (w : World) : (kindM #[.pointer (some ⟨6, 309, none⟩)]).run Tryz.prog w = .ok (.int .u8 22) w := by kernel_rfl
theorem Tryz.kindEWr (w : World) : (kindM #[.pointer (some ⟨6, 301, none⟩)]).run Tryz.prog w = .ok (.int .u8 22) w := by kernel_rfl
theorem Tryz.partsWr (a : Addr) (w : World) : (ReflectliteValue.parts (.agg #[.pointer (some ⟨6, 309, none⟩), .pointer (some a), .int .u64 150])).run Tryz.prog w = .ok (some (309, a, 150)) w := by kernel_rfl
theorem Tryz.isNilWr (a p : Addr) (W : World) (ha : W.cell? a = some (.pointer (some p))) :
    (isNilM #[.agg #[.pointer (some ⟨6, 309, none⟩), .pointer (some a), .int .u64 150]]).run Tryz.prog W = .ok (.bool false) W := by
  unfold isNilM
  rw [rlm]
  simp only [Sem.run_bind, Tryz.partsWr, Result.andThen]
  simp [ReflectliteValue.isNil, loadVar, isAgg, underlying, Tryz.underlying309, ha, Result.andThen]
theorem Tryz.elemWr (w : World) : (elemM #[.agg #[.pointer (some ⟨6, 309, none⟩)]]).run Tryz.prog w = .ok (.iface 326 (.agg #[.pointer (some ⟨6, 301, none⟩)])) w := by kernel_rfl
theorem Tryz.implWr (w : World) : (implM #[.agg #[.pointer (some ⟨6, 301, none⟩)], .iface 326 (.agg #[.pointer (some ⟨6, 178, none⟩)])]).run Tryz.prog w = .ok (.bool true) w := by kernel_rfl
theorem Tryz.asgnWr (w : World) : (asgnM #[.agg #[.pointer (some ⟨6, 301, none⟩)], .iface 326 (.agg #[.pointer (some ⟨6, 301, none⟩)])]).run Tryz.prog w = .ok (.bool true) w := by kernel_rfl
theorem Tryz.elemOfWr (w : World) : (Rtype.elem? 309).run Tryz.prog w = .ok (some 301) w := by kernel_rfl
theorem Tryz.mkWr (p : Addr) (w : World) : (ReflectliteValue.mk 301 p ReflectliteValue.flagAddr).run Tryz.prog w = .ok (.agg #[.pointer (some ⟨6, 301, none⟩), .pointer (some p), .int .u64 406]) w := by kernel_rfl
theorem Tryz.elemVWr (a p : Addr) (W : World) (ha : W.cell? a = some (.pointer (some p))) :
    (elemVM #[.agg #[.pointer (some ⟨6, 309, none⟩), .pointer (some a), .int .u64 150]]).run Tryz.prog W
      = .ok (.agg #[.pointer (some ⟨6, 301, none⟩), .pointer (some p), .int .u64 406]) W := by
  unfold elemVM
  rw [rlm]
  simp only [Sem.run_bind, Tryz.partsWr, Result.andThen]
  simp [ReflectliteValue.elem, loadVar, isAgg, underlying, Tryz.underlying309, ha, Result.andThen, Tryz.elemOfWr, Tryz.mkWr]
theorem Tryz.valueEWr (e : Addr) (w : World) : (valueM #[.iface 301 (.pointer (some e))]).run Tryz.prog w
    = .ok (.agg #[.pointer (some ⟨6, 301, none⟩), .pointer (some ⟨w.heap.size, 0, none⟩), .int .u64 150]) (w.alloc (.cells #[(.pointer (some e))] 301)) := by kernel_rfl
theorem Tryz.partsAWr (a : Addr) (w : World) : (ReflectliteValue.parts (.agg #[.pointer (some ⟨6, 301, none⟩), .pointer (some a), .int .u64 406])).run Tryz.prog w = .ok (some (301, a, 406)) w := by kernel_rfl
theorem Tryz.partsEWr (a : Addr) (w : World) : (ReflectliteValue.parts (.agg #[.pointer (some ⟨6, 301, none⟩), .pointer (some a), .int .u64 150])).run Tryz.prog w = .ok (some (301, a, 150)) w := by kernel_rfl
theorem Tryz.directWr (w : World) : (Rtype.directlyAssignable 301 301).run Tryz.prog w = .ok true w := by kernel_rfl
theorem Tryz.setWr (ta b : Addr) (e : Addr) (old : Value) (W : World) (hb : W.cell? b = some ((.pointer (some e)))) (ht : W.cell? ta = some old) (hf : W.frozen? ta = false) :
    (ReflectliteValue.set #[.agg #[.pointer (some ⟨6, 301, none⟩), .pointer (some ta), .int .u64 406], .agg #[.pointer (some ⟨6, 301, none⟩), .pointer (some b), .int .u64 150]]).run Tryz.prog W
      = .ok (.tuple #[]) (W.setCell ta ((.pointer (some e)))) := by
  rw [rls]
  simp only [Sem.run_bind, Tryz.partsAWr, Tryz.partsEWr, Result.andThen]
  simp [ReflectliteValue.flagAddr, loadVar, isAgg, underlying, Tryz.underlying301, hb, Result.andThen, Tryz.directWr, storeVar, Value.cells, storeCells, Addr.add]
  rw [run_store Tryz.prog W ta _ _ (by rfl)]
  simp [ht, hf]

/-! ### A target of type Er -/
theorem Tryz.valueOfEr (t : Addr) (w : World) : (valueM #[.iface 308 (.pointer (some t))]).run Tryz.prog w
    = .ok (.agg #[.pointer (some ⟨6, 308, none⟩), .pointer (some ⟨w.heap.size, 0, none⟩), .int .u64 150]) (w.alloc (.cells #[.pointer (some t)] 308)) := by kernel_rfl
theorem Tryz.typeEr (a : Addr) (w : World) : (typeM #[.agg #[.pointer (some ⟨6, 308, none⟩), .pointer (some a), .int .u64 150]]).run Tryz.prog w
    = .ok (.iface 326 (.agg #[.pointer (some ⟨6, 308, none⟩)])) w := by kernel_rfl
theorem Tryz.kindEr (w : World) : (kindM #[.pointer (some ⟨6, 308, none⟩)]).run Tryz.prog w = .ok (.int .u8 22) w := by kernel_rfl
theorem Tryz.kindEEr (w : World) : (kindM #[.pointer (some ⟨6, 25, none⟩)]).run Tryz.prog w = .ok (.int .u8 9) w := by kernel_rfl
theorem Tryz.partsEr (a : Addr) (w : World) : (ReflectliteValue.parts (.agg #[.pointer (some ⟨6, 308, none⟩), .pointer (some a), .int .u64 150])).run Tryz.prog w = .ok (some (308, a, 150)) w := by kernel_rfl
theorem Tryz.isNilEr (a p : Addr) (W : World) (ha : W.cell? a = some (.pointer (some p))) :
    (isNilM #[.agg #[.pointer (some ⟨6, 308, none⟩), .pointer (some a), .int .u64 150]]).run Tryz.prog W = .ok (.bool false) W := by
  unfold isNilM
  rw [rlm]
  simp only [Sem.run_bind, Tryz.partsEr, Result.andThen]
  simp [ReflectliteValue.isNil, loadVar, isAgg, underlying, Tryz.underlying308, ha, Result.andThen]
theorem Tryz.elemEr (w : World) : (elemM #[.agg #[.pointer (some ⟨6, 308, none⟩)]]).run Tryz.prog w = .ok (.iface 326 (.agg #[.pointer (some ⟨6, 25, none⟩)])) w := by kernel_rfl
theorem Tryz.implEr (w : World) : (implM #[.agg #[.pointer (some ⟨6, 25, none⟩)], .iface 326 (.agg #[.pointer (some ⟨6, 178, none⟩)])]).run Tryz.prog w = .ok (.bool true) w := by kernel_rfl
theorem Tryz.asgnEr (w : World) : (asgnM #[.agg #[.pointer (some ⟨6, 25, none⟩)], .iface 326 (.agg #[.pointer (some ⟨6, 25, none⟩)])]).run Tryz.prog w = .ok (.bool true) w := by kernel_rfl
theorem Tryz.elemOfEr (w : World) : (Rtype.elem? 308).run Tryz.prog w = .ok (some 25) w := by kernel_rfl
theorem Tryz.mkEr (p : Addr) (w : World) : (ReflectliteValue.mk 25 p ReflectliteValue.flagAddr).run Tryz.prog w = .ok (.agg #[.pointer (some ⟨6, 25, none⟩), .pointer (some p), .int .u64 393]) w := by kernel_rfl
theorem Tryz.elemVEr (a p : Addr) (W : World) (ha : W.cell? a = some (.pointer (some p))) :
    (elemVM #[.agg #[.pointer (some ⟨6, 308, none⟩), .pointer (some a), .int .u64 150]]).run Tryz.prog W
      = .ok (.agg #[.pointer (some ⟨6, 25, none⟩), .pointer (some p), .int .u64 393]) W := by
  unfold elemVM
  rw [rlm]
  simp only [Sem.run_bind, Tryz.partsEr, Result.andThen]
  simp [ReflectliteValue.elem, loadVar, isAgg, underlying, Tryz.underlying308, ha, Result.andThen, Tryz.elemOfEr, Tryz.mkEr]
theorem Tryz.valueEEr (e : Int) (w : World) : (valueM #[.iface 25 (.int .u16 e)]).run Tryz.prog w
    = .ok (.agg #[.pointer (some ⟨6, 25, none⟩), .pointer (some ⟨w.heap.size, 0, none⟩), .int .u64 137]) (w.alloc (.cells #[(.int .u16 e)] 25)) := by kernel_rfl
theorem Tryz.partsAEr (a : Addr) (w : World) : (ReflectliteValue.parts (.agg #[.pointer (some ⟨6, 25, none⟩), .pointer (some a), .int .u64 393])).run Tryz.prog w = .ok (some (25, a, 393)) w := by kernel_rfl
theorem Tryz.partsEEr (a : Addr) (w : World) : (ReflectliteValue.parts (.agg #[.pointer (some ⟨6, 25, none⟩), .pointer (some a), .int .u64 137])).run Tryz.prog w = .ok (some (25, a, 137)) w := by kernel_rfl
theorem Tryz.directEr (w : World) : (Rtype.directlyAssignable 25 25).run Tryz.prog w = .ok true w := by kernel_rfl
theorem Tryz.setEr (ta b : Addr) (e : Int) (old : Value) (W : World) (hb : W.cell? b = some ((.int .u16 e))) (ht : W.cell? ta = some old) (hf : W.frozen? ta = false) :
    (ReflectliteValue.set #[.agg #[.pointer (some ⟨6, 25, none⟩), .pointer (some ta), .int .u64 393], .agg #[.pointer (some ⟨6, 25, none⟩), .pointer (some b), .int .u64 137]]).run Tryz.prog W
      = .ok (.tuple #[]) (W.setCell ta ((.int .u16 e))) := by
  rw [rls]
  simp only [Sem.run_bind, Tryz.partsAEr, Tryz.partsEEr, Result.andThen]
  simp [ReflectliteValue.flagAddr, loadVar, isAgg, underlying, Tryz.underlying25, hb, Result.andThen, Tryz.directEr, storeVar, Value.cells, storeCells, Addr.add]
  rw [run_store Tryz.prog W ta _ _ (by rfl)]
  simp [ht, hf]

theorem Tryz.asgnNo (w : World) : (asgnM #[.agg #[.pointer (some ⟨6, 301, none⟩)], .iface 326 (.agg #[.pointer (some ⟨6, 25, none⟩)])]).run Tryz.prog w = .ok (.bool false) w := by kernel_rfl

set_option maxHeartbeats 4000000 in
set_option maxRecDepth 100000 in
theorem as_wrong (e : Addr) (t : Addr) (old : Value) (w : World) (hg : w.cell? ⟨5, 0, none⟩ = some (.iface 326 (.agg #[.pointer (some ⟨6, 178, none⟩)]))) (ht0 : w.cell? t = some old) (hf0 : w.frozen? t = false) :
    Calls Tryz.prog 189 #[.iface 301 (.pointer (some e)), .iface 309 (.pointer (some t))] w fun ev w' => ev = .returned (.bool true) ∧ w' = ((((w.alloc (.cells #[.pointer (some t)] 309)).alloc (.cells #[.pointer (some ⟨6, 309, none⟩), .pointer (some ⟨w.heap.size, 0, none⟩), .int .u64 150] 318)).alloc (.cells #[.pointer (some ⟨6, 309, none⟩), .pointer (some ⟨w.heap.size, 0, none⟩), .int .u64 150] 318)).alloc (.cells #[(.pointer (some e))] 301)).setCell t (.pointer (some e)) := by
  have h6 := @run_callFunc_extern Tryz.prog 195 _ valueM Tryz.func195 (by kernel_rfl) (by kernel_rfl) (by kernel_rfl) (by kernel_rfl)
  have h7 := @run_callFunc_extern Tryz.prog 196 _ typeM Tryz.func196 (by kernel_rfl) (by kernel_rfl) (by kernel_rfl) (by kernel_rfl)
  have h8 := @run_callFunc_extern Tryz.prog 197 _ isNilM Tryz.func197 (by kernel_rfl) (by kernel_rfl) (by kernel_rfl) (by kernel_rfl)
  have h27 := @run_callFunc_extern Tryz.prog 218 _ kindM Tryz.func218 (by kernel_rfl) (by kernel_rfl) (by kernel_rfl) (by kernel_rfl)
  have h37 := @run_callFunc_extern Tryz.prog 231 _ elemM Tryz.func231 (by kernel_rfl) (by kernel_rfl) (by kernel_rfl) (by kernel_rfl)
  have h38 := @run_callFunc_extern Tryz.prog 232 _ implM Tryz.func232 (by kernel_rfl) (by kernel_rfl) (by kernel_rfl) (by kernel_rfl)
  have h10 := @run_callFunc_extern Tryz.prog 193 _ ReflectliteType.typeOf Tryz.func193 (by kernel_rfl) (by kernel_rfl) (by kernel_rfl) (by kernel_rfl)
  have h35 := @run_callFunc_extern Tryz.prog 229 _ asgnM Tryz.func229 (by kernel_rfl) (by kernel_rfl) (by kernel_rfl) (by kernel_rfl)
  have h11 := @run_callFunc_extern Tryz.prog 201 _ elemVM Tryz.func201 (by kernel_rfl) (by kernel_rfl) (by kernel_rfl) (by kernel_rfl)
  have h12 := @run_callFunc_extern Tryz.prog 202 _ ReflectliteValue.set Tryz.func202 (by kernel_rfl) (by kernel_rfl) (by kernel_rfl) (by kernel_rfl)
  have tO := Tryz.typeOfW
  have tE := Tryz.typeOfE
  have mA := Tryz.methodAssignableTo
  have a25 := Tryz.asgnWr
  have v25 := Tryz.valueEWr
  have f6 := Tryz.valueOfWr
  have f7 := Tryz.typeWr
  have mK := Tryz.methodKind
  have mE := Tryz.methodElem
  have mI := Tryz.methodImplements
  have k27 := Tryz.kindWr
  have k25 := Tryz.kindEWr
  have e27 := Tryz.elemWr
  have i25 := Tryz.implWr
  have n8 := Tryz.isNilWr ⟨w.heap.size, 0, none⟩ t ((w.alloc (.cells #[.pointer (some t)] 309)).alloc (.cells #[.pointer (some ⟨6, 309, none⟩), .pointer (some ⟨w.heap.size, 0, none⟩), .int .u64 150] 318)) (by simp)
  have hlt : 5 < w.heap.size := World.block_lt_of_cell? _ _ hg
  have hg2 : ((w.alloc (.cells #[.pointer (some t)] 309)).alloc (.cells #[.pointer (some ⟨6, 309, none⟩), .pointer (some ⟨w.heap.size, 0, none⟩), .int .u64 150] 318)).cell? ⟨5, 0, none⟩ = some (.iface 326 (.agg #[.pointer (some ⟨6, 178, none⟩)])) := by
    rw [World.cell?_alloc_lt _ _ ⟨5, 0, none⟩ (by simp; omega), World.cell?_alloc_lt _ _ ⟨5, 0, none⟩ hlt]; exact hg
  have htl : t.block < w.heap.size := World.block_lt_of_cell? _ _ ht0
  have el := Tryz.elemVWr ⟨w.heap.size, 0, none⟩ t (((w.alloc (.cells #[.pointer (some t)] 309)).alloc (.cells #[.pointer (some ⟨6, 309, none⟩), .pointer (some ⟨w.heap.size, 0, none⟩), .int .u64 150] 318)).alloc (.cells #[.pointer (some ⟨6, 309, none⟩), .pointer (some ⟨w.heap.size, 0, none⟩), .int .u64 150] 318)) (by rw [World.cell?_alloc_lt _ _ ⟨w.heap.size, 0, none⟩ (by simp; omega)]; simp)
  have st := Tryz.setWr t ⟨w.heap.size + 1 + 1 + 1, 0, none⟩ e old ((((w.alloc (.cells #[.pointer (some t)] 309)).alloc (.cells #[.pointer (some ⟨6, 309, none⟩), .pointer (some ⟨w.heap.size, 0, none⟩), .int .u64 150] 318)).alloc (.cells #[.pointer (some ⟨6, 309, none⟩), .pointer (some ⟨w.heap.size, 0, none⟩), .int .u64 150] 318)).alloc (.cells #[(.pointer (some e))] 301))
    (by rw [World.cell?_alloc_at _ _ _ _ (by simp)]; rfl)
    (by rw [World.cell?_alloc_lt _ _ t (by simp; omega), World.cell?_alloc_lt _ _ t (by simp; omega), World.cell?_alloc_lt _ _ t (by simp; omega), World.cell?_alloc_lt _ _ t htl]; exact ht0)
    (by rw [World.frozen?_alloc_old _ _ t (by simp; omega), World.frozen?_alloc_old _ _ t (by simp; omega), World.frozen?_alloc_old _ _ t (by simp; omega), World.frozen?_alloc_old _ _ t (Nat.ne_of_lt htl)]; exact hf0)
  go_enter Tryz.func189, Tryz.ntmps189
  go_wp2
  refine wp_loop_rounds 1 ?_
  rw [rounds_succ]
  go_wp2
  go_ret
  exact ⟨rfl, rfl⟩

set_option maxHeartbeats 4000000 in
set_option maxRecDepth 100000 in
theorem as_errno (e : Int) (pb : Nat) (t : Addr) (old : Value) (w : World) (hg : w.cell? ⟨5, 0, none⟩ = some (.iface 326 (.agg #[.pointer (some ⟨6, 178, none⟩)]))) (ht0 : w.cell? t = some old) (hf0 : w.frozen? t = false) (hp : w.cell? ⟨pb, 1, none⟩ = some (.iface 25 (.int .u16 e))) :
    Calls Tryz.prog 189 #[.iface 301 (.pointer (some ⟨pb, 0, none⟩)), .iface 308 (.pointer (some t))] w fun ev w' => ev = .returned (.bool true) ∧ w' = ((((w.alloc (.cells #[.pointer (some t)] 308)).alloc (.cells #[.pointer (some ⟨6, 308, none⟩), .pointer (some ⟨w.heap.size, 0, none⟩), .int .u64 150] 318)).alloc (.cells #[.pointer (some ⟨6, 308, none⟩), .pointer (some ⟨w.heap.size, 0, none⟩), .int .u64 150] 318)).alloc (.cells #[(.int .u16 e)] 25)).setCell t (.int .u16 e) := by
  have h6 := @run_callFunc_extern Tryz.prog 195 _ valueM Tryz.func195 (by kernel_rfl) (by kernel_rfl) (by kernel_rfl) (by kernel_rfl)
  have h7 := @run_callFunc_extern Tryz.prog 196 _ typeM Tryz.func196 (by kernel_rfl) (by kernel_rfl) (by kernel_rfl) (by kernel_rfl)
  have h8 := @run_callFunc_extern Tryz.prog 197 _ isNilM Tryz.func197 (by kernel_rfl) (by kernel_rfl) (by kernel_rfl) (by kernel_rfl)
  have h27 := @run_callFunc_extern Tryz.prog 218 _ kindM Tryz.func218 (by kernel_rfl) (by kernel_rfl) (by kernel_rfl) (by kernel_rfl)
  have h37 := @run_callFunc_extern Tryz.prog 231 _ elemM Tryz.func231 (by kernel_rfl) (by kernel_rfl) (by kernel_rfl) (by kernel_rfl)
  have h38 := @run_callFunc_extern Tryz.prog 232 _ implM Tryz.func232 (by kernel_rfl) (by kernel_rfl) (by kernel_rfl) (by kernel_rfl)
  have h10 := @run_callFunc_extern Tryz.prog 193 _ ReflectliteType.typeOf Tryz.func193 (by kernel_rfl) (by kernel_rfl) (by kernel_rfl) (by kernel_rfl)
  have h35 := @run_callFunc_extern Tryz.prog 229 _ asgnM Tryz.func229 (by kernel_rfl) (by kernel_rfl) (by kernel_rfl) (by kernel_rfl)
  have h11 := @run_callFunc_extern Tryz.prog 201 _ elemVM Tryz.func201 (by kernel_rfl) (by kernel_rfl) (by kernel_rfl) (by kernel_rfl)
  have h12 := @run_callFunc_extern Tryz.prog 202 _ ReflectliteValue.set Tryz.func202 (by kernel_rfl) (by kernel_rfl) (by kernel_rfl) (by kernel_rfl)
  have tO := Tryz.typeOfW
  have tE := Tryz.typeOfE
  have mA := Tryz.methodAssignableTo
  have a25 := Tryz.asgnEr
  have v25 := Tryz.valueEEr
  have f6 := Tryz.valueOfEr
  have f7 := Tryz.typeEr
  have mK := Tryz.methodKind
  have mE := Tryz.methodElem
  have mI := Tryz.methodImplements
  have k27 := Tryz.kindEr
  have k25 := Tryz.kindEEr
  have e27 := Tryz.elemEr
  have i25 := Tryz.implEr
  have n8 := Tryz.isNilEr ⟨w.heap.size, 0, none⟩ t ((w.alloc (.cells #[.pointer (some t)] 308)).alloc (.cells #[.pointer (some ⟨6, 308, none⟩), .pointer (some ⟨w.heap.size, 0, none⟩), .int .u64 150] 318)) (by simp)
  have hlt : 5 < w.heap.size := World.block_lt_of_cell? _ _ hg
  have hg2 : ((w.alloc (.cells #[.pointer (some t)] 308)).alloc (.cells #[.pointer (some ⟨6, 308, none⟩), .pointer (some ⟨w.heap.size, 0, none⟩), .int .u64 150] 318)).cell? ⟨5, 0, none⟩ = some (.iface 326 (.agg #[.pointer (some ⟨6, 178, none⟩)])) := by
    rw [World.cell?_alloc_lt _ _ ⟨5, 0, none⟩ (by simp; omega), World.cell?_alloc_lt _ _ ⟨5, 0, none⟩ hlt]; exact hg
  have htl : t.block < w.heap.size := World.block_lt_of_cell? _ _ ht0
  have el := Tryz.elemVEr ⟨w.heap.size, 0, none⟩ t (((w.alloc (.cells #[.pointer (some t)] 308)).alloc (.cells #[.pointer (some ⟨6, 308, none⟩), .pointer (some ⟨w.heap.size, 0, none⟩), .int .u64 150] 318)).alloc (.cells #[.pointer (some ⟨6, 308, none⟩), .pointer (some ⟨w.heap.size, 0, none⟩), .int .u64 150] 318)) (by rw [World.cell?_alloc_lt _ _ ⟨w.heap.size, 0, none⟩ (by simp; omega)]; simp)
  have st := Tryz.setEr t ⟨w.heap.size + 1 + 1 + 1, 0, none⟩ e old ((((w.alloc (.cells #[.pointer (some t)] 308)).alloc (.cells #[.pointer (some ⟨6, 308, none⟩), .pointer (some ⟨w.heap.size, 0, none⟩), .int .u64 150] 318)).alloc (.cells #[.pointer (some ⟨6, 308, none⟩), .pointer (some ⟨w.heap.size, 0, none⟩), .int .u64 150] 318)).alloc (.cells #[(.int .u16 e)] 25))
    (by rw [World.cell?_alloc_at _ _ _ _ (by simp)]; rfl)
    (by rw [World.cell?_alloc_lt _ _ t (by simp; omega), World.cell?_alloc_lt _ _ t (by simp; omega), World.cell?_alloc_lt _ _ t (by simp; omega), World.cell?_alloc_lt _ _ t htl]; exact ht0)
    (by rw [World.frozen?_alloc_old _ _ t (by simp; omega), World.frozen?_alloc_old _ _ t (by simp; omega), World.frozen?_alloc_old _ _ t (by simp; omega), World.frozen?_alloc_old _ _ t (Nat.ne_of_lt htl)]; exact hf0)
  have nA := Tryz.asgnNo
  have nW := Tryz.noAsW
  have uW := Tryz.hasUnwrapW
  have mU := Tryz.methodUnwrapW
  have hpl : pb < w.heap.size := World.block_lt_of_cell? _ _ hp
  have hp3 : (((w.alloc (.cells #[.pointer (some t)] 308)).alloc (.cells #[.pointer (some ⟨6, 308, none⟩), .pointer (some ⟨w.heap.size, 0, none⟩), .int .u64 150] 318)).alloc (.cells #[.pointer (some ⟨6, 308, none⟩), .pointer (some ⟨w.heap.size, 0, none⟩), .int .u64 150] 318)).cell? ⟨pb, 1, none⟩ = some (.iface 25 (.int .u16 e)) := by
    rw [World.cell?_alloc_lt _ _ ⟨pb, 1, none⟩ (by simp; omega), World.cell?_alloc_lt _ _ ⟨pb, 1, none⟩ (by simp; omega), World.cell?_alloc_lt _ _ ⟨pb, 1, none⟩ hpl]; exact hp
  go_enter Tryz.func189, Tryz.ntmps189
  go_wp2
  refine wp_loop_rounds 2 ?_
  rw [rounds_succ]
  go_wp2
  rw [rounds_succ]
  go_wp2
  go_ret
  exact ⟨rfl, rfl⟩
end Go.Proofs.YtchggapclmdpaaaGreatDoor
namespace Go.Proofs.YtchggapclmdpaaaGreatDoor
open Go.RowKit Go.Lib

theorem chain1 (w : World) (o : Obj) {p : Addr} {v : Value} (h : w.cell? p = some v) : (w.alloc o).cell? p = some v := (((Below.refl w.heap.size w).alloc (Nat.le_refl _) o).cell (World.block_lt_of_cell? _ _ h)).trans h
theorem chain4 (w : World) (o1 o2 o3 o4 : Obj) {p : Addr} {v : Value} (h : w.cell? p = some v) : ((((w.alloc o1).alloc o2).alloc o3).alloc o4).cell? p = some v := chain1 _ _ (chain1 _ _ (chain1 _ _ (chain1 _ _ h)))
theorem chainS (w : World) (o : Obj) {n : Nat} (h : n ≤ w.heap.size) : n ≤ (w.alloc o).heap.size := by rw [show (w.alloc o).heap.size = w.heap.size + 1 by simp]; omega
theorem chainB (w : World) (o0 o1 o2 o3 o4 : Obj) (v : Value) : Below w.heap.size w ((((((w.alloc o0).alloc o1).alloc o2).alloc o3).alloc o4).setCell ⟨w.heap.size, 0, none⟩ v) := by
  have h1 := chainS w o0 (Nat.le_refl _)
  have h2 := chainS _ o1 h1
  have h3 := chainS _ o2 h2
  have h4 := chainS _ o3 h3
  exact ((((((Below.refl _ w).alloc (Nat.le_refl _) o0).alloc h1 o1).alloc h2 o2).alloc h3 o3).alloc h4 o4).setCell (Nat.le_refl _) v
set_option maxHeartbeats 2000000 in
set_option maxRecDepth 100000 in
theorem told_any (K : Nat) (a b : Addr) (pb : Nat) (e : Int) (w : World) (hE : LaidE K a b w) (hp : w.cell? ⟨pb, 1, none⟩ = some (.iface 25 (.int .u16 e))) :
    Calls Tryz.prog 177 #[.iface 301 (.pointer (some ⟨pb, 0, none⟩))] w fun ev w' => ev = .returned (.int .u16 e) ∧ Below w.heap.size w w' := by
  have hb0 : Below w.heap.size w (w.alloc (.cells #[.int .u16 0] 25)) := (Below.refl _ _).alloc (Nat.le_refl _) _
  have hE0 := hE.below hb0 hE.size
  have hp0 := (hb0.cell (World.block_lt_of_cell? _ _ hp)).trans hp
  have hct : (w.alloc (.cells #[.int .u16 0] 25)).cell? ⟨w.heap.size, 0, none⟩ = some (.int .u16 0) := by simp
  have hft : (w.alloc (.cells #[.int .u16 0] 25)).frozen? ⟨w.heap.size, 0, none⟩ = false := by simp
  have has := as_errno e pb ⟨w.heap.size, 0, none⟩ _ _ hE0.ty hct hft hp0
  have HA := Lib.hid has
  have HC := Lib.hid hct
  clear has hE hE0 hp hp0 hct hft hb0
  go_enter Tryz.func177, Tryz.ntmps177
  go_wp2_with fail
  refine HA.out.mono ?_
  rintro ev w1 ⟨rfl, hw1⟩
  have hc1 : w1.cell? ⟨w.heap.size, 0, none⟩ = some (.int .u16 e) := by
    rw [hw1]
    exact World.cell?_setCell_same _ _ _ (chain4 _ _ _ _ _ HC.out)
  have hb1 : Below w.heap.size w w1 := by
    rw [hw1]
    exact chainB _ _ _ _ _ _ _
  have HB := Lib.hid hb1
  clear hw1 hb1
  go_wp2
  go_ret
  exact ⟨rfl, HB.out⟩
set_option maxHeartbeats 2000000 in
set_option maxRecDepth 100000 in
theorem place_any (K : Nat) (a b : Addr) (pb : Nat) (n : Int) (w : World) (hE : LaidE K a b w) (hp : w.cell? ⟨pb, 0, none⟩ = some (.int .i64 n)) :
    Calls Tryz.prog 178 #[.iface 301 (.pointer (some ⟨pb, 0, none⟩))] w fun ev w' => ev = .returned (.int .i64 n) ∧ Below w.heap.size w w' := by
  have hb0 : Below w.heap.size w (w.alloc (.cells #[.pointer none] 301)) := (Below.refl _ _).alloc (Nat.le_refl _) _
  have hE0 := hE.below hb0 hE.size
  have hct : (w.alloc (.cells #[.pointer none] 301)).cell? ⟨w.heap.size, 0, none⟩ = some (.pointer none) := by simp
  have hft : (w.alloc (.cells #[.pointer none] 301)).frozen? ⟨w.heap.size, 0, none⟩ = false := by simp
  have has := as_wrong ⟨pb, 0, none⟩ ⟨w.heap.size, 0, none⟩ _ _ hE0.ty hct hft
  have hpl := World.block_lt_of_cell? _ _ hp
  have hpl' : pb < w.heap.size := hpl
  have HA := Lib.hid has
  have HC := Lib.hid hct
  clear has hE hE0 hct hft hb0
  go_enter Tryz.func178, Tryz.ntmps178
  go_wp2_with fail
  refine HA.out.mono ?_
  rintro ev w1 ⟨rfl, hw1⟩
  have hc1 : w1.cell? ⟨w.heap.size, 0, none⟩ = some (.pointer (some ⟨pb, 0, none⟩)) := by
    rw [hw1]
    exact World.cell?_setCell_same _ _ _ (chain4 _ _ _ _ _ HC.out)
  have hb1 : Below w.heap.size w w1 := by
    rw [hw1]
    exact chainB _ _ _ _ _ _ _
  have hp1 := (hb1.cell hpl).trans hp
  have HB := Lib.hid hb1
  clear hw1 hb1 hp hpl
  go_wp2
  go_ret
  exact ⟨rfl, HB.out⟩
end Go.Proofs.YtchggapclmdpaaaGreatDoor
