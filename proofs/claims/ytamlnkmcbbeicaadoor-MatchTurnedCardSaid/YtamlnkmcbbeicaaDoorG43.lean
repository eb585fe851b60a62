/- Matchers: the questions of equal texts, and the turned ones. Matchers: the question of patterns. DERIVED: THE SHELF's CONTRACTS AT THIS DUMP, IN PLAIN WORDS (tools/lay-plain.mjs out of 'YtamlnkmcbbeicaaDoorShelfMRaw.lean', which tools/lay-shelf.mjs wrote): THE SAME DECLARATIONS UNDER THE SAME NAMES: 'import', 'namespace', 'open', 'def', 'theorem' AND NOTHING ELSE: no command of the shelf's: FOR A HAND-IN. Each laying: the table of numbers ('.._ren') and one theorem, a field a fact of the dump's own or the kernel's comparison; each contract: ONE APPLICATION. -/
import Derived.Test.YtamlnkmcbbeicaaDoorG42
import Derived.Shelf.Strings.SlTrimAscii
import Derived.Shelf.Strings.Search3
import Derived.Ground.NamesProg
import Derived.Test.YtamlnkmcbbeicaaDoorProg
namespace Go.Proofs.YtamlnkmcbbeicaaDoor
open Go.RowKit Go.Lib

def mv (k : Int) (n v : ByteArray) : Value := .agg #[.int .u8 k, .string n, .string v]
def eqT (v s : ByteArray) : Bool := v.toList == s.toList
set_option maxHeartbeats 4000000 in
set_option maxRecDepth 100000 in
theorem same_any (k : Int) (n v s : ByteArray) (w : World) : Calls Tryd.prog 17 #[mv k n v, .string s] w fun e w' => e = .returned (.bool (eqT v s)) ∧ Below w.heap.size w w' := by
  obtain ⟨b, hb⟩ : ∃ b, eqT v s = b := ⟨_, rfl⟩
  rw [hb]
  have hb' : (v.toList == s.toList) = b := hb
  clear hb
  unfold mv
  go_enter Tryd.func17, Tryd.ntmps17
  go_wp2_with fail
  exact bodyPost_ret (v := .bool b) (by simp [results, Tryd.results17, go_sem]) rfl ⟨rfl, (Below.refl _ _).alloc (Nat.le_refl _) _⟩
set_option maxHeartbeats 4000000 in
set_option maxRecDepth 100000 in
theorem not_same (c : Nat) (k : Int) (n v s : ByteArray) (b : Bool) (w : World) (hc : w.heap[c]? = some (.cells #[.func (.func 17) #[] #[]] 33 (0, 0)))
    (hf : ∀ w', Below w.heap.size w w' → Calls Tryd.prog 17 #[mv k n v, .string s] w' fun e w'' => e = .returned (.bool b) ∧ Below w'.heap.size w' w'') :
    Calls Tryd.prog 26 #[mv k n v, .string s, .pointer (some ⟨c, 0, none⟩)] w fun e w' => e = .returned (.bool (!b)) ∧ Below w.heap.size w w' := by
  have hlt : c < w.heap.size := (Array.getElem?_eq_some_iff.1 hc).1
  have h1 := ((MapKept.heap_alloc w (.cells #[.int .u8 k, .string n, .string v] 24)).2 c hlt).trans hc
  have hb1 : Below w.heap.size w (w.alloc (.cells #[.int .u8 k, .string n, .string v] 24)) := (Below.refl _ _).alloc (Nat.le_refl _) _
  have HF := Lib.hid (show _ ∧ _ from ⟨hf _ hb1, hb1⟩)
  have hcc : w.cell? ⟨c, 0, none⟩ = some (.func (.func 17) #[] #[]) := by simp [World.cell?, hc]
  clear hf hb1 hc h1
  unfold mv at HF ⊢
  go_enter Tryd.func26, Tryd.ntmps26
  go_wp2_with (go_at_call 17; refine HF.out.1.mono ?_; rintro e w2 ⟨rfl, hb2⟩; have H2 := Lib.hid hb2; clear hb2)
  exact bodyPost_ret (v := .bool (!b)) (by simp [results, Tryd.results26, go_sem]) rfl ⟨rfl, HF.out.2.trans (H2.out.mono HF.out.2.size)⟩
set_option maxHeartbeats 4000000 in
set_option maxRecDepth 100000 in
theorem not_pattern (c : Nat) (k : Int) (n v s : ByteArray) (b : Bool) (w : World) (hc : w.heap[c]? = some (.cells #[.func (.func 19) #[] #[]] 33 (0, 0)))
    (hf : ∀ w', Below w.heap.size w w' → Calls Tryd.prog 19 #[mv k n v, .string s] w' fun e w'' => e = .returned (.bool b) ∧ Below w'.heap.size w' w'') :
    Calls Tryd.prog 26 #[mv k n v, .string s, .pointer (some ⟨c, 0, none⟩)] w fun e w' => e = .returned (.bool (!b)) ∧ Below w.heap.size w w' := by
  have hlt : c < w.heap.size := (Array.getElem?_eq_some_iff.1 hc).1
  have h1 := ((MapKept.heap_alloc w (.cells #[.int .u8 k, .string n, .string v] 24)).2 c hlt).trans hc
  have hb1 : Below w.heap.size w (w.alloc (.cells #[.int .u8 k, .string n, .string v] 24)) := (Below.refl _ _).alloc (Nat.le_refl _) _
  have HF := Lib.hid (show _ ∧ _ from ⟨hf _ hb1, hb1⟩)
  have hcc : w.cell? ⟨c, 0, none⟩ = some (.func (.func 19) #[] #[]) := by simp [World.cell?, hc]
  clear hf hb1 hc h1
  unfold mv at HF ⊢
  go_enter Tryd.func26, Tryd.ntmps26
  go_wp2_with (go_at_call 19; refine HF.out.1.mono ?_; rintro e w2 ⟨rfl, hb2⟩; have H2 := Lib.hid hb2; clear hb2)
  exact bodyPost_ret (v := .bool (!b)) (by simp [results, Tryd.results26, go_sem]) rfl ⟨rfl, HF.out.2.trans (H2.out.mono HF.out.2.size)⟩
end Go.Proofs.YtamlnkmcbbeicaaDoor
namespace Go.Proofs.YtamlnkmcbbeicaaDoor
open Go.RowKit Go.Lib
open RX (PS Tr Pr Stp Th)

set_option maxHeartbeats 4000000 in
set_option maxRecDepth 100000 in
theorem pattern_any (k : Int) (n v s : ByteArray) (w : World) (hs : s.size ≤ 50000) : Calls Tryd.prog 19 #[mv k n v, .string s] w fun e w' => e = .returned (.bool (fitB v s)) ∧ Below w.heap.size w w' := by
  have hb1 : Below w.heap.size w (w.alloc (.cells #[.int .u8 k, .string n, .string v] 24)) := (Below.refl _ _).alloc (Nat.le_refl _) _
  have HC := Lib.hid (show _ ∧ _ ∧ _ from ⟨compile_ok v (w.alloc (.cells #[.int .u8 k, .string n, .string v] 24)), hs, hb1⟩)
  clear hs hb1
  unfold mv
  go_enter Tryd.func19, Tryd.ntmps19
  go_wp2_with fail
  refine HC.out.1.mono ?_
  rintro e w1 ⟨hb, ⟨t, g, rp, hc, rfl, hok⟩ | ⟨x, a, hc, hx, _, rfl⟩⟩
  · have hB : fitB v s = (RX.runRx (RX.machine t) (2 * g + 2) s.data.toList).isSome := by unfold fitB RX.fitsRx; rw [hc]; rfl
    have H1 := Lib.hid (show _ ∧ _ ∧ _ from ⟨HC.out.2.2.trans (hb.mono HC.out.2.2.size), hok, hB⟩)
    clear hb hok hB hc
    go_wp2_with fail
    refine (match_any rp t g s w1 H1.out.2.1 HC.out.2.1).mono ?_
    rintro e w2 ⟨rfl, hb2⟩
    have H2 := Lib.hid hb2
    clear hb2
    obtain ⟨b, hbe⟩ : ∃ b, (RX.runRx (RX.machine t) (2 * g + 2) s.data.toList).isSome = b := ⟨_, rfl⟩
    rw [hbe]
    have HB := Lib.hid hbe
    clear hbe
    go_wp2_with fail
    refine bodyPost_ret (v := .bool b) (by simp [results, Tryd.results19, go_sem]) rfl ⟨?_, H1.out.1.trans (H2.out.mono H1.out.1.size)⟩
    rw [H1.out.2.2, HB.out]
  · have hB : fitB v s = false := by unfold fitB RX.fitsRx; rw [hc]; rfl
    have hx0 : (x == 0) = false := by simp; omega
    have H1 := Lib.hid (show _ ∧ _ ∧ _ from ⟨HC.out.2.2.trans (hb.mono HC.out.2.2.size), hx, hB⟩)
    clear hb hB hc hx
    go_wp2_with fail
    refine bodyPost_ret (v := .bool false) (by simp [results, Tryd.results19, go_sem]) rfl ⟨?_, H1.out.1⟩
    rw [H1.out.2.2]
end Go.Proofs.YtamlnkmcbbeicaaDoor
namespace Go.Proofs
open Go.Shelf
def Tryd.lContains_ren : Go.Shelf.Ren := ⟨fun | 144 => 20 | 143 => 28 | 219 => 41 | 217 => 51 | 225 => 52 | 224 => 53 | 267 => 54 | 266 => 62 | 314 => 63 | n => n, fun | 9 => 9 | 4 => 4 | 3 => 3 | 5 => 5 | 46 => 65 | 146 => 124 | 51 => 123 | n => n, fun | 1 => 0 | n => n⟩
theorem Tryd.lContains : Go.Proofs.Lays.n144 Tryd.prog Tryd.lContains_ren := {
  mixed := by kernel_rfl
  f143 := Tryd.func28.trans (congrArg some (by kernel_rfl))
  f144 := Tryd.func20.trans (congrArg some (by kernel_rfl))
  f217 := Tryd.func51.trans (congrArg some (by kernel_rfl))
  f219 := Tryd.func41.trans (congrArg some (by kernel_rfl))
  f224 := Tryd.func53.trans (congrArg some (by kernel_rfl))
  f225 := Tryd.func52.trans (congrArg some (by kernel_rfl))
  f266 := Tryd.func62.trans (congrArg some (by kernel_rfl))
  f267 := Tryd.func54.trans (congrArg some (by kernel_rfl))
  f314 := Tryd.func63.trans (congrArg some (by kernel_rfl))
  t3 := Tryd.underlying3
  a3 := Tryd.isAgg3
  z3 := Tryd.sizeOf3
  v3 := Tryd.zeroValue3
  t4 := Tryd.underlying4
  a4 := Tryd.isAgg4
  z4 := Tryd.sizeOf4
  v4 := Tryd.zeroValue4
  t5 := Tryd.underlying5
  a5 := Tryd.isAgg5
  z5 := Tryd.sizeOf5
  v5 := Tryd.zeroValue5
  t9 := Tryd.underlying9
  a9 := Tryd.isAgg9
  z9 := Tryd.sizeOf9
  v9 := Tryd.zeroValue9
  t46 := Tryd.underlying65
  a46 := Tryd.isAgg65
  z46 := Tryd.sizeOf65
  v46 := Tryd.zeroValue65
  t51 := Tryd.underlying123
  a51 := Tryd.isAgg123
  z51 := Tryd.sizeOf123
  v51 := Tryd.zeroValue123
  t146 := Tryd.underlying124
  a146 := Tryd.isAgg124
  z146 := Tryd.sizeOf124
  v146 := Tryd.zeroValue124
  g1 := by kernel_rfl }
def Tryd.lTrim_ren : Go.Shelf.Ren := ⟨fun | 160 => 21 | 232 => 30 | 231 => 29 | 227 => 31 | 234 => 33 | 233 => 32 | 236 => 35 | 235 => 34 | 228 => 42 | 271 => 45 | 151 => 44 | 197 => 43 | 120 => 57 | 152 => 56 | 260 => 55 | 137 => 64 | 119 => 65 | 224 => 53 | 225 => 52 | 217 => 51 | 266 => 62 | n => n, fun | 9 => 9 | 4 => 4 | 3 => 3 | 5 => 5 | 117 => 72 | 116 => 71 | 0 => 0 | 124 => 75 | 21 => 21 | 105 => 102 | 46 => 65 | 119 => 126 | 139 => 129 | 138 => 128 | n => n, fun | 3 => 1 | 4 => 2 | n => n⟩
theorem Tryd.lTrim : Go.Proofs.Lays.n160 Tryd.prog Tryd.lTrim_ren := {
  mixed := by kernel_rfl
  f119 := Tryd.func65.trans (congrArg some (by kernel_rfl))
  f120 := Tryd.func57.trans (congrArg some (by kernel_rfl))
  f137 := Tryd.func64.trans (congrArg some (by kernel_rfl))
  f151 := Tryd.func44.trans (congrArg some (by kernel_rfl))
  f152 := Tryd.func56.trans (congrArg some (by kernel_rfl))
  f160 := Tryd.func21.trans (congrArg some (by kernel_rfl))
  f197 := Tryd.func43.trans (congrArg some (by kernel_rfl))
  f217 := Tryd.func51.trans (congrArg some (by kernel_rfl))
  f224 := Tryd.func53.trans (congrArg some (by kernel_rfl))
  f225 := Tryd.func52.trans (congrArg some (by kernel_rfl))
  f227 := Tryd.func31.trans (congrArg some (by kernel_rfl))
  f228 := Tryd.func42.trans (congrArg some (by kernel_rfl))
  f231 := Tryd.func29.trans (congrArg some (by kernel_rfl))
  f232 := Tryd.func30.trans (congrArg some (by kernel_rfl))
  f233 := Tryd.func32.trans (congrArg some (by kernel_rfl))
  f234 := Tryd.func33.trans (congrArg some (by kernel_rfl))
  f235 := Tryd.func34.trans (congrArg some (by kernel_rfl))
  f236 := Tryd.func35.trans (congrArg some (by kernel_rfl))
  f260 := Tryd.func55.trans (congrArg some (by kernel_rfl))
  f266 := Tryd.func62.trans (congrArg some (by kernel_rfl))
  f271 := Tryd.func45.trans (congrArg some (by kernel_rfl))
  t0 := Tryd.underlying0
  a0 := Tryd.isAgg0
  z0 := Tryd.sizeOf0
  v0 := Tryd.zeroValue0
  t3 := Tryd.underlying3
  a3 := Tryd.isAgg3
  z3 := Tryd.sizeOf3
  v3 := Tryd.zeroValue3
  t4 := Tryd.underlying4
  a4 := Tryd.isAgg4
  z4 := Tryd.sizeOf4
  v4 := Tryd.zeroValue4
  t5 := Tryd.underlying5
  a5 := Tryd.isAgg5
  z5 := Tryd.sizeOf5
  v5 := Tryd.zeroValue5
  t9 := Tryd.underlying9
  a9 := Tryd.isAgg9
  z9 := Tryd.sizeOf9
  v9 := Tryd.zeroValue9
  t21 := Tryd.underlying21
  a21 := Tryd.isAgg21
  z21 := Tryd.sizeOf21
  v21 := Tryd.zeroValue21
  t46 := Tryd.underlying65
  a46 := Tryd.isAgg65
  z46 := Tryd.sizeOf65
  v46 := Tryd.zeroValue65
  t105 := Tryd.underlying102
  a105 := Tryd.isAgg102
  z105 := Tryd.sizeOf102
  v105 := Tryd.zeroValue102
  t116 := Tryd.underlying71
  a116 := Tryd.isAgg71
  z116 := Tryd.sizeOf71
  t117 := Tryd.underlying72
  a117 := Tryd.isAgg72
  z117 := Tryd.sizeOf72
  v117 := Tryd.zeroValue72
  t119 := Tryd.underlying126
  a119 := Tryd.isAgg126
  z119 := Tryd.sizeOf126
  t124 := Tryd.underlying75
  a124 := Tryd.isAgg75
  z124 := Tryd.sizeOf75
  v124 := Tryd.zeroValue75
  t138 := Tryd.underlying128
  a138 := Tryd.isAgg128
  z138 := Tryd.sizeOf128
  v138 := Tryd.zeroValue128
  t139 := Tryd.underlying129
  a139 := Tryd.isAgg129
  z139 := Tryd.sizeOf129
  v139 := Tryd.zeroValue129
  g3 := by kernel_rfl
  g4 := by kernel_rfl }
end Go.Proofs
