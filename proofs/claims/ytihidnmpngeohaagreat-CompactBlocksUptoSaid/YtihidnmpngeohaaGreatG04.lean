/- A row of the call's own, of one-cell elements of whatever kind, before and behind a sort. slices.SortFunc's worlds at a row of the call's own, elements of k cells: what the row holds ahead, what it holds behind. DERIVED: THE SHELF's CONTRACTS AT THIS DUMP, IN PLAIN WORDS (tools/lay-plain.mjs out of 'YtihidnmpngeohaaGreatShelfRaw.lean', which tools/lay-shelf.mjs wrote): THE SAME DECLARATIONS UNDER THE SAME NAMES: 'import', 'namespace', 'open', 'def', 'theorem' AND NOTHING ELSE: no command of the shelf's: FOR A HAND-IN. Each laying: the table of numbers ('.._ren') and one theorem, a field a fact of the dump's own or the kernel's comparison; each contract: ONE APPLICATION. merge.Intervals: the intervals that are none struck, sorted by their beginnings, put together one by one. -/
import Derived.Test.YtihidnmpngeohaaGreatStab
import Derived.Sort.Grow
import Derived.Laws.OwnMore
import Derived.Shelf.GgSortFunc.SW
import Derived.Test.YtihidnmpngeohaaGreatG02
import Derived.Shelf.SlSortCmp.WholeK
import Derived.Shelf.SlicesE.Clone
import Derived.Shelf.SlicesQ.IndexFunc
import Derived.Shelf.SlLaysE0
import Derived.Shelf.SlLaysH0
import Derived.Ground.SlgnProg
import Derived.Ground.SlgfProg
import Derived.Ground.SlsfProg
import Derived.Shelf.SlGeneric
import Derived.Test.YtihidnmpngeohaaGreatProg
import Derived.Shelf.SlSortCmp.NoneTotal
import Derived.RegionTactic
import Derived.ChangeAlike
import Derived.BigRegion
namespace Go.Proofs.YtihidnmpngeohaaGreat
open Go.Sort Go.RowKit
variable {α : Type} [Inhabited α] {enc : α → Value} {w : World} {g : Nat}
theorem holds_block {cur : Array Value} {e : TypeId} {d : Array α} (hb : w.heap[g]? = some (.cells cur e (0, 0))) (ht : cur.toList.take d.size = d.toList.map enc) : Holds enc w g 0 d := by
  intro j hj
  refine ⟨?_, by simp [World.frozen?, hb]⟩
  have h1 : (cur.toList.take d.size)[j]? = (d.toList.map enc)[j]? := by rw [ht]
  rw [List.getElem?_take_of_lt hj] at h1
  simp only [World.cell?, hb, Nat.zero_add]
  simp only [Option.isSome_none, Bool.false_eq_true, if_false]
  rw [← Array.getElem?_toList, h1]
  simp [hj]
theorem heap_sortedG {n : Nat} {os : Array Obj} {cur : Array Value} {e : TypeId} {fr : Nat × Nat} (d : Array α) (hb : w.heap[g]? = some (.cells cur e fr)) :
    (grow (putRow enc (Sort.ahead w n) g 0 d) os).heap[g]? = some (.cells (putCells enc 0 d cur) e fr) := by
  have hg : g < w.heap.size := (Array.getElem?_eq_some_iff.1 hb).1
  rw [heap_grow_old _ _ (by simpa using hg)]
  simp [putRow, mapBlock, Sort.ahead, Array.getElem?_modify, hb, onCells]
theorem grownBy_sortedG {n : Nat} {os : Array Obj} (d : Array α) : w.grownBy (grow (putRow enc (Sort.ahead w n) g 0 d) os) (some g) := by
  refine ⟨rfl, rfl, rfl, by simp, fun k hk hne => ?_⟩
  rw [heap_grow_old _ _ (by simpa using hk)]
  have : g ≠ k := fun e => hne (by rw [e])
  simp [putRow, mapBlock, Sort.ahead, Array.getElem?_modify, this]
theorem take_putCellsG (cur : Array Value) (d : Array α) (h : d.size ≤ cur.size) : (putCells enc 0 d cur).toList.take d.size = d.toList.map enc := by
  apply List.ext_getElem?
  intro j
  by_cases hj : j < d.size
  · rw [List.getElem?_take_of_lt hj, Array.getElem?_toList]
    simp [putCells, hj, show j < cur.size by omega]
  · rw [List.getElem?_take_eq_none (by omega), List.getElem?_eq_none (by simp; omega)]
theorem ownsRow_sortedG {base cap n k : Nat} {e : TypeId} {os : Array Obj} {cur : Array Value} {d : Array α} (hl : d.size = k) (hbase : base ≤ g) (hb : w.heap[g]? = some (.cells cur e (0, 0))) (h1 : k ≤ cap) (h2 : cap ≤ maxLen) (h3 : cur.size = cap * 1) :
    (grow (putRow enc (Sort.ahead w n) g 0 d) os).ownsRow base e 1 (.slice (some ⟨g, 0, none⟩) k cap) k (d.toList.map enc) :=
  ⟨by simp [hl], .inr ⟨g, cap, _, rfl, hbase, heap_sortedG d hb, h1, h2, by simp [putCells, h3], by rw [Nat.mul_one, ← hl]; exact take_putCellsG cur d (by omega)⟩⟩
end Go.Proofs.YtihidnmpngeohaaGreat
namespace Go.Proofs.YtihidnmpngeohaaGreat
open Go.RowKit Go.Lib Go.Sort

section
variable {α : Type} [Inhabited α] {enc : α → List Value} {k : Nat}
theorem flatK_list (hk : ∀ x, (enc x).length = k) (d : Array α) : (flatK enc k d).toList = d.toList.flatMap enc := by
  apply List.ext_getElem?
  intro t
  have hl := flatMap_length hk d.toList
  by_cases ht : t < d.size * k
  · have k0 : 0 < k := Nat.pos_of_ne_zero fun e => by subst e; simp at ht
    have hq : t / k < d.size := (Nat.div_lt_iff_lt_mul k0).2 ht
    have hm : t % k < k := Nat.mod_lt _ k0
    have h1 := get_flatK enc k d t ht
    have h2 := flatMap_at hk d.toList (t / k) d[t / k]! (by rw [getElem!_pos d _ hq]; simp [hq]) (t % k) ((enc d[t / k]!)[t % k]!) (by rw [getElem!_pos (enc d[t / k]!) (t % k) (by rw [hk]; exact hm)]; exact List.getElem?_eq_getElem _)
    have e : t / k * k + t % k = t := by rw [Nat.mul_comm]; exact Nat.div_add_mod t k
    rw [e] at h2
    rw [h2, ← h1, getElem!_pos _ t (by rw [size_flatK]; exact ht)]
    simp [ht]
  · rw [List.getElem?_eq_none (by rw [Array.length_toList, size_flatK]; omega), List.getElem?_eq_none (by rw [hl, Array.length_toList]; omega)]
variable {w : World} {B n cap g : Nat} {e : TypeId} {l : List α}
theorem holdsK_own (hk : ∀ x, (enc x).length = k) (h : w.ownsRow B e k (.slice (some ⟨g, 0, none⟩) n cap) n (l.flatMap enc)) : HoldsK enc k w g 0 l.toArray := by
  intro j hj
  have hfl : (flatK enc k l.toArray).toList = l.flatMap enc := flatK_list hk _
  have hj' : j < (l.flatMap enc).length := by rw [← hfl, Array.length_toList]; exact hj
  rw [Nat.zero_add]
  refine ⟨?_, h.frozenAt j⟩
  rw [h.cellAt j (by rw [← h.1]; exact hj'), getElem!_pos _ j hj, List.getElem?_eq_getElem hj']
  congr 1
  simp only [id]
  have h1 : (flatK enc k l.toArray).toList[j]'(by rw [Array.length_toList]; exact hj) = (l.flatMap enc)[j] := by simp only [hfl]
  rw [← h1, Array.getElem_toList]
theorem ownsK_sorted (hk : ∀ x, (enc x).length = k) (h : w.ownsRow B e k (.slice (some ⟨g, 0, none⟩) n cap) n (l.flatMap enc)) (m : Nat) (os : Array Obj) (d' : Array α) (hs : d'.size = l.length) (hl : l.length = n) :
    (sortWorldK enc k w g 0 m d' os).ownsRow B e k (.slice (some ⟨g, 0, none⟩) n cap) n (d'.toList.flatMap enc) ∧ w.grownBy (sortWorldK enc k w g 0 m d' os) (some g) := by
  rcases h.2 with ⟨h', _⟩ | ⟨g', cap', cur, h', hb, hg, hnc, hcm, hcs, htake⟩
  · cases h'
  · cases h'
    have hheap : (sortWorldK enc k w g 0 m d' os).heap[g]? = some (.cells (putCells id 0 (flatK enc k d') cur) e (0, 0)) := heap_sortedG (enc := id) (flatK enc k d') hg
    have hdl : (d'.toList.flatMap enc).length = n * k := by rw [flatMap_length hk, Array.length_toList, hs, hl]
    refine ⟨⟨hdl, .inr ⟨g, cap, _, rfl, hb, hheap, hnc, hcm, by simpa [putCells] using hcs, ?_⟩⟩, ?_⟩
    · have h1 := take_putCellsG (enc := id) cur (flatK enc k d') (by rw [size_flatK, hs, hl, hcs]; exact Nat.mul_le_mul_right _ hnc)
      rw [size_flatK, hs, hl, List.map_id, flatK_list hk] at h1
      exact h1
    · exact grownBy_sortedG (enc := id) (flatK enc k d')
end
end Go.Proofs.YtihidnmpngeohaaGreat
namespace Go.Proofs
open Go.Shelf
def Tryz.insSample_ren : Go.Shelf.Ren := ⟨fun | 20 => 162 | n => n, fun | 24 => 95 | 22 => 90 | 3 => 3 | 25 => 167 | 4 => 4 | 0 => 0 | n => n, fun | n => n⟩
theorem Tryz.insSample : Go.Proofs.SlLaysF0.n20 Tryz.prog Tryz.insSample_ren := {
  mixed := by kernel_rfl
  f20 := ⟨Tryz.f162.name, by decide, Tryz.func162.trans (congrArg some (by kernel_rfl))⟩
  t0 := Tryz.underlying0
  a0 := Tryz.isAgg0
  z0 := Tryz.sizeOf0
  v0 := Tryz.zeroValue0
  t3 := Tryz.underlying3
  a3 := Tryz.isAgg3
  z3 := Tryz.sizeOf3
  v3 := Tryz.zeroValue3
  t4 := Tryz.underlying4
  a4 := Tryz.isAgg4
  z4 := Tryz.sizeOf4
  v4 := Tryz.zeroValue4
  t22 := Tryz.underlying90
  a22 := Tryz.isAgg90
  z22 := Tryz.sizeOf90
  v22 := Tryz.zeroValue90
  t25 := Tryz.underlying167
  a25 := Tryz.isAgg167
  z25 := Tryz.sizeOf167
  v25 := Tryz.zeroValue167 }
def Tryz.insTomb_ren : Go.Shelf.Ren := ⟨fun | 20 => 127 | n => n, fun | 24 => 27 | 22 => 22 | 3 => 3 | 25 => 83 | 4 => 4 | 0 => 0 | n => n, fun | n => n⟩
theorem Tryz.insTomb : Go.Proofs.SlLaysF0.n20 Tryz.prog Tryz.insTomb_ren := {
  mixed := by kernel_rfl
  f20 := ⟨Tryz.f127.name, by decide, Tryz.func127.trans (congrArg some (by kernel_rfl))⟩
  t0 := Tryz.underlying0
  a0 := Tryz.isAgg0
  z0 := Tryz.sizeOf0
  v0 := Tryz.zeroValue0
  t3 := Tryz.underlying3
  a3 := Tryz.isAgg3
  z3 := Tryz.sizeOf3
  v3 := Tryz.zeroValue3
  t4 := Tryz.underlying4
  a4 := Tryz.isAgg4
  z4 := Tryz.sizeOf4
  v4 := Tryz.zeroValue4
  t22 := Tryz.underlying22
  a22 := Tryz.isAgg22
  z22 := Tryz.sizeOf22
  v22 := Tryz.zeroValue22
  t25 := Tryz.underlying83
  a25 := Tryz.isAgg83
  z25 := Tryz.sizeOf83
  v25 := Tryz.zeroValue83 }
def Tryz.sortInterval_ren : Go.Shelf.Ren := ⟨fun | 6 => 99 | 15 => 112 | 14 => 131 | 28 => 144 | 29 => 145 | 20 => 154 | 21 => 155 | 22 => 156 | 23 => 157 | 24 => 158 | 25 => 159 | 26 => 160 | 27 => 161 | 46 => 182 | 47 => 165 | 48 => 166 | 49 => 183 | 50 => 184 | 57 => 192 | n => n, fun | 22 => 86 | 24 => 25 | 25 => 159 | 3 => 3 | 39 => 216 | 0 => 0 | 53 => 142 | 55 => 92 | 4 => 4 | 46 => 266 | 45 => 265 | 50 => 270 | 5 => 5 | 9 => 9 | 66 => 288 | 70 => 292 | 76 => 304 | 77 => 305 | n => n, fun | n => n⟩
theorem Tryz.sortInterval : Go.Proofs.SlLaysF0.n6 Tryz.prog Tryz.sortInterval_ren := {
  mixed := by kernel_rfl
  f6 := ⟨Tryz.f99.name, by decide, Tryz.func99.trans (congrArg some (by kernel_rfl))⟩
  f14 := ⟨Tryz.f131.name, by decide, Tryz.func131.trans (congrArg some (by kernel_rfl))⟩
  f15 := Tryz.func112.trans (congrArg some (by kernel_rfl))
  f20 := ⟨Tryz.f154.name, by decide, Tryz.func154.trans (congrArg some (by kernel_rfl))⟩
  f21 := ⟨Tryz.f155.name, by decide, Tryz.func155.trans (congrArg some (by kernel_rfl))⟩
  f22 := ⟨Tryz.f156.name, by decide, Tryz.func156.trans (congrArg some (by kernel_rfl))⟩
  f23 := ⟨Tryz.f157.name, by decide, Tryz.func157.trans (congrArg some (by kernel_rfl))⟩
  f24 := ⟨Tryz.f158.name, by decide, Tryz.func158.trans (congrArg some (by kernel_rfl))⟩
  f25 := ⟨Tryz.f159.name, by decide, Tryz.func159.trans (congrArg some (by kernel_rfl))⟩
  f26 := ⟨Tryz.f160.name, by decide, Tryz.func160.trans (congrArg some (by kernel_rfl))⟩
  f27 := ⟨Tryz.f161.name, by decide, Tryz.func161.trans (congrArg some (by kernel_rfl))⟩
  f28 := Tryz.func144.trans (congrArg some (by kernel_rfl))
  f29 := Tryz.func145.trans (congrArg some (by kernel_rfl))
  f46 := ⟨Tryz.f182.name, by decide, Tryz.func182.trans (congrArg some (by kernel_rfl))⟩
  f47 := Tryz.func165.trans (congrArg some (by kernel_rfl))
  f48 := Tryz.func166.trans (congrArg some (by kernel_rfl))
  f49 := ⟨Tryz.f183.name, by decide, Tryz.func183.trans (congrArg some (by kernel_rfl))⟩
  f50 := ⟨Tryz.f184.name, by decide, Tryz.func184.trans (congrArg some (by kernel_rfl))⟩
  f57 := ⟨Tryz.f192.name, by decide, Tryz.func192.trans (congrArg some (by kernel_rfl))⟩
  t0 := Tryz.underlying0
  a0 := Tryz.isAgg0
  z0 := Tryz.sizeOf0
  v0 := Tryz.zeroValue0
  t3 := Tryz.underlying3
  a3 := Tryz.isAgg3
  z3 := Tryz.sizeOf3
  v3 := Tryz.zeroValue3
  t4 := Tryz.underlying4
  a4 := Tryz.isAgg4
  z4 := Tryz.sizeOf4
  v4 := Tryz.zeroValue4
  t5 := Tryz.underlying5
  a5 := Tryz.isAgg5
  z5 := Tryz.sizeOf5
  v5 := Tryz.zeroValue5
  t9 := Tryz.underlying9
  a9 := Tryz.isAgg9
  z9 := Tryz.sizeOf9
  v9 := Tryz.zeroValue9
  t22 := Tryz.underlying86
  a22 := Tryz.isAgg86
  z22 := Tryz.sizeOf86
  v22 := Tryz.zeroValue86
  t25 := Tryz.underlying159
  a25 := Tryz.isAgg159
  z25 := Tryz.sizeOf159
  v25 := Tryz.zeroValue159
  t39 := Tryz.underlying216
  a39 := Tryz.isAgg216
  z39 := Tryz.sizeOf216
  v39 := Tryz.zeroValue216
  t45 := Tryz.underlying265
  a45 := Tryz.isAgg265
  z45 := Tryz.sizeOf265
  v45 := Tryz.zeroValue265
  t46 := Tryz.underlying266
  a46 := Tryz.isAgg266
  z46 := Tryz.sizeOf266
  v46 := Tryz.zeroValue266
  t50 := Tryz.underlying270
  a50 := Tryz.isAgg270
  z50 := Tryz.sizeOf270
  v50 := Tryz.zeroValue270
  t53 := Tryz.underlying142
  a53 := Tryz.isAgg142
  z53 := Tryz.sizeOf142
  v53 := Tryz.zeroValue142
  t55 := Tryz.underlying92
  a55 := Tryz.isAgg92
  z55 := Tryz.sizeOf92
  v55 := Tryz.zeroValue92
  t66 := Tryz.underlying288
  a66 := Tryz.isAgg288
  z66 := Tryz.sizeOf288
  v66 := Tryz.zeroValue288
  t70 := Tryz.underlying292
  a70 := Tryz.isAgg292
  z70 := Tryz.sizeOf292
  v70 := Tryz.zeroValue292
  t76 := Tryz.underlying304
  a76 := Tryz.isAgg304
  z76 := Tryz.sizeOf304
  v76 := Tryz.zeroValue304
  t77 := Tryz.underlying305
  a77 := Tryz.isAgg305
  z77 := Tryz.sizeOf305
  v77 := Tryz.zeroValue305 }
def Tryz.sortSeries_ren : Go.Shelf.Ren := ⟨fun | 6 => 80 | 15 => 112 | 14 => 111 | 28 => 144 | 29 => 145 | 20 => 136 | 21 => 137 | 22 => 138 | 23 => 139 | 24 => 140 | 25 => 141 | 26 => 142 | 27 => 143 | 46 => 164 | 47 => 165 | 48 => 166 | 49 => 167 | 50 => 168 | 57 => 186 | n => n, fun | 22 => 70 | 24 => 132 | 25 => 138 | 3 => 3 | 39 => 216 | 0 => 0 | 53 => 142 | 55 => 92 | 4 => 4 | 46 => 266 | 45 => 265 | 50 => 270 | 5 => 5 | 9 => 9 | 66 => 288 | 70 => 292 | 76 => 304 | 77 => 305 | n => n, fun | n => n⟩
theorem Tryz.sortSeries : Go.Proofs.SlLaysF0.n6 Tryz.prog Tryz.sortSeries_ren := {
  mixed := by kernel_rfl
  f6 := ⟨Tryz.f80.name, by decide, Tryz.func80.trans (congrArg some (by kernel_rfl))⟩
  f14 := ⟨Tryz.f111.name, by decide, Tryz.func111.trans (congrArg some (by kernel_rfl))⟩
  f15 := Tryz.func112.trans (congrArg some (by kernel_rfl))
  f20 := ⟨Tryz.f136.name, by decide, Tryz.func136.trans (congrArg some (by kernel_rfl))⟩
  f21 := ⟨Tryz.f137.name, by decide, Tryz.func137.trans (congrArg some (by kernel_rfl))⟩
  f22 := ⟨Tryz.f138.name, by decide, Tryz.func138.trans (congrArg some (by kernel_rfl))⟩
  f23 := ⟨Tryz.f139.name, by decide, Tryz.func139.trans (congrArg some (by kernel_rfl))⟩
  f24 := ⟨Tryz.f140.name, by decide, Tryz.func140.trans (congrArg some (by kernel_rfl))⟩
  f25 := ⟨Tryz.f141.name, by decide, Tryz.func141.trans (congrArg some (by kernel_rfl))⟩
  f26 := ⟨Tryz.f142.name, by decide, Tryz.func142.trans (congrArg some (by kernel_rfl))⟩
  f27 := ⟨Tryz.f143.name, by decide, Tryz.func143.trans (congrArg some (by kernel_rfl))⟩
  f28 := Tryz.func144.trans (congrArg some (by kernel_rfl))
  f29 := Tryz.func145.trans (congrArg some (by kernel_rfl))
  f46 := ⟨Tryz.f164.name, by decide, Tryz.func164.trans (congrArg some (by kernel_rfl))⟩
  f47 := Tryz.func165.trans (congrArg some (by kernel_rfl))
  f48 := Tryz.func166.trans (congrArg some (by kernel_rfl))
  f49 := ⟨Tryz.f167.name, by decide, Tryz.func167.trans (congrArg some (by kernel_rfl))⟩
  f50 := ⟨Tryz.f168.name, by decide, Tryz.func168.trans (congrArg some (by kernel_rfl))⟩
  f57 := ⟨Tryz.f186.name, by decide, Tryz.func186.trans (congrArg some (by kernel_rfl))⟩
  t0 := Tryz.underlying0
  a0 := Tryz.isAgg0
  z0 := Tryz.sizeOf0
  v0 := Tryz.zeroValue0
  t3 := Tryz.underlying3
  a3 := Tryz.isAgg3
  z3 := Tryz.sizeOf3
  v3 := Tryz.zeroValue3
  t4 := Tryz.underlying4
  a4 := Tryz.isAgg4
  z4 := Tryz.sizeOf4
  v4 := Tryz.zeroValue4
  t5 := Tryz.underlying5
  a5 := Tryz.isAgg5
  z5 := Tryz.sizeOf5
  v5 := Tryz.zeroValue5
  t9 := Tryz.underlying9
  a9 := Tryz.isAgg9
  z9 := Tryz.sizeOf9
  v9 := Tryz.zeroValue9
  t22 := Tryz.underlying70
  a22 := Tryz.isAgg70
  z22 := Tryz.sizeOf70
  v22 := Tryz.zeroValue70
  t25 := Tryz.underlying138
  a25 := Tryz.isAgg138
  z25 := Tryz.sizeOf138
  v25 := Tryz.zeroValue138
  t39 := Tryz.underlying216
  a39 := Tryz.isAgg216
  z39 := Tryz.sizeOf216
  v39 := Tryz.zeroValue216
  t45 := Tryz.underlying265
  a45 := Tryz.isAgg265
  z45 := Tryz.sizeOf265
  v45 := Tryz.zeroValue265
  t46 := Tryz.underlying266
  a46 := Tryz.isAgg266
  z46 := Tryz.sizeOf266
  v46 := Tryz.zeroValue266
  t50 := Tryz.underlying270
  a50 := Tryz.isAgg270
  z50 := Tryz.sizeOf270
  v50 := Tryz.zeroValue270
  t53 := Tryz.underlying142
  a53 := Tryz.isAgg142
  z53 := Tryz.sizeOf142
  v53 := Tryz.zeroValue142
  t55 := Tryz.underlying92
  a55 := Tryz.isAgg92
  z55 := Tryz.sizeOf92
  v55 := Tryz.zeroValue92
  t66 := Tryz.underlying288
  a66 := Tryz.isAgg288
  z66 := Tryz.sizeOf288
  v66 := Tryz.zeroValue288
  t70 := Tryz.underlying292
  a70 := Tryz.isAgg292
  z70 := Tryz.sizeOf292
  v70 := Tryz.zeroValue292
  t76 := Tryz.underlying304
  a76 := Tryz.isAgg304
  z76 := Tryz.sizeOf304
  v76 := Tryz.zeroValue304
  t77 := Tryz.underlying305
  a77 := Tryz.isAgg305
  z77 := Tryz.sizeOf305
  v77 := Tryz.zeroValue305 }
def Tryz.cloneSample_ren : Go.Shelf.Ren := ⟨fun | 41 => 102 | n => n, fun | 22 => 90 | 23 => 95 | 4 => 4 | n => n, fun | n => n⟩
theorem Tryz.cloneSample : Go.Proofs.SlLaysE0.n41 Tryz.prog Tryz.cloneSample_ren := {
  mixed := by kernel_rfl
  f41 := ⟨Tryz.f102.name, by decide, Tryz.func102.trans (congrArg some (by kernel_rfl))⟩
  t4 := Tryz.underlying4
  a4 := Tryz.isAgg4
  z4 := Tryz.sizeOf4
  v4 := Tryz.zeroValue4
  t22 := Tryz.underlying90
  a22 := Tryz.isAgg90
  z22 := Tryz.sizeOf90
  v22 := Tryz.zeroValue90 }
def Tryz.cloneInterval_ren : Go.Shelf.Ren := ⟨fun | 41 => 97 | n => n, fun | 22 => 86 | 23 => 25 | 4 => 4 | n => n, fun | n => n⟩
theorem Tryz.cloneInterval : Go.Proofs.SlLaysE0.n41 Tryz.prog Tryz.cloneInterval_ren := {
  mixed := by kernel_rfl
  f41 := ⟨Tryz.f97.name, by decide, Tryz.func97.trans (congrArg some (by kernel_rfl))⟩
  t4 := Tryz.underlying4
  a4 := Tryz.isAgg4
  z4 := Tryz.sizeOf4
  v4 := Tryz.zeroValue4
  t22 := Tryz.underlying86
  a22 := Tryz.isAgg86
  z22 := Tryz.sizeOf86
  v22 := Tryz.zeroValue86 }
def Tryz.cloneTomb_ren : Go.Shelf.Ren := ⟨fun | 41 => 28 | n => n, fun | 22 => 22 | 23 => 27 | 4 => 4 | n => n, fun | n => n⟩
theorem Tryz.cloneTomb : Go.Proofs.SlLaysE0.n41 Tryz.prog Tryz.cloneTomb_ren := {
  mixed := by kernel_rfl
  f41 := ⟨Tryz.f28.name, by decide, Tryz.func28.trans (congrArg some (by kernel_rfl))⟩
  t4 := Tryz.underlying4
  a4 := Tryz.isAgg4
  z4 := Tryz.sizeOf4
  v4 := Tryz.zeroValue4
  t22 := Tryz.underlying22
  a22 := Tryz.isAgg22
  z22 := Tryz.sizeOf22
  v22 := Tryz.zeroValue22 }
def Tryz.cloneLabel_ren : Go.Shelf.Ren := ⟨fun | 41 => 35 | n => n, fun | 22 => 23 | 23 => 29 | 4 => 4 | n => n, fun | n => n⟩
theorem Tryz.cloneLabel : Go.Proofs.SlLaysE0.n41 Tryz.prog Tryz.cloneLabel_ren := {
  mixed := by kernel_rfl
  f41 := ⟨Tryz.f35.name, by decide, Tryz.func35.trans (congrArg some (by kernel_rfl))⟩
  t4 := Tryz.underlying4
  a4 := Tryz.isAgg4
  z4 := Tryz.sizeOf4
  v4 := Tryz.zeroValue4
  t22 := Tryz.underlying23
  a22 := Tryz.isAgg23
  z22 := Tryz.sizeOf23
  v22 := Tryz.zeroValue23 }
def Tryz.indexInterval_ren : Go.Shelf.Ren := ⟨fun | 6 => 130 | n => n, fun | 22 => 86 | 23 => 25 | 25 => 156 | 3 => 3 | 0 => 0 | 4 => 4 | n => n, fun | n => n⟩
theorem Tryz.indexInterval : Go.Proofs.SlLaysH0.n6 Tryz.prog Tryz.indexInterval_ren := {
  mixed := by kernel_rfl
  f6 := ⟨Tryz.f130.name, by decide, Tryz.func130.trans (congrArg some (by kernel_rfl))⟩
  t0 := Tryz.underlying0
  a0 := Tryz.isAgg0
  z0 := Tryz.sizeOf0
  v0 := Tryz.zeroValue0
  t3 := Tryz.underlying3
  a3 := Tryz.isAgg3
  z3 := Tryz.sizeOf3
  v3 := Tryz.zeroValue3
  t4 := Tryz.underlying4
  a4 := Tryz.isAgg4
  z4 := Tryz.sizeOf4
  v4 := Tryz.zeroValue4
  t22 := Tryz.underlying86
  a22 := Tryz.isAgg86
  z22 := Tryz.sizeOf86
  v22 := Tryz.zeroValue86
  t25 := Tryz.underlying156
  a25 := Tryz.isAgg156
  z25 := Tryz.sizeOf156
  v25 := Tryz.zeroValue156 }
def Tryz.indexSample_ren : Go.Shelf.Ren := ⟨fun | 6 => 147 | n => n, fun | 22 => 90 | 23 => 95 | 25 => 238 | 3 => 3 | 0 => 0 | 4 => 4 | n => n, fun | n => n⟩
theorem Tryz.indexSample : Go.Proofs.SlLaysH0.n6 Tryz.prog Tryz.indexSample_ren := {
  mixed := by kernel_rfl
  f6 := ⟨Tryz.f147.name, by decide, Tryz.func147.trans (congrArg some (by kernel_rfl))⟩
  t0 := Tryz.underlying0
  a0 := Tryz.isAgg0
  z0 := Tryz.sizeOf0
  v0 := Tryz.zeroValue0
  t3 := Tryz.underlying3
  a3 := Tryz.isAgg3
  z3 := Tryz.sizeOf3
  v3 := Tryz.zeroValue3
  t4 := Tryz.underlying4
  a4 := Tryz.isAgg4
  z4 := Tryz.sizeOf4
  v4 := Tryz.zeroValue4
  t22 := Tryz.underlying90
  a22 := Tryz.isAgg90
  z22 := Tryz.sizeOf90
  v22 := Tryz.zeroValue90
  t25 := Tryz.underlying238
  a25 := Tryz.isAgg238
  z25 := Tryz.sizeOf238
  v25 := Tryz.zeroValue238 }
end Go.Proofs
namespace Go.Proofs.YtihidnmpngeohaaGreat
open Go.RowKit Go.Lib Go.Sort

theorem compare_i64 (x y : Int) (w : World) : Calls Tryz.prog 101 #[.int .i64 x, .int .i64 y] w fun e w' => e = .returned (.int .i64 (Lib.compareInt x y)) ∧ w' = w := by
  have nx : (x != x) = false := by simp
  have ny : (y != y) = false := by simp
  unfold Lib.compareInt
  by_cases h1 : x < y
  · rw [if_pos h1]
    go_enter Tryz.func101, Tryz.ntmps101
    go_wp2
    go_ret
    exact ⟨rfl, rfl⟩
  · rw [if_neg h1]
    by_cases h2 : y < x
    · rw [if_pos h2]
      go_enter Tryz.func101, Tryz.ntmps101
      go_wp2
      go_ret
      exact ⟨rfl, rfl⟩
    · rw [if_neg h2]
      go_enter Tryz.func101, Tryz.ntmps101
      go_wp2
      go_ret
      exact ⟨rfl, rfl⟩
def firstC (x y : Int × Int) : Int := Lib.compareInt x.1 y.1
theorem firstC_lt (x y : Int × Int) : ltOf firstC x y = decide (x.1 < y.1) := by
  unfold ltOf firstC Lib.compareInt
  by_cases h1 : x.1 < y.1
  · simp [h1]
  · by_cases h2 : y.1 < x.1 <;> simp [h1, h2]
theorem firstC_swo : SWO (ltOf firstC) where
  irrefl x := by rw [firstC_lt]; simp
  trans x y z h1 h2 := by rw [firstC_lt] at *; simp at *; omega
  ntrans x y z h1 h2 := by rw [firstC_lt] at *; simp at *; omega
set_option maxHeartbeats 1000000 in
theorem ivsCmp (x y : Int × Int) (W : World) : Calls Tryz.prog 100 #[.agg #[.int .i64 x.1, .int .i64 x.2], .agg #[.int .i64 y.1, .int .i64 y.2]] W fun e w' => e = .returned (.int .i64 (firstC x y)) ∧ ∃ q os', w' = grow (W.drewN q) os' := by
  have hcon := fun W' => compare_i64 x.1 y.1 W'
  change ∀ W', Calls _ _ _ _ (fun e w' => e = .returned (.int .i64 (firstC x y)) ∧ w' = W') at hcon
  generalize firstC x y = r at hcon ⊢
  go_enter Tryz.func100, Tryz.ntmps100
  go_wp2_with (go_at_call 101; refine (hcon _).mono ?_; rintro e w' ⟨rfl, rfl⟩)
  go_ret
  exact ⟨rfl, 0, _, by rw [alloc_eq_grow, alloc_eq_grow, grow_grow]; rfl⟩
theorem ivsDel (W : World) : PredInterval 98 #[] (fun x => decide (x.2 < x.1)) W := by
  intro x
  show Calls _ _ #[.agg #[.int .i64 x.1, .int .i64 x.2]] W (fun e w' => e = .returned (.bool (decide (x.2 < x.1))) ∧ RowKit.Below W.heap.size W w')
  by_cases h : x.2 < x.1
  · rw [decide_eq_true h]
    go_enter Tryz.func98, Tryz.ntmps98
    go_wp2
    go_ret
    exact ⟨by simp, (Below.refl _ _).alloc (Nat.le_refl _) _⟩
  · rw [decide_eq_false h]
    go_enter Tryz.func98, Tryz.ntmps98
    go_wp2
    go_ret
    exact ⟨by simp, (Below.refl _ _).alloc (Nat.le_refl _) _⟩
/-- slices.SortFunc by the beginnings, at a row of the call's own. -/
theorem ivsSort (A : Option Addr) (n c : Nat) (l : List (Int × Int)) (w : World) (B : Nat) (ho : w.ownsRow B 25 2 (.slice A n c) n (l.flatMap encI)) (hn : n ≤ 1099511627776) :
    Calls Tryz.prog 99 #[.slice A n c, .func (.func 100) #[] #[]] w fun e w' => e = .returned (.tuple #[]) ∧ ∃ l' : List (Int × Int), l'.Perm l ∧ l'.Pairwise (fun x y => x.1 ≤ y.1) ∧
      w'.ownsRow B 25 2 (.slice A n c) n (l'.flatMap encI) ∧ w.grownBy w' (Value.slice A n c).ownBlock := by
  have hll := owns_len ho encI_len (by omega)
  have eg : ∀ args w, (callFunc 100 args).run Tryz.prog w = .ok (.enter 100 args) w := enters_of Tryz.func100 (by kernel_rfl) rfl
  by_cases h0 : n = 0
  · subst h0
    refine (AnyF.slices_SortFunc_none { Tryz.sortInterval with } A c _ w).mono ?_
    rintro e w' ⟨rfl, rfl⟩
    have hl0 : l = [] := List.length_eq_zero_iff.1 hll
    subst hl0
    exact ⟨rfl, [], List.Perm.refl _, List.Pairwise.nil, ho, grownBy_refl _ _⟩
  · obtain ⟨g, rfl, hg⟩ := owns_some' ho (by omega)
    have hcmp : CmpLays Tryz.prog 100 #[] encI 2 firstC g 0 l.toArray.size w := fun _ _ _ _ x y => ivsCmp x y _
    have hcon := AnyQ.slices_SortFunc Tryz.sortInterval 2 Tryz.isAgg25 Tryz.sizeOf25 encI encI_len (fun x v hv => by simp [encI] at hv; rcases hv with rfl | rfl <;> rfl) firstC firstC_swo 100 #[] g 0 c l.toArray w eg hcmp (holdsK_own encI_len ho) hg (by simp; omega)
    rw [show l.toArray.size = n by simpa using hll] at hcon
    refine hcon.mono ?_
    rintro e w' ⟨rfl, d', m, os, hp, hs, rfl⟩
    have hsz : d'.size = l.length := by have := hp.1; simpa using this
    obtain ⟨h1, h2⟩ := ownsK_sorted encI_len ho m os d' hsz hll
    refine ⟨rfl, d'.toList, ?_, ?_, h1, h2⟩
    · have := hp.2.2
      rw [show (l.toArray.extract 0 n).toList = l by rw [← hll]; simp, show (d'.extract 0 n).toList = d'.toList by rw [← hll, ← hsz]; simp] at this
      exact this
    · rw [List.pairwise_iff_getElem]
      intro i j hi hj hij
      rw [Array.length_toList] at hi hj
      have := hs i j (Nat.zero_le _) hij (by omega)
      rw [firstC_lt, getElem!_pos d' j hj, getElem!_pos d' i hi] at this
      simp only [decide_eq_false_iff_not, Int.not_lt] at this
      simpa using this
/-- One interval is put to those that are there. -/
def ivStep (o : List (Int × Int)) (x : Int × Int) : List (Int × Int) :=
  match o.getLast? with
  | some y => if x.1 ≤ y.2 ∨ x.1 - 1 = y.2 then o.dropLast ++ [(y.1, max y.2 x.2)] else o ++ [x]
  | none => [x]
def ivMerge (l : List (Int × Int)) : List (Int × Int) := l.foldl ivStep []
theorem ivMerge_succ {l : List (Int × Int)} {k : Nat} {x : Int × Int} (hx : l[k]? = some x) : ivMerge (l.take (k + 1)) = ivStep (ivMerge (l.take k)) x := by
  obtain ⟨hk, e⟩ := List.getElem?_eq_some_iff.1 hx
  unfold ivMerge
  rw [List.take_succ_eq_append_getElem hk, List.foldl_append, e]
  rfl
theorem ivStep_len (o : List (Int × Int)) (x : Int × Int) : (ivStep o x).length ≤ o.length + 1 := by
  unfold ivStep
  split
  · rename_i y hy
    have : o ≠ [] := by rintro rfl; simp at hy
    have := List.length_pos_iff.2 this
    split
    · simp; try omega
    · simp
  · simp
theorem ivMerge_len (l : List (Int × Int)) (k : Nat) : (ivMerge (l.take k)).length ≤ k := by
  induction k with
  | zero => simp [ivMerge]
  | succ k ih =>
    cases hx : l[k]? with
    | none =>
      have : l.length ≤ k := by simpa using hx
      rw [List.take_of_length_le (by omega)]
      rw [List.take_of_length_le this] at ih
      exact Nat.le_succ_of_le ih
    | some x =>
      rw [ivMerge_succ hx]
      have := ivStep_len (ivMerge (l.take k)) x
      omega
theorem ivStep_lo {b : Int} {o : List (Int × Int)} {x : Int × Int} (ho : ∀ y ∈ o, b ≤ y.2) (hx : b ≤ x.2) : ∀ y ∈ ivStep o x, b ≤ y.2 := by
  intro y hy
  unfold ivStep at hy
  split at hy
  · rename_i z hz
    split at hy
    · rcases List.mem_append.1 hy with h | h
      · exact ho y (List.dropLast_subset _ h)
      · rw [List.mem_singleton.1 h]; show b ≤ max z.2 x.2; omega
    · rcases List.mem_append.1 hy with h | h
      · exact ho y h
      · rw [List.mem_singleton.1 h]; exact hx
  · rw [List.mem_singleton.1 hy]; exact hx
theorem ivMerge_lo {b : Int} {l : List (Int × Int)} (h : ∀ x ∈ l, b ≤ x.2) : ∀ y ∈ ivMerge l, b ≤ y.2 := by
  suffices ∀ o : List (Int × Int), (∀ y ∈ o, b ≤ y.2) → ∀ y ∈ l.foldl ivStep o, b ≤ y.2 from this [] (by simp)
  induction l with
  | nil => intro o ho; exact ho
  | cons x l ih => intro o ho; exact ih (fun z hz => h z (List.mem_cons_of_mem _ hz)) _ (ivStep_lo ho (h x List.mem_cons_self))
theorem ivStep_nil (x : Int × Int) : ivStep [] x = [x] := rfl
theorem ivStep_in (o : List (Int × Int)) (y x : Int × Int) (h : x.1 ≤ y.2 ∨ x.1 - 1 = y.2) : ivStep (o ++ [y]) x = o ++ [(y.1, max y.2 x.2)] := by
  unfold ivStep
  rw [List.getLast?_concat]
  simp only []
  rw [if_pos h, List.dropLast_concat]
theorem ivStep_out (o : List (Int × Int)) (y x : Int × Int) (h : ¬ (x.1 ≤ y.2 ∨ x.1 - 1 = y.2)) : ivStep (o ++ [y]) x = o ++ [y] ++ [x] := by
  unfold ivStep
  rw [List.getLast?_concat]
  simp only []
  rw [if_neg h]
theorem set_last (o : List (Int × Int)) (y : Int × Int) (u : Int) : ((o ++ [y]).flatMap encI).set (o.length * 2 + 1) (.int .i64 u) = (o ++ [(y.1, u)]).flatMap encI := by
  have hl := flatMap_length (enc := encI) encI_len o
  rw [List.flatMap_append, List.flatMap_append, List.set_append_right _ _ (by rw [hl]; omega), hl, Nat.add_sub_cancel_left]
  rfl
/-- What merge.Intervals hands back. -/
def IvsPost (l : List (Int × Int)) (w : World) (e : Ending) (w' : World) : Prop :=
  ∃ (v : Value) (d : List (Int × Int)), e = .returned v ∧ d.Perm (l.filter fun x => !decide (x.2 < x.1)) ∧ d.Pairwise (fun x y => x.1 ≤ y.1) ∧ w'.ownsRow w.heap.size 25 2 v (ivMerge d).length ((ivMerge d).flatMap encI) ∧ RowKit.Below w.heap.size w w'
set_option maxHeartbeats 4000000 in
set_option maxRecDepth 100000 in
theorem ivs_any (A : Option Addr) (n c : Nat) (l : List (Int × Int)) (w : World) (hL : Lst encI 2 w w.heap.size A n l) (hnil : A = none → n = 0 ∧ c = 0) (hn : n ≤ 1099511627776) (hw : ∀ x ∈ l, -9223372036854775808 ≤ x.1 ∧ x.1 ≤ 9223372036854775807 ∧ -9223372036854775808 ≤ x.2 ∧ x.2 ≤ 9223372036854775807) :
    Calls Tryz.prog 34 #[.slice A n c] w (IvsPost l w) := by
  obtain ⟨i0, hi, hz0, hz1, hz2⟩ := info_parts Tryz.infoInterval
  have HI := Lib.hid (show _ ∧ _ ∧ _ ∧ _ from ⟨hi, hz0, hz1, hz2⟩)
  have eg : ∀ args w, (callFunc 98 args).run Tryz.prog w = .ok (.enter 98 args) w := enters_of Tryz.func98 (by kernel_rfl) rfl
  have HC := Lib.hid (cloneInterval A n c l w hL hnil hn)
  have HEG := Lib.hid eg
  have HW := Lib.hid hw
  clear hi hz0 hz1 hz2 hL hnil eg hw
  go_enter Tryz.func34, Tryz.ntmps34
  go_wp2_with fail
  refine HC.out.mono ?_
  rintro e w1 ⟨v1, rfl, ho1, hb1⟩
  obtain ⟨A1, c1, rfl, hnc1, _⟩ := owns_slice ho1
  have H1 := Lib.hid (show _ ∧ _ from ⟨ho1, hb1⟩)
  clear ho1 hb1 HC
  go_wp2_with fail
  refine (deleteFuncInterval 98 #[] HEG.out (fun x => decide (x.2 < x.1)) A1 n c1 l w1 w.heap.size H1.out.1 hn (fun W _ => ivsDel W)).mono ?_
  rintro e w2 ⟨rfl, ho2, hg2⟩
  obtain ⟨l2, hl2⟩ : ∃ l2, l.filter (fun x => !decide (x.2 < x.1)) = l2 := ⟨_, rfl⟩
  rw [hl2] at ho2
  rw [hl2]
  have hn2 : l2.length ≤ n := by rw [← hl2]; have := List.length_filter_le (fun x : Int × Int => !decide (x.2 < x.1)) l; have h3 := owns_len H1.out.1 encI_len (by omega); omega
  have H2 := Lib.hid (show _ ∧ _ ∧ _ from ⟨ho2, H1.out.2.grown hg2 H1.out.2.size (fun k hk => (H1.out.1.lt k hk).1), hl2⟩)
  clear ho2 hg2 hl2
  go_wp2_with fail
  refine (ivsSort A1 l2.length c1 l2 w2 w.heap.size H2.out.1 (by omega)).mono ?_
  rintro e w3 ⟨rfl, d, hp, hs, ho3, hg3⟩
  have hdl : d.length = l2.length := hp.length_eq
  have H3 := Lib.hid (show _ ∧ _ ∧ _ ∧ _ from ⟨ho3, H2.out.2.1.grown hg3 H2.out.2.1.size (fun k hk => (H2.out.1.lt k hk).1), hp, hs⟩)
  have HDL := Lib.hid hdl
  obtain ⟨m, hm⟩ : ∃ m, l2.length = m := ⟨_, rfl⟩
  rw [hm]
  rw [hm] at hn2
  have HM := Lib.hid hm
  clear hp hs ho3 hg3 hdl hm
  go_wp2
  go_loopw [4, 6, 15] (fun v _ i wr => ∃ k : Nat, k ≤ m ∧ i = .int .i64 k ∧ Hid (wr.ownsRow w3.heap.size 25 2 v (ivMerge (d.take k)).length ((ivMerge (d.take k)).flatMap encI) ∧ RowKit.Below w3.heap.size w3 wr)) (fun _ _ i _ => m - (intOf i).toNat)
  case atStart => exact ⟨0, Nat.zero_le _, rfl, Lib.hid ⟨World.ownsRow_nil _ _ _ _, Below.refl _ _⟩⟩
  case round =>
    obtain ⟨k, hk, rfl, HR⟩ := hrel
    by_cases hlt : k < m
    · obtain ⟨x, hx⟩ : ∃ x, d[k]? = some x := ⟨_, List.getElem?_eq_getElem (by have := HDL.out; have := HM.out; omega)⟩
      obtain ⟨g1, rfl, hg1⟩ := owns_some' H3.out.1 (by have := HM.out; omega)
      have hcx0 := (HR.out.2.cell (p := ⟨g1, k * 2 + 0, none⟩) hg1).trans (owns_at H3.out.1 encI_len hx (j := 0) rfl)
      have hcx1 := (HR.out.2.cell (p := ⟨g1, k * 2 + 1, none⟩) hg1).trans (owns_at H3.out.1 encI_len hx (j := 1) rfl)
      simp only [Nat.add_zero] at hcx0
      have hst := ivMerge_succ hx
      have hml := ivMerge_len d k
      have hxm : x ∈ l := by
        have h1 := H3.out.2.2.1.mem_iff.1 (List.mem_of_getElem? hx)
        rw [← H2.out.2.2] at h1
        exact (List.mem_filter.1 h1).1
      have hxw := HW.out x hxm
      have hlo : ∀ y ∈ ivMerge (d.take k), -9223372036854775808 ≤ y.2 := ivMerge_lo fun y hy => by
        have h1 := H3.out.2.2.1.mem_iff.1 (List.mem_of_mem_take hy)
        rw [← H2.out.2.2] at h1
        exact (HW.out y (List.mem_filter.1 h1).1).2.2.1
      have hoR := HR.out.1
      have hbR := HR.out.2
      generalize ivMerge (d.take k) = o at hst hml hlo hoR
      have HST := Lib.hid hst
      have HO := Lib.hid hoR
      have HB := Lib.hid hbR
      clear hx hst hxm hoR hbR HR
      rcases (show o = [] ∨ ∃ o' y, o = o' ++ [y] by
        rcases List.eq_nil_or_concat o with h | ⟨o', y, h⟩
        · exact .inl h
        · exact .inr ⟨o', y, by rw [h, List.concat_eq_append]⟩) with rfl | ⟨o', y, rfl⟩
      · obtain ⟨Av, cv, rfl, _, _⟩ := owns_slice HO.out
        obtain ⟨hi, hz0, hz1, hz2⟩ := HI.out
        go_wp2_with (first | go_quiet (fail) | (at_builtin; refine wpList_append_own _ rfl _ _ 86 rfl w3.heap.size 25 i0 _ 2 16 Tryz.underlying86 hi hz0 hz1 hz2 rfl (by omega) _ 0 [] rfl (by exact (HO.out.alloc _).alloc _) ⟨wr.heap.size + 1, 0, none⟩ 1 1 (encI x) rfl rfl ?c1 ?c2 (by unfold maxLen; omega) (by omega) ?c3 ?_))
        case c1 => first | exact cells_at _ (by simp) (encI x) _ | exact fun j u h => h
        case c2 => exact fun u hu => by simp only [encI, List.mem_cons, List.not_mem_nil, or_false] at hu; rcases hu with rfl | rfl <;> rfl
        case c3 => (have := HB.out.size; first | (simp; omega) | omega)
        intro v' w5 hown5 hg5 _
        have hb5 : RowKit.Below w3.heap.size w3 w5 := by
          have h1 := (HB.out.alloc HB.out.size (.cells #[.int .i64 x.1, .int .i64 x.2] 25))
          have h2 := (below_drewN h1 nq).alloc (by simp; have := HB.out.size; omega) (.cells #[.int .i64 x.1, .int .i64 x.2] 25)
          exact h2.grown hg5 (by simp; have := HB.out.size; omega) (fun b hb => (HO.out.lt b hb).1)
        have H5 := Lib.hid (show _ ∧ _ from ⟨hown5, hb5⟩)
        clear hi hz0 hz1 hz2 hown5 hb5 hg5
        go_wp2
        go_roundw
        case measure => simp [intOf]; omega
        case rel => exact ⟨k + 1, hlt, by simp, Lib.hid ⟨by rw [HST.out, ivStep_nil]; simpa using H5.out.1, H5.out.2⟩⟩
      · obtain ⟨gv, cv, rfl, _, hgv⟩ := HO.out.form (by simp)
        have hol : (o' ++ [y]).length = o'.length + 1 := by simp
        rw [hol] at hml
        have hlo' := hlo y (by simp)
        have cy0 := owns_at HO.out encI_len (i := o'.length) (x := y) (by simp) (j := 0) rfl
        have cy1 := owns_at HO.out encI_len (i := o'.length) (x := y) (by simp) (j := 1) rfl
        simp only [Nat.add_zero] at cy0
        have fy1 := HO.out.frozenAt (o'.length * 2 + 1)
        obtain ⟨q, hq⟩ : ∃ q, o'.length = q := ⟨_, rfl⟩
        rw [hol] at HO
        rw [hol]
        rw [hq] at HO hml cy0 cy1 fy1
        rw [hq]
        have HQ := Lib.hid hq
        have hwr := HB.out.size
        clear hlo hq hol
        have hq0 : (0 : Int) ≤ (q : Int) := by omega
        have hw1 : IntKind.i64.wrap ((q : Int) + 1 - 1) = q := by rw [show (q : Int) + 1 - 1 = q by omega]; exact IntWalk.i64_in _ (by omega)
        by_cases h1 : x.1 ≤ y.2
        · have h1' : decide (x.1 ≤ y.2) = true := by simpa using h1
          have hin : ivMerge (d.take (k + 1)) = o' ++ [(y.1, max y.2 x.2)] := by rw [HST.out]; exact ivStep_in o' y x (.inl h1)
          have hst5 : ∀ z : Nat, (((wr.alloc (.cells #[.int .i64 x.1, .int .i64 x.2] 25)).drewN z).setCell ⟨gv, q * 2 + 1, none⟩ (.int .i64 (max y.2 x.2))).ownsRow w3.heap.size 25 2 (.slice (some ⟨gv, 0, none⟩) (q + 1) cv) (ivMerge (d.take (k + 1))).length ((ivMerge (d.take (k + 1))).flatMap encI) ∧
              RowKit.Below w3.heap.size w3 (((wr.alloc (.cells #[.int .i64 x.1, .int .i64 x.2] 25)).drewN z).setCell ⟨gv, q * 2 + 1, none⟩ (.int .i64 (max y.2 x.2))) := by
            intro z
            have h5 : ((wr.alloc (.cells #[.int .i64 x.1, .int .i64 x.2] 25)).drewN z).ownsRow w3.heap.size 25 2 (.slice (some ⟨gv, 0, none⟩) (q + 1) cv) (q + 1) ((o' ++ [y]).flatMap encI) := HO.out.alloc _
            have h6 := (h5.stored (q * 2 + 1) (.int .i64 (max y.2 x.2))).1
            have h7 := set_last o' y (max y.2 x.2)
            rw [HQ.out] at h7
            rw [h7] at h6
            refine ⟨by rw [hin, show (o' ++ [(y.1, max y.2 x.2)]).length = q + 1 by simp [HQ.out]]; exact h6, ?_⟩
            exact (below_drewN (HB.out.alloc HB.out.size _) z).setCell (p := ⟨gv, q * 2 + 1, none⟩) (HO.out.lt gv rfl).1 _
          have HF := Lib.hid hst5
          clear hin hst5
          go_wp2_with (go_quiet (fail))
          go_region
          all_goals
            go_wp2
            go_roundw
            case measure => simp [intOf]; omega
            case rel => exact ⟨k + 1, hlt, by simp, Lib.hid (HF.out _)⟩
        · have hxm1 : IntKind.i64.wrap (x.1 - 1) = x.1 - 1 := IntWalk.i64_in _ (by omega)
          by_cases h2 : x.1 - 1 = y.2
          · have h2b : (x.1 - 1 == y.2) = true := by simpa using h2
            have hin : ivMerge (d.take (k + 1)) = o' ++ [(y.1, max y.2 x.2)] := by rw [HST.out]; exact ivStep_in o' y x (.inr h2)
            have hst5 : ∀ z : Nat, (((wr.alloc (.cells #[.int .i64 x.1, .int .i64 x.2] 25)).drewN z).setCell ⟨gv, q * 2 + 1, none⟩ (.int .i64 (max y.2 x.2))).ownsRow w3.heap.size 25 2 (.slice (some ⟨gv, 0, none⟩) (q + 1) cv) (ivMerge (d.take (k + 1))).length ((ivMerge (d.take (k + 1))).flatMap encI) ∧
                RowKit.Below w3.heap.size w3 (((wr.alloc (.cells #[.int .i64 x.1, .int .i64 x.2] 25)).drewN z).setCell ⟨gv, q * 2 + 1, none⟩ (.int .i64 (max y.2 x.2))) := by
              intro z
              have h5 : ((wr.alloc (.cells #[.int .i64 x.1, .int .i64 x.2] 25)).drewN z).ownsRow w3.heap.size 25 2 (.slice (some ⟨gv, 0, none⟩) (q + 1) cv) (q + 1) ((o' ++ [y]).flatMap encI) := HO.out.alloc _
              have h6 := (h5.stored (q * 2 + 1) (.int .i64 (max y.2 x.2))).1
              have h7 := set_last o' y (max y.2 x.2)
              rw [HQ.out] at h7
              rw [h7] at h6
              refine ⟨by rw [hin, show (o' ++ [(y.1, max y.2 x.2)]).length = q + 1 by simp [HQ.out]]; exact h6, ?_⟩
              exact (below_drewN (HB.out.alloc HB.out.size _) z).setCell (p := ⟨gv, q * 2 + 1, none⟩) (HO.out.lt gv rfl).1 _
            have HF := Lib.hid hst5
            clear hin hst5
            go_wp2_with (go_quiet (fail))
            go_region
            all_goals
              go_wp2
              go_roundw
              case measure => simp [intOf]; omega
              case rel => exact ⟨k + 1, hlt, by simp, Lib.hid (HF.out _)⟩
          · have h2b : (x.1 - 1 == y.2) = false := by simpa using h2
            have hout : ivMerge (d.take (k + 1)) = o' ++ [y] ++ [x] := by rw [HST.out]; exact ivStep_out o' y x (fun h => h.elim h1 h2)
            have HF := Lib.hid hout
            clear hout
            obtain ⟨hi, hz0, hz1, hz2⟩ := HI.out
            go_wp2_with (first | go_quiet (fail) | (at_builtin; refine wpList_append_own _ rfl _ _ 86 rfl w3.heap.size 25 i0 _ 2 16 Tryz.underlying86 hi hz0 hz1 hz2 rfl (by omega) _ (q + 1) ((o' ++ [y]).flatMap encI) rfl (by exact (HO.out.alloc _).alloc _) ⟨wr.heap.size + 1, 0, none⟩ 1 1 (encI x) rfl rfl ?c1 ?c2 (by unfold maxLen; omega) (by omega) ?c3 ?_))
            case c1 => first | exact cells_at _ (by simp) (encI x) _ | exact fun j u h => h
            case c2 => exact fun u hu => by simp only [encI, List.mem_cons, List.not_mem_nil, or_false] at hu; rcases hu with rfl | rfl <;> rfl
            case c3 => (have := HB.out.size; first | (simp; omega) | omega)
            intro v' w5 hown5 hg5 _
            have hb5 : RowKit.Below w3.heap.size w3 w5 := by
              have h1 := (HB.out.alloc HB.out.size (.cells #[.int .i64 x.1, .int .i64 x.2] 25))
              have h2 := (below_drewN h1 nq).alloc (by simp; have := HB.out.size; omega) (.cells #[.int .i64 x.1, .int .i64 x.2] 25)
              exact h2.grown hg5 (by simp; have := HB.out.size; omega) (fun b hb => (HO.out.lt b hb).1)
            have H5 := Lib.hid (show _ ∧ _ from ⟨hown5, hb5⟩)
            clear hi hz0 hz1 hz2 hown5 hb5 hg5
            go_wp2
            go_roundw
            case measure => simp [intOf]; omega
            case rel => exact ⟨k + 1, hlt, by simp, Lib.hid ⟨by rw [HF.out, show (o' ++ [y] ++ [x]).length = q + 1 + 1 by simp [HQ.out]]; simpa using H5.out.1, H5.out.2⟩⟩
    · obtain rfl : k = m := by omega
      have hdk : d.take k = d := List.take_of_length_le (by rw [HDL.out, HM.out]; omega)
      have hF := HR.out.1
      rw [hdk] at hF
      have HF := Lib.hid hF
      clear hdk hF
      go_wp2
      go_ret
      refine ⟨_, d, rfl, by rw [H2.out.2.2]; exact H3.out.2.2.1, H3.out.2.2.2, owns_base HF.out H3.out.2.1.size, H3.out.2.1.trans (HR.out.2.mono H3.out.2.1.size)⟩
end Go.Proofs.YtihidnmpngeohaaGreat
