/- CompactBlocks' arguments. DERIVED: THE SHELF's CONTRACTS AT THIS DUMP, IN PLAIN WORDS (tools/lay-plain.mjs out of 'YtihidnmpngeohaaGreatShelfIRaw.lean', which tools/lay-shelf.mjs wrote): THE SAME DECLARATIONS UNDER THE SAME NAMES: 'import', 'namespace', 'open', 'def', 'theorem' AND NOTHING ELSE: no command of the shelf's: FOR A HAND-IN. Each laying: the table of numbers ('.._ren') and one theorem, a field a fact of the dump's own or the kernel's comparison; each contract: ONE APPLICATION. 'slices.Sorted(maps.Keys(groups))' at the map of groups: a new slice that holds its keys, rising.  -/
import Derived.Test.YtihidnmpngeohaaGreatG44
import Derived.Shelf.SlSortCmp.Whole1
import Derived.Shelf.SlIterI.Sorted
import Derived.Shelf.SortM.Plain
import Derived.Shelf.SortM.SortNone
import Derived.Shelf.SlicesE.Clone
import Derived.Shelf.SlLaysE0
import Derived.Ground.GgzProg
import Derived.Ground.SlgmProg
import Derived.Ground.SlgnProg
import Derived.Ground.SlsfProg
import Derived.Shelf.SlGeneric
import Derived.Test.YtihidnmpngeohaaGreatProg
import Derived.Test.YtihidnmpngeohaaGreatG13
import Derived.Test.YtihidnmpngeohaaGreatChecked
import Derived.Test.YtihidnmpngeohaaGreatStab
import Derived.WalkKit
import Derived.Lib.Hide
import Derived.BigRegion
import Derived.BigQuiet
import Derived.Outline
import Derived.Shelf.SlSortCmp.Insertion1
namespace Go.Proofs.YtihidnmpngeohaaGreat
open Go.RowKit Go.Lib

theorem Tryz.infoTombL : (Tryz.prog.info? 22).map (fun i => (i.zero, i.size, i.bytes)) = some (some (.slice none 0 0), 1, 24) := by kernel_rfl
/-- A series that came in, a tomb, of any size that the bulk bears. -/
structure BArg (w : World) (y : Sv) : Prop where
  lst : Lst Lb.cells 2 w w.heap.size y.A y.n y.l
  nil : y.A = none → y.n = 0 ∧ y.c = 0
  few : y.n ≤ 2000000
  sst : Lst encS 2 w w.heap.size y.D y.m y.s
  snil : y.D = none → y.m = 0 ∧ y.d = 0
  sfew : y.m ≤ 2000000
  key : (keyL y.l).length ≤ 10000000
structure TArg (w : World) (y : Tv) : Prop where
  lst : Lst Lb.cells 2 w w.heap.size y.A y.n y.l
  nil : y.A = none → y.n = 0 ∧ y.c = 0
  few : y.n ≤ 2000000
  fits : Fits y.g
structure BlkArg (w : World) (A A' : Option Addr) (n n' : Nat) (ls : List (List Sv)) (ts : List (List Tv)) : Prop where
  sls : Sls w w.heap.size A n ls
  tls : Tls w w.heap.size A' n' ts
  ser : ∀ y ∈ ls.flatten, BArg w y
  tmb : ∀ y ∈ ts.flatten, TArg w y
  few : n ≤ 2000000 ∧ ls.flatten.length ≤ 2000000
  fewT : n' ≤ 2000000 ∧ ts.flatten.length ≤ 2000000
structure BlkFew (w : World) (A A' : Option Addr) (n n' : Nat) (ls : List (List Sv)) (ts : List (List Tv)) : Prop where
  arg : BlkArg w A A' n n' ls ts
  all : n + n' + serC ls.flatten + tmbC ts.flatten ≤ 3000
theorem BlkFew.blkIn {w : World} {A A' : Option Addr} {n n' : Nat} {ls : List (List Sv)} {ts : List (List Tv)} (h : BlkFew w A A' n n' ls ts) : BlkIn w A A' n n' ls ts := by
  have h0 := h.all
  have h1 := serC_len ls.flatten
  have h2 := tmbC_len ts.flatten
  have h3 := serC_flat fun y hy => (h.arg.ser y hy).sst.1
  refine ⟨h.arg.sls, h.arg.tls, fun y hy => ?_, fun y hy => ?_, ⟨by omega, by omega, by omega⟩, ⟨by omega, by omega⟩⟩
  · have h4 := serC_mem hy
    have := h.arg.ser y hy
    exact ⟨⟨this.lst, this.nil, by omega, this.sst, this.snil, by omega⟩, this.key⟩
  · have h4 := tmbC_mem hy
    have := h.arg.tmb y hy
    exact ⟨this.lst, this.nil, by omega, this.fits⟩
theorem BlkFew.ser {w : World} {A A' B : Option Addr} {n n' i : Nat} {ls : List (List Sv)} {ts : List (List Tv)} {xs : List Sv} (h : BlkFew w A A' n n' ls ts) (hx : ls[i]? = some xs) (hL : Lst encSv 2 w w.heap.size B xs.length xs) : FewB w B xs.length xs := by
  have h0 := h.all
  have h1 := serC_len ls.flatten
  have h2 := len_flat hx
  refine ⟨hL, by omega, fun y hy => ?_⟩
  have h3 := serC_mem (mem_flat hx hy)
  exact ⟨h.blkIn.ser y (mem_flat hx hy), by omega, by omega⟩
theorem BlkFew.tmb {w : World} {A A' B : Option Addr} {n n' i : Nat} {ls : List (List Sv)} {ts : List (List Tv)} {xs : List Tv} (h : BlkFew w A A' n n' ls ts) (hx : ts[i]? = some xs) (hL : Lst encTb 3 w w.heap.size B xs.length xs) : FewT w B xs.length xs := by
  have h0 := h.all
  have h1 := tmbC_len ts.flatten
  have h2 := len_flat hx
  refine ⟨hL, by omega, fun y hy => ?_⟩
  have h3 := tmbC_mem (mem_flat hx hy)
  exact ⟨h.blkIn.tmb y (mem_flat hx hy), by omega⟩
theorem BlkFew.serAll {w : World} {A A' : Option Addr} {n n' : Nat} {ls : List (List Sv)} {ts : List (List Tv)} (h : BlkFew w A A' n n' ls ts) : ∀ (i : Nat) l, ls[i]? = some l → ∃ A', FewB w A' l.length l := fun i l hl => by
  obtain ⟨hi, _⟩ := List.getElem?_eq_some_iff.1 hl
  obtain ⟨b, off, xs, A', c', _, _, hx, _, hL⟩ := h.arg.sls.at (i := i) (by have := h.arg.sls.1; omega)
  rw [hl] at hx
  obtain rfl := Option.some.inj hx
  exact ⟨A', h.ser hl hL⟩
theorem BlkFew.tmbAll {w : World} {A A' : Option Addr} {n n' : Nat} {ls : List (List Sv)} {ts : List (List Tv)} (h : BlkFew w A A' n n' ls ts) : ∀ (i : Nat) l, ts[i]? = some l → ∃ A', FewT w A' l.length l := fun i l hl => by
  obtain ⟨hi, _⟩ := List.getElem?_eq_some_iff.1 hl
  obtain ⟨b, off, xs, A', c', _, _, hx, _, hL⟩ := h.arg.tls.at (i := i) (by have := h.arg.tls.1; omega)
  rw [hl] at hx
  obtain rfl := Option.some.inj hx
  exact ⟨A', h.tmb hl hL⟩
theorem ls_same {ls ls' : List (List Sv)} (h : lsOf ls' = lsOf ls) : ls'.flatten.length = ls.flatten.length ∧ (ls'.flatten.flatMap (·.s)).length = (ls.flatten.flatMap (·.s)).length := by
  have e : ∀ l : List (List Sv), (lsOf l).flatten = l.flatten.map Sv.sr := fun l => by unfold lsOf; rw [List.map_flatten]
  have h1 := congrArg List.flatten h
  rw [e, e] at h1
  refine ⟨?_, sr_sams h1⟩
  have h2 := congrArg List.length h1
  rw [List.length_map, List.length_map] at h2
  exact h2
theorem ts_same {ts ts' : List (List Tv)} (h : tbsOf ts' = tbsOf ts) : ts'.flatten.length = ts.flatten.length := by
  have e : ∀ l : List (List Tv), (tbsOf l).flatten = l.flatten.map Tv.tb := fun l => by unfold tbsOf; rw [List.map_flatten]
  have h1 := congrArg List.flatten h
  rw [e, e] at h1
  have h2 := congrArg List.length h1
  rw [List.length_map, List.length_map] at h2
  exact h2
/-- compact.Blocks at what is lent out. -/
theorem blocks_lent {w0 w : World} {A A' A5 A6 : Option Addr} {n n' c5 c6 B B' : Nat} {ls : List (List Sv)} {ts : List (List Tv)} {xs : List LI} {ys : List LTi} (h : BlkFew w0 A A' n n' ls ts) (hx : LendRow w B ls (.slice A5 n c5) xs) (hy : LendRowT w B' ts (.slice A6 n' c6) ys) (hn : xs.length = n) (hn' : ys.length = n') :
    Calls Tryz.prog 24 #[.slice A5 n c5, .slice A6 n' c6] w (BlkPost w ls ts) := by
  obtain ⟨a1, a2, a3⟩ := hx.sls hn h.arg.sls.1 h.serAll
  obtain ⟨b1, b2, b3⟩ := hy.tls hn' h.arg.tls.1 h.tmbAll
  have hb := h.blkIn
  have e1 := ls_same a3
  have e2 := ts_same b3
  refine (blocks_any A5 A6 n c5 n' c6 _ _ w ⟨a1, b1, a2, b2, by rw [e1.1, e1.2]; exact hb.fewS, by rw [e2]; exact hb.fewT⟩).mono fun e w' ⟨v, os, q1, q2, q3, q4⟩ => ⟨v, os, q1, q2, by rw [q3, a3, b3], q4⟩
end Go.Proofs.YtihidnmpngeohaaGreat
namespace Go.Proofs
open Go.Shelf
def Tryz.insInt_ren : Go.Shelf.Ren := ⟨fun | 20 => 170 | n => n, fun | 24 => 3 | 22 => 147 | 3 => 3 | 25 => 246 | 4 => 4 | 0 => 0 | n => n, fun | n => n⟩
theorem Tryz.insInt : Go.Proofs.SlLaysF.n20 Tryz.prog Tryz.insInt_ren := {
  mixed := by kernel_rfl
  f20 := ⟨Tryz.f170.name, by decide, Tryz.func170.trans (congrArg some (by kernel_rfl))⟩
  t0 := Tryz.underlying0
  a0 := Tryz.isAgg0
  z0 := Tryz.sizeOf0
  v0 := Tryz.zeroValue0
  t3 := Tryz.underlying3
  a3 := Tryz.isAgg3
  z3 := Tryz.sizeOf3
  v3 := Tryz.zeroValue3
  t4 := Tryz.underlying4
  a4 := Tryz.isAgg4
  z4 := Tryz.sizeOf4
  v4 := Tryz.zeroValue4
  t22 := Tryz.underlying147
  a22 := Tryz.isAgg147
  z22 := Tryz.sizeOf147
  v22 := Tryz.zeroValue147
  a24 := Tryz.isAgg3
  z24 := Tryz.sizeOf3
  t25 := Tryz.underlying246
  a25 := Tryz.isAgg246
  z25 := Tryz.sizeOf246
  v25 := Tryz.zeroValue246 }
def Tryz.cloneInt_ren : Go.Shelf.Ren := ⟨fun | 41 => 124 | n => n, fun | 22 => 147 | 23 => 3 | 4 => 4 | n => n, fun | n => n⟩
theorem Tryz.cloneInt : Go.Proofs.SlLaysE0.n41 Tryz.prog Tryz.cloneInt_ren := {
  mixed := by kernel_rfl
  f41 := ⟨Tryz.f124.name, by decide, Tryz.func124.trans (congrArg some (by kernel_rfl))⟩
  t4 := Tryz.underlying4
  a4 := Tryz.isAgg4
  z4 := Tryz.sizeOf4
  v4 := Tryz.zeroValue4
  t22 := Tryz.underlying147
  a22 := Tryz.isAgg147
  z22 := Tryz.sizeOf147
  v22 := Tryz.zeroValue147 }
def Tryz.sortInt_ren : Go.Shelf.Ren := ⟨fun | 5 => 125 | 8 => 112 | 7 => 152 | 19 => 144 | 20 => 145 | 10 => 172 | 11 => 173 | 12 => 174 | 13 => 175 | 14 => 176 | 15 => 177 | 16 => 178 | 17 => 179 | 18 => 180 | 30 => 188 | 31 => 165 | 32 => 166 | 33 => 189 | 34 => 190 | 35 => 191 | 40 => 195 | n => n, fun | 23 => 147 | 25 => 3 | 3 => 3 | 32 => 216 | 22 => 147 | 0 => 0 | 44 => 142 | 46 => 92 | 4 => 4 | 36 => 266 | 35 => 265 | 41 => 270 | 5 => 5 | 9 => 9 | 53 => 288 | 57 => 292 | 63 => 304 | 64 => 305 | n => n, fun | n => n⟩
theorem Tryz.sortInt : Go.Proofs.SlLaysM.n5 Tryz.prog Tryz.sortInt_ren := {
  mixed := by kernel_rfl
  f5 := ⟨Tryz.f125.name, by decide, Tryz.func125.trans (congrArg some (by kernel_rfl))⟩
  f7 := ⟨Tryz.f152.name, by decide, Tryz.func152.trans (congrArg some (by kernel_rfl))⟩
  f8 := Tryz.func112.trans (congrArg some (by kernel_rfl))
  f10 := ⟨Tryz.f172.name, by decide, Tryz.func172.trans (congrArg some (by kernel_rfl))⟩
  f11 := ⟨Tryz.f173.name, by decide, Tryz.func173.trans (congrArg some (by kernel_rfl))⟩
  f12 := ⟨Tryz.f174.name, by decide, Tryz.func174.trans (congrArg some (by kernel_rfl))⟩
  f13 := ⟨Tryz.f175.name, by decide, Tryz.func175.trans (congrArg some (by kernel_rfl))⟩
  f14 := ⟨Tryz.f176.name, by decide, Tryz.func176.trans (congrArg some (by kernel_rfl))⟩
  f15 := ⟨Tryz.f177.name, by decide, Tryz.func177.trans (congrArg some (by kernel_rfl))⟩
  f16 := ⟨Tryz.f178.name, by decide, Tryz.func178.trans (congrArg some (by kernel_rfl))⟩
  f17 := ⟨Tryz.f179.name, by decide, Tryz.func179.trans (congrArg some (by kernel_rfl))⟩
  f18 := ⟨Tryz.f180.name, by decide, Tryz.func180.trans (congrArg some (by kernel_rfl))⟩
  f19 := Tryz.func144.trans (congrArg some (by kernel_rfl))
  f20 := Tryz.func145.trans (congrArg some (by kernel_rfl))
  f30 := ⟨Tryz.f188.name, by decide, Tryz.func188.trans (congrArg some (by kernel_rfl))⟩
  f31 := Tryz.func165.trans (congrArg some (by kernel_rfl))
  f32 := Tryz.func166.trans (congrArg some (by kernel_rfl))
  f33 := ⟨Tryz.f189.name, by decide, Tryz.func189.trans (congrArg some (by kernel_rfl))⟩
  f34 := ⟨Tryz.f190.name, by decide, Tryz.func190.trans (congrArg some (by kernel_rfl))⟩
  f35 := ⟨Tryz.f191.name, by decide, Tryz.func191.trans (congrArg some (by kernel_rfl))⟩
  f40 := ⟨Tryz.f195.name, by decide, Tryz.func195.trans (congrArg some (by kernel_rfl))⟩
  t0 := Tryz.underlying0
  a0 := Tryz.isAgg0
  z0 := Tryz.sizeOf0
  v0 := Tryz.zeroValue0
  t3 := Tryz.underlying3
  a3 := Tryz.isAgg3
  z3 := Tryz.sizeOf3
  v3 := Tryz.zeroValue3
  t4 := Tryz.underlying4
  a4 := Tryz.isAgg4
  z4 := Tryz.sizeOf4
  v4 := Tryz.zeroValue4
  t5 := Tryz.underlying5
  a5 := Tryz.isAgg5
  z5 := Tryz.sizeOf5
  v5 := Tryz.zeroValue5
  t9 := Tryz.underlying9
  a9 := Tryz.isAgg9
  z9 := Tryz.sizeOf9
  v9 := Tryz.zeroValue9
  t22 := Tryz.underlying147
  a22 := Tryz.isAgg147
  z22 := Tryz.sizeOf147
  v22 := Tryz.zeroValue147
  t23 := Tryz.underlying147
  a23 := Tryz.isAgg147
  z23 := Tryz.sizeOf147
  v23 := Tryz.zeroValue147
  t25 := Tryz.underlying3
  a25 := Tryz.isAgg3
  z25 := Tryz.sizeOf3
  v25 := Tryz.zeroValue3
  t32 := Tryz.underlying216
  a32 := Tryz.isAgg216
  z32 := Tryz.sizeOf216
  v32 := Tryz.zeroValue216
  t35 := Tryz.underlying265
  a35 := Tryz.isAgg265
  z35 := Tryz.sizeOf265
  v35 := Tryz.zeroValue265
  t36 := Tryz.underlying266
  a36 := Tryz.isAgg266
  z36 := Tryz.sizeOf266
  v36 := Tryz.zeroValue266
  t41 := Tryz.underlying270
  a41 := Tryz.isAgg270
  z41 := Tryz.sizeOf270
  v41 := Tryz.zeroValue270
  t44 := Tryz.underlying142
  a44 := Tryz.isAgg142
  z44 := Tryz.sizeOf142
  v44 := Tryz.zeroValue142
  t46 := Tryz.underlying92
  a46 := Tryz.isAgg92
  z46 := Tryz.sizeOf92
  v46 := Tryz.zeroValue92
  t53 := Tryz.underlying288
  a53 := Tryz.isAgg288
  z53 := Tryz.sizeOf288
  v53 := Tryz.zeroValue288
  t57 := Tryz.underlying292
  a57 := Tryz.isAgg292
  z57 := Tryz.sizeOf292
  v57 := Tryz.zeroValue292
  t63 := Tryz.underlying304
  a63 := Tryz.isAgg304
  z63 := Tryz.sizeOf304
  v63 := Tryz.zeroValue304
  t64 := Tryz.underlying305
  a64 := Tryz.isAgg305
  z64 := Tryz.sizeOf305
  v64 := Tryz.zeroValue305 }
def Tryz.keysInt_ren : Go.Shelf.Ren := ⟨fun | 7 => 120 | 10 => 149 | n => n, fun | 23 => 239 | 26 => 3 | 3 => 147 | 28 => 242 | 0 => 0 | 27 => 241 | 33 => 276 | 4 => 4 | n => n, fun | n => n⟩
theorem Tryz.keysInt : Go.Proofs.SlLaysZI.n7 Tryz.prog Tryz.keysInt_ren := {
  mixed := by kernel_rfl
  f7 := ⟨Tryz.f120.name, by decide, Tryz.func120.trans (congrArg some (by kernel_rfl))⟩
  f10 := ⟨Tryz.f149.name, by decide, Tryz.func149.trans (congrArg some (by kernel_rfl))⟩
  t0 := Tryz.underlying0
  a0 := Tryz.isAgg0
  z0 := Tryz.sizeOf0
  v0 := Tryz.zeroValue0
  t4 := Tryz.underlying4
  a4 := Tryz.isAgg4
  z4 := Tryz.sizeOf4
  v4 := Tryz.zeroValue4
  t23 := Tryz.underlying239
  a23 := Tryz.isAgg239
  z23 := Tryz.sizeOf239
  v23 := Tryz.zeroValue239
  t26 := Tryz.underlying3
  a26 := Tryz.isAgg3
  z26 := Tryz.sizeOf3
  v26 := Tryz.zeroValue3
  t27 := Tryz.underlying241
  a27 := Tryz.isAgg241
  z27 := Tryz.sizeOf241
  v27 := Tryz.zeroValue241
  t28 := Tryz.underlying242
  a28 := Tryz.isAgg242
  z28 := Tryz.sizeOf242
  v28 := Tryz.zeroValue242
  t33 := Tryz.underlying276
  a33 := Tryz.isAgg276
  z33 := Tryz.sizeOf276
  v33 := Tryz.zeroValue276 }
def Tryz.sortedInt_ren : Go.Shelf.Ren := ⟨fun | 6 => 119 | 8 => 148 | 9 => 125 | 11 => 169 | 13 => 112 | 12 => 152 | 23 => 144 | 24 => 145 | 14 => 172 | 15 => 173 | 16 => 174 | 17 => 175 | 18 => 176 | 19 => 177 | 20 => 178 | 21 => 179 | 22 => 180 | 25 => 188 | 26 => 165 | 27 => 166 | 28 => 189 | 29 => 190 | 30 => 191 | 31 => 195 | n => n, fun | 26 => 3 | 28 => 242 | 24 => 147 | 0 => 0 | 3 => 3 | 37 => 216 | 48 => 142 | 50 => 92 | 4 => 4 | 40 => 266 | 39 => 265 | 45 => 270 | 5 => 5 | 9 => 9 | 51 => 288 | 55 => 292 | 57 => 304 | 58 => 305 | 33 => 276 | n => n, fun | n => n⟩
theorem Tryz.sortedInt : Go.Proofs.SlLaysZI.n6 Tryz.prog Tryz.sortedInt_ren := {
  mixed := by kernel_rfl
  f6 := ⟨Tryz.f119.name, by decide, Tryz.func119.trans (congrArg some (by kernel_rfl))⟩
  f8 := ⟨Tryz.f148.name, by decide, Tryz.func148.trans (congrArg some (by kernel_rfl))⟩
  f11 := ⟨Tryz.f169.name, by decide, Tryz.func169.trans (congrArg some (by kernel_rfl))⟩
  t0 := Tryz.underlying0
  a0 := Tryz.isAgg0
  z0 := Tryz.sizeOf0
  v0 := Tryz.zeroValue0
  t24 := Tryz.underlying147
  a24 := Tryz.isAgg147
  z24 := Tryz.sizeOf147
  v24 := Tryz.zeroValue147
  t26 := Tryz.underlying3
  a26 := Tryz.isAgg3
  z26 := Tryz.sizeOf3
  v26 := Tryz.zeroValue3
  t28 := Tryz.underlying242
  a28 := Tryz.isAgg242
  z28 := Tryz.sizeOf242
  v28 := Tryz.zeroValue242
  i26 := by kernel_rfl }
end Go.Proofs
namespace Go.Proofs.YtihidnmpngeohaaGreat
open Go.RowKit Go.Maps Go.Sort Go.Shelf

theorem mem_intKeys {H : Type} {P : Program} {k : TypeId} {R : Value → Option (DataW H × List MemPlace)} {w : World} {b n : Nat} {D : DataW H} (hown : w.ownsMap P k R b n D) (hk : P.underlying k = some (.int .i64)) (x : Int) :
    x ∈ intKeys D ↔ has D (.int .i64 x) = true := by
  obtain ⟨es, rfl, hko⟩ := hown.keysOf
  have hk' : ∀ p ∈ es, ∃ x, p.1 = .int .i64 x := fun p hp => by
    obtain ⟨v, hv⟩ := hko p hp
    obtain ⟨y, _, hy, _⟩ := Maps.keyOf_i64 hk hv
    exact ⟨y, hy⟩
  rw [has_eq, List.any_eq_true]
  show x ∈ es.map (fun p => Go.intOf p.1) ↔ _
  rw [List.mem_map]
  constructor
  · rintro ⟨p, hp', rfl⟩
    obtain ⟨a, ha⟩ := hk' p hp'
    exact ⟨p, hp', by rw [ha]; simp [Lit.sameKey, Go.intOf]⟩
  · rintro ⟨p, hp', hs⟩
    obtain ⟨a, ha⟩ := hk' p hp'
    rw [ha] at hs
    exact ⟨p, hp', by rw [ha]; simpa [Lit.sameKey, Go.intOf] using hs⟩
theorem groups_map {H : Type} {w : World} {P : Program} {k : TypeId} {base : Nat} {e : TypeId} {q : IntKind} {b n : Nat} {D : DataW H} (h : w.ownsGroups P k base e q b n D) : w.ownsMap P k (rowElem w base e q) b n D := by
  obtain ⟨es, clock, hb, F, hs, hD, _⟩ := h
  exact ⟨es, clock, hb, F, hs, hD⟩

/-- slices.Sort's two contracts at this dump, at the fence that asks nothing. -/
theorem sorts_ints (m : Nat) : AnyZI.SortsIn Tryz.prog Tryz.sortedInt_ren Fence.wide m :=
  ⟨fun blk off cap ss W hH hblk hsz => callsIn_wide.2 (AnyM.slices_Sort_int Tryz.sortInt blk off cap ss W hH hblk hsz),
   fun p cap W => callsIn_wide.2 (AnyM.slices_Sort_int_none Tryz.sortInt p cap W)⟩
theorem keys_call (mb : Option Nat) (W : World) : Calls Tryz.prog 120 #[.map mb] W fun e w' => e = .returned (.func (.func 149) #[] #[.pointer (some ⟨W.heap.size, 0, none⟩)]) ∧ w' = W.alloc (.cells #[.map mb] 239) :=
  (callsIn_wide (n := 5)).1 (AnyZI.keys_in Tryz.keysInt Fence.wide 5 trivial rfl mb W)
set_option maxHeartbeats 1000000 in
theorem sorted_call {H : Type} (b nn : Nat) (D0 : DataW H) (R : Value → Option (DataW H × List MemPlace)) (w : World) (hown : w.ownsMap Tryz.prog 3 R b nn D0) (hmax : Maps.size D0 ≤ maxLen) (hbytes : Maps.size D0 * 8 ≤ 140737488355328) :
    Calls Tryz.prog 119 #[.func (.func 149) #[] #[.pointer (some ⟨w.heap.size, 0, none⟩)]] (w.alloc (.cells #[.map (some b)] 239)) fun e w' => ∃ (v : Value) (ks : List Int), e = .returned v ∧ (∀ x, x ∈ ks ↔ has D0 (.int .i64 x) = true) ∧ ks.Pairwise (· ≤ ·) ∧
      w'.ownsRow (w.heap.size + 1) 3 1 v ks.length (ks.map (Value.int .i64)) ∧ Below (w.heap.size + 1) (w.alloc (.cells #[.map (some b)] 239)) w' := by
  have hbl := hown.lt
  have hseq : SeqGives Fence.wide 2 Tryz.prog 149 #[.pointer (some ⟨w.heap.size, 0, none⟩)] (Value.int .i64) (fun ss => ss.Perm (intKeys D0)) (Maps.size D0) (w.alloc (.cells #[.map (some b)] 239)) :=
    AnyZI.keys_gives (ρ := Tryz.keysInt_ren) { Tryz.keysInt with } Fence.wide _ trivial rfl (by omega) w.heap.size b nn D0 _ (by simp) (by simp) (by
      obtain ⟨es, clock, hb, Ft, hs, hD⟩ := hown
      exact ⟨es, clock, (Below.heap_alloc _ _ b hbl).trans hb, Ft, hs, hD⟩)
  have cS := AnyZI.sorted_in Tryz.sortedInt Fence.wide 5 trivial trivial trivial trivial rfl (by omega) (sorts_ints _) (enters_of Tryz.func125 (by kernel_rfl) rfl) 149 #[.pointer (some ⟨w.heap.size, 0, none⟩)] trivial (enters_of Tryz.func149 (by kernel_rfl) rfl) _ _ hmax hbytes _ hseq
  change CallsIn _ _ Tryz.prog 119 _ _ _ at cS
  refine (callsIn_wide.1 cS).mono ?_
  rintro e w' ⟨v, ss, rfl, hS, hrow, _, hb⟩
  have hk := Tryz.underlying3
  refine ⟨v, ss.mergeSort (fun x y => decide (x ≤ y)), rfl, fun x => ?_, ?_, ?_, by simpa using hb⟩
  rotate_left 2
  · have hrow' : w'.ownsRow (w.alloc (.cells #[.map (some b)] 239)).heap.size 3 1 v ss.length ((ss.mergeSort (fun x y => decide (x ≤ y))).map (Value.int .i64)) := hrow
    simpa using hrow'
  · rw [List.mem_mergeSort, hS.mem_iff]
    exact mem_intKeys hown hk x
  · have h := List.pairwise_mergeSort (le := fun x y : Int => decide (x ≤ y)) (fun a b c h1 h2 => by have h1 := of_decide_eq_true h1; have h2 := of_decide_eq_true h2; exact decide_eq_true (Int.le_trans h1 h2)) (fun a b => by rcases Int.le_total a b with h | h <;> simp [h]) ss
    exact h.imp (fun h => by simpa using h)
end Go.Proofs.YtihidnmpngeohaaGreat
namespace Go.Proofs.YtihidnmpngeohaaGreat
open Go.RowKit Go.Lib Go.Sort
variable {α : Type} [Inhabited α]
set_option maxHeartbeats 1000000 in
set_option maxRecDepth 1000000 in
theorem swapRange_int (enc : α → Value) (blk off cap L a b n : Nat) (A B N : Int) (fv : Value) (d0 d : Array α) (w0 w : World) (R : Row1 enc w0 blk off d0) (hs : d0.size = d.size) (S : SW enc w0 blk off d w)
    (hL : d.size = L) (hA : A = (a : Int)) (hB : B = (b : Int)) (hN : N = (n : Int)) (hab : a + n ≤ b) (hb : b + n ≤ d.size) (hsz : d.size < 4611686018427387904) :
    Calls Tryz.prog 194 #[.slice (some ⟨blk, off, none⟩) L cap, .int .i64 A, .int .i64 B, .int .i64 N, fv] w fun e w' => e = .returned (.tuple #[]) ∧ SW enc w0 blk off (swapRg d a b n) w' := by
  subst hL hA hB hN
  have hcl0 := R.hO.cells
  simp only [Value.cells] at hcl0
  have hst := R.hO.store Tryz.prog
  have S0 : Aside (SW enc w0 blk off d w) := S
  clear S
  go_enter Tryz.func194, Tryz.ntmps194
  go_wp2
  go_loopg [10] n (fun g1 vi wr => ∃ i : Nat, vi = .int .i64 i ∧ i ≤ n ∧ n - i ≤ g1 ∧ Aside (SW enc w0 blk off (swapRg d a b i) wr))
  case atStart => exact ⟨0, rfl, by omega, by omega, (show Aside (SW _ _ _ _ _ _) from by rw [swapRg_zero]; exact S0.out)⟩
  case round =>
    clear S0
    obtain ⟨i, rfl, hin, hg1, S1⟩ := hrel
    by_cases hlt : i < n
    · have hltz : (i : Int) < (n : Int) := by omega
      have hsd : (swapRg d a b i).size = d.size := size_swapRg _ _ _ _
      obtain ⟨x, hx⟩ : ∃ x, x = (swapRg d a b i)[a + i]! := ⟨_, rfl⟩
      obtain ⟨y, hy⟩ : ∃ x, x = (swapRg d a b i)[b + i]! := ⟨_, rfl⟩
      obtain ⟨iN, hiN⟩ : ∃ q, q = a + i := ⟨_, rfl⟩
      obtain ⟨jN, hjN⟩ : ∃ q, q = b + i := ⟨_, rfl⟩
      have ea : ((a : Int) + (i : Int)).toNat = iN := by omega
      have pa : (0 : Int) ≤ (a : Int) + (i : Int) := by omega
      have ba : (a : Int) + (i : Int) < (d.size : Int) := by omega
      have ra : IntKind.i64.wrap ((a : Int) + (i : Int)) = (a : Int) + (i : Int) := by rw [IntKind.wrap_i64]; omega
      have ec : ((b : Int) + (i : Int)).toNat = jN := by omega
      have pc : (0 : Int) ≤ (b : Int) + (i : Int) := by omega
      have bc : (b : Int) + (i : Int) < (d.size : Int) := by omega
      have rc : IntKind.i64.wrap ((b : Int) + (i : Int)) = (b : Int) + (i : Int) := by rw [IntKind.wrap_i64]; omega
      have S3 : Aside (SW enc w0 blk off (swapRg d a b (i + 1)) ((wr.setCell ⟨blk, off + iN, none⟩ (enc y)).setCell ⟨blk, off + jN, none⟩ (enc x)).drew) := by
        have := S1.out.swapped R (a + i) (b + i) (by omega) (by omega)
        rw [swapRg_succ d a b i (by omega) (by omega)] at this
        rw [hiN, hjN, hx, hy]; exact this
      have ca := S1.out.c1 R (by omega) (a + i) (by omega)
      have cb := S1.out.c1 R (by omega) (b + i) (by omega)
      have fa := S1.out.f1 R (by omega) (a + i) (by omega)
      have fb := S1.out.f1 R (by omega) (b + i) (by omega)
      obtain ⟨u, cu⟩ := S1.out.c2 R (by omega) (a + i) (b + i) (by omega) (by omega) (enc y)
      rw [← hjN, ← hiN] at cu
      rw [← hx, ← hiN] at ca
      rw [← hy, ← hjN] at cb
      rw [← hiN] at fa
      rw [← hjN] at fb
      clear S1 hx hy hiN hjN hsd
      go_wp2_with fail
      go_big_region
      clear ca cb cu fa fb
      generalize ((wr.setCell ⟨blk, off + iN, none⟩ (enc y)).setCell ⟨blk, off + jN, none⟩ (enc x)).drew = w3 at S3 ⊢
      clear ea ec
      go_wp2
      go_roundg (n - (i + 1))
      case measure => omega
      case rel => exact ⟨i + 1, by go_num, by omega, Nat.le_refl _, S3⟩
    · have hltz : ¬ (i : Int) < (n : Int) := by omega
      go_wp2
      go_end0
      obtain rfl : i = n := by omega
      exact ⟨rfl, S1.out⟩

set_option maxHeartbeats 1000000 in
set_option maxRecDepth 1000000 in
theorem rotate_int (enc : α → Value) (blk off cap L a m b : Nat) (A M B : Int) (fv : Value) (d0 d : Array α) (w0 w : World) (R : Row1 enc w0 blk off d0) (hs : d0.size = d.size) (S : SW enc w0 blk off d w)
    (hL : d.size = L) (hA : A = (a : Int)) (hM : M = (m : Int)) (hB : B = (b : Int)) (ham : a < m) (hmb : m < b) (hb : b ≤ d.size) (hsz : d.size < 4611686018427387904) :
    Calls Tryz.prog 187 #[.slice (some ⟨blk, off, none⟩) L cap, .int .i64 A, .int .i64 M, .int .i64 B, fv] w fun e w' => e = .returned (.tuple #[]) ∧ SW enc w0 blk off (rotA d a m b) w' := by
  subst hL hA hM hB
  have S0 : Aside (SW enc w0 blk off d w) := S
  clear S
  go_enter Tryz.func187, Tryz.ntmps187
  go_wp2
  go_loopg [10, 11] (b - a) (fun g1 vi vj wr => ∃ (i j : Nat) (c : Array α), vi = .int .i64 i ∧ vj = .int .i64 j ∧ 0 < i ∧ 0 < j ∧ i ≤ m - a ∧ j ≤ b - m ∧ i + j ≤ g1 ∧ c.size = d.size ∧ Hid (rotA c (m - i) m (m + j) = rotA d a m b) ∧ Aside (SW enc w0 blk off c wr))
  case atStart => exact ⟨m - a, b - m, d, by go_num, by go_num, by omega, by omega, Nat.le_refl _, Nat.le_refl _, by omega, rfl, (show Hid _ from by show _ = _; congr 1 <;> omega), S0⟩
  case round =>
    clear S0
    obtain ⟨i, j, c, rfl, rfl, hi0, hj0, hi, hj, hg1, hsc, HR, S1⟩ := hrel
    by_cases hij : i = j
    · subst hij
      have hne2 : ((i : Int) != (i : Int)) = false := by simp
      go_wp2_with fail
      refine (swapRange_int enc blk off cap _ (m - i) m i _ _ _ _ d0 c w0 _ R (by omega) S1.out hsc (by omega) rfl rfl (by omega) (by omega) (by omega)).mono ?_
      rintro e w' ⟨rfl, S2⟩
      go_wp2
      go_end0
      refine ⟨rfl, ?_⟩
      rw [← HR.out, ← rotA_even c m i (by omega)]
      exact S2
    · have hne2 : ((i : Int) != (j : Int)) = true := by rw [bne_iff_ne]; omega
      by_cases hgt : j < i
      · have hz : (j : Int) < (i : Int) := by omega
        go_wp2_with fail
        refine (swapRange_int enc blk off cap _ (m - i) m j _ _ _ _ d0 c w0 _ R (by omega) S1.out hsc (by omega) rfl rfl (by omega) (by omega) (by omega)).mono ?_
        rintro e w' ⟨rfl, S2⟩
        have S3 : Aside (SW enc w0 blk off (swapRg c (m - i) m j) w') := S2
        have HR2 : Hid (rotA (swapRg c (m - i) m j) (m - (i - j)) m (m + j) = rotA d a m b) := (rotA_left c m i j (by omega) hgt (by omega)).trans HR.out
        clear S2 S1 HR
        go_wp2
        go_roundg (i - j + j)
        case measure => omega
        case rel => exact ⟨i - j, j, _, by go_num, rfl, by omega, hj0, by omega, hj, Nat.le_refl _, by rw [size_swapRg]; exact hsc, HR2, S3⟩
      · have hz : ¬ (j : Int) < (i : Int) := by omega
        go_wp2_with fail
        refine (swapRange_int enc blk off cap _ (m - i) (m + j - i) i _ _ _ _ d0 c w0 _ R (by omega) S1.out hsc (by omega) (by omega) rfl (by omega) (by omega) (by omega)).mono ?_
        rintro e w' ⟨rfl, S2⟩
        have S3 : Aside (SW enc w0 blk off (swapRg c (m - i) (m + j - i) i) w') := S2
        have HR2 : Hid (rotA (swapRg c (m - i) (m + j - i) i) (m - i) m (m + (j - i)) = rotA d a m b) := (rotA_right c m i j (by omega) (by omega) (by omega)).trans HR.out
        clear S2 S1 HR
        go_wp2
        go_roundg (i + (j - i))
        case measure => omega
        case rel => exact ⟨i, j - i, _, rfl, by go_num, hi0, by omega, hi, by omega, Nat.le_refl _, by rw [size_swapRg]; exact hsc, HR2, S3⟩
end Go.Proofs.YtihidnmpngeohaaGreat
