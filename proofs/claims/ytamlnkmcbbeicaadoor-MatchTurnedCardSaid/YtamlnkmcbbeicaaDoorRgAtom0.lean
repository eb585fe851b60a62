/- Patterns' reader: what an atom wants: a set built into a tree; skip at a byte that is known. -/
import Derived.Test.YtamlnkmcbbeicaaDoorRgPar
namespace Go.Proofs.YtamlnkmcbbeicaaDoor
open Go.RowKit Go.Lib
open RX (PS Tr Pr)

theorem put_all : ∀ (l : List Value) (k : Nat) (z : Array Value), k + l.length = z.size →
    (∀ i, ((l.zipIdx k).foldl (fun cs (x : Value × Nat) => cs.setIfInBounds (0 + x.2) x.1) z)[i]? = if i < k then z[i]? else l[i - k]?)
  | [], k, z, h => fun i => by
    simp only [List.zipIdx_nil, List.foldl_nil]
    by_cases hi : i < k
    · rw [if_pos hi]
    · rw [if_neg hi, Array.getElem?_eq_none (by simp at h; omega)]; simp
  | v :: l, k, z, h => fun i => by
    rw [List.zipIdx_cons, List.foldl_cons]
    have hz : k + 1 + l.length = (z.setIfInBounds (0 + k) v).size := by
      rw [Array.size_setIfInBounds]
      simp only [List.length_cons] at h
      omega
    rw [put_all l (k + 1) (z.setIfInBounds (0 + k) v) hz i, Array.getElem?_setIfInBounds]
    simp only [List.length_cons] at h
    by_cases h1 : i < k
    · rw [if_pos h1, if_pos (by omega), if_neg (by omega)]
    · rw [if_neg h1]
      by_cases h2 : i = k
      · subst h2
        rw [if_pos (by omega), if_pos (by omega), Nat.sub_self, if_pos (by omega)]
        rfl
      · rw [if_neg (by omega)]
        obtain ⟨j, rfl⟩ : ∃ j, i = k + 1 + j := ⟨i - (k + 1), by omega⟩
        rw [show k + 1 + j - (k + 1) = j by omega, show k + 1 + j - k = j + 1 by omega]
        rfl
theorem put_whole (cs z : Array Value) (h : cs.size = z.size) : cs.zipIdx.foldl (fun a (x : Value × Nat) => a.setIfInBounds (0 + x.2) x.1) z = cs := by
  apply Array.ext_getElem?
  intro i
  have := put_all cs.toList 0 z (by simp [h]) i
  rw [if_neg (Nat.not_lt_zero i), Nat.sub_zero] at this
  rw [← Array.foldl_toList, Array.toList_zipIdx, this]
  simp
theorem put_whole_n (cs z : Array Value) (n : Nat) (hn : n = cs.size) (h : cs.size = z.size) : Array.foldl (fun (a : Array Value) (x : Value × Nat) => a.setIfInBounds x.2 x.1) z cs.zipIdx 0 n = cs := by
  have h1 := put_whole cs z h
  simp only [Nat.zero_add] at h1
  have h2 : cs.zipIdx.size = n := by rw [Array.size_zipIdx, hn]
  rw [h2] at h1
  exact h1
theorem bytes_zero (w : World) : (zeroValue 85).run Tryd.prog w = .ok (.agg (setV fun _ => false)) w := (zero_of_info (show (Tryd.prog.info? 85).map (fun i => (i.zero, i.size)) = some (some (.agg (setV fun _ => false)), 256) by kernel_rfl)).1 w
theorem set_sizeOf (w : World) : (sizeOf 61).run Tryd.prog w = .ok 256 w := by kernel_rfl
set_option maxRecDepth 100000 in
theorem run_build_set (p : Nat → Bool) (w : World) : (Instr.build 85 #[(0, .agg (setV p))]).run Tryd.prog w = .ok (.agg (setV p)) w := by
  have hz := bytes_zero w
  have hs := set_sizeOf w
  simp only [Instr.build, Sem.run_bind, hz, Result.andThen_ok, run_underlying Tryd.underlying85]
  simp [hs, Result.andThen, Instr.fill, Value.cells, setV_size]
  exact put_whole_n _ _ 256 (setV_size p).symm (by rw [setV_size, setV_size])
/-- A set becomes a tree. -/
theorem wpList_build_set {w : World} {p : Nat → Bool} {ops : Array Oper} {rest : List Oper} {op : Oper} {a : Act} {Q : Exit → Act → World → Prop} (hgd : op.guard = none) (x : Operand) (ho : op.op = .build 85 #[(0, x)])
    (hx : a.eval x = .agg (setV p)) (h : wpList Tryd.prog ops Q rest (a.put op.dst (.agg (setV p))) w) : wpList Tryd.prog ops Q (op :: rest) a w :=
  wpList_plain hgd fun K hK => by
    have hb := run_build_set p w
    unfold Oper.wp execOp
    have hm : Array.map (fun y : Nat × Operand => (y.1, a.eval y.2)) #[(0, x)] = #[(0, .agg (setV p))] := by simp [hx]
    simp only [ho]
    rw [hm]
    simp only [Sem.run_bind, hb, Result.andThen_ok, Sem.run_pure]
    exact hK _ _ h
theorem skip_yes (bk : Nat) (s : ByteArray) (st : PS) (c : UInt8) (w : World) (hS : Psr w bk s st) (hbig : st.at_ ≤ 1000000) (hc : s.data.toList[st.at_]? = some c) :
    Calls Tryd.prog 47 #[.pointer (some ⟨bk, 0, none⟩), .int .u8 c.toNat] w fun e w' => e = .returned (.bool true) ∧ Psr w' bk s (st.to (st.at_ + 1)) ∧ GrownIn (fun b => b = bk) w w' :=
  (skip_any bk s st c w hS hbig).mono fun e w' h => by
    rcases h with ⟨h1, h2, h3, _, h5⟩ | ⟨h1, _⟩
    · exact ⟨h2, h3, h5⟩
    · exact absurd hc h1
theorem skip_no (bk : Nat) (s : ByteArray) (st : PS) (c d : UInt8) (w : World) (hS : Psr w bk s st) (hbig : st.at_ ≤ 1000000) (hc : s.data.toList[st.at_]? = some d) (hne : d ≠ c) :
    Calls Tryd.prog 47 #[.pointer (some ⟨bk, 0, none⟩), .int .u8 c.toNat] w fun e w' => e = .returned (.bool false) ∧ ∃ q, w' = w.drewN q :=
  (skip_any bk s st c w hS hbig).mono fun e w' h => by
    rcases h with ⟨h1, _⟩ | ⟨_, h2, h3⟩
    · rw [hc] at h1; exact absurd (Option.some.inj h1) hne
    · exact ⟨h2, h3⟩
end Go.Proofs.YtamlnkmcbbeicaaDoor
