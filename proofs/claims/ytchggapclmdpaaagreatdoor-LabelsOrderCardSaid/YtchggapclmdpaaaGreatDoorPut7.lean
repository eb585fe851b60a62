/- labels.put: a text behind its length. -/
import Derived.Test.YtchggapclmdpaaaGreatDoorByt7
import Derived.Test.YtchggapclmdpaaaGreatDoorGrow
namespace Go.Proofs.YtchggapclmdpaaaGreatDoor
open Go.RowKit Go.Lib

/-- A length in two bytes. -/
def lenB (n : Nat) : List UInt8 := [UInt8.ofNat n, UInt8.ofNat (n / 256)]
def putB (s : List UInt8) : List UInt8 := lenB s.length ++ s
theorem putB_length (s : List UInt8) : (putB s).length = 2 + s.length := by unfold putB lenB; simp; omega
set_option maxHeartbeats 2000000 in
set_option maxRecDepth 100000 in
theorem put_any (B : Nat) (v : Value) (n : Nat) (l : List UInt8) (s : ByteArray) (w : World) (ho : w.ownsRow B 5 1 v n (bytesV l)) (hB : B ≤ w.heap.size) (hn : n ≤ 1000000) (hs : s.size ≤ 1000000) :
    Calls Tryz.prog 102 #[v, .string s] w fun e w' => ∃ v', e = .returned v' ∧ w'.ownsRow B 5 1 v' (n + 2 + s.size) (bytesV (l ++ putB s.data.toList)) ∧ GrownIn (fun k => v.ownBlock = some k) w w' := by
  obtain ⟨i0, hi, hz0, hz1, hz2⟩ := info_parts Tryz.infoByte
  have hsz : s.size = s.data.toList.length := (Array.length_toList).symm
  have HO := Lib.hid ho
  have hlt := fun j hj => ho.lt j hj
  have HI := Lib.hid (show _ ∧ _ from ⟨hsz, hlt⟩)
  clear ho hsz hlt
  go_enter Tryz.func102, Tryz.ntmps102
  go_wp2_with (first
    | (at_builtin; refine wpList_append_full _ rfl _ _ 75 rfl B 5 i0 _ 1 1 Tryz.underlying75 hi hz0 hz1 hz2 rfl (by omega) _ n (bytesV l) rfl (HO.out.alloc _) ⟨w.heap.size, 0, none⟩ 2 2 [.int .u8 ((s.size : Int) % 256), .int .u8 ((s.size : Int) / 256 % 256)] rfl rfl (cells_newL w [.int .u8 ((s.size : Int) % 256), .int .u8 ((s.size : Int) / 256 % 256)] _) (by simp [Value.oneCell']) (by omega) (by unfold maxLen; omega) (by omega) (by simp; omega) ?_; intro g1 c1 w1 ho1 hg1 hl1 _)
    | (at_builtin; refine wpList_append_own_string _ rfl _ _ 75 9 rfl B 5 i0 Tryz.underlying75 Tryz.underlying9 hi hz0 hz1 hz2 _ (n + 2) _ rfl ho1 s rfl (by unfold maxLen; omega) (by omega) (by have := hg1.size; simp at this; omega) ?_; intro v2 w2 ho2 hg2 _))
  go_ret
  refine ⟨v2, rfl, ?_, ?_⟩
  · have e : bytesV (l ++ putB s.data.toList) = bytesV l ++ [.int .u8 ((s.size : Int) % 256), .int .u8 ((s.size : Int) / 256 % 256)] ++ strCells s := by
      rw [bytesV_append, strCells_bytes, List.append_assoc]
      rfl
    rw [e]
    exact ho2
  · refine (((GrownIn.refl _ w).alloc _).trans (GrownIn.of_grownBy hg1) (fun k _ h => h)).trans (GrownIn.of_grownBy hg2) (fun k hk h => ?_)
    have h' : k = g1 := by
      have : some g1 = some k := h
      exact (Option.some.inj this).symm
    subst h'
    rcases hl1 with h1 | h1
    · exact h1
    · exfalso
      simp at h1
      omega
end Go.Proofs.YtchggapclmdpaaaGreatDoor
