/- What the rows' condition on the listed variables gives a walk: LaidE. -/
import Derived.Test.YtchggapclmdpaaaGreatDoorLaid7
import Derived.Test.YtchggapclmdpaaaGreatDoorGh
import Derived.LaidLaws
import Derived.LaidHandle
import Derived.LaidSub
import Derived.Stop.LaidErr
import Derived.Stop.LaidTwo
import Derived.Stop.Texts
import Derived.Stop.JoinedAt
import Derived.ProofKit
namespace Go.Proofs.YtchggapclmdpaaaGreatDoor
open Go.RowKit Go.Lib

theorem Tryz.gEnd : Tryz.prog.globalNamed "barograph/text.errEnd" = some 3 := by kernel_rfl
theorem Tryz.gEsc : Tryz.prog.globalNamed "barograph/text.errEscape" = some 4 := by kernel_rfl
theorem Tryz.gTy : Tryz.prog.globalNamed "errors.errorType" = some 5 := by kernel_rfl
theorem Tryz.gEndType : (Tryz.prog.globals[3]?).map (·.type) = some 178 := by kernel_rfl
theorem Tryz.gEscType : (Tryz.prog.globals[4]?).map (·.type) = some 178 := by kernel_rfl
theorem Tryz.cellsErrStr : Tryz.prog.cellsOf 360 = 1 := by kernel_rfl
theorem Tryz.cellsStr1 : Tryz.prog.cellsOf 9 = 1 := by kernel_rfl
theorem Tryz.starErr : "*" ++ "errors.errorString" = "*errors.errorString" := by decide
theorem Tryz.rowErrStr (u : TypeId) (h : Tryz.prog.typeName? 3 u = some "*errors.errorString") : u = 341 :=
  typeName_ptr_named (nm := "errors.errorString") (by rw [Tryz.starErr]; kernel_rfl) (by kernel_rfl) (by decide) u (by rw [Tryz.starErr]; exact h)
theorem Tryz.rtOf : (Tryz.prog.cutTypes.find? (·.1 == "internal/reflectlite.rtype")).map (·.2) = some 326 := by kernel_rfl
theorem Tryz.rowError : ((List.range 371).filter fun t => Tryz.prog.rowNamed t [101, 114, 114, 111, 114]) = [178] := by kernel_rfl
theorem Tryz.typesSize : Tryz.prog.types.size = 371 := by kernel_rfl
theorem laidE_of {W : World} (h : laidMetH Tryz.prog listed W) : ∃ a b, LaidE W.heap.size a b W := by
  have h' : laidMet Tryz.prog (listed.filter fun x => x.2.handleName?.isNone) W ∧ handlesMet Tryz.prog [("errors.errorType", Rows.laid_errors_errorType)] W := h
  rw [listed_filter] at h'
  have h2 : laidMet Tryz.prog [("barograph/text.errEscape", Rows.laid_barograph_text_errEscape), ("barograph/text.errEnd", Rows.laid_barograph_text_errEnd), ("unicode/utf8.first", Rows.laid_unicode_utf8_first)] W := h'.1.tail
  obtain ⟨a0, a1, s0, s1, c0, c1, t0, t1, hv0, hv1, hc0, hs0, hz0, hc1, hs1, hz1, hne, hb0, hb1⟩ := laid_sentinels2 h2 Tryz.gEsc Tryz.gEscType Tryz.gEnd Tryz.gEndType Tryz.underlying178 Tryz.rowErrStr Tryz.underlying341 Tryz.underlying360 rfl rfl Tryz.underlying9 Tryz.cellsErrStr Tryz.cellsStr1
  obtain ⟨name, u, ty, e1, e2, e3, e4, e5⟩ := h'.2 _ (List.mem_singleton.2 rfl)
  have en : name = [101, 114, 114, 111, 114] := (Option.some.inj e1).symm
  subst en
  obtain rfl := Option.some.inj (Tryz.rtOf.symm.trans e2)
  have hm : ty ∈ (List.range 371).filter fun t => Tryz.prog.rowNamed t [101, 114, 114, 111, 114] := List.mem_filter.2 ⟨List.mem_range.2 (by rw [← Tryz.typesSize]; exact e3), e4⟩
  rw [Tryz.rowError] at hm
  obtain rfl := List.mem_singleton.1 hm
  have hh : typeHandle Tryz.prog 178 = .pointer (some ⟨6, 178, none⟩) := by kernel_rfl
  rw [hh] at e5
  have g5 : W.cell? ⟨5, 0, none⟩ = some (.iface 326 (.agg #[.pointer (some ⟨6, 178, none⟩)])) := by simpa using World.var?_cell Tryz.gTy e5 0
  have g4 : W.cell? ⟨4, 0, none⟩ = some (.iface 341 (.pointer (some a0))) := by simpa using World.var?_cell Tryz.gEsc hv0 0
  have g3 : W.cell? ⟨3, 0, none⟩ = some (.iface 341 (.pointer (some a1))) := by simpa using World.var?_cell Tryz.gEnd hv1 0
  exact ⟨a1, a0, World.block_lt_of_cell? _ _ g5, Nat.le_refl _, g5, g3, g4, hne.symm, World.block_lt_of_cell? _ _ hc1, World.block_lt_of_cell? _ _ hc0, ⟨c1, t1, hb1⟩, ⟨c0, t0, hb0⟩⟩
end Go.Proofs.YtchggapclmdpaaaGreatDoor
