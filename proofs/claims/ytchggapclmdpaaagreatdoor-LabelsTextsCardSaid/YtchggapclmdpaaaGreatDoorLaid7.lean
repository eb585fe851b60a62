/- A world that meets the rows' condition on the listed variables: the witness. -/
import Derived.Test.YtchggapclmdpaaaGreatDoorRows
import Derived.Lay
import Derived.LaidHandle
import Derived.LaidLaws
import Derived.Stop.Joined
namespace Go.Proofs.YtchggapclmdpaaaGreatDoor

/-- What the rows list; what of it is no handle. -/
def listed : List (String × DataW Unit) := [("unicode/utf8.acceptRanges", Rows.laid_unicode_utf8_acceptRanges), ("errors.errorType", Rows.laid_errors_errorType), ("barograph/text.errEscape", Rows.laid_barograph_text_errEscape), ("barograph/text.errEnd", Rows.laid_barograph_text_errEnd), ("unicode/utf8.first", Rows.laid_unicode_utf8_first)]
def listedPlain : List (String × DataW Unit) := [("unicode/utf8.acceptRanges", Rows.laid_unicode_utf8_acceptRanges), ("barograph/text.errEscape", Rows.laid_barograph_text_errEscape), ("barograph/text.errEnd", Rows.laid_barograph_text_errEnd), ("unicode/utf8.first", Rows.laid_unicode_utf8_first)]
/-- The handle's cell laid. -/
def setHandle (P : Program) (g u t : Nat) (w : World) : World := { w with heap := w.heap.modify g fun
  | .cells _ ty fz => .cells #[.iface u (.agg #[typeHandle P t])] ty fz
  | o => o }
theorem listed_filter : (listed.filter fun x => x.2.handleName?.isNone) = listedPlain := by kernel_rfl
theorem plain_filter : (listedPlain.filter fun x => ["unicode/utf8.acceptRanges", "barograph/text.errEscape", "barograph/text.errEnd", "unicode/utf8.first"].contains x.1) = listedPlain := by kernel_rfl
theorem plain_rest : (listedPlain.filter fun x => !["unicode/utf8.acceptRanges", "barograph/text.errEscape", "barograph/text.errEnd", "unicode/utf8.first"].contains x.1) = [] := by kernel_rfl
theorem laid_met (os : Os) (args : Array Value) : laidMetH Tryz.prog listed (((setHandle Tryz.prog 5 326 178 (World.holding Tryz.prog os ⟨#[], #[], []⟩)).layVars Tryz.prog listedPlain).forCall (fun _ _ => 0) ⟨#[], args, []⟩).memory := by
  refine laidMetH_of_parts ?_ (by kernel_rfl)
  rw [listed_filter]
  refine laidMet_layVars (w0 := setHandle Tryz.prog 5 326 178 (World.holding Tryz.prog os ⟨#[], #[], []⟩)) ["unicode/utf8.acceptRanges", "barograph/text.errEscape", "barograph/text.errEnd", "unicode/utf8.first"] [] ?_ ?_ ?_ ?_
  · rw [plain_filter]; simp [World.memory, World.forCall, Input.heap]
  · rw [plain_filter]; kernel_rfl
  · rw [plain_filter]; kernel_rfl
  · rw [plain_rest]; exact LaidIn.none
theorem laid_shaped (os : Os) (args : Array Value) : (((setHandle Tryz.prog 5 326 178 (World.holding Tryz.prog os ⟨#[], #[], []⟩)).layVars Tryz.prog listedPlain).forCall (fun _ _ => 0) ⟨#[], args, []⟩).Shaped Tryz.prog :=
  World.shaped_of_ZipB (by kernel_rfl) (by kernel_rfl)
theorem laid_os (os : Os) : ((setHandle Tryz.prog 5 326 178 (World.holding Tryz.prog os ⟨#[], #[], []⟩)).layVars Tryz.prog listedPlain).os = os := World.layVars_os _ _ _
end Go.Proofs.YtchggapclmdpaaaGreatDoor
