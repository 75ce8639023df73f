/- What every statement of the seat asks of the program as a whole, proved once. -/
import Derived.Test.YthfddcgfmpicmaaOpen
namespace Go.Proofs.Ythfddcgfmpicmaa
set_option linter.unusedVariables false
set_option linter.unusedSimpArgs false
open Go.ChangeShapes Go.WideShapes Go.ChangeAt Go.RowKit

theorem and_mk {a b : Bool} (ha : a = true) (hb : b = true) : (a && b) = true := by rw [ha, hb]; rfl
theorem j1 : laidOutB Try.prog = true := by kernel_rfl
theorem j2 : mapsRowed Try.prog = true := by kernel_rfl
theorem j22 : (Rows.creditKnownRow.plainKeys == Try.prog.plainKeys) = true := by kernel_rfl
theorem j24 : Try.prog.stopsHeard = true := by kernel_rfl
theorem j25 : Try.prog.mayEnter = true := by kernel_rfl
theorem j26 : (Rows.creditKnownRow.lifted == Try.prog.liftsFinal) = true := by kernel_rfl
theorem j27 : (Try.prog.make == some Rows.creditKnownRow.make) = true := by kernel_rfl

end Go.Proofs.Ythfddcgfmpicmaa
