/-
  THE CLOSED FACTS of a row, one by one (all at once they need more memory than there is): those that are of the program alone.
-/
import Derived.Test.YtocoadpepofbbaaRows
import Derived.ProofKit
set_option linter.unusedVariables false
set_option linter.unusedSimpArgs false
set_option maxRecDepth 100000
namespace Go.Proofs.Ytocoadpepofbbaa.AM
open Go

theorem j_laid : laidOutB Try.prog = true := by kernel_rfl
theorem j_rowed : mapsRowed Try.prog = true := by kernel_rfl
theorem j_heard : Try.prog.stopsHeard = true := by kernel_rfl
theorem j_enter : Try.prog.mayEnter = true := by kernel_rfl
theorem j_lifts : Try.prog.liftsFinal = Rows.outsideStaysRow.lifted := by kernel_rfl
theorem j_make : Try.prog.make = some Rows.outsideStaysRow.make := by kernel_rfl
end Go.Proofs.Ytocoadpepofbbaa.AM
