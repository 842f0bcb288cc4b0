/-
  THE CLOSED FACTS of the row of 'OutsideStays'.
-/
import Derived.Test.YtocoadpepofbbaaG19
set_option linter.unusedVariables false
set_option maxRecDepth 100000
namespace Go.Proofs.Ytocoadpepofbbaa.AM
open Go
theorem j7_rest : joinedRest Try.prog Try.f7 Rows.outsideStaysSpec Rows.outsideStaysRow = true := by kernel_rfl
theorem j7_place : (Rows.outsideStaysRow.inPlace == Try.prog.inPlace 7) = true := by kernel_rfl
theorem j7_unf : (Rows.outsideStaysRow.unfollowed == Try.prog.unfollowed 7) = true := by kernel_rfl
theorem j7_rec : (Rows.outsideStaysRow.recurses == Try.prog.recurses 7) = true := by kernel_rfl
theorem j7_named : (Rows.outsideStaysRow.named == Try.prog.varsNamed 7) = true := by kernel_rfl
end Go.Proofs.Ytocoadpepofbbaa.AM
