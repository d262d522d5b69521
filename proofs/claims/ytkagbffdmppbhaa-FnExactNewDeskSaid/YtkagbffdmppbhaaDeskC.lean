/- The law at its one input. -/
import Derived.Test.YtkagbffdmppbhaaDeskB
set_option linter.unusedVariables false
set_option linter.unusedSimpArgs false
namespace Go.Proofs.Ytkagbffdmppbhaa.AWN
open Go Go.Proofs.Try
theorem newDesk_true : m_laws_FnExactNewDesk 30 = some true := by kernel_rfl
end Go.Proofs.Ytkagbffdmppbhaa.AWN
