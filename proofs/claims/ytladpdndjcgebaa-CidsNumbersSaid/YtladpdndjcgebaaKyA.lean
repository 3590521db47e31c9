/- CidsNumbers ends with true: the kernel runs the machine for closed code. -/
import Derived.Test.YtladpdndjcgebaaKxB
import Derived.Test.YtladpdndjcgebaaTy
import Derived.KernelRfl
namespace Go.Proofs.Ytladpdndjcgebaa.cidsNumbers
set_option linter.unusedVariables false
open Go Go.Proofs.Ytladpdndjcgebaa Go.Proofs.Ytladpdndjcgebaa.Kx

theorem says : saysTrue Try.prog ty 100000 3 = true := by kernel_rfl
end Go.Proofs.Ytladpdndjcgebaa.cidsNumbers
