/- The program's orders. -/
import Derived.Test.YtgagmbmkpfjbbaaProg
import Derived.Test.YtgagmbmkpfjbbaaMxO
import Derived.KernelRfl
set_option maxRecDepth 20000
namespace Go.Proofs.Ytgagmbmkpfjbbaa
open Go Go.Mx Go.Proofs
theorem follows : Try.prog.follows .mixedOrders = true := by kernel_rfl
end Go.Proofs.Ytgagmbmkpfjbbaa
