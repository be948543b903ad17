/- The program's orders. -/
import Derived.Test.YtomajjnoekfmoaaProg
import Derived.Test.YtomajjnoekfmoaaMxO
import Derived.KernelRfl
set_option maxRecDepth 20000
namespace Go.Proofs.Ytomajjnoekfmoaa
open Go Go.Mx Go.Proofs
theorem follows : Try.prog.follows .mixedOrders = true := by kernel_rfl
end Go.Proofs.Ytomajjnoekfmoaa
