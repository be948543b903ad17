/- The program's orders. -/
import Derived.Test.YtlfijjmjmgobhaaProg
import Derived.Test.YtlfijjmjmgobhaaMxO
import Derived.KernelRfl
set_option maxRecDepth 20000
namespace Go.Proofs.Ytlfijjmjmgobhaa
open Go Go.Mx Go.Proofs
theorem follows : Try.prog.follows .mixedOrders = true := by kernel_rfl
end Go.Proofs.Ytlfijjmjmgobhaa
