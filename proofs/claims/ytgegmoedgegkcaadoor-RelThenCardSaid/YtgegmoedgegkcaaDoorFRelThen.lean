/-
  The closed facts of the row RelThen, by the kernel (in a text of their own: they take most of the memory that a process may have).
-/
import Derived.Test.YtgegmoedgegkcaaDoorCards
import Derived.JoinedOf
import Derived.KernelRfl
namespace Go.Proofs.YtgegmoedgegkcaaDoor.relThen
theorem closed : joinedFacts Tryd.pinned.checked.prog 15 Tryd.f15 (OpenSpec.ofChange Rows.relThenSpec).bare Rows.relThenRow = true := by kernel_rfl
end Go.Proofs.YtgegmoedgegkcaaDoor.relThen
