/-
  The closed facts of the row RelCross, by the kernel (in a text of their own: they take most of the memory that a process may have).
-/
import Derived.Test.YtgegmoedgegkcaaDoorCards
import Derived.JoinedOf
import Derived.KernelRfl
namespace Go.Proofs.YtgegmoedgegkcaaDoor.relCross
theorem closed : joinedFacts Tryd.pinned.checked.prog 17 Tryd.f17 (OpenSpec.ofChange Rows.relCrossSpec).bare Rows.relCrossRow = true := by kernel_rfl
end Go.Proofs.YtgegmoedgegkcaaDoor.relCross
