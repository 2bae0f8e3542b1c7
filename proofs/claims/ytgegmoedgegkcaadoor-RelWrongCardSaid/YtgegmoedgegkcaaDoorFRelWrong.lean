/-
  The closed facts of the row RelWrong, by the kernel (in a text of their own: they take most of the memory that a process may have).
-/
import Derived.Test.YtgegmoedgegkcaaDoorCards
import Derived.JoinedOf
import Derived.KernelRfl
namespace Go.Proofs.YtgegmoedgegkcaaDoor.relWrong
theorem closed : joinedFacts Tryd.pinned.checked.prog 21 Tryd.f21 (OpenSpec.ofChange Rows.relWrongSpec).bare Rows.relWrongRow = true := by kernel_rfl
end Go.Proofs.YtgegmoedgegkcaaDoor.relWrong
