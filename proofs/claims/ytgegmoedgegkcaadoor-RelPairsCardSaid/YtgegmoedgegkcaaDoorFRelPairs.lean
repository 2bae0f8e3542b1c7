/-
  The closed facts of the row RelPairs, by the kernel (in a text of their own: they take most of the memory that a process may have).
-/
import Derived.Test.YtgegmoedgegkcaaDoorCards
import Derived.JoinedOf
import Derived.KernelRfl
namespace Go.Proofs.YtgegmoedgegkcaaDoor.relPairs
theorem closed : joinedFacts Tryd.pinned.checked.prog 16 Tryd.f16 (OpenSpec.ofChange Rows.relPairsSpec).bare Rows.relPairsRow = true := by kernel_rfl
end Go.Proofs.YtgegmoedgegkcaaDoor.relPairs
