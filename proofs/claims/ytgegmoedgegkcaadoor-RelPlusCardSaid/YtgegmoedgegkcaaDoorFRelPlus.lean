/-
  The closed facts of the row RelPlus, by the kernel (in a text of their own: they take most of the memory that a process may have).
-/
import Derived.Test.YtgegmoedgegkcaaDoorCards
import Derived.JoinedOf
import Derived.KernelRfl
namespace Go.Proofs.YtgegmoedgegkcaaDoor.relPlus
theorem closed : joinedFacts Tryd.pinned.checked.prog 14 Tryd.f14 (OpenSpec.ofChange Rows.relPlusSpec).bare Rows.relPlusRow = true := by kernel_rfl
end Go.Proofs.YtgegmoedgegkcaaDoor.relPlus
