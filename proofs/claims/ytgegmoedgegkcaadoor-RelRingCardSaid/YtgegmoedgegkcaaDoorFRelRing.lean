/-
  The closed facts of the row RelRing, by the kernel (in a text of their own: they take most of the memory that a process may have).
-/
import Derived.Test.YtgegmoedgegkcaaDoorCards
import Derived.JoinedOf
import Derived.KernelRfl
namespace Go.Proofs.YtgegmoedgegkcaaDoor.relRing
theorem closed : joinedFacts Tryd.pinned.checked.prog 12 Tryd.f12 (OpenSpec.ofChange Rows.relRingSpec).bare Rows.relRingRow = true := by kernel_rfl
end Go.Proofs.YtgegmoedgegkcaaDoor.relRing
