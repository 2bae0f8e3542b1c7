/-
  What the rows of this seat share: the listed table gives the walks their fact, and a world for the witness.
-/
import Derived.Test.YtgegmoedgegkcaaDoorCards
import Derived.Test.YtgegmoedgegkcaaDoorTie
import Derived.Test.YtgegmoedgegkcaaDoorTz
import Derived.WalkKit
import Derived.ProofKit
import Derived.OpenShut
import Derived.Deep.DeepHandedRow
import Derived.Lib.LaidTab
namespace Go.Proofs.YtgegmoedgegkcaaDoor
open Go.ChangeShapes Go.WideShapes Go.ChangeAt Go.RowKit

theorem own : ownKnob Tryd.prog.godebug = none := by kernel_rfl
theorem gTab : Tryd.prog.globalNamed "math/bits.deBruijn64tab" = some 0 := by kernel_rfl
theorem gTabType : (Tryd.prog.globals[0]?).map (·.type) = some 138 := by kernel_rfl
theorem cells138 : Tryd.prog.cellsOf 138 = 64 := by kernel_rfl
theorem cells5 : Tryd.prog.cellsOf 5 = 1 := by kernel_rfl

/-- What the rows' one listed variable gives. -/
theorem tab_of {W : World} {l : List (String × DataW Unit)} (hl : l = [("math/bits.deBruijn64tab", Rows.laid_math_bits_deBruijn64tab)]) (h : laidMetH Tryd.prog l W) : Tab W := by
  subst hl
  have ht : Lib.TabIs Tryd.prog W "math/bits.deBruijn64tab" .u8 (Lib.deBruijn64tab.map Int.ofNat) := Lib.tabIs_of_head (rest := []) gTab gTabType Tryd.underlying138 Tryd.underlying5 cells5 cells138 h
  have hc : ∀ j, j < Lib.deBruijn64tab.length → W.cell? ⟨0, j, none⟩ = some (.int .u8 (Lib.deBruijn64tab.getD j 0)) := fun j hj => by
    have := ht.cell gTab j (by simpa using hj)
    rw [this]
    simp [List.getD, hj]
  refine ⟨?_, hc⟩
  have h0 := hc 0 (by decide)
  rcases Nat.lt_or_ge 0 W.heap.size with h' | h'
  · exact h'
  · simp [World.cell?, Array.getElem?_eq_none h'] at h0

/-- A WORLD FOR THE WITNESS: the settled one, the table (block 0) holding what its initialiser lays. -/
noncomputable def laidWorld (os : Os) : World :=
  { World.holding Tryd.prog os ⟨#[], #[], []⟩ with heap := (World.holding Tryd.prog os ⟨#[], #[], []⟩).heap.modify 0 fun
      | .cells _ t frozen => .cells (Lib.deBruijn64tab.map fun (x : Nat) => Value.int .u8 (x : Int)).toArray t frozen
      | o => o }

theorem iv_of_wf {x : Int} (h : (Lit.int .u64 x).wf = true) : ∃ s, x = iv s := by
  have hb : 0 ≤ x ∧ x ≤ 18446744073709551615 := bounds_u64 h
  exact ⟨BitVec.ofInt 64 x, (iv_of hb.1 (by omega)).symm⟩
end Go.Proofs.YtgegmoedgegkcaaDoor
