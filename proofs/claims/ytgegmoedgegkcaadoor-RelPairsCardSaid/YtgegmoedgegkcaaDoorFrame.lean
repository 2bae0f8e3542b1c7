/-
  What the rows of this seat share: the listed table gives the walks their fact, and a world for the witness.
-/
import Derived.Test.YtgegmoedgegkcaaDoorCards
import Derived.Test.YtgegmoedgegkcaaDoorTie
import Derived.Test.YtgegmoedgegkcaaDoorTz
import Derived.Test.YtgegmoedgegkcaaDoorRange
import Derived.WalkKit
import Derived.ProofKit
import Derived.OpenShut
import Derived.Deep.DeepHandedRow
import Derived.Lib.LaidTab
namespace Go.Proofs.YtgegmoedgegkcaaDoor
open Go.ChangeShapes Go.WideShapes Go.ChangeAt Go.RowKit

theorem own : ownKnob Tryd.prog.godebug = none := by kernel_rfl
theorem gTab : Tryd.prog.globalNamed "math/bits.deBruijn64tab" = some 0 := by kernel_rfl
theorem gTabType : (Tryd.prog.globals[0]?).map (·.type) = some 138 := by kernel_rfl
theorem cells138 : Tryd.prog.cellsOf 138 = 64 := by kernel_rfl
theorem cells5 : Tryd.prog.cellsOf 5 = 1 := by kernel_rfl

/-- What the rows' one listed variable gives. -/
theorem tab_of {W : World} {l : List (String × DataW Unit)} (hl : l = [("math/bits.deBruijn64tab", Rows.laid_math_bits_deBruijn64tab)]) (h : laidMetH Tryd.prog l W) : Tab W := by
  subst hl
  have ht : Lib.TabIs Tryd.prog W "math/bits.deBruijn64tab" .u8 (Lib.deBruijn64tab.map Int.ofNat) := Lib.tabIs_of_head (rest := []) gTab gTabType Tryd.underlying138 Tryd.underlying5 cells5 cells138 h
  have hc : ∀ j, j < Lib.deBruijn64tab.length → W.cell? ⟨0, j, none⟩ = some (.int .u8 (Lib.deBruijn64tab.getD j 0)) := fun j hj => by
    have := ht.cell gTab j (by simpa using hj)
    rw [this]
    simp [List.getD, hj]
  refine ⟨?_, hc⟩
  have h0 := hc 0 (by decide)
  rcases Nat.lt_or_ge 0 W.heap.size with h' | h'
  · exact h'
  · simp [World.cell?, Array.getElem?_eq_none h'] at h0

/-- A WORLD FOR THE WITNESS: the settled one, the table (block 0) holding what its initialiser lays. -/
noncomputable def laidWorld (os : Os) : World :=
  { World.holding Tryd.prog os ⟨#[], #[], []⟩ with heap := (World.holding Tryd.prog os ⟨#[], #[], []⟩).heap.modify 0 fun
      | .cells _ t frozen => .cells (Lib.deBruijn64tab.map fun (x : Nat) => Value.int .u8 (x : Int)).toArray t frozen
      | o => o }

theorem iv_of_wf {x : Int} (h : (Lit.int .u64 x).wf = true) : ∃ s, x = iv s := by
  have hb : 0 ≤ x ∧ x ≤ 18446744073709551615 := bounds_u64 h
  exact ⟨BitVec.ofInt 64 x, (iv_of hb.1 (by omega)).symm⟩

/-- What a slice of integers that came in reads as. -/
theorem slice_reads {H : Type} {enc : TypeId × Value → H} {W : World} {T E : TypeId} {k : IntKind} {ad : Option Addr} {len cap : Nat} {d : DataW H} {ps : List MemPlace}
    (ht : Tryd.prog.underlying T = some (.slice E)) (he : Tryd.prog.underlying E = some (.int k)) (hc : Tryd.prog.cellsOf E = 1)
    (h : DataW.Trod enc Tryd.prog W 0 (fun _ => true) true T (.slice ad len cap) d ps) :
    ∃ xs : List Int, xs.length = len ∧ len ≤ maxLen ∧ SlAt W W.heap.size ad (xs.map (Value.int k)) ∧ ∀ x ∈ xs, (Lit.int k x).wf = true := by
  obtain ⟨fuel, hf⟩ := h
  rcases open_ints ht he hc hf with ⟨hcs, hx⟩ | ⟨a, len', cap', zs, hcs, _, hl, hm, hz, hx, hcell, hwz⟩
  · have e : Value.slice ad len cap = .slice none 0 0 := by simpa [Value.cells] using hcs
    simp only [Value.slice.injEq] at e
    obtain ⟨rfl, rfl, rfl⟩ := e
    exact ⟨[], rfl, by unfold maxLen; omega, SlAt.nil _ _ _, fun x hx => by simp at hx⟩
  · have e : Value.slice ad len cap = .slice (some a) len' cap' := by simpa [Value.cells] using hcs
    simp only [Value.slice.injEq] at e
    obtain ⟨rfl, rfl, rfl⟩ := e
    simp only [if_true] at hz
    refine ⟨zs.take len, by rw [List.length_take]; omega, by omega, fun j x hj => ?_, fun x hx => hwz x (List.mem_of_mem_take hx)⟩
    have hjl : j < len ∧ j < zs.length := by
      have := (List.getElem?_eq_some_iff.1 hj).1
      rw [List.length_map, List.length_take] at this
      omega
    obtain ⟨b, off, rfl, hc2⟩ := ints_at hcell (by omega)
    have hcj := hc2 j hjl.2
    refine ⟨b, off, rfl, World.lt_of_cell hcj, ?_⟩
    rw [hcj]
    rw [List.getElem?_map, List.getElem?_take_of_lt hjl.1, List.getElem?_eq_getElem hjl.2, Option.map_some, Option.some.injEq] at hj
    rw [← hj]
    simp [List.getD, hjl.2]
theorem laidOut : laidOutB Tryd.prog = true := by kernel_rfl
end Go.Proofs.YtgegmoedgegkcaaDoor
