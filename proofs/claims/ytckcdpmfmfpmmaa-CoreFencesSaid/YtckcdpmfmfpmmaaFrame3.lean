/-
  Arguments that came in, opened: flags; the law on fences.
-/
import Derived.Test.YtckcdpmfmfpmmaaFrame2
import Derived.Test.YtckcdpmfmfpmmaaLFen
namespace Go.Proofs.Ytckcdpmfmfpmmaa
open Go.ChangeShapes Go.WideShapes Go.ChangeAt Go.RowKit Go.Deep

section
variable {H : Type} {enc : TypeId × Value → H} {W : World}
/-- Flags that came in. -/
theorem bools_reads {ad : Option Addr} {len cap : Nat} {d : DataW H} {ps : List MemPlace} (h : DataW.Trod enc Try.prog W 0 (fun _ => true) true 44 (.slice ad len cap) d ps) :
    ∃ l : List Bool, l.length = len ∧ BAt W W.heap.size ad l := by
  obtain ⟨fuel, hf⟩ := h
  rcases open_slice Try.underlying44 hf with ⟨hcs, hx⟩ | ⟨a, len', cap', m, n, D, Pl, hcs, _, hl, hm, hmm, hx, hel⟩
  · have e : Value.slice ad len cap = .slice none 0 0 := by simpa [Value.cells] using hcs
    simp only [Value.slice.injEq] at e
    obtain ⟨rfl, rfl, rfl⟩ := e
    exact ⟨[], rfl, fun j x hx => (by simp at hx)⟩
  · have e : Value.slice ad len cap = .slice (some a) len' cap' := by simpa [Value.cells] using hcs
    simp only [Value.slice.injEq] at e
    obtain ⟨rfl, rfl, rfl⟩ := e
    simp only [if_true] at hmm
    subst hmm
    have key : ∀ i, i < len → ∃ x : Bool, ∃ b off, a = ⟨b, off, none⟩ ∧ b < W.heap.size ∧ W.cell? ⟨b, off + i, none⟩ = some (.bool x) := by
      intro i hi
      obtain ⟨cs0, g1, _⟩ := hel 0 (by omega)
      rw [co4] at g1
      obtain ⟨b, off, rfl, hb⟩ := first_cell g1 (by omega)
      obtain ⟨cs', h1, h2⟩ := hel i (by omega)
      rw [co4] at h1
      obtain ⟨hlen, hc⟩ := elem_cells h1
      match cs', hlen, h2, hc with
      | [c0], _, h2, hc =>
        obtain ⟨x, rfl⟩ := bool_of h2 rfl
        have := hc 0 _ rfl
        rw [Nat.mul_one, Nat.add_zero] at this
        exact ⟨x, b, off, rfl, hb, this⟩
    obtain ⟨f, hf2⟩ := choose_lt key
    refine ⟨(List.range len).map f, by simp, fun j x hj => ?_⟩
    have hjl : j < len := by
      have := (List.getElem?_eq_some_iff.1 hj).1
      simpa using this
    rw [List.getElem?_map, List.getElem?_range hjl, Option.map_some, Option.some.injEq] at hj
    subst hj
    obtain ⟨b, off, e, hb, hc⟩ := hf2 j hjl
    exact ⟨b, off, by rw [e], hb, hc⟩
end
theorem w_CoreFences {H : Type} {enc : TypeId × Value → H} {W : World} {ai : Option Addr} {ni ci : Nat} {x : Int} {da : Option Addr} {nd cd : Nat} {d0 d1 d2 : DataW H} {p0 p2 : List MemPlace} {gs : List (DataW H)} {ts : List TypeId}
    (h0 : DataW.Trod enc Try.prog W 0 (fun _ => true) true 33 (.slice ai ni ci) d0 p0) (hx : (Lit.int .i64 x).wf = true) (h2 : DataW.Trod enc Try.prog W 0 (fun _ => true) true 44 (.slice da nd cd) d2 p2)
    (hZ : (DataW.weightsEach Try.prog (33 :: 3 :: 44 :: ts) (d0 :: d1 :: d2 :: gs)).all (· ≤ reachBytes) = true) :
    Calls Try.prog 7 #[.slice ai ni ci, .int .i64 x, .slice da nd cd] W fun e W' => e = .returned (.bool true) ∧ Below W.heap.size W W' := by
  obtain ⟨l, hl, _, hi, hxs, hsz⟩ := ins_reads h0
  obtain ⟨dl, hdl, hd⟩ := bools_reads h2
  have hb := bounds_i64 hx
  exact fen_walk ai ni ci l hl (ins_sized hZ (j := 0) rfl rfl hsz) hxs x hb.1 hb.2 da nd cd dl hdl W hi hd
end Go.Proofs.Ytckcdpmfmfpmmaa
