/-
  Arguments that came in, opened: instructions, rules, cores, flags, memories.
-/
import Derived.Test.YtckcdpmfmfpmmaaFrame
import Derived.Test.YtckcdpmfmfpmmaaLStuck2
import Derived.Deep.Slices
import Derived.SizedLaws
namespace Go.Proofs.Ytckcdpmfmfpmmaa
open Go.ChangeShapes Go.WideShapes Go.ChangeAt Go.RowKit Go.Deep

theorem cell_part {w : World} {a : Addr} {v : Value} (h : w.cell? (a.add 0) = some v) : ∃ b off, a = ⟨b, off, none⟩ := by
  obtain ⟨b, off, spot⟩ := a
  have hspot : spot = none := by simpa [Addr.add] using World.cell?_spot h
  subst hspot
  exact ⟨b, off, rfl⟩
theorem first_cell {w : World} {base : Nat} {a : Addr} {sz : Nat} {cs : List Value} (h : w.cells? base (a.add (0 * sz)) sz = some cs) (hsz : 0 < sz) : ∃ b off, a = ⟨b, off, none⟩ ∧ b < w.heap.size := by
  obtain ⟨_, hlen, hc⟩ := World.cells?_some h
  have h0 := hc 0 hsz
  rw [List.getElem?_eq_getElem (by omega), Deep.add_add, Nat.zero_mul] at h0
  obtain ⟨b, off, rfl⟩ := cell_part h0
  exact ⟨b, off, rfl, World.block_lt_of_cell? w _ h0⟩
theorem elem_cells {w : World} {base b off i sz : Nat} {cs : List Value} (h : w.cells? base ((⟨b, off, none⟩ : Addr).add (i * sz)) sz = some cs) : cs.length = sz ∧ ∀ j v, cs[j]? = some v → w.cell? ⟨b, off + i * sz + j, none⟩ = some v := by
  obtain ⟨_, hlen, hc⟩ := World.cells?_some h
  refine ⟨hlen, fun j v hv => ?_⟩
  have hj := hc j (by rw [← hlen]; exact (List.getElem?_eq_some_iff.1 hv).1)
  rw [Deep.add_add, Addr.add_lit, hv] at hj
  rw [← hj]; congr 2; omega
section
variable {H : Type} {enc : TypeId × Value → H} {W : World} {sp : Nat → Bool} {fuel : Nat}
theorem co5 : Try.prog.cellsOf 5 = 1 := by kernel_rfl
theorem co4 : Try.prog.cellsOf 4 = 1 := by kernel_rfl
theorem co23 : Try.prog.cellsOf 23 = 2 := by kernel_rfl
theorem co24 : Try.prog.cellsOf 24 = 8 := by kernel_rfl
theorem co25 : Try.prog.cellsOf 25 = 1 := by kernel_rfl
theorem co27 : Try.prog.cellsOf 27 = 12 := by kernel_rfl
theorem co38 : Try.prog.cellsOf 38 = 10 := by kernel_rfl
theorem co59 : Try.prog.cellsOf 59 = 2 := by kernel_rfl
theorem u8_of {v : Value} {x : Option (DataW H × List MemPlace)} (h : DataW.trod enc Try.prog W 0 sp true fuel 5 [v] = x) (hx : x.isSome = true) : ∃ n : Int, v = .int .u8 n ∧ 0 ≤ n ∧ n ≤ 255 := by
  obtain ⟨y, rfl⟩ := Option.isSome_iff_exists.1 hx
  obtain ⟨n, h1, _, h2⟩ := DataW.trod_int Try.underlying5 h
  simp only [List.cons.injEq, and_true] at h1
  exact ⟨n, h1, bounds_u8 h2⟩
theorem bool_of {v : Value} {x : Option (DataW H × List MemPlace)} (h : DataW.trod enc Try.prog W 0 sp true fuel 4 [v] = x) (hx : x.isSome = true) : ∃ b : Bool, v = .bool b := by
  obtain ⟨y, rfl⟩ := Option.isSome_iff_exists.1 hx
  obtain ⟨b, h1, _⟩ := DataW.trod_bool Try.underlying4 h
  simp only [List.cons.injEq, and_true] at h1
  exact ⟨b, h1⟩
theorem arg_of {v u : Value} {x : Option (DataW H × List MemPlace)} (h : DataW.trod enc Try.prog W 0 sp true fuel 23 [v, u] = x) (hx : x.isSome = true) : ∃ (b : Bool) (n : Int), v = .bool b ∧ u = .int .u8 n ∧ 0 ≤ n ∧ n ≤ 255 := by
  obtain ⟨y, rfl⟩ := Option.isSome_iff_exists.1 hx
  obtain ⟨xs, k, _, _, _, hl, hf⟩ := DataW.trod_struct Try.underlying23 h
  have hl : xs.length = 2 := hl
  have f0 := hf 0 _ rfl
  have f1 := hf 1 _ rfl
  simp only [List.getElem_toArray, List.getElem_cons_zero, co4, List.drop_zero, List.take_succ_cons, List.take_zero] at f0
  simp only [List.getElem_toArray, List.getElem_cons_succ, List.getElem_cons_zero, co5, List.drop_succ_cons, List.drop_zero, List.take_succ_cons, List.take_zero] at f1
  obtain ⟨b, hb⟩ := bool_of f0 (by simp [hl])
  obtain ⟨n, hn, h2⟩ := u8_of f1 (by simp [hl])
  exact ⟨b, n, hb, hn, h2⟩
theorem in_of {cs : List Value} {x : DataW H × List MemPlace} (h : DataW.trod enc Try.prog W 0 sp true fuel 38 cs = some x) : ∃ y : In, cs = y.cells.toList ∧ XOk y := by
  obtain ⟨xs, k, _, _, hlen, hl, hf⟩ := DataW.trod_struct Try.underlying38 h
  rw [co38] at hlen
  have hl : xs.length = 8 := hl
  match cs, hlen with
  | [c0, c1, c2, c3, c4, c5, c6, c7, c8, c9], _ =>
    have f0 := hf 0 _ rfl
    have f1 := hf 1 _ rfl
    have f2 := hf 2 _ rfl
    have f3 := hf 3 _ rfl
    have f4 := hf 4 _ rfl
    have f5 := hf 5 _ rfl
    have f6 := hf 6 _ rfl
    have f7 := hf 7 _ rfl
    simp only [List.getElem_toArray, List.getElem_cons_zero, co5, List.drop_zero, List.take_succ_cons, List.take_zero] at f0
    simp only [List.getElem_toArray, List.getElem_cons_succ, List.getElem_cons_zero, co5, List.drop_zero, List.drop_succ_cons, List.take_succ_cons, List.take_zero] at f1
    simp only [List.getElem_toArray, List.getElem_cons_succ, List.getElem_cons_zero, co5, List.drop_zero, List.drop_succ_cons, List.take_succ_cons, List.take_zero] at f2
    simp only [List.getElem_toArray, List.getElem_cons_succ, List.getElem_cons_zero, co23, List.drop_zero, List.drop_succ_cons, List.take_succ_cons, List.take_zero] at f3
    simp only [List.getElem_toArray, List.getElem_cons_succ, List.getElem_cons_zero, co23, List.drop_zero, List.drop_succ_cons, List.take_succ_cons, List.take_zero] at f4
    simp only [List.getElem_toArray, List.getElem_cons_succ, List.getElem_cons_zero, co5, List.drop_zero, List.drop_succ_cons, List.take_succ_cons, List.take_zero] at f5
    simp only [List.getElem_toArray, List.getElem_cons_succ, List.getElem_cons_zero, co5, List.drop_zero, List.drop_succ_cons, List.take_succ_cons, List.take_zero] at f6
    simp only [List.getElem_toArray, List.getElem_cons_succ, List.getElem_cons_zero, co5, List.drop_zero, List.drop_succ_cons, List.take_succ_cons, List.take_zero] at f7
    obtain ⟨n0, rfl, b0⟩ := u8_of f0 (by simp [hl])
    obtain ⟨n1, rfl, b1⟩ := u8_of f1 (by simp [hl])
    obtain ⟨n2, rfl, b2⟩ := u8_of f2 (by simp [hl])
    obtain ⟨r3, n3, rfl, rfl, b3⟩ := arg_of f3 (by simp [hl])
    obtain ⟨r4, n4, rfl, rfl, b4⟩ := arg_of f4 (by simp [hl])
    obtain ⟨n5, rfl, b5⟩ := u8_of f5 (by simp [hl])
    obtain ⟨n6, rfl, b6⟩ := u8_of f6 (by simp [hl])
    obtain ⟨n7, rfl, b7⟩ := u8_of f7 (by simp [hl])
    exact ⟨⟨n0, n1, n2, r3, n3, r4, n4, n5, n6, n7⟩, rfl, ⟨b0, b1, b2, b3, b4, b5, b6, b7⟩⟩
theorem st_of_trod {cs : List Value} {x : DataW H × List MemPlace} (h : DataW.trod enc Try.prog W 0 sp true fuel 59 cs = some x) : ∃ a b : Nat, cs = [.int .u8 (a : Int), .int .u8 (b : Int)] := by
  obtain ⟨xs, k, _, _, hlen, hl, hf⟩ := DataW.trod_struct Try.underlying59 h
  rw [co59] at hlen
  have hl : xs.length = 2 := hl
  match cs, hlen with
  | [c0, c1], _ =>
    have f0 := hf 0 _ rfl
    have f1 := hf 1 _ rfl
    simp only [List.getElem_toArray, List.getElem_cons_zero, co5, List.drop_zero, List.take_succ_cons, List.take_zero] at f0
    simp only [List.getElem_toArray, List.getElem_cons_succ, List.getElem_cons_zero, co5, List.drop_zero, List.drop_succ_cons, List.take_succ_cons, List.take_zero] at f1
    obtain ⟨n0, rfl, b0⟩ := u8_of f0 (by simp [hl])
    obtain ⟨n1, rfl, b1⟩ := u8_of f1 (by simp [hl])
    exact ⟨n0.toNat, n1.toNat, by rw [Int.toNat_of_nonneg b0.1, Int.toNat_of_nonneg b1.1]⟩

/-- Instructions that came in. -/
theorem ins_reads {ad : Option Addr} {len cap : Nat} {d : DataW H} {ps : List MemPlace} (h : DataW.Trod enc Try.prog W 0 (fun _ => true) true 33 (.slice ad len cap) d ps) :
    ∃ l : List In, l.length = len ∧ len ≤ maxLen ∧ InAt W W.heap.size ad l ∧ (∀ x ∈ l, XOk x) ∧ ((len = 0) ∨ ∃ el s, d = .slice el s ∧ el.length = len) := by
  obtain ⟨fuel, hf⟩ := h
  rcases open_slice Try.underlying33 hf with ⟨hcs, hx⟩ | ⟨a, len', cap', m, n, D, Pl, hcs, _, hl, hm, hmm, hx, hel⟩
  · have e : Value.slice ad len cap = .slice none 0 0 := by simpa [Value.cells] using hcs
    simp only [Value.slice.injEq] at e
    obtain ⟨rfl, rfl, rfl⟩ := e
    exact ⟨[], rfl, by unfold maxLen; omega, fun j x hx => (by simp at hx), fun x hx => (by cases hx), .inl rfl⟩
  · have e : Value.slice ad len cap = .slice (some a) len' cap' := by simpa [Value.cells] using hcs
    simp only [Value.slice.injEq] at e
    obtain ⟨rfl, rfl, rfl⟩ := e
    simp only [if_true] at hmm
    subst hmm
    have key : ∀ i, i < len → ∃ y : In, XOk y ∧ ∃ b off, a = ⟨b, off, none⟩ ∧ b < W.heap.size ∧ ∀ j v, y.cells[j]? = some v → W.cell? ⟨b, off + i * 10 + j, none⟩ = some v := by
      intro i hi
      obtain ⟨cs0, g1, _⟩ := hel 0 (by omega)
      rw [co38] at g1
      obtain ⟨b, off, rfl, hb⟩ := first_cell g1 (by omega)
      obtain ⟨cs', h1, h2⟩ := hel i (by omega)
      rw [co38] at h1
      obtain ⟨y, rfl, hy⟩ := in_of h2
      obtain ⟨_, hc⟩ := elem_cells h1
      exact ⟨y, hy, b, off, rfl, hb, fun j v hv => hc j v (by simpa using hv)⟩
    haveI : Inhabited In := ⟨In.zero⟩
    obtain ⟨f, hf2⟩ := choose_lt key
    refine ⟨(List.range len).map f, by simp, by omega, fun j x hj => ?_, fun x hx2 => ?_, .inr ⟨_, _, (Prod.mk.inj hx).1, by simp⟩⟩
    · have hjl : j < len := by
        have := (List.getElem?_eq_some_iff.1 hj).1
        simpa using this
      rw [List.getElem?_map, List.getElem?_range hjl, Option.map_some, Option.some.injEq] at hj
      subst hj
      obtain ⟨_, b, off, e, hb, hc⟩ := hf2 j hjl
      exact ⟨b, off, by rw [e], hb, hc⟩
    · obtain ⟨i, hi, rfl⟩ := List.mem_map.1 hx2
      exact (hf2 i (List.mem_range.1 hi)).1
theorem stores_of {v : Value} {x : DataW H × List MemPlace} (h : DataW.trod enc Try.prog W 0 (fun _ => true) true fuel 25 [v] = some x) :
    ∃ ad m cap bl, v = .slice ad m cap ∧ bl.length = m ∧ (ad = none → cap = 0) ∧ m ≤ maxLen ∧ StAt W W.heap.size ad bl ∧ ((m = 0) ∨ ∃ el s, x.1 = .slice el s ∧ el.length = m) := by
  rcases open_slice Try.underlying25 h with ⟨hcs, hx⟩ | ⟨a, len, cap, m, n, D, Pl, hcs, _, hl, hm, hmm, hx, hel⟩
  · simp only [List.cons.injEq, and_true] at hcs
    subst hcs
    exact ⟨none, 0, 0, [], rfl, rfl, fun _ => rfl, by unfold maxLen; omega, fun j p hp => (by simp at hp), .inl rfl⟩
  · simp only [List.cons.injEq, and_true] at hcs
    subst hcs
    simp only [if_true] at hmm
    have key : ∀ i, i < len → ∃ p : Nat × Nat, ∃ b off, a = ⟨b, off, none⟩ ∧ b < W.heap.size ∧ W.cell? ⟨b, off + i * 2, none⟩ = some (.int .u8 (p.1 : Int)) ∧ W.cell? ⟨b, off + i * 2 + 1, none⟩ = some (.int .u8 (p.2 : Int)) := by
      intro i hi
      obtain ⟨cs0, g1, _⟩ := hel 0 (by omega)
      rw [co59] at g1
      obtain ⟨b, off, rfl, hb⟩ := first_cell g1 (by omega)
      obtain ⟨cs', h1, h2⟩ := hel i (by omega)
      rw [co59] at h1
      obtain ⟨y, z, rfl⟩ := st_of_trod h2
      obtain ⟨_, hc⟩ := elem_cells h1
      exact ⟨(y, z), b, off, rfl, hb, by have := hc 0 _ rfl; simpa using this, hc 1 _ rfl⟩
    obtain ⟨f, hf2⟩ := choose_lt key
    refine ⟨some a, len, cap, (List.range len).map f, rfl, by simp, fun h => (by cases h), by omega, fun j p hj => ?_, .inr ⟨_, _, by rw [hx], by simp⟩⟩
    have hjl : j < len := by
      have := (List.getElem?_eq_some_iff.1 hj).1
      simpa using this
    rw [List.getElem?_map, List.getElem?_range hjl, Option.map_some, Option.some.injEq] at hj
    subst hj
    obtain ⟨b, off, e, hb, hc1, hc2⟩ := hf2 j hjl
    exact ⟨b, off, by rw [e], hb, hc1, hc2⟩
end
theorem rules_of_ok {W : World} {base : Nat} {v : Value} (h : Value.okWide Try.prog W .any base 35 v) : ∃ (k1 k2 k3 most : Int) (ev : Bool), v = .agg (rls k1 k2 k3 most ev) := by
  obtain ⟨cs, rfl, hs, hc⟩ := agg_of_ok (ts := [5, 5, 5, 3, 4]) rfl Try.underlying35 (by kernel_rfl) (by kernel_rfl) h
  simp only [List.length_cons, List.length_nil] at hs
  obtain ⟨k1, e1, _⟩ := cell_u8 Try.underlying5 (hc 0 (by omega) 5 rfl)
  obtain ⟨k2, e2, _⟩ := cell_u8 Try.underlying5 (hc 1 (by omega) 5 rfl)
  obtain ⟨k3, e3, _⟩ := cell_u8 Try.underlying5 (hc 2 (by omega) 5 rfl)
  obtain ⟨m, e4, _⟩ := cell_i64 Try.underlying3 (hc 3 (by omega) 3 rfl)
  obtain ⟨ev, e5⟩ := cell_bool Try.underlying4 (hc 4 (by omega) 4 rfl)
  refine ⟨k1, k2, k3, m, ev, ?_⟩
  congr 1
  refine Array.ext (hs.trans rfl) fun i h1 h2 => ?_
  have : i = 0 ∨ i = 1 ∨ i = 2 ∨ i = 3 ∨ i = 4 := by omega
  rcases this with rfl | rfl | rfl | rfl | rfl
  · exact e1
  · exact e2
  · exact e3
  · exact e4
  · exact e5
theorem cellsT27 : Try.prog.cellTypes Try.prog.depth 27 = some [5, 5, 5, 5, 5, 5, 5, 5, 5, 25, 4, 4] := by kernel_rfl
/-- A core that came in. -/
theorem core_of_ok {H : Type} {enc : TypeId × Value → H} {W : World} {base : Nat} {v : Value} {d : DataW H} {ps : List MemPlace} (h : Value.okWide Try.prog W .any base 27 v) (ht : DataW.Trod enc Try.prog W 0 (fun _ => true) true 27 v d ps) :
    ∃ (c : Cr) (ab : Option Addr) (m cab : Nat) (bl : List (Nat × Nat)), v = .agg c.cells ∧ 0 ≤ c.pc ∧ c.pc ≤ 255 ∧ RgOk c ∧ c.buf = .slice ab m cab ∧ (ab = none → cab = 0) ∧ bl.length = m ∧ StAt W W.heap.size ab bl ∧
      ((m = 0) ∨ ∃ d0 d1 el s d3 d4, d = .agg [d0, d1, .slice el s, d3, d4] ∧ el.length = m) := by
  obtain ⟨cs, rfl, hs, hc⟩ := agg_of_ok (ts := [5, 5, 5, 5, 5, 5, 5, 5, 5, 25, 4, 4]) rfl Try.underlying27 (by kernel_rfl) cellsT27 h
  simp only [List.length_cons, List.length_nil] at hs
  obtain ⟨pc, e0, b0⟩ := cell_u8 Try.underlying5 (hc 0 (by omega) 5 rfl)
  have hreg : ∀ i (hi : i < 8), ∃ x : Int, cs[1 + i]'(by omega) = .int .u8 x ∧ 0 ≤ x ∧ x ≤ 255 := by
    intro i hi
    refine cell_u8 Try.underlying5 (hc (1 + i) (by omega) 5 ?_)
    have : i = 0 ∨ i = 1 ∨ i = 2 ∨ i = 3 ∨ i = 4 ∨ i = 5 ∨ i = 6 ∨ i = 7 := by omega
    rcases this with rfl | rfl | rfl | rfl | rfl | rfl | rfl | rfl <;> rfl
  obtain ⟨wt, e10⟩ := cell_bool Try.underlying4 (hc 10 (by omega) 4 rfl)
  obtain ⟨dr, e11⟩ := cell_bool Try.underlying4 (hc 11 (by omega) 4 rfl)
  obtain ⟨fuel, hf⟩ := ht
  have hf : DataW.trod enc Try.prog W 0 (fun _ => true) true fuel 27 cs.toList = some (d, ps) := hf
  obtain ⟨xs, k, _, hd, hlen, hl, hfl⟩ := DataW.trod_struct Try.underlying27 hf
  have hl : xs.length = 5 := hl
  have f2 : DataW.trod enc Try.prog W 0 (fun _ => true) true k 25 ((cs.toList.drop 9).take (Try.prog.cellsOf 25)) = xs[2]? := hfl 2 _ rfl
  have hdrop : (cs.toList.drop 9).take (Try.prog.cellsOf 25) = [cs[9]'(by omega)] := by
    rw [co25, List.drop_eq_getElem_cons (by rw [Array.length_toList]; omega), List.take_succ_cons, List.take_zero]
    simp
  rw [hdrop, List.getElem?_eq_getElem (by omega)] at f2
  obtain ⟨ab, m, cab, bl, e9, g1, g2, _, g3, g4⟩ := stores_of f2
  refine ⟨⟨pc, fun i => if hi : i < 8 then (hreg i hi).choose else 0, .slice ab m cab, wt, dr⟩, ab, m, cab, bl, ?_, b0.1, b0.2, ⟨fun i => ?_, fun i => ?_⟩, rfl, g2, g1, g3, ?_⟩
  · congr 1
    refine Array.ext (hs.trans rfl) fun i h1 h2 => ?_
    have : i = 0 ∨ i = 1 + 0 ∨ i = 1 + 1 ∨ i = 1 + 2 ∨ i = 1 + 3 ∨ i = 1 + 4 ∨ i = 1 + 5 ∨ i = 1 + 6 ∨ i = 1 + 7 ∨ i = 9 ∨ i = 10 ∨ i = 11 := by omega
    rcases this with rfl | rfl | rfl | rfl | rfl | rfl | rfl | rfl | rfl | rfl | rfl | rfl
    · exact e0
    · exact (hreg 0 (by omega)).choose_spec.1
    · exact (hreg 1 (by omega)).choose_spec.1
    · exact (hreg 2 (by omega)).choose_spec.1
    · exact (hreg 3 (by omega)).choose_spec.1
    · exact (hreg 4 (by omega)).choose_spec.1
    · exact (hreg 5 (by omega)).choose_spec.1
    · exact (hreg 6 (by omega)).choose_spec.1
    · exact (hreg 7 (by omega)).choose_spec.1
    · exact e9
    · exact e10
    · exact e11
  · by_cases hi : i < 8
    · simp only [dif_pos hi]; exact (hreg i hi).choose_spec.2.1
    · simp only [dif_neg hi]; omega
  · by_cases hi : i < 8
    · simp only [dif_pos hi]; exact (hreg i hi).choose_spec.2.2
    · simp only [dif_neg hi]; omega
  · rcases g4 with g4 | ⟨el, s, g5, g6⟩
    · exact .inl g4
    · simp only [Prod.mk.injEq] at hd
      have hd := hd.1
      have key : ∀ (xs : List (DataW H × List MemPlace)) (hl : xs.length = 5), (xs[2]'(by omega)).1 = .slice el s → ∃ d0 d1 d3 d4, xs.map (·.1) = [d0, d1, .slice el s, d3, d4] := by
        intro xs hl hg
        match xs, hl, hg with
        | [x0, x1, x2, x3, x4], _, hg =>
          have hg : x2.1 = .slice el s := hg
          exact ⟨x0.1, x1.1, x3.1, x4.1, by simp [hg]⟩
      obtain ⟨d0, d1, d3, d4, he⟩ := key xs hl g5
      exact .inr ⟨d0, d1, el, s, d3, d4, by rw [hd, he], g6⟩
theorem by38 : Try.prog.bytesOf 38 = 10 := by kernel_rfl
theorem by59 : Try.prog.bytesOf 59 = 2 := by kernel_rfl
theorem reach_le : reachBytes ≤ 140737488355328 := by decide
theorem ins_sized {H : Type} {ts : List TypeId} {ds : List (DataW H)} (h : (DataW.weightsEach Try.prog ts ds).all (· ≤ reachBytes) = true) {j len : Nat} {d : DataW H} (ht : ts[j]? = some 33) (hd : ds[j]? = some d) (hl : len = 0 ∨ ∃ el s, d = .slice el s ∧ el.length = len) : len ≤ 140737488355328 := by
  rcases hl with rfl | ⟨el, s, rfl, rfl⟩
  · exact Nat.zero_le _
  · have := sized_slice h ht hd Try.underlying33
    rw [by38] at this
    have := reach_le
    omega
theorem core_sized {H : Type} {ts : List TypeId} {ds : List (DataW H)} (h : (DataW.weightsEach Try.prog ts ds).all (· ≤ reachBytes) = true) {j m : Nat} {d : DataW H} (ht : ts[j]? = some 27) (hd : ds[j]? = some d)
    (hl : m = 0 ∨ ∃ d0 d1 el s d3 d4, d = .agg [d0, d1, .slice el s, d3, d4] ∧ el.length = m) : m ≤ 140737488355328 := by
  rcases hl with rfl | ⟨d0, d1, el, s, d3, d4, rfl, rfl⟩
  · exact Nat.zero_le _
  · have h1 := List.all_eq_true.1 h _ (DataW.weights_mem_each ht hd ((el.length + s.length) * Try.prog.bytesOf 59) (by
      simp only [DataW.weights, Try.underlying27]
      exact DataW.weights_mem_each (j := 2) (t := 25) (d := .slice el s) rfl rfl _ (by simp [DataW.weights, Try.underlying25])))
    simp only [decide_eq_true_eq] at h1
    rw [by59] at h1
    have := reach_le
    omega
theorem w_CoreStuck {H : Type} {enc : TypeId × Value → H} {W : World} {base : Nat} {ai : Option Addr} {ni ci : Nat} {v1 v2 : Value} {d0 d1 d2 : DataW H} {p0 p2 : List MemPlace} {gs : List (DataW H)} {ts : List TypeId}
    (h0 : DataW.Trod enc Try.prog W 0 (fun _ => true) true 33 (.slice ai ni ci) d0 p0) (k1 : Value.okWide Try.prog W .any base 35 v1) (k2 : Value.okWide Try.prog W .any base 27 v2) (h2 : DataW.Trod enc Try.prog W 0 (fun _ => true) true 27 v2 d2 p2)
    (hZ : (DataW.weightsEach Try.prog (33 :: 35 :: 27 :: ts) (d0 :: d1 :: d2 :: gs)).all (· ≤ reachBytes) = true) :
    Calls Try.prog 4 #[.slice ai ni ci, v1, v2] W fun e W' => e = .returned (.bool true) ∧ Below W.heap.size W W' := by
  obtain ⟨l, hl, _, hi, hx, hsz⟩ := ins_reads h0
  obtain ⟨r1, r2, r3, most, ev, rfl⟩ := rules_of_ok k1
  obtain ⟨c, ab, m, cab, bl, rfl, a1, a2, a3, a4, a5, a6, a7, a8⟩ := core_of_ok k2 h2
  exact stuck_walk ai ni ci l r1 r2 r3 most ev c ab m cab bl W ⟨hl, ins_sized hZ (j := 0) rfl rfl hsz, hi, hx, a1, a2, a3, a4, a5, a6, core_sized hZ (j := 2) rfl rfl a8, a7⟩
end Go.Proofs.Ytckcdpmfmfpmmaa
