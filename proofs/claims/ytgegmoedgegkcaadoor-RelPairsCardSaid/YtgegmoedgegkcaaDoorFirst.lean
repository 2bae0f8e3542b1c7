/-
  marks.First returns the least element, if the library table is laid.
-/
import Derived.Test.YtgegmoedgegkcaaDoorIter
import Derived.Laws.EntriesVeiled
namespace Go.Proofs.YtgegmoedgegkcaaDoor
open Go.RowKit Go.Shelf
attribute [local go_sem] Oper.semAt_some

set_option maxRecDepth 4000 in
/-- marks.First -/
theorem c_First (s : BitVec 64) (w : World) (hT : Tab w) : Calls Tryd.prog 35 #[.int .u64 (iv s)] w fun e w' =>
    e = .returned (.tuple #[.int .i64 ((Mk.elems s).head?.getD 0 : Nat), .bool (Mk.elems s).head?.isSome]) ∧ Below w.heap.size w w' := by
  have HT := Lib.hid hT
  clear hT
  refine (callsIn_wide (n := 0)).1 ?_
  refine callsIn_of_wp_marks Tryd.func35 rfl trivial ?_ rfl
  simp only [Tryd.ntmps35, List.size_toArray, List.length_cons, List.length_nil, Nat.reduceAdd, Nat.reduceSub, Array.replicate_succ, Array.replicate_zero, List.push_toArray, List.append_toArray, List.nil_append, List.cons_append]
  gi_wp2_with (first | (gi_at_call 98; refine (callsIn_wide.2 (c_numbers _ _)).mono ?_; rintro e w' ⟨rfl, rfl⟩))
  have hcN : (((w.alloc (.cells #[.int .i64 0] 3)).alloc (.cells #[.bool false] 4)).alloc (.cells #[.int .u64 (iv s)] 23)).cell? ⟨w.heap.size, 0, none⟩ = some (.int .i64 0) := by simp [go_sem]
  have hfN : (((w.alloc (.cells #[.int .i64 0] 3)).alloc (.cells #[.bool false] 4)).alloc (.cells #[.int .u64 (iv s)] 23)).frozen? ⟨w.heap.size, 0, none⟩ = false := by simp [go_sem]
  have hcC : (((w.alloc (.cells #[.int .i64 0] 3)).alloc (.cells #[.bool false] 4)).alloc (.cells #[.int .u64 (iv s)] 23)).cell? ⟨w.heap.size + 1, 0, none⟩ = some (.bool false) := by simp [go_sem]
  have hfC : (((w.alloc (.cells #[.int .i64 0] 3)).alloc (.cells #[.bool false] 4)).alloc (.cells #[.int .u64 (iv s)] 23)).frozen? ⟨w.heap.size + 1, 0, none⟩ = false := by simp [go_sem]
  have hcS : (((w.alloc (.cells #[.int .i64 0] 3)).alloc (.cells #[.bool false] 4)).alloc (.cells #[.int .u64 (iv s)] 23)).cell? ⟨w.heap.size + 1 + 1, 0, none⟩ = some (.int .u64 (iv s)) := by simp [go_sem]
  have hfS : (((w.alloc (.cells #[.int .i64 0] 3)).alloc (.cells #[.bool false] 4)).alloc (.cells #[.int .u64 (iv s)] 23)).frozen? ⟨w.heap.size + 1 + 1, 0, none⟩ = false := by simp [go_sem]
  have hBW : Below w.heap.size w (((w.alloc (.cells #[.int .i64 0] 3)).alloc (.cells #[.bool false] 4)).alloc (.cells #[.int .u64 (iv s)] 23)) := (((Below.refl _ w).alloc (Nat.le_refl _) _).alloc (by simp) _).alloc (by simp; omega) _
  have hsz : (((w.alloc (.cells #[.int .i64 0] 3)).alloc (.cells #[.bool false] 4)).alloc (.cells #[.int .u64 (iv s)] 23)).heap.size = w.heap.size + 3 := by simp
  have hTW := HT.out.below hBW
  generalize hW0 : (((w.alloc (.cells #[.int .i64 0] 3)).alloc (.cells #[.bool false] 4)).alloc (.cells #[.int .u64 (iv s)] 23)) = W0 at *
  clear hW0
  generalize hB : w.heap.size = B at *
  have HB := Lib.hid hB
  have Hsz := Lib.hid hsz
  have HT0 := Lib.hid hTW
  have hB0 : 0 < B + 1 + 1 := by omega
  have hlt0 : B + 1 + 1 < W0.heap.size := by omega
  have HBp := Lib.hid (show 0 < B by have := HT.out.1; omega)
  clear hB hsz hTW
  refine rf_numbers (s := s) (Bs := B + 1 + 1) rfl rfl HT0.out hB0 hlt0 hcS hfS
    (fun pre W => pre = [] ∧ ∃ n b, W.cell? ⟨B, 0, none⟩ = some (.int .i64 n) ∧ W.frozen? ⟨B, 0, none⟩ = false ∧ W.cell? ⟨B + 1, 0, none⟩ = some (.bool b) ∧ W.frozen? ⟨B + 1, 0, none⟩ = false ∧ Below B w W ∧ B + 3 ≤ W.heap.size)
    (fun c pre W => c = .ret ∧ ∃ x, pre = [x] ∧ W.cell? ⟨B, 0, none⟩ = some (.int .i64 (x : Nat)) ∧ W.cell? ⟨B + 1, 0, none⟩ = some (.bool true) ∧ Below B w W ∧ B + 3 ≤ W.heap.size) ?hI ?hIx ⟨rfl, _, _, hcN, hfN, hcC, hfC, hBW, by rw [Hsz.out]; omega⟩
    (fun x => { tmps := #[.int .u64 (iv s), undef, .pointer (some ⟨B, 0, none⟩), .pointer (some ⟨B + 1, 0, none⟩), .int .i64 x, .int .u64 (iv s), .func (.func 128) #[] #[.pointer (some ⟨B + 1 + 1, 0, none⟩)], .int .i64 x, undef], defers := [] })
    ?assign ?body ?done ?stop
  case hI =>
    rintro pre A C hA hc ⟨h0, n, b, h1, h2, h3, h6, h4, h5⟩
    rw [Hsz.out] at hA hc
    exact ⟨h0, n, b, (hc.cell (p := ⟨B, 0, none⟩) (by simp only; omega) (by simp only; omega)).trans h1, (hc.frozen (p := ⟨B, 0, none⟩) (by simp only; omega) (by simp only; omega)).trans h2,
      (hc.cell (p := ⟨B + 1, 0, none⟩) (by simp only; omega) (by simp only; omega)).trans h3, (hc.frozen (p := ⟨B + 1, 0, none⟩) (by simp only; omega) (by simp only; omega)).trans h6, h4.trans (hc.below (by omega) (by intro k hk; omega)), Nat.le_trans h5 hc.size⟩
  case hIx =>
    rintro c pre A C hA hc ⟨h0, x, h6, h1, h3, h4, h5⟩
    rw [Hsz.out] at hA hc
    exact ⟨h0, x, h6, (hc.cell (p := ⟨B, 0, none⟩) (by simp only; omega) (by simp only; omega)).trans h1,
      (hc.cell (p := ⟨B + 1, 0, none⟩) (by simp only; omega) (by simp only; omega)).trans h3, h4.trans (hc.below (by omega) (by intro k hk; omega)), Nat.le_trans h5 hc.size⟩
  case assign =>
    intro l x W K hK
    gi_wp2
    simpa using hK
  case body =>
    rintro l pre x rest W he ⟨h0, n, b, h1, h2, h3, h6, h4, h5⟩ hsW
    subst h0
    rw [Hsz.out] at hsW
    clear he
    gi_wp2
    have hBp := HBp.out
    have hch : Chg (fun k => k = B ∨ k = B + 1) W ((W.setCell ⟨B, 0, none⟩ (.int .i64 (x : Int))).setCell ⟨B + 1, 0, none⟩ (.bool true)) :=
      ((Chg.refl (fun k => k = B ∨ k = B + 1) W).then_setCell (p := ⟨B, 0, none⟩) (.inl (.inl rfl)) _).then_setCell (p := ⟨B + 1, 0, none⟩) (.inl (.inr rfl)) _
    rw [rfPost, Hsz.out]
    refine ⟨hch.mono fun k _ hk => ⟨by omega, by omega, by omega⟩, rfl, x, rfl, ?_, ?_, h4.trans (hch.below (by omega) (by intro k hk; omega)), Nat.le_trans h5 hch.size⟩
    · rw [cell_set_ne (by omega)]; exact cell_set_eq h1
    · exact cell_set_eq ((cell_set_ne (by omega)).trans h3)
  case done =>
    rintro W ⟨h0, n, b, h1, h2, h3, h6, h4, h5⟩ hK
    gi_wp2
    have hch : Chg (fun k => k = B ∨ k = B + 1) W ((W.setCell ⟨B, 0, none⟩ (.int .i64 0)).setCell ⟨B + 1, 0, none⟩ (.bool false)) :=
      ((Chg.refl (fun k => k = B ∨ k = B + 1) W).then_setCell (p := ⟨B, 0, none⟩) (.inl (.inl rfl)) _).then_setCell (p := ⟨B + 1, 0, none⟩) (.inl (.inr rfl)) _
    have hlK := (Array.getElem?_eq_some_iff.1 hK).1
    have hK2 := (hch.block _ hlK (by rw [Hsz.out]; omega)).trans hK
    have hc1 : ((W.setCell ⟨B, 0, none⟩ (.int .i64 0)).setCell ⟨B + 1, 0, none⟩ (.bool false)).cell? ⟨B, 0, none⟩ = some (.int .i64 0) := by rw [cell_set_ne (by omega)]; exact cell_set_eq h1
    have hc2 : ((W.setCell ⟨B, 0, none⟩ (.int .i64 0)).setCell ⟨B + 1, 0, none⟩ (.bool false)).cell? ⟨B + 1, 0, none⟩ = some (.bool false) := cell_set_eq ((cell_set_ne (by omega)).trans h3)
    have hbel := h4.trans (hch.below (by omega) (by intro k hk; omega))
    have hsz2 := hch.size
    generalize ((W.setCell ⟨B, 0, none⟩ (.int .i64 0)).setCell ⟨B + 1, 0, none⟩ (.bool false)) = W2 at *
    refine ⟨by simp, .inl ⟨_, _, rfl, run_takeDeferred hK2, ?_⟩⟩
    have hp : Chg (fun k => k = W0.heap.size) W2 (W2.putObj W0.heap.size (.deferred .none)) := (Chg.refl (fun k => k = W0.heap.size) W2).then_putObj (.inl rfl) _
    rw [Hsz.out] at hp ⊢
    have hc3 := (hp.cell (p := ⟨B, 0, none⟩) (by simp only; omega) (by simp only; omega)).trans hc1
    have hc4 := (hp.cell (p := ⟨B + 1, 0, none⟩) (by simp only; omega) (by simp only; omega)).trans hc2
    refine ⟨.tuple #[.int .i64 0, .bool false], by simp [results, Tryd.results35, go_sem, hc3, hc4], by rw [h0]; rfl, ?_⟩
    rw [HB.out]
    exact hbel.trans (hp.below (by omega) (by intro k hk; omega))
  case stop =>
    rintro c pre rest W he ⟨rfl, x, rfl, h1, h3, h4, h5⟩ hK
    gi_wp2
    refine ⟨by simp, .inl ⟨_, _, rfl, run_takeDeferred hK, ?_⟩⟩
    have hp : Chg (fun k => k = W0.heap.size) W (W.putObj W0.heap.size (.deferred .none)) := (Chg.refl (fun k => k = W0.heap.size) W).then_putObj (.inl rfl) _
    rw [Hsz.out] at hp ⊢
    have hc3 := (hp.cell (p := ⟨B, 0, none⟩) (by simp only; omega) (by simp only; omega)).trans h1
    have hc4 := (hp.cell (p := ⟨B + 1, 0, none⟩) (by simp only; omega) (by simp only; omega)).trans h3
    refine ⟨.tuple #[.int .i64 (x : Nat), .bool true], by simp [results, Tryd.results35, go_sem, hc3, hc4], by rw [he]; rfl, ?_⟩
    rw [HB.out]
    exact h4.trans (hp.below (by omega) (by intro k hk; omega))
end Go.Proofs.YtgegmoedgegkcaaDoor
