/-
  marks.Len returns the number of elements, if the library table is laid.
-/
import Derived.Test.YtgegmoedgegkcaaDoorIter
import Derived.Laws.EntriesVeiled
namespace Go.Proofs.YtgegmoedgegkcaaDoor
open Go.RowKit Go.Shelf
attribute [local go_sem] Oper.semAt_some

theorem c_counter (w : World) : Calls Tryd.prog 100 #[] w fun e w' =>
    e = .returned (.tuple #[.func (.func 130) #[] #[.pointer (some ⟨w.heap.size, 0, none⟩)], .func (.func 131) #[] #[.pointer (some ⟨w.heap.size, 0, none⟩)]]) ∧ w.alloc (.cells #[.int .i64 0] 3) = w' := by
  go_enter Tryd.func100, Tryd.ntmps100
  go_wp2
  go_ret2
  exact ⟨rfl, rfl⟩

theorem c_told (b : Nat) (n : Int) (w : World) (h : w.cell? ⟨b, 0, none⟩ = some (.int .i64 n)) : Calls Tryd.prog 130 #[.pointer (some ⟨b, 0, none⟩)] w fun e w' => e = .returned (.int .i64 n) ∧ w = w' := by
  go_enter Tryd.func130, Tryd.ntmps130
  go_wp2
  go_ret
  exact ⟨rfl, rfl⟩

theorem c_count (b : Nat) (n : Nat) (w : World) (hn : n < 64) (h : w.cell? ⟨b, 0, none⟩ = some (.int .i64 n)) (hf : w.frozen? ⟨b, 0, none⟩ = false) :
    Calls Tryd.prog 131 #[.pointer (some ⟨b, 0, none⟩)] w fun e w' => e = .returned (.tuple #[]) ∧ w.setCell ⟨b, 0, none⟩ (.int .i64 ((n + 1 : Nat) : Int)) = w' := by
  go_enter Tryd.func131, Tryd.ntmps131
  go_wp2
  go_end0
  exact ⟨rfl, rfl⟩

set_option maxRecDepth 4000 in
/-- marks.Len -/
theorem c_Len (s : BitVec 64) (w : World) (hT : Tab w) : Calls Tryd.prog 32 #[.int .u64 (iv s)] w fun e w' =>
    e = .returned (.int .i64 (Mk.elems s).length) ∧ Below w.heap.size w w' := by
  have HT := Lib.hid hT
  clear hT
  refine (callsIn_wide (n := 0)).1 ?_
  refine callsIn_of_wp_marks Tryd.func32 rfl trivial ?_ rfl
  simp only [Tryd.ntmps32, List.size_toArray, List.length_cons, List.length_nil, Nat.reduceAdd, Nat.reduceSub, Array.replicate_succ, Array.replicate_zero, List.push_toArray, List.append_toArray, List.nil_append, List.cons_append]
  gi_wp2_with (first | (gi_at_call 98; refine (callsIn_wide.2 (c_numbers _ _)).mono ?_; rintro e w' ⟨rfl, rfl⟩) | (gi_at_call 100; refine (callsIn_wide.2 (c_counter _)).mono ?_; rintro e w' ⟨rfl, rfl⟩))
  have hcN : (((w.alloc (.cells #[.int .i64 0] 3)).alloc (.cells #[.func (.func 131) #[] #[.pointer (some ⟨w.heap.size, 0, none⟩)]] 1)).alloc (.cells #[.int .u64 (iv s)] 23)).cell? ⟨w.heap.size, 0, none⟩ = some (.int .i64 0) := by simp [go_sem]
  have hfN : (((w.alloc (.cells #[.int .i64 0] 3)).alloc (.cells #[.func (.func 131) #[] #[.pointer (some ⟨w.heap.size, 0, none⟩)]] 1)).alloc (.cells #[.int .u64 (iv s)] 23)).frozen? ⟨w.heap.size, 0, none⟩ = false := by simp [go_sem]
  have hcC : (((w.alloc (.cells #[.int .i64 0] 3)).alloc (.cells #[.func (.func 131) #[] #[.pointer (some ⟨w.heap.size, 0, none⟩)]] 1)).alloc (.cells #[.int .u64 (iv s)] 23)).cell? ⟨w.heap.size + 1, 0, none⟩ = some (.func (.func 131) #[] #[.pointer (some ⟨w.heap.size, 0, none⟩)]) := by simp [go_sem]
  have hcS : (((w.alloc (.cells #[.int .i64 0] 3)).alloc (.cells #[.func (.func 131) #[] #[.pointer (some ⟨w.heap.size, 0, none⟩)]] 1)).alloc (.cells #[.int .u64 (iv s)] 23)).cell? ⟨w.heap.size + 1 + 1, 0, none⟩ = some (.int .u64 (iv s)) := by simp [go_sem]
  have hfS : (((w.alloc (.cells #[.int .i64 0] 3)).alloc (.cells #[.func (.func 131) #[] #[.pointer (some ⟨w.heap.size, 0, none⟩)]] 1)).alloc (.cells #[.int .u64 (iv s)] 23)).frozen? ⟨w.heap.size + 1 + 1, 0, none⟩ = false := by simp [go_sem]
  have hBW : Below w.heap.size w (((w.alloc (.cells #[.int .i64 0] 3)).alloc (.cells #[.func (.func 131) #[] #[.pointer (some ⟨w.heap.size, 0, none⟩)]] 1)).alloc (.cells #[.int .u64 (iv s)] 23)) := (((Below.refl _ w).alloc (Nat.le_refl _) _).alloc (by simp) _).alloc (by simp; omega) _
  have hsz : (((w.alloc (.cells #[.int .i64 0] 3)).alloc (.cells #[.func (.func 131) #[] #[.pointer (some ⟨w.heap.size, 0, none⟩)]] 1)).alloc (.cells #[.int .u64 (iv s)] 23)).heap.size = w.heap.size + 3 := by simp [go_sem]
  have hTW := HT.out.below hBW
  generalize hW0 : (((w.alloc (.cells #[.int .i64 0] 3)).alloc (.cells #[.func (.func 131) #[] #[.pointer (some ⟨w.heap.size, 0, none⟩)]] 1)).alloc (.cells #[.int .u64 (iv s)] 23)) = W0 at *
  clear hW0
  generalize hB : w.heap.size = B at *
  have HB := Lib.hid hB
  have Hsz := Lib.hid hsz
  have HT0 := Lib.hid hTW
  have hB0 : 0 < B + 1 + 1 := by omega
  have hlt0 : B + 1 + 1 < W0.heap.size := by omega
  have HBp := Lib.hid (show 0 < B by have := HT.out.1; omega)
  clear hB hsz hTW
  refine rf_numbers (s := s) (Bs := B + 1 + 1) rfl rfl HT0.out hB0 hlt0 hcS hfS
    (fun pre W => W.cell? ⟨B, 0, none⟩ = some (.int .i64 pre.length) ∧ W.frozen? ⟨B, 0, none⟩ = false ∧ W.cell? ⟨B + 1, 0, none⟩ = some (.func (.func 131) #[] #[.pointer (some ⟨B, 0, none⟩)]) ∧ Below B w W ∧ B + 3 ≤ W.heap.size)
    (fun _ _ _ => False) ?hI (fun _ _ _ _ _ _ h => h) ⟨hcN, hfN, hcC, hBW, by rw [Hsz.out]; omega⟩
    (fun x => { tmps := #[.int .u64 (iv s), undef, .int .i64 0, .func (.func 130) #[] #[.pointer (some ⟨B, 0, none⟩)], .pointer (some ⟨B + 1, 0, none⟩), .tuple #[.func (.func 130) #[] #[.pointer (some ⟨B, 0, none⟩)], .func (.func 131) #[] #[.pointer (some ⟨B, 0, none⟩)]], .tuple #[.func (.func 130) #[] #[.pointer (some ⟨B, 0, none⟩)], .func (.func 131) #[] #[.pointer (some ⟨B, 0, none⟩)]], .func (.func 130) #[] #[.pointer (some ⟨B, 0, none⟩)], .func (.func 131) #[] #[.pointer (some ⟨B, 0, none⟩)], .int .u64 (iv s), .func (.func 128) #[] #[.pointer (some ⟨B + 1 + 1, 0, none⟩)], .int .i64 x, undef, undef, undef, undef], defers := [] })
    ?assign ?body ?done (fun _ _ _ _ _ h => h.elim)
  case hI =>
    rintro pre A C hA hc ⟨h1, h2, h3, h4, h5⟩
    rw [Hsz.out] at hA hc
    exact ⟨(hc.cell (p := ⟨B, 0, none⟩) (by simp only; omega) (by simp only; omega)).trans h1, (hc.frozen (p := ⟨B, 0, none⟩) (by simp only; omega) (by simp only; omega)).trans h2,
      (hc.cell (p := ⟨B + 1, 0, none⟩) (by simp only; omega) (by simp only; omega)).trans h3, h4.trans (hc.below (by omega) (by intro k hk; omega)), Nat.le_trans h5 hc.size⟩
  case assign =>
    intro l x W K hK
    gi_wp2
    simpa using hK
  case body =>
    rintro l pre x rest W he ⟨h1, h2, h3, h4, h5⟩ hsW
    rw [Hsz.out] at hsW
    have hlen : pre.length < 64 := by
      have := Mk.elems_length_le s
      rw [he] at this; simp at this; omega
    clear he
    have hcc := c_count B pre.length W hlen h1 h2
    have HC := Lib.hid hcc
    clear hcc
    gi_wp2_with (gi_at_call 131; refine (CallsIn.inRound l (callsIn_wide.2 HC.out)).mono ?_; rintro e w' ⟨rfl, rfl⟩)
    have hBp := HBp.out
    have hch : Chg (fun k => k = B) W (W.setCell ⟨B, 0, none⟩ (.int .i64 ((pre.length + 1 : Nat) : Int))) := (Chg.refl (fun k => k = B) W).then_setCell (p := ⟨B, 0, none⟩) (.inl rfl) _
    rw [rfPost, Hsz.out]
    refine ⟨hch.mono fun k _ hk => ⟨by omega, by omega, by omega⟩, ?_, by rw [World.frozen?_setCell]; exact h2, (hch.cell (p := ⟨B + 1, 0, none⟩) (by simp only; omega) (by simp only; omega)).trans h3, h4.trans (hch.below (by omega) (by intro k hk; omega)), Nat.le_trans h5 hch.size⟩
    rw [List.length_append]
    exact World.cell?_setCell_same' _ _ _ (by rw [h1]; rfl)
  case done =>
    rintro W ⟨h1, h2, h3, h4, h5⟩ hK
    gi_wp2_with (gi_at_call 130; refine (callsIn_wide.2 (c_told _ _ _ h1)).mono ?_; rintro e w' ⟨rfl, rfl⟩)
    refine ⟨by simp, .inl ⟨_, _, rfl, run_takeDeferred hK, ?_⟩⟩
    refine ⟨_, results_tmp rfl _ _ _, rfl, ?_⟩
    rw [HB.out]
    exact h4.trans (((Chg.refl (fun k => k = W0.heap.size) W).then_putObj (.inl rfl) _).below (by omega) (by rw [Hsz.out]; intro k hk; omega))
end Go.Proofs.YtgegmoedgegkcaaDoor
