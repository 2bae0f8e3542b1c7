/-
  marks.List returns the elements of the set in a new slice, if the library table is laid.
-/
import Derived.Test.YtgegmoedgegkcaaDoorIter
import Derived.Maps.AppendAt
import Derived.KernelRfl
namespace Go.Proofs
theorem Tryd.info3 : (Tryd.prog.info? 3).map (fun i => (i.zero, i.size, i.bytes)) = some (some (.int .i64 0), 1, 8) := by kernel_rfl
namespace YtgegmoedgegkcaaDoor
open Go.RowKit Go.Shelf
attribute [local go_sem] Oper.semAt_some

/-- The cells of a list of naturals as ints. -/
def vn (l : List Nat) : List Value := l.map fun (x : Nat) => Value.int .i64 (x : Int)
theorem vn_len (l : List Nat) : (vn l).length = l.length := by simp [vn]
theorem vn_snoc (l : List Nat) (x : Nat) : vn (l ++ [x]) = vn l ++ [.int .i64 x] := by simp [vn]

set_option maxRecDepth 4000 in
/-- marks.List -/
theorem c_List (s : BitVec 64) (w : World) (hT : Tab w) : Calls Tryd.prog 30 #[.int .u64 (iv s)] w fun e w' =>
    ∃ v, e = .returned v ∧ w'.ownsRow w.heap.size 3 1 v (Mk.elems s).length (vn (Mk.elems s)) ∧ Below w.heap.size w w' := by
  obtain ⟨i0, hi, hz0, hz1, hz2⟩ := info_parts Tryd.info3
  have HT := Lib.hid hT
  clear hT
  refine (callsIn_wide (n := 0)).1 ?_
  refine callsIn_of_wp_marks Tryd.func30 rfl trivial ?_ rfl
  simp only [Tryd.ntmps30, List.size_toArray, List.length_cons, List.length_nil, Nat.reduceAdd, Nat.reduceSub, Array.replicate_succ, Array.replicate_zero, List.push_toArray, List.append_toArray, List.nil_append, List.cons_append]
  gi_wp2_with (gi_at_call 98; refine (callsIn_wide.2 (c_numbers _ _)).mono ?_; rintro e w' ⟨rfl, rfl⟩)
  have hTW : Tab ((w.alloc (.cells #[.slice none 0 0] 24)).alloc (.cells #[.int .u64 (iv s)] 23)) := HT.out.below (((Below.refl _ w).alloc (Nat.le_refl _) _).alloc (by simp) _)
  have hcO : ((w.alloc (.cells #[.slice none 0 0] 24)).alloc (.cells #[.int .u64 (iv s)] 23)).cell? ⟨w.heap.size, 0, none⟩ = some (.slice none 0 0) := by simp
  have hfO : ((w.alloc (.cells #[.slice none 0 0] 24)).alloc (.cells #[.int .u64 (iv s)] 23)).frozen? ⟨w.heap.size, 0, none⟩ = false := by simp
  have hcS : ((w.alloc (.cells #[.slice none 0 0] 24)).alloc (.cells #[.int .u64 (iv s)] 23)).cell? ⟨w.heap.size + 1, 0, none⟩ = some (.int .u64 (iv s)) := by simp
  have hfS : ((w.alloc (.cells #[.slice none 0 0] 24)).alloc (.cells #[.int .u64 (iv s)] 23)).frozen? ⟨w.heap.size + 1, 0, none⟩ = false := by simp
  have hBW : Below w.heap.size w ((w.alloc (.cells #[.slice none 0 0] 24)).alloc (.cells #[.int .u64 (iv s)] 23)) := ((Below.refl _ w).alloc (Nat.le_refl _) _).alloc (by simp) _
  have hsz : ((w.alloc (.cells #[.slice none 0 0] 24)).alloc (.cells #[.int .u64 (iv s)] 23)).heap.size = w.heap.size + 2 := by simp
  generalize hW0 : ((w.alloc (.cells #[.slice none 0 0] 24)).alloc (.cells #[.int .u64 (iv s)] 23)) = W0 at *
  generalize hB : w.heap.size = B at *
  clear hW0
  have HB := Lib.hid hB
  have Hsz := Lib.hid hsz
  have HT0 := Lib.hid hTW
  have hB0 : 0 < B + 1 := by omega
  have HBp := Lib.hid (show 0 < B by have := HT.out.1; omega)
  have hlt0 : B + 1 < W0.heap.size := by omega
  clear hB hsz hTW
  refine rf_numbers (s := s) (Bs := B + 1) rfl rfl HT0.out hB0 hlt0 hcS hfS
    (fun pre W => ∃ v, W.cell? ⟨B, 0, none⟩ = some v ∧ W.frozen? ⟨B, 0, none⟩ = false ∧ W.ownsRow (B + 4) 3 1 v pre.length (vn pre) ∧ Below B w W ∧ B + 2 ≤ W.heap.size)
    (fun _ _ _ => False) ?hI (fun _ _ _ _ _ _ h => h) ⟨_, hcO, hfO, World.ownsRow_nil _ _ _ _, hBW, by rw [Hsz.out]; omega⟩
    (fun x => { tmps := #[.int .u64 (iv s), undef, .slice none 0 0, .pointer (some ⟨B, 0, none⟩), .int .i64 x, .int .u64 (iv s), .func (.func 128) #[] #[.pointer (some ⟨B + 1, 0, none⟩)], .int .i64 x, undef, undef, undef, undef, undef], defers := [] })
    ?assign ?body ?done (fun _ _ _ _ _ h => h.elim)
  case hI =>
    rintro pre A C hA hc ⟨v, h1, h2, h3, h4, h5⟩
    rw [Hsz.out] at hA hc
    exact ⟨v, (hc.cell (p := ⟨B, 0, none⟩) (by simp only; omega) (by simp only; omega)).trans h1, (hc.frozen (p := ⟨B, 0, none⟩) (by simp only; omega) (by simp only; omega)).trans h2,
      hc.owns h3 (by intro k hk; omega), h4.trans (hc.below (by omega) (by intro k hk; omega)), Nat.le_trans h5 hc.size⟩
  case assign =>
    intro l x W K hK
    gi_wp2
    exact hK
  case body =>
    rintro l pre x rest W he ⟨v, h1, h2, h3, h4, h5⟩ hsW
    rw [Hsz.out] at hsW
    have hlen : pre.length < 64 := by
      have := Mk.elems_length_le s
      rw [he] at this; simp at this; omega
    have HE := Lib.hid he
    clear he
    gi_wp2_with (gi_at_builtin; refine wpListIn_append_own _ rfl _ _ 24 rfl (B + 4) 3 i0 (.int .i64 0) 1 8 Tryd.underlying24 hi hz0 hz1 hz2 rfl (by decide) _ _ _ rfl (h3.alloc _) ⟨W.heap.size, 0, none⟩ 1 1 [.int .i64 (x : Int)] rfl rfl (cell_one_new _ _ _) (by simp [Value.oneCell']) (by unfold maxLen; omega) (by omega) (by simp; omega) ?_; intro v' w1 hown' hgrow _; obtain ⟨g', cap', rfl⟩ := ownsRow_succ hown'; have hc1 := app_cell h3 hgrow (by omega) h1; have hf1 := app_frozen h3 hgrow (by omega) h1 h2)
    have hch : Chg (fun k => B + 4 ≤ k) W w1 := app_chg h3 hgrow
    have hch2 : Chg (fun k => k = B ∨ B + 4 ≤ k) W (w1.setCell ⟨B, 0, none⟩ (.slice (some ⟨g', 0, none⟩) (pre.length + 1) cap')) := (hch.mono fun _ _ h => .inr h).then_setCell (.inl (.inl rfl)) _
    rw [rfPost, Hsz.out]
    have hBp := HBp.out
    refine ⟨hch2.mono fun k _ hk => ⟨by omega, by omega, by omega⟩, _, World.cell?_setCell_same' _ _ _ (by rw [hc1]; rfl), by rw [World.frozen?_setCell]; exact hf1, ?_, h4.trans (hch2.below (by omega) (by intro k hk; omega)), by have := hch2.size; omega⟩
    rw [vn_snoc, List.length_append]
    exact ownsRow_setCell_below hown' (by simp only; omega) _
  case done =>
    rintro W ⟨v, h1, h2, h3, h4, h5⟩ hK
    gi_wp2
    refine ⟨by simp, .inl ⟨_, _, rfl, run_takeDeferred hK, ?_⟩⟩
    refine ⟨_, results_tmp rfl _ _ _, _, rfl, ?_, ?_⟩
    all_goals rw [HB.out]
    · exact ownsRow_base (((Chg.refl (fun k => k = W0.heap.size) W).then_putObj (.inl rfl) _).owns h3 (by rw [Hsz.out]; intro k hk; omega)) (by omega)
    · exact h4.trans (((Chg.refl (fun k => k = W0.heap.size) W).then_putObj (.inl rfl) _).below (by omega) (by rw [Hsz.out]; intro k hk; omega))
end YtgegmoedgegkcaaDoor
end Go.Proofs
