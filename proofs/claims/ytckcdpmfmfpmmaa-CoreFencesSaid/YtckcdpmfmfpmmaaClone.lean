/-
  slices.Clone of a buffer; core.of.
-/
import Derived.Test.YtckcdpmfmfpmmaaArgs
import Derived.WalkSpells
import Derived.Maps.AppendAt
namespace Go.Proofs.Ytckcdpmfmfpmmaa
open Go.RowKit

def vst (l : List (Nat × Nat)) : List Value := l.flatMap fun p => [Value.int .u8 (p.1 : Int), .int .u8 (p.2 : Int)]
theorem vst_len (l : List (Nat × Nat)) : (vst l).length = l.length * 2 := by
  induction l with
  | nil => rfl
  | cons p l ih => simp only [vst, List.flatMap_cons, List.length_append, List.length_cons, List.length_nil] at *; omega
theorem vst_snoc (l : List (Nat × Nat)) (a b : Nat) : vst l ++ [.int .u8 (a : Int), .int .u8 (b : Int)] = vst (l ++ [(a, b)]) := by
  simp [vst]
theorem vst_get {l : List (Nat × Nat)} {j : Nat} {p : Nat × Nat} (h : l[j]? = some p) : (vst l)[j * 2]? = some (.int .u8 (p.1 : Int)) ∧ (vst l)[j * 2 + 1]? = some (.int .u8 (p.2 : Int)) := by
  induction l generalizing j with
  | nil => simp at h
  | cons q l ih =>
    have hv : vst (q :: l) = .int .u8 (q.1 : Int) :: .int .u8 (q.2 : Int) :: vst l := rfl
    rw [hv]
    cases j with
    | zero => simp at h; subst h; simp
    | succ j =>
      have := ih (j := j) (by simpa using h)
      rw [show (j + 1) * 2 = j * 2 + 1 + 1 by omega]
      simpa using this
theorem vst_one (l : List (Nat × Nat)) : ∀ u ∈ vst l, u.oneCell' = true := by
  intro u hu
  obtain ⟨p, _, hp⟩ := List.mem_flatMap.1 hu
  simp only [List.mem_cons, List.not_mem_nil, or_false] at hp
  rcases hp with rfl | rfl <;> rfl
/-- What a row of one's own reads as. -/
theorem StAt.of_owns {w : World} {base e n : Nat} {v : Value} {l : List (Nat × Nat)} (h : w.ownsRow base e 2 v n (vst l)) : ∃ ad cap, v = .slice ad n cap ∧ StAt w w.heap.size ad l := by
  obtain ⟨hl, ⟨rfl, rfl⟩ | ⟨g, cap, cur, rfl, hb, hg, hn, hcm, hcs, ht⟩⟩ := h
  · refine ⟨none, 0, rfl, fun j p hp => ?_⟩
    have h1 := (vst_get hp).1
    rw [show vst l = [] from List.eq_nil_of_length_eq_zero (by simpa using hl)] at h1
    simp at h1
  · refine ⟨_, cap, rfl, fun j p hp => ?_⟩
    obtain ⟨h1, h2⟩ := vst_get hp
    rw [← ht, List.getElem?_take] at h1 h2
    refine ⟨g, 0, rfl, (Array.getElem?_eq_some_iff.1 hg).1, ?_, ?_⟩
    · split at h1
      · rw [Nat.zero_add, cell_of_row w g _ cur e (0, 0) hg]; simpa using h1
      · cases h1
    · split at h2
      · rw [Nat.zero_add, cell_of_row w g _ cur e (0, 0) hg]; simpa using h2
      · cases h2
theorem StAt.cells {w : World} {N c off : Nat} {l : List (Nat × Nat)} (h : StAt w N (some ⟨c, off, none⟩) l) : ∀ j u, (vst l)[j]? = some u → w.cell? ((⟨c, off, none⟩ : Addr).add j) = some u := by
  intro j u hu
  rw [Addr.add_lit]
  have hj : j < l.length * 2 := by rw [← vst_len]; exact (List.getElem?_eq_some_iff.1 hu).1
  have hq : j / 2 < l.length := by omega
  obtain ⟨b, o, e, _, h1, h2⟩ := h (j / 2) _ (List.getElem?_eq_getElem hq)
  simp only [Option.some.injEq, Addr.mk.injEq] at e
  obtain ⟨rfl, rfl, _⟩ := e
  obtain ⟨g1, g2⟩ := vst_get (List.getElem?_eq_getElem hq)
  rcases Nat.mod_two_eq_zero_or_one j with hm | hm
  · have : j = j / 2 * 2 := by omega
    rw [this] at hu ⊢
    rw [h1, ← hu, g1]
  · have : j = j / 2 * 2 + 1 := by omega
    rw [this] at hu ⊢

    rw [← Nat.add_assoc, h2, ← hu, g2]
theorem info59 : (Try.prog.info? 59).map (fun i => (i.zero, i.size, i.bytes)) = some (some (.agg #[.int .u8 0, .int .u8 0]), 2, 2) := by kernel_rfl
set_option maxRecDepth 8000 in
theorem c_Clone (ad : Option Addr) (n cap : Nat) (l : List (Nat × Nat)) (hn : l.length = n) (hm : n ≤ 1000) (hc : ad = none → cap = 0) (w : World) (hl : StAt w w.heap.size ad l) :
    Calls Try.prog 38 #[.slice ad n cap] w fun e w' => ∃ v, e = .returned v ∧ w'.ownsRow w.heap.size 59 2 v n (vst l) ∧ Below w.heap.size w w' := by
  cases ad with
  | none =>
    have hnl : l = [] := by
      cases l with
      | nil => rfl
      | cons p l => obtain ⟨c, off, e, _⟩ := hl 0 p rfl; cases e
    subst hnl
    obtain rfl : n = 0 := hn.symm
    obtain rfl := hc rfl
    clear hl hn
    have heq := fun w => Lib.run_eql_slice_nil (P := Try.prog) w 25 59 none 0 0 0 0 Try.underlying25
    go_enter Try.func38, Try.ntmps38
    go_wp2
    go_ret
    exact ⟨_, rfl, World.ownsRow_nil _ _ _ _, Below.refl _ _⟩
  | some a =>
    obtain ⟨i0, hi, hz0, hz1, hz2⟩ := info_parts info59
    obtain ⟨c, off, part⟩ := a
    have hpart : l ≠ [] → part = none := fun hne => by
      cases l with
      | nil => exact absurd rfl hne
      | cons p l =>
        obtain ⟨c', off', e, _⟩ := hl 0 p rfl
        simp only [Option.some.injEq, Addr.mk.injEq] at e
        exact e.2.2
    have hcells : ∀ j u, (vst l)[j]? = some u → (w.alloc (.cells #[] 59)).cell? ((⟨c, off, part⟩ : Addr).add j) = some u := by
      intro j u hu
      have hne : l ≠ [] := by rintro rfl; simp [vst] at hu
      obtain rfl := hpart hne
      have h1 := hl.cells j u hu
      rw [Addr.add_lit] at h1 ⊢
      have hlt : c < w.heap.size := block_lt_of_cell h1
      exact (((Below.refl w.heap.size w).alloc (Nat.le_refl _) (.cells #[] 59)).cell (p := ⟨c, off + j, none⟩) hlt).trans h1
    have hown : (w.alloc (.cells #[] 59)).ownsRow w.heap.size 59 2 (.slice (some ⟨w.heap.size, 0, none⟩) 0 0) 0 [] := World.ownsRow_lit w #[] 0 (Nat.le_refl _) (by unfold maxLen; omega) rfl
    have heq := fun w => Lib.run_eql_slice_nil (P := Try.prog) w 25 59 (some ⟨c, off, part⟩) n cap 0 0 Try.underlying25
    have HC := Lib.hid hcells
    have HO := Lib.hid hown
    have HL := Lib.hid (show (vst l).length = n * 2 by rw [vst_len, hn])
    clear hl hc hn hcells hown hpart
    go_enter Try.func38, Try.ntmps38
    go_wp2_with (at_builtin; refine wpList_append_own _ rfl _ _ 25 rfl w.heap.size 59 i0 _ 2 2 Try.underlying25 hi hz0 hz1 hz2 rfl (by decide) _ _ _ rfl HO.out ⟨c, off, part⟩ n cap (vst l) rfl HL.out HC.out (vst_one l) (by unfold maxLen; omega) (by omega) (by simp) ?_; intro v' w1 hown1 hgrow hz)
    go_ret
    simp only [Nat.zero_add, List.nil_append] at hown1
    exact ⟨v', rfl, hown1, ((Below.refl w.heap.size w).alloc (Nat.le_refl _) _).grown hgrow (by simp) (fun k hk => by have h1 : some w.heap.size = some k := hk; simp only [Option.some.injEq] at h1; omega)⟩
end Go.Proofs.Ytckcdpmfmfpmmaa
