/-
  seisinref01.List returns the elements of the set in a new slice, for every set.
-/
import Derived.Test.YtgegmoedgegkcaaDoorList
import Derived.Test.YtgegmoedgegkcaaDoorEq
namespace Go.Proofs.YtgegmoedgegkcaaDoor
open Go.RowKit

def elemsTo (s : BitVec 64) (k : Nat) : List Nat := (List.range k).filter (fun i => has s i)
theorem elemsTo_succ (s : BitVec 64) (k : Nat) : elemsTo s (k + 1) = elemsTo s k ++ if has s k then [k] else [] := by
  unfold elemsTo
  rw [List.range_succ, List.filter_append]
  by_cases h : has s k = true <;> simp [h]
theorem elemsTo_all (s : BitVec 64) : elemsTo s 64 = Mk.elems s := rfl
theorem elemsTo_le (s : BitVec 64) (k : Nat) : (elemsTo s k).length ≤ k := by
  have := List.length_filter_le (fun i => has s i) (List.range k)
  simpa [elemsTo] using this

set_option maxRecDepth 4000 in
set_option maxHeartbeats 400000 in
/-- seisinref01.List -/
theorem c_refList (s : BitVec 64) (w : World) : Calls Tryd.prog 31 #[.int .u64 (iv s)] w fun e w' =>
    ∃ v, e = .returned v ∧ w'.ownsRow w.heap.size 3 1 v (Mk.elems s).length (vn (Mk.elems s)) ∧ Below w.heap.size w w' := by
  obtain ⟨i0, hi, hz0, hz1, hz2⟩ := info_parts Tryd.info3
  obtain ⟨B, hB⟩ : ∃ B, B = w.heap.size := ⟨_, rfl⟩
  rw [← hB]
  have HB := Lib.hid hB
  clear hB
  go_enter Tryd.func31, Tryd.ntmps31
  go_wp2
  go_loopw [3, 4] (fun v i wr => ∃ k : Nat, k ≤ 64 ∧ i = .int .i64 k ∧ wr.ownsRow B 3 1 v (elemsTo s k).length (vn (elemsTo s k)) ∧ Below B w wr) (fun _ i _ => 64 - (intOf i).toNat)
  case atStart => exact ⟨0, by omega, rfl, World.ownsRow_nil _ _ _ _, Below.refl _ _⟩
  case round =>
    obtain ⟨k, hk, rfl, hown, hbel⟩ := hrel
    have hsz := hbel.size
    by_cases hlt : k < 64
    · have hs := elemsTo_succ s k
      have hle := elemsTo_le s k
      have hBs : B ≤ wr.heap.size := by rw [HB.out]; exact hsz
      cases hb : has s k with
      | false =>
        rw [hb] at hs
        have Hs := Lib.hid hs
        clear hs
        go_wp2_with (go_at_call 99; refine (c_refHas _ _ _).mono ?_; rintro e w' ⟨rfl, rfl⟩)
        go_roundw
        case rel => exact ⟨k + 1, by omega, by go_num, by rw [Hs.out]; simpa using hown, hbel⟩
        case measure => simp [intOf]; omega
      | true =>
        rw [hb] at hs
        have Hs := Lib.hid hs
        clear hs
        go_wp2_with (first | (go_at_call 99; refine (c_refHas _ _ _).mono ?_; rintro e w' ⟨rfl, rfl⟩) | (at_builtin; refine wpList_append_own _ rfl _ _ 24 rfl B 3 i0 (.int .i64 0) 1 8 Tryd.underlying24 hi hz0 hz1 hz2 rfl (by decide) _ _ _ rfl (hown.alloc _) ⟨wr.heap.size, 0, none⟩ 1 1 [.int .i64 (k : Int)] rfl rfl (cell_one_new _ _ _) (by simp [Value.oneCell']) (by unfold maxLen; omega) (by omega) (by simp; omega) ?_; intro v' w1 hown' hgrow _))
        have hch := app_chg hown hgrow
        have hb2 := hbel.trans (hch.below (B := B) hBs (by intro k hk; omega))
        go_roundw
        case rel => exact ⟨k + 1, by omega, by go_num, by rw [Hs.out]; simpa [vn_snoc] using hown', hb2⟩
        case measure => simp [intOf]; omega
    · obtain rfl : k = 64 := by omega
      rw [elemsTo_all] at hown
      go_wp2
      go_ret
      exact ⟨_, rfl, hown, hbel⟩
end Go.Proofs.YtgegmoedgegkcaaDoor
