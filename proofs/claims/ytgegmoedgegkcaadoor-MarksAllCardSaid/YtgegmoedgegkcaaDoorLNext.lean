/-
  seisinlaw01.MarksNext returns true for every set and every int, if the library table is laid.
-/
import Derived.Test.YtgegmoedgegkcaaDoorLUnion
namespace Go.Proofs.YtgegmoedgegkcaaDoor
open Go.RowKit

theorem next_at (s : BitVec 64) {k : Nat} (h : k < (Mk.elems s).length) : mnext s ((Mk.elems s)[k] : Nat) = (Mk.elems s)[k + 1]? := by
  have hs := Mk.elems_sorted s
  rw [List.pairwise_iff_getElem] at hs
  unfold mnext
  by_cases h1 : k + 1 < (Mk.elems s).length
  · rw [List.getElem?_eq_getElem h1]
    rw [List.find?_eq_some_iff_getElem]
    refine ⟨by simpa using hs k (k + 1) h h1 (by omega), k + 1, h1, rfl, fun j hj => ?_⟩
    have : (Mk.elems s)[j] ≤ (Mk.elems s)[k] := by
      rcases Nat.lt_or_ge j k with h2 | h2
      · exact Nat.le_of_lt (hs j k (by omega) h h2)
      · have : j = k := by omega
        subst this; omega
    simp; omega
  · rw [List.getElem?_eq_none (by omega), List.find?_eq_none]
    intro x hx
    obtain ⟨j, hj, rfl⟩ := List.getElem_of_mem hx
    have : (Mk.elems s)[j] ≤ (Mk.elems s)[k] := by
      rcases Nat.lt_or_ge j k with h2 | h2
      · exact Nat.le_of_lt (hs j k hj h h2)
      · have : j = k := by omega
        subst this; omega
    simp; omega
theorem next_found (s : BitVec 64) (i : Int) {k : Nat} (h : k < (Mk.elems s).length) (hk : i < ((Mk.elems s)[k] : Nat)) (hall : ∀ j, j < k → ∀ h : j < (Mk.elems s).length, (((Mk.elems s)[j] : Nat) : Int) ≤ i) : mnext s i = some (Mk.elems s)[k] := by
  unfold mnext
  rw [List.find?_eq_some_iff_getElem]
  exact ⟨by simpa using hk, k, h, rfl, fun j hj => by have := hall j hj (by omega); simp; omega⟩
theorem next_nothing (s : BitVec 64) (i : Int) (hall : ∀ j, ∀ h : j < (Mk.elems s).length, (((Mk.elems s)[j] : Nat) : Int) ≤ i) : mnext s i = none := by
  unfold mnext
  rw [List.find?_eq_none]
  intro x hx
  obtain ⟨j, hj, rfl⟩ := List.getElem_of_mem hx
  have := hall j hj
  simp; omega

/-- What is known of Next's answer. -/
abbrev NextIs (s : BitVec 64) (i : Int) (x : Nat) (b : Bool) : Prop := ∀ w, Tab w → Calls Tryd.prog 37 #[.int .u64 (iv s), .int .i64 i] w fun e w' => e = .returned (.tuple #[.int .i64 x, .bool b]) ∧ Below w.heap.size w w'
theorem next_is (s : BitVec 64) (i : Int) : NextIs s i ((mnext s i).getD 0) (mnext s i).isSome := fun w hT => c_Next s i w hT

set_option maxRecDepth 8000 in
set_option maxHeartbeats 1000000 in
/-- **MarksNext.** -/
theorem w_MarksNext (s : BitVec 64) (i : Int) (w : World) (hT : Tab w) : Calls Tryd.prog 5 #[.int .u64 (iv s), .int .i64 i] w fun e w' => e = .returned (.bool true) ∧ Below w.heap.size w w' := by
  have hn64 := Mk.elems_length_le s
  obtain ⟨l, hl⟩ : ∃ l, l = Mk.elems s := ⟨_, rfl⟩
  have HLl := Lib.hid hl
  have HList := Lib.hid (fun w hT => c_List s w hT)
  have HFirst := Lib.hid (fun w hT => c_First s w hT)
  have hnext : ∀ k (h : k < l.length), NextIs s (l[k] : Nat) (l[k + 1]?.getD 0) l[k + 1]?.isSome := by
    subst hl; intro k h; have := next_is s ((Mk.elems s)[k] : Nat); rw [next_at s h] at this; exact this
  have hfound : ∀ k (h : k < l.length), i < (l[k] : Nat) → (∀ j, j < k → ∀ h : j < l.length, ((l[j] : Nat) : Int) ≤ i) → mnext s i = some l[k] := by
    subst hl; intro k h h1 h2; exact next_found s i h h1 h2
  have hnot : (∀ j, ∀ h : j < l.length, ((l[j] : Nat) : Int) ≤ i) → mnext s i = none := by
    subst hl; exact next_nothing s i
  have hhead : (Mk.elems s).head? = l[0]? := by subst hl; exact List.head?_eq_getElem? ..
  rw [← hl] at HList hn64
  rw [hhead] at HFirst
  obtain ⟨x0, hx0⟩ : ∃ x0, x0 = l[0]?.getD 0 := ⟨_, rfl⟩
  obtain ⟨b0, hb0⟩ : ∃ b0, b0 = l[0]?.isSome := ⟨_, rfl⟩
  rw [← hx0, ← hb0] at HFirst
  obtain ⟨n, hn⟩ : ∃ n, n = l.length := ⟨_, rfl⟩
  rw [← hn] at HList hn64
  have Hn := Lib.hid hn
  have HX0 := Lib.hid hx0
  have HB0 := Lib.hid hb0
  have HNext := Lib.hid hnext
  have HFrom := Lib.hid (next_is s i)
  have HFound := Lib.hid hfound
  have HNot := Lib.hid hnot
  have hB := Below.refl w.heap.size w
  clear hl hnext hfound hnot hhead hx0 hb0 hn
  go_enter Tryd.func5, Tryd.ntmps5
  go_wp2_with (first | (go_at_call 30; (with_reducible refine (HList.out _ (by assumption)).mono ?_); rintro e w1 ⟨v, rfl, hown, hb⟩; obtain ⟨ad, cap, rfl, hsl⟩ := SlAt.of_owns hown; have HSL := Lib.hid hsl; clear hsl hown; have hB1 := Below.refl w1.heap.size w1; have hT := Tab.below' hb (by assumption); have hB := Below.chain (by assumption : Below w.heap.size w _) hb; clear hb) | (go_at_call 35; (with_reducible refine (HFirst.out _ (by assumption)).mono ?_); rintro e wn ⟨rfl, hb⟩; have hB1 := Below.chain (by assumption : Below w1.heap.size w1 _) hb; have hT := Tab.below' hb (by assumption); have hB := Below.chain (by assumption : Below w.heap.size w _) hb; clear hb))
  go_loopw [6, 7, 23] (fun x b c wr => ∃ k : Nat, k ≤ n ∧ c = .int .i64 k ∧ x = .int .i64 (l[k]?.getD 0 : Nat) ∧ b = .bool l[k]?.isSome ∧ Tab wr ∧ Below w.heap.size w wr ∧ Below w1.heap.size w1 wr) (fun _ _ c _ => n - (intOf c).toNat)
  case atStart => exact ⟨0, by omega, rfl, by rw [HX0.out], by rw [HB0.out], by assumption, by assumption, by assumption⟩
  case round =>
    obtain ⟨k, hk, rfl, rfl, rfl, hT, hB, hB1⟩ := hrel
    by_cases hlt : k < n
    · have hkl : k < l.length := by have := Hn.out; omega
      have hsome : l[k]? = some l[k] := List.getElem?_eq_getElem hkl
      rw [hsome]
      have HN := Lib.hid (HNext.out k hkl)
      obtain ⟨b, off, rfl, hblt, hc0⟩ := HSL.out.nat (j := k) (by exact hkl)
      have hc := (hB1.cell (p := ⟨b, off + k, none⟩) hblt).trans hc0
      clear hc0 hsome
      simp only [Option.getD_some, Option.isSome_some]
      obtain ⟨x, hx⟩ : ∃ x, x = l[k] := ⟨_, rfl⟩
      obtain ⟨y, hy⟩ : ∃ y, y = l[k + 1]?.getD 0 := ⟨_, rfl⟩
      obtain ⟨b1, hb1⟩ : ∃ b, b = l[k + 1]?.isSome := ⟨_, rfl⟩
      rw [← hx] at hc ⊢
      rw [← hx, ← hy, ← hb1] at HN
      have HY := Lib.hid hy
      have HB1 := Lib.hid hb1
      clear hx hy hb1
      go_wp2_with (go_at_call 37; (with_reducible refine (HN.out _ (by assumption)).mono ?_); rintro e wn ⟨rfl, hb⟩; have hB1 := Below.chain (by assumption : Below w1.heap.size w1 _) hb; have hT := Tab.below' hb (by assumption); have hB := Below.chain (by assumption : Below w.heap.size w _) hb; clear hb)
      go_roundw
      case rel => exact ⟨k + 1, by omega, by go_num, by rw [← HY.out], by rw [← HB1.out], by assumption, by assumption, by assumption⟩
      case measure => simp [intOf]; omega
    · have hkn : k = n := by omega
      have hnone : l[k]? = none := List.getElem?_eq_none (by have := Hn.out; omega)
      rw [hnone]
      simp only [Option.getD_none, Option.isSome_none]
      obtain ⟨z, hz⟩ : ∃ z, z = (mnext s i).getD 0 := ⟨_, rfl⟩
      obtain ⟨c, hc⟩ : ∃ c, c = (mnext s i).isSome := ⟨_, rfl⟩
      rw [← hz, ← hc] at HFrom
      have HZ := Lib.hid hz
      have HC := Lib.hid hc
      clear hz hc hnone hkn
      go_wp2_with (go_at_call 37; (with_reducible refine (HFrom.out _ (by assumption)).mono ?_); rintro e wn ⟨rfl, hb⟩; have hB1 := Below.chain (by assumption : Below w1.heap.size w1 _) hb; have hT := Tab.below' hb (by assumption); have hB := Below.chain (by assumption : Below w.heap.size w _) hb; clear hb)
      go_loopw [50] (fun c wr => ∃ k : Nat, k ≤ n ∧ c = .int .i64 k ∧ (∀ j, j < k → ∀ h : j < l.length, ((l[j] : Nat) : Int) ≤ i) ∧ wr = wn) (fun c _ => n - (intOf c).toNat)
      case atStart => exact ⟨0, by omega, rfl, fun j hj => by omega, rfl⟩
      case round =>
        obtain ⟨m, hm, rfl, hall, rfl⟩ := hrel
        have Hall := Lib.hid hall
        clear hall
        by_cases hmn : m < n
        · have hml : m < l.length := by have := Hn.out; omega
          obtain ⟨b, off, rfl, hblt, hc0⟩ := HSL.out.nat (j := m) (by exact hml)
          have hB1 : Below w1.heap.size w1 wr := by assumption
          have hc := (hB1.cell (p := ⟨b, off + m, none⟩) hblt).trans hc0
          clear hc0
          by_cases hix : i < (l[m] : Nat)
          · have hf := HFound.out m hml hix Hall.out
            obtain ⟨x, hx⟩ : ∃ x, x = l[m] := ⟨_, rfl⟩
            have hz : z = x := by rw [HZ.out, hf, hx]; rfl
            have hct : c = true := by rw [HC.out, hf]; rfl
            rw [← hx] at hc hix
            subst hz hct
            clear hf hx
            go_wp2_with (go_at_call 24; (with_reducible refine (c_awake1 _ (by assumption)).mono ?_); rintro e wm ⟨rfl, hb⟩; have hT := Tab.below' hb (by assumption); have hB := Below.chain (by assumption : Below w.heap.size w _) hb; clear hb)
            go_ret
            exact ⟨rfl, by assumption⟩
          · have Hnext := Lib.hid (show ∀ j, j < m + 1 → ∀ h : j < l.length, ((l[j] : Nat) : Int) ≤ i from fun j hj h => if e : j < m then Hall.out j e h else by
              obtain rfl : j = m := by omega
              omega)
            obtain ⟨x, hx⟩ : ∃ x, x = l[m] := ⟨_, rfl⟩
            rw [← hx] at hc hix
            clear hx
            go_wp2
            go_roundw
            case rel => exact ⟨m + 1, by omega, by go_num, Hnext.out, trivial⟩
            case measure => simp [intOf]; omega
        · have hnx := HNot.out (fun j h => Hall.out j (by have := Hn.out; omega) h)
          have hz : z = 0 := by rw [HZ.out, hnx]; rfl
          have hct : c = false := by rw [HC.out, hnx]; rfl
          subst hz hct
          clear hnx
          go_wp2_with (go_at_call 24; (with_reducible refine (c_awake1 _ (by assumption)).mono ?_); rintro e wm ⟨rfl, hb⟩; have hT := Tab.below' hb (by assumption); have hB := Below.chain (by assumption : Below w.heap.size w _) hb; clear hb)
          go_ret
          exact ⟨rfl, by assumption⟩
end Go.Proofs.YtgegmoedgegkcaaDoor
