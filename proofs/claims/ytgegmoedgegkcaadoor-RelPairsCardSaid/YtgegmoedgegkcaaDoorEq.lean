/-
  seisinlaw01.Ints and Sets tell whether two lists are the same.
-/
import Derived.Test.YtgegmoedgegkcaaDoorOf
namespace Go.Proofs.YtgegmoedgegkcaaDoor
open Go.RowKit

/-- The cells of a list of sets. -/
def vs (l : List (BitVec 64)) : List Value := l.map fun s => Value.int .u64 (iv s)
theorem vs_len (l : List (BitVec 64)) : (vs l).length = l.length := by simp [vs]
theorem SlAt.set {w : World} {N : Nat} {ad : Option Addr} {xs : List (BitVec 64)} (h : SlAt w N ad (vs xs)) {j : Nat} (hj : j < xs.length) :
    ∃ b off, ad = some ⟨b, off, none⟩ ∧ b < N ∧ w.cell? ⟨b, off + j, none⟩ = some (.int .u64 (iv xs[j])) :=
  h j _ (by simp [vs, hj])

set_option maxHeartbeats 400000 in
theorem c_Ints (ad bd : Option Addr) (n m ca cb : Nat) (xs ys : List Int) (w : World) (N : Nat) (hn : xs.length = n) (hm : ys.length = m) (hmax : n ≤ maxLen)
    (hx : SlAt w N ad (vi xs)) (hy : SlAt w N bd (vi ys)) :
    Calls Tryd.prog 29 #[.slice ad n ca, .slice bd m cb] w fun e w' => e = .returned (.bool (xs == ys)) ∧ ∃ k, w' = w.drewN k := by
  unfold maxLen at hmax
  have Hx := Lib.hid hx
  have Hy := Lib.hid hy
  have Hn := Lib.hid hn
  have Hm := Lib.hid hm
  clear hx hy hn hm
  by_cases hnm : n = m
  · subst hnm
    go_enter Tryd.func29, Tryd.ntmps29
    go_wp2
    go_loopw [13] (fun i wr => ∃ k : Nat, k ≤ n ∧ i = .int .i64 k ∧ (∀ j, j < k → xs[j]? = ys[j]?) ∧ ∃ d, wr = w.drewN d) (fun i _ => n - (intOf i).toNat)
    case atStart => exact ⟨0, by omega, rfl, fun j hj => by omega, 0, rfl⟩
    case round =>
      obtain ⟨k, hk, rfl, hall, d, rfl⟩ := hrel
      have Hall := Lib.hid hall
      clear hall
      by_cases hlt : k < n
      · obtain ⟨b, off, rfl, _, hcx⟩ := Hx.out.int (j := k) (by have := Hn.out; omega)
        obtain ⟨b2, off2, rfl, _, hcy⟩ := Hy.out.int (j := k) (by have := Hm.out; omega)
        obtain ⟨x, hxk⟩ : ∃ x, x = xs[k]'(by have := Hn.out; omega) := ⟨_, rfl⟩
        obtain ⟨y, hyk⟩ : ∃ y, y = ys[k]'(by have := Hm.out; omega) := ⟨_, rfl⟩
        rw [← hxk] at hcx
        rw [← hyk] at hcy
        have Hxk := Lib.hid hxk
        have Hyk := Lib.hid hyk
        clear hxk hyk
        by_cases hxy : x = y
        · have hne : (x != y) = false := by simpa using hxy
          have Hxy := Lib.hid hxy
          clear hxy
          go_wp2
          go_quiet (fail)
          go_wp2
          go_roundw
          case rel =>
            refine ⟨k + 1, by omega, by go_num, fun j hj => ?_, _, rfl⟩
            by_cases hjk : j < k
            · exact Hall.out j hjk
            · obtain rfl : j = k := by omega
              rw [List.getElem?_eq_getElem (by have := Hn.out; omega), List.getElem?_eq_getElem (by have := Hm.out; omega), ← Hxk.out, ← Hyk.out, Hxy.out]
          case measure => simp [intOf]; omega
        · have hne : (x != y) = true := by simpa using hxy
          have Hxy := Lib.hid hxy
          clear hxy
          go_wp2
          go_quiet (fail)
          go_wp2
          go_ret
          refine ⟨ret_bool (Bool.eq_false_iff.2 fun h => Hxy.out ?_).symm, _, World.drewN_drewN _ _ _⟩
          have he := eq_of_beq h
          rw [Hxk.out, Hyk.out]
          simp only [he]
      · have hkn : k = n := by omega
        have he : xs = ys := List.ext_getElem? fun j => by
          by_cases hj : j < k
          · exact Hall.out j hj
          · rw [List.getElem?_eq_none (by have := Hn.out; omega), List.getElem?_eq_none (by have := Hm.out; omega)]
        have He := Lib.hid he
        clear he hkn
        go_wp2
        go_ret
        exact ⟨ret_bool (by rw [He.out]; simp), _, rfl⟩
  · have hne : ((n : Int) != (m : Int)) = true := by simp; omega
    have Hnm := Lib.hid hnm
    clear hnm
    go_enter Tryd.func29, Tryd.ntmps29
    go_wp2
    go_ret
    refine ⟨ret_bool (Bool.eq_false_iff.2 fun h => Hnm.out ?_).symm, 0, rfl⟩
    have := congrArg List.length (eq_of_beq h)
    rw [← Hn.out, ← Hm.out, this]

set_option maxHeartbeats 400000 in
theorem c_Sets (ad bd : Option Addr) (n m ca cb : Nat) (xs ys : List (BitVec 64)) (w : World) (N : Nat) (hn : xs.length = n) (hm : ys.length = m) (hmax : n ≤ maxLen)
    (hx : SlAt w N ad (vs xs)) (hy : SlAt w N bd (vs ys)) :
    Calls Tryd.prog 42 #[.slice ad n ca, .slice bd m cb] w fun e w' => e = .returned (.bool (xs == ys)) ∧ ∃ k, w' = w.drewN k := by
  unfold maxLen at hmax
  have Hx := Lib.hid hx
  have Hy := Lib.hid hy
  have Hn := Lib.hid hn
  have Hm := Lib.hid hm
  clear hx hy hn hm
  by_cases hnm : n = m
  · subst hnm
    go_enter Tryd.func42, Tryd.ntmps42
    go_wp2
    go_loopw [13] (fun i wr => ∃ k : Nat, k ≤ n ∧ i = .int .i64 k ∧ (∀ j, j < k → xs[j]? = ys[j]?) ∧ ∃ d, wr = w.drewN d) (fun i _ => n - (intOf i).toNat)
    case atStart => exact ⟨0, by omega, rfl, fun j hj => by omega, 0, rfl⟩
    case round =>
      obtain ⟨k, hk, rfl, hall, d, rfl⟩ := hrel
      have Hall := Lib.hid hall
      clear hall
      by_cases hlt : k < n
      · obtain ⟨b, off, rfl, _, hcx⟩ := Hx.out.set (j := k) (by have := Hn.out; omega)
        obtain ⟨b2, off2, rfl, _, hcy⟩ := Hy.out.set (j := k) (by have := Hm.out; omega)
        obtain ⟨x, hxk⟩ : ∃ x, x = xs[k]'(by have := Hn.out; omega) := ⟨_, rfl⟩
        obtain ⟨y, hyk⟩ : ∃ y, y = ys[k]'(by have := Hm.out; omega) := ⟨_, rfl⟩
        rw [← hxk] at hcx
        rw [← hyk] at hcy
        have Hxk := Lib.hid hxk
        have Hyk := Lib.hid hyk
        clear hxk hyk
        by_cases hxy : x = y
        · have hne : (x != y) = false := by simpa using hxy
          have Hxy := Lib.hid hxy
          clear hxy
          go_wp2
          go_quiet (fail)
          go_wp2
          go_roundw
          case rel =>
            refine ⟨k + 1, by omega, by go_num, fun j hj => ?_, _, rfl⟩
            by_cases hjk : j < k
            · exact Hall.out j hjk
            · obtain rfl : j = k := by omega
              rw [List.getElem?_eq_getElem (by have := Hn.out; omega), List.getElem?_eq_getElem (by have := Hm.out; omega), ← Hxk.out, ← Hyk.out, Hxy.out]
          case measure => simp [intOf]; omega
        · have hne : (x != y) = true := by simpa using hxy
          have Hxy := Lib.hid hxy
          clear hxy
          go_wp2
          go_quiet (fail)
          go_wp2
          go_ret
          refine ⟨ret_bool (Bool.eq_false_iff.2 fun h => Hxy.out ?_).symm, _, World.drewN_drewN _ _ _⟩
          have he := eq_of_beq h
          rw [Hxk.out, Hyk.out]
          simp only [he]
      · have hkn : k = n := by omega
        have he : xs = ys := List.ext_getElem? fun j => by
          by_cases hj : j < k
          · exact Hall.out j hj
          · rw [List.getElem?_eq_none (by have := Hn.out; omega), List.getElem?_eq_none (by have := Hm.out; omega)]
        have He := Lib.hid he
        clear he hkn
        go_wp2
        go_ret
        exact ⟨ret_bool (by rw [He.out]; simp), _, rfl⟩
  · have hne : ((n : Int) != (m : Int)) = true := by simp; omega
    have Hnm := Lib.hid hnm
    clear hnm
    go_enter Tryd.func42, Tryd.ntmps42
    go_wp2
    go_ret
    refine ⟨ret_bool (Bool.eq_false_iff.2 fun h => Hnm.out ?_).symm, 0, rfl⟩
    have := congrArg List.length (eq_of_beq h)
    rw [← Hn.out, ← Hm.out, this]
end Go.Proofs.YtgegmoedgegkcaaDoor
