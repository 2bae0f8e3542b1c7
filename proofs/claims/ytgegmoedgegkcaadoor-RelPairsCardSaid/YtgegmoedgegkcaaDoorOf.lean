/-
  marks.Of and seisinref01.Of return the set of a list or the error, for every list of ints.
-/
import Derived.Test.YtgegmoedgegkcaaDoorWMarks
import Derived.Test.YtgegmoedgegkcaaDoorRange
import Derived.Deep.QuietTactic
import Derived.BigQuiet
namespace Go.Proofs.YtgegmoedgegkcaaDoor
open Go.RowKit

/-- The cells of a list of ints. -/
def vi (l : List Int) : List Value := l.map (Value.int .i64)
theorem vi_len (l : List Int) : (vi l).length = l.length := by simp [vi]

theorem SlAt.int {w : World} {N : Nat} {ad : Option Addr} {xs : List Int} (h : SlAt w N ad (vi xs)) {j : Nat} (hj : j < xs.length) :
    ∃ b off, ad = some ⟨b, off, none⟩ ∧ b < N ∧ w.cell? ⟨b, off + j, none⟩ = some (.int .i64 xs[j]) :=
  h j _ (by simp [vi, hj])

/-- An element of a list that marks.Of takes. -/
def okI (i : Int) : Bool := decide (0 ≤ i) && decide (i < 64)
def orTo (s : BitVec 64) (l : List Int) : BitVec 64 := l.foldl (fun s i => s ||| 1#64 <<< i.toNat) s
/-- The number of the error: ErrArg, or none. -/
def eno (b : Bool) : Int := if b then 0 else 2
/-- marks.Of: the set, or nothing. -/
def mof (l : List Int) : Option (BitVec 64) := if l.all okI then some (orTo 0#64 l) else none

theorem take_all_succ {l : List Int} {k : Nat} (hk : k < l.length) (h : (l.take k).all okI = true) (h2 : okI l[k] = true) : (l.take (k + 1)).all okI = true := by
  rw [List.take_succ_eq_append_getElem hk, List.all_append, h, List.all_cons, h2]; rfl
theorem orTo_succ (s : BitVec 64) {l : List Int} {k : Nat} (hk : k < l.length) : orTo s (l.take (k + 1)) = orTo s (l.take k) ||| 1#64 <<< l[k].toNat := by
  unfold orTo
  rw [List.take_succ_eq_append_getElem hk, List.foldl_append]; rfl
theorem not_all {l : List Int} {k : Nat} (hk : k < l.length) (h2 : okI l[k] = false) : mof l = none := by
  unfold mof
  rw [if_neg]
  intro h
  have := List.all_eq_true.1 h l[k] (List.getElem_mem hk)
  rw [h2] at this; cases this

set_option maxHeartbeats 400000 in
/-- marks.Of -/
theorem c_Of (ad : Option Addr) (n c : Nat) (xs : List Int) (w : World) (N : Nat) (hn : xs.length = n) (hmax : n ≤ maxLen) (hx : SlAt w N ad (vi xs)) :
    Calls Tryd.prog 25 #[.slice ad n c] w fun e w' => e = .returned (.tuple #[.int .u64 (iv ((mof xs).getD 0#64)), .int .i64 (eno (mof xs).isSome)]) ∧ w = w' := by
  unfold maxLen at hmax
  have Hx := Lib.hid hx
  have Hn := Lib.hid hn
  clear hx hn
  go_enter Tryd.func25, Tryd.ntmps25
  go_wp2
  go_loop [4, 9] (fun s i => ∃ k : Nat, k ≤ n ∧ i = .int .i64 k ∧ s = .int .u64 (iv (orTo 0#64 (xs.take k))) ∧ (xs.take k).all okI = true) (fun _ i => n - (intOf i).toNat)
  case atStart => exact ⟨0, by omega, rfl, rfl, rfl⟩
  case round =>
    obtain ⟨k, hk, rfl, rfl, hall⟩ := hrel
    have Hall := Lib.hid hall
    clear hall
    by_cases hlt : k < n
    · have hkx : k < xs.length := by have := Hn.out; omega
      obtain ⟨b, off, rfl, _, hcx⟩ := Hx.out.int hkx
      have hor := orTo_succ 0#64 hkx
      have hbad := not_all hkx
      have hgood := take_all_succ hkx Hall.out
      obtain ⟨x, hxk⟩ : ∃ x, x = xs[k] := ⟨_, rfl⟩
      rw [← hxk] at hcx hor hbad hgood
      obtain ⟨s, hs⟩ : ∃ s, s = orTo 0#64 (xs.take k) := ⟨_, rfl⟩
      rw [← hs] at hor ⊢
      have Hor := Lib.hid hor
      have Hbad := Lib.hid hbad
      have Hgood := Lib.hid hgood
      clear hor hbad hgood hxk hs
      by_cases h0 : x < 0
      · have hok : okI x = false := by simp [okI]; omega
        have Hok := Lib.hid hok
        clear hok
        go_wp2
        go_ret2
        exact ⟨by rw [Hbad.out Hok.out]; rfl, rfl⟩
      · by_cases h1 : 64 ≤ x
        · have hok : okI x = false := by simp [okI]; omega
          have Hok := Lib.hid hok
          clear hok
          go_wp2
          go_ret2
          exact ⟨by rw [Hbad.out Hok.out]; rfl, rfl⟩
        · have hok : okI x = true := by simp [okI]; omega
          have Hok := Lib.hid hok
          clear hok
          go_wp2
          go_round
          case rel => exact ⟨k + 1, by omega, by go_num, by rw [Hor.out], Hgood.out Hok.out⟩
          case measure => simp [intOf]; omega
    · have hkn : k = n := by omega
      have ht : xs.take k = xs := List.take_of_length_le (by have := Hn.out; omega)
      rw [ht] at Hall ⊢
      have hm : mof xs = some (orTo 0#64 xs) := if_pos Hall.out
      have Hm := Lib.hid hm
      clear hm hkn ht
      go_wp2
      go_ret2
      exact ⟨by rw [Hm.out]; rfl, rfl⟩

theorem wth_ok {s : BitVec 64} {x : Int} (h : okI x = true) : wth s x = s ||| 1#64 <<< x.toNat := by
  unfold okI at h; simp at h; exact if_pos h

set_option maxHeartbeats 400000 in
/-- seisinref01.Of -/
theorem c_refOf (ad : Option Addr) (n c : Nat) (xs : List Int) (w : World) (N : Nat) (hn : xs.length = n) (hmax : n ≤ maxLen) (hx : SlAt w N ad (vi xs)) :
    Calls Tryd.prog 26 #[.slice ad n c] w fun e w' => e = .returned (.tuple #[.int .u64 (iv ((mof xs).getD 0#64)), .bool (mof xs).isSome]) ∧ w = w' := by
  unfold maxLen at hmax
  have Hx := Lib.hid hx
  have Hn := Lib.hid hn
  clear hx hn
  go_enter Tryd.func26, Tryd.ntmps26
  go_wp2
  go_loop [4, 5] (fun s i => ∃ k : Nat, k ≤ n ∧ i = .int .i64 k ∧ s = .int .u64 (iv (orTo 0#64 (xs.take k))) ∧ (xs.take k).all okI = true) (fun _ i => n - (intOf i).toNat)
  case atStart => exact ⟨0, by omega, rfl, rfl, rfl⟩
  case round =>
    obtain ⟨k, hk, rfl, rfl, hall⟩ := hrel
    have Hall := Lib.hid hall
    clear hall
    by_cases hlt : k < n
    · have hkx : k < xs.length := by have := Hn.out; omega
      obtain ⟨b, off, rfl, _, hcx⟩ := Hx.out.int hkx
      have hor := orTo_succ 0#64 hkx
      have hbad := not_all hkx
      have hgood := take_all_succ hkx Hall.out
      obtain ⟨x, hxk⟩ : ∃ x, x = xs[k] := ⟨_, rfl⟩
      rw [← hxk] at hcx hor hbad hgood
      obtain ⟨s, hs⟩ : ∃ s, s = orTo 0#64 (xs.take k) := ⟨_, rfl⟩
      rw [← hs] at hor ⊢
      have Hor := Lib.hid hor
      have Hbad := Lib.hid hbad
      have Hgood := Lib.hid hgood
      clear hor hbad hgood hxk hs
      by_cases h0 : x < 0
      · have hok : okI x = false := by simp [okI]; omega
        have Hok := Lib.hid hok
        clear hok
        go_wp2
        go_ret2
        exact ⟨by rw [Hbad.out Hok.out]; rfl, rfl⟩
      · by_cases h1 : 63 < x
        · have hok : okI x = false := by simp [okI]; omega
          have Hok := Lib.hid hok
          clear hok
          go_wp2
          go_ret2
          exact ⟨by rw [Hbad.out Hok.out]; rfl, rfl⟩
        · have hok : okI x = true := by simp [okI]; omega
          have Hok := Lib.hid hok
          clear hok
          go_wp2_with (go_at_call 97; refine (c_refWith _ _ _).mono ?_; rintro e w' ⟨rfl, rfl⟩)
          go_round
          case rel => exact ⟨k + 1, by omega, by go_num, by rw [Hor.out, wth_ok Hok.out], Hgood.out Hok.out⟩
          case measure => simp [intOf]; omega
    · have hkn : k = n := by omega
      have ht : xs.take k = xs := List.take_of_length_le (by have := Hn.out; omega)
      rw [ht] at Hall ⊢
      have hm : mof xs = some (orTo 0#64 xs) := if_pos Hall.out
      have Hm := Lib.hid hm
      clear hm hkn ht
      go_wp2
      go_ret2
      exact ⟨by rw [Hm.out]; rfl, rfl⟩
end Go.Proofs.YtgegmoedgegkcaaDoor
