/-
  How the walk spells sets of 64 bits, and what it means that a slice reads as a list. No condition.
-/
import Derived.Test.YtgegmoedgegkcaaDoorProg
import Derived.Test.YtgegmoedgegkcaaDoorPMarks
import Derived.WalkKit
import Derived.Lib.Hide
import Derived.Laws.Bits64b
namespace Go.Proofs.YtgegmoedgegkcaaDoor
open Go.RowKit

/-- A set of 64 bits as the number that Go's value bears. (Not reducible: the walk does not look inside.) -/
def iv (s : BitVec 64) : Int := (s.toNat : Int)

/-! How the walk spells the operations on sets of 64 bits. -/
section spell
variable (a b : BitVec 64)

theorem iv_nonneg : 0 ≤ iv a := by unfold iv; omega
theorem iv_lt : iv a < 18446744073709551616 := by unfold iv; have := a.isLt; omega
theorem iv_inj {a b : BitVec 64} : iv a = iv b ↔ a = b := by
  unfold iv
  constructor
  · intro h; exact BitVec.eq_of_toNat_eq (by omega)
  · rintro rfl; rfl
theorem iv_of {n : Int} (h0 : 0 ≤ n) (h1 : n < 18446744073709551616) : iv (BitVec.ofInt 64 n) = n := by
  unfold iv
  obtain ⟨m, rfl⟩ := Int.eq_ofNat_of_zero_le h0
  rw [BitVec.ofInt_natCast, BitVec.toNat_ofNat, Nat.mod_eq_of_lt (by omega)]

theorem ofInt_set : BitVec.ofInt 64 (iv a) = a := by
  unfold iv
  rw [BitVec.ofInt_natCast, BitVec.ofNat_toNat, BitVec.setWidth_eq]

theorem wrap_set (t : BitVec 64) : IntKind.u64.wrap (t.toNat : Int) = iv t := by
  have := t.isLt; unfold iv; rw [IntKind.wrap_u64]; omega
@[go_sem] theorem wrap_iv (t : BitVec 64) : IntKind.u64.wrap (iv t) = iv t := wrap_set t

@[go_sem] theorem bits_and_set : bits .and .u64 (iv a) (iv b) = iv (a &&& b) := by
  show IntKind.u64.wrap ((BitVec.ofInt 64 (iv a) &&& BitVec.ofInt 64 (iv b)).toNat : Int) = _
  rw [ofInt_set, ofInt_set, wrap_set]
@[go_sem] theorem bits_or_set : bits .or .u64 (iv a) (iv b) = iv (a ||| b) := by
  show IntKind.u64.wrap ((BitVec.ofInt 64 (iv a) ||| BitVec.ofInt 64 (iv b)).toNat : Int) = _
  rw [ofInt_set, ofInt_set, wrap_set]
@[go_sem] theorem bits_andNot_set : bits .andNot .u64 (iv a) (iv b) = iv (a &&& ~~~b) := by
  show IntKind.u64.wrap ((BitVec.ofInt 64 (iv a) &&& ~~~BitVec.ofInt 64 (iv b)).toNat : Int) = _
  rw [ofInt_set, ofInt_set, wrap_set]
theorem bit_toNat (t : BitVec 64) : (t &&& 1#64).toNat = if has t 0 then 1 else 0 := by
  unfold has
  rw [BitVec.toNat_and, show (1#64).toNat = 1 from rfl, Nat.and_one_is_mod, ← BitVec.testBit_toNat, Nat.testBit_zero]
  rcases Nat.mod_two_eq_zero_or_one t.toNat with h | h <;> simp [h]
@[go_sem] theorem bits_and_one : bits .and .u64 (iv a) 1 = b2i (has a 0) := by
  show IntKind.u64.wrap ((BitVec.ofInt 64 (iv a) &&& 1#64).toNat : Int) = _
  rw [ofInt_set, wrap_set]; unfold iv b2i; rw [bit_toNat]; split <;> rfl
@[go_sem] theorem wrap_sub_set : IntKind.u64.wrap (iv a - iv b) = iv (a - b) := by
  have := a.isLt; have := b.isLt
  unfold iv
  rw [IntKind.wrap_u64, BitVec.toNat_sub]; omega
@[go_sem] theorem wrap_sub_one : IntKind.u64.wrap (iv a - 1) = iv (a - 1#64) := wrap_sub_set a 1#64
@[go_sem] theorem wrap_add_set : IntKind.u64.wrap (iv a + iv b) = iv (a + b) := by
  have := a.isLt; have := b.isLt
  unfold iv
  rw [IntKind.wrap_u64, BitVec.toNat_add]; omega
@[go_sem] theorem wrap_shl (k : Nat) : IntKind.u64.wrap (2 ^ k) = iv (1#64 <<< k) := by
  unfold iv
  rw [IntKind.wrap_u64, BitVec.toNat_shiftLeft, Nat.shiftLeft_eq, show (1#64).toNat = 1 from rfl, Nat.one_mul, Int.natCast_emod, Int.natCast_pow]; rfl
@[go_sem] theorem set_div (k : Nat) : iv a / 2 ^ k = iv (a >>> k) := by
  unfold iv
  rw [BitVec.toNat_ushiftRight, Nat.shiftRight_eq_div_pow, Int.natCast_ediv, Int.natCast_pow]; rfl
@[go_sem] theorem has_shr (k : Nat) : has (a >>> k) 0 = has a k := by
  unfold has; simp
@[go_sem] theorem set_tmod : (iv a).tmod 2 = b2i (has a 0) := by
  rw [Int.tmod_eq_emod_of_nonneg (iv_nonneg a)]
  unfold iv b2i has
  rw [← BitVec.testBit_toNat, Nat.testBit_zero]
  rcases Nat.mod_two_eq_zero_or_one a.toNat with h | h <;> simp [h] <;> omega
@[go_sem] theorem set_emod : (iv a) % 2 = b2i (has a 0) := by
  rw [← set_tmod, Int.tmod_eq_emod_of_nonneg (iv_nonneg a)]
@[go_sem] theorem b2i_eq_one (c : Bool) : (b2i c == 1) = c := by cases c <;> rfl
@[go_sem] theorem b2i_eq_zero (c : Bool) : (b2i c == 0) = !c := by cases c <;> rfl
@[go_sem] theorem b2i_ne_one (c : Bool) : (b2i c != 1) = !c := by cases c <;> rfl
@[go_sem] theorem b2i_ne_zero (c : Bool) : (b2i c != 0) = c := by cases c <;> rfl
@[go_sem] theorem set_eq_zero : (iv a == 0) = (a == 0#64) := by
  rw [Bool.eq_iff_iff]; simp only [beq_iff_eq]
  exact iv_inj (b := 0#64)
@[go_sem] theorem set_ne_zero : (iv a != 0) = (a != 0#64) := by simp only [bne, set_eq_zero]
@[go_sem] theorem set_eq_set : (iv a == iv b) = (a == b) := by
  rw [Bool.eq_iff_iff]; simp only [beq_iff_eq]
  exact iv_inj
@[go_sem] theorem set_ne_set : (iv a != iv b) = (a != b) := by simp only [bne, set_eq_set]
end spell

theorem ret_set {a b : BitVec 64} (h : a = b) : Ending.returned (.int .u64 (iv a)) = Ending.returned (.int .u64 (iv b)) := by rw [h]
theorem ret_int {a b : Int} (h : a = b) : Ending.returned (.int .i64 a) = Ending.returned (.int .i64 b) := by rw [h]
theorem ret_bool {a b : Bool} (h : a = b) : Ending.returned (.bool a) = Ending.returned (.bool b) := by rw [h]

theorem cell_set_ne {w : World} {b b' o o' : Nat} {u : Value} (h : b ≠ b') : (w.setCell ⟨b', o', none⟩ u).cell? ⟨b, o, none⟩ = w.cell? ⟨b, o, none⟩ :=
  World.cell?_of_block (Below.heap_setCell w ⟨b', o', none⟩ u b h)
theorem cell_set_eq {w : World} {b o : Nat} {u v : Value} (h : w.cell? ⟨b, o, none⟩ = some v) : (w.setCell ⟨b, o, none⟩ u).cell? ⟨b, o, none⟩ = some u :=
  World.cell?_setCell_same' _ _ _ (by rw [h]; rfl)

/-! What a slice reads as. -/
def SlAt (w : World) (N : Nat) (ad : Option Addr) (xs : List Value) : Prop :=
  ∀ (j : Nat) x, xs[j]? = some x → ∃ b off, ad = some ⟨b, off, none⟩ ∧ b < N ∧ w.cell? ⟨b, off + j, none⟩ = some x

theorem SlAt.mono {w : World} {N M : Nat} {ad : Option Addr} {xs : List Value} (h : SlAt w N ad xs) (hm : N ≤ M) : SlAt w M ad xs :=
  fun j x hx => let ⟨b, off, e, hb, hc⟩ := h j x hx; ⟨b, off, e, Nat.lt_of_lt_of_le hb hm, hc⟩
theorem SlAt.below {w w' : World} {N : Nat} {ad : Option Addr} {xs : List Value} (h : SlAt w N ad xs) (hb : Below N w w') : SlAt w' N ad xs :=
  fun j x hx => let ⟨b, off, e, hlt, hc⟩ := h j x hx; ⟨b, off, e, hlt, (hb.cell (p := ⟨b, off + j, none⟩) hlt).trans hc⟩
theorem SlAt.nil (w : World) (N : Nat) (ad : Option Addr) : SlAt w N ad [] := fun j x hx => by simp at hx
theorem SlAt.of_owns {w : World} {base e size n : Nat} {v : Value} {xs : List Value} (h : w.ownsRow base e size v n xs) : ∃ ad cap, v = .slice ad n cap ∧ SlAt w w.heap.size ad xs := by
  obtain ⟨hl, ⟨rfl, rfl⟩ | ⟨g, cap, cur, rfl, hb, hg, hn, hcm, hcs, ht⟩⟩ := h
  · exact ⟨none, 0, rfl, by rw [show xs = [] from List.eq_nil_of_length_eq_zero (by simpa using hl)]; exact SlAt.nil _ _ _⟩
  · refine ⟨_, cap, rfl, fun j x hx => ⟨g, 0, rfl, (Array.getElem?_eq_some_iff.1 hg).1, ?_⟩⟩
    rw [← ht] at hx
    rw [List.getElem?_take] at hx
    split at hx
    · simp only [World.cell?, hg, Option.isSome_none, Bool.false_eq_true, if_false, Nat.zero_add]
      simpa using hx
    · simp at hx

end Go.Proofs.YtgegmoedgegkcaaDoor
