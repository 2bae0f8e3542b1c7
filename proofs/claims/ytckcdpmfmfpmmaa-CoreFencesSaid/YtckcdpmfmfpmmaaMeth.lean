/-
  The methods that write the working state: set, on, args; the copy of a buffer; core.of.
-/
import Derived.Test.YtckcdpmfmfpmmaaBase
import Derived.Laws.OwnMore
import Derived.WalkLawsBesides
namespace Go.Proofs.Ytckcdpmfmfpmmaa
open Go.RowKit

def updR (r : Nat → Int) (d : Nat) (v : Int) : Nat → Int := fun i => if i = d then v else r i
def Wk.setR (k : Wk) (v : Int) : Wk := if k.x.dst < 8 then { k with c := { k.c with r := updR k.c.r k.x.dst.toNat v } } else k
theorem WkAt.setReg {w : World} {b : Nat} {k : Wk} (h : WkAt w b k) {i : Nat} (hi : i < 8) (v : Int) : WkAt (w.setCell ⟨b, 1 + i, none⟩ (.int .u8 v)) b { k with c := { k.c with r := updR k.c.r i v } } := by
  refine h.set _ _ _ ?_
  have : i = 0 ∨ i = 1 ∨ i = 2 ∨ i = 3 ∨ i = 4 ∨ i = 5 ∨ i = 6 ∨ i = 7 := by omega
  rcases this with rfl | rfl | rfl | rfl | rfl | rfl | rfl | rfl <;> rfl
theorem WkAt.setPc {w : World} {b : Nat} {k : Wk} (h : WkAt w b k) (v : Int) : WkAt (w.setCell ⟨b, 0, none⟩ (.int .u8 v)) b { k with c := { k.c with pc := v } } := h.set 0 _ _ rfl
theorem WkAt.setBuf {w : World} {b : Nat} {k : Wk} (h : WkAt w b k) (v : Value) : WkAt (w.setCell ⟨b, 9, none⟩ v) b { k with c := { k.c with buf := v } } := h.set 9 _ _ rfl
theorem WkAt.setWt {w : World} {b : Nat} {k : Wk} (h : WkAt w b k) (v : Bool) : WkAt (w.setCell ⟨b, 10, none⟩ (.bool v)) b { k with c := { k.c with wt := v } } := h.set 10 _ _ rfl
theorem WkAt.setDr {w : World} {b : Nat} {k : Wk} (h : WkAt w b k) (v : Bool) : WkAt (w.setCell ⟨b, 11, none⟩ (.bool v)) b { k with c := { k.c with dr := v } } := h.set 11 _ _ rfl
theorem WkAt.setX {w : World} {b : Nat} {k : Wk} (h : WkAt w b k) (k' : Wk) : WkAt (w.setRow b k'.cells) b k' := ⟨setRow_heap w b _ _ _ _ h.heap⟩

theorem wp_share {R G : Prop} (h1 : Hid R → G) (h2 : R) : G := h1 (Lib.hid h2)
theorem below_drewN' {B : Nat} {a w : World} (h : Below B a w) (n : Nat) : Below B a (w.drewN n) := h.trans ⟨rfl, rfl, rfl, Nat.le_refl _, fun _ _ => rfl⟩
/-- What a method leaves: the working state changed, all that is older as it was. -/
structure Left (B : Nat) (w w' : World) (b : Nat) (k : Wk) : Prop where
  at_ : WkAt w' b k
  bel : Below B w w'
  size : w.heap.size ≤ w'.heap.size
  oth : ∀ c, c < w.heap.size → c ≠ b → w'.heap[c]? = w.heap[c]?

set_option maxRecDepth 4000 in
theorem c_set (b : Nat) (k : Wk) (v : Int) (hd : 0 ≤ k.x.dst) (B : Nat) (hB : B ≤ b) (w : World) (h : WkAt w b k) :
    Calls Try.prog 42 #[.pointer (some ⟨b, 0, none⟩), .int .u8 v] w fun e w' => e = .returned (.tuple #[]) ∧ Left B w w' b (k.setR v) := by
  have hdst := h.dst
  obtain ⟨d, hd2⟩ : ∃ d : Nat, k.x.dst = d := ⟨k.x.dst.toNat, (Int.toNat_of_nonneg hd).symm⟩
  rw [hd2] at hdst
  have H := Lib.hid h
  by_cases hlt : d < 8
  · have HK := Lib.hid (show k.setR v = { k with c := { k.c with r := updR k.c.r d v } } by unfold Wk.setR; rw [hd2, if_pos (by omega), Int.toNat_natCast])
    have hreg := h.reg hlt
    have hfr := h.unfrozen (1 + d)
    have hdi : (d : Int) < 8 := by omega
    have hS := h.setReg hlt v
    have HS := Lib.hid hS
    have hb1 := h.lt
    clear h hd hd2 hS
    go_enter Try.func42, Try.ntmps42
    go_wp2
    go_region
    go_wp2
    go_end0
    refine ⟨rfl, ?_⟩
    rw [HK.out]
    refine ⟨HS.out.drewN 1, ?_, ?_, ?_⟩
    · exact below_drewN' ((Below.refl B w).setCell hB _) 1
    · simp [World.setCell]
    · intro c hc hne
      exact Below.heap_setCell w _ _ c hne
  · have HK := Lib.hid (show k.setR v = k by unfold Wk.setR; rw [hd2, if_neg (by omega)])
    have hdi : decide ((d : Int) < 8) = false := decide_eq_false (by omega)
    clear h hd hd2
    go_enter Try.func42, Try.ntmps42
    go_wp2
    go_end0
    refine ⟨rfl, ?_⟩
    rw [HK.out]
    exact ⟨H.out, Below.refl _ _, Nat.le_refl _, fun _ _ _ => rfl⟩

/-- The least of three. -/
def mn3 (n q : Int) : Int := if 255 < (if n < q then n else q) then 255 else (if n < q then n else q)
theorem mn3_eq (n q : Int) : mn3 n q = min (min q n) 255 := by unfold mn3; split <;> split <;> omega
/-- Pc goes on, not beyond the end. -/
def Wk.onPc (k : Wk) (many : Int) (n : Nat) : Wk := { k with c := { k.c with pc := mn3 n (k.c.pc + many) } }
set_option maxRecDepth 4000 in
set_option maxHeartbeats 1000000 in
theorem c_on (b : Nat) (k : Wk) (many : Int) (ad : Option Addr) (n cap : Nat) (hi : k.ins = .slice ad n cap) (h0 : 0 ≤ k.c.pc) (h1 : k.c.pc ≤ 255) (hm0 : 0 ≤ many) (hm1 : many ≤ 256) (hn : n ≤ maxLen) (B : Nat) (hB : B ≤ b) (w : World) (h : WkAt w b k) :
    Calls Try.prog 34 #[.pointer (some ⟨b, 0, none⟩), .int .i64 many] w fun e w' => e = .returned (.tuple #[]) ∧ Left B w w' b (k.onPc many n) := by
  have hpc := h.pc
  have hin := h.insC
  rw [hi] at hin
  have hfr := h.unfrozen 0
  unfold maxLen at hn
  have HS := Lib.hid (h.setPc (mn3 n (k.c.pc + many)))
  obtain ⟨p, hp⟩ : ∃ p, k.c.pc = p := ⟨_, rfl⟩
  rw [hp] at hpc h0 h1 HS
  have HK := Lib.hid (show k.onPc many n = { k with c := { k.c with pc := mn3 n (p + many) } } by unfold Wk.onPc; rw [hp])
  have hsum : IntKind.i64.wrap (p + many) = p + many := by rw [IntKind.wrap_i64]; omega
  clear h hi hp
  go_enter Try.func34, Try.ntmps34
  apply wp_share
  · intro hR
    go_region
    all_goals exact hR.out
  go_end0
  refine ⟨rfl, ?_⟩
  rw [HK.out]
  refine ⟨HS.out.drewN 1, below_drewN' ((Below.refl B w).setCell hB _) 1, by simp [World.setCell], fun c _ hne => Below.heap_setCell w _ _ c hne⟩
end Go.Proofs.Ytckcdpmfmfpmmaa
