/-
  core.comes: the status of a working state.
-/
import Derived.Test.YtckcdpmfmfpmmaaOf
namespace Go.Proofs.Ytckcdpmfmfpmmaa
open Go.RowKit

/-- What comes next, when the cache would have to be asked. -/
def askV (dr : Bool) : Int := if dr then 4 else 3
/-- The status: k's buffer holds the stores bl. -/
def nxtV (k : Wk) (bl : List (Nat × Nat)) (most : Int) : Int :=
  if k.c.wt then 4
  else if !k.is then (if bl.length = 0 then 1 else 4)
  else if k.x.op = 3 ∨ k.x.op = 8 then 2
  else if k.x.op = 7 then (if bl.length = 0 ∨ k.x.mode ≠ 3 then 2 else 4)
  else if k.x.op = 2 then (if 0 < most then (if (bl.length : Int) < most then 2 else 4) else askV k.c.dr)
  else if k.x.op = 1 then (if (yng bl k.x.loc.toNat).isSome then 2 else askV k.c.dr)
  else if k.x.op = 4 ∨ k.x.op = 5 ∨ k.x.op = 6 then (if bl.length = 0 then askV k.c.dr else 4)
  else 4
theorem c_comes1t (w : World) : Calls Try.prog 39 #[.bool true] w fun e w' => e = .returned (.int .u8 2) ∧ w = w' := c_comes1 true w
theorem c_comes1f (w : World) : Calls Try.prog 39 #[.bool false] w fun e w' => e = .returned (.int .u8 4) ∧ w = w' := c_comes1 false w
theorem ne_beq {a b : Int} (h : a ≠ b) : (a == b) = false := beq_eq_false_iff_ne.2 h

set_option maxRecDepth 8000 in
set_option maxHeartbeats 4000000 in
theorem c_comes (b : Nat) (k : Wk) (ad : Option Addr) (n cap : Nat) (bl : List (Nat × Nat)) (most : Int) (hv : k.c.buf = .slice ad n cap) (hn : bl.length = n) (hm : n ≤ 1000) (hl0 : 0 ≤ k.x.loc) (w : World) (h : WkAt w b k) (hs : StAt w w.heap.size ad bl) :
    Calls Try.prog 28 #[.pointer (some ⟨b, 0, none⟩), .int .i64 most] w fun e w' => e = .returned (.int .u8 (nxtV k bl most)) ∧ Below w.heap.size w w' := by
  have hwt := h.wt
  have hisc := h.isC
  have hop := h.op
  have HEm := Lib.hid (c_empty b k ad n cap hv w h)
  obtain ⟨lc, hlc⟩ : ∃ lc : Nat, k.x.loc = lc := ⟨k.x.loc.toNat, (Int.toNat_of_nonneg hl0).symm⟩
  have HYo := Lib.hid (c_young b k ad n cap bl lc hv hn (by unfold maxLen; omega) w h hs)
  have H := Lib.hid h
  have HN := Lib.hid hn
  have HLC := Lib.hid hlc
  have HV := Lib.hid hv
  clear h hs hn hlc hv
  cases hw : k.c.wt with
  | true =>
    rw [hw] at hwt
    have HX := Lib.hid (show nxtV k bl most = 4 by unfold nxtV; rw [hw]; rfl)
    clear hw
    go_enter Try.func28, Try.ntmps28
    go_wp2
    go_ret
    exact ⟨by rw [HX.out]; rfl, Below.refl _ _⟩
  | false =>
    rw [hw] at hwt
    cases hi : k.is with
    | false =>
      rw [hi] at hisc
      by_cases h0 : n = 0
      · have HX := Lib.hid (show nxtV k bl most = 1 by unfold nxtV; rw [hw, hi, HN.out, h0]; rfl)
        have hem := HEm.out
        rw [show ((n : Int) == 0) = true by rw [h0]; rfl] at hem
        have HE := Lib.hid hem
        clear hw hi h0 hem
        go_enter Try.func28, Try.ntmps28
        go_wp2_with (go_at_call 40; (with_reducible refine HE.out.mono ?_); rintro e w' ⟨rfl, rfl⟩)
        go_ret
        exact ⟨by rw [HX.out]; rfl, Below.refl _ _⟩
      · have HX := Lib.hid (show nxtV k bl most = 4 by unfold nxtV; rw [hw, hi, HN.out]; simp [h0])
        have hem := HEm.out
        rw [show ((n : Int) == 0) = false from ne_beq (by omega)] at hem
        have HE := Lib.hid hem
        clear hw hi h0 hem
        go_enter Try.func28, Try.ntmps28
        go_wp2_with (go_at_call 40; (with_reducible refine HE.out.mono ?_); rintro e w' ⟨rfl, rfl⟩)
        go_ret
        exact ⟨by rw [HX.out]; rfl, Below.refl _ _⟩
    | true =>
      rw [hi] at hisc
      by_cases ho : k.x.op = 3
      · rw [ho] at hop
        have HX := Lib.hid (show nxtV k bl most = 2 by unfold nxtV; rw [hw, hi, ho]; simp [HN.out])
        clear hw hi ho
        go_enter Try.func28, Try.ntmps28
        go_wp2
        go_ret
        exact ⟨by rw [HX.out]; rfl, Below.refl _ _⟩
      have e3 : (k.x.op == 3) = false := ne_beq ho
      have n3 := Lib.hid ho
      clear ho
      by_cases ho : k.x.op = 8
      · rw [ho] at hop
        have HX := Lib.hid (show nxtV k bl most = 2 by unfold nxtV; rw [hw, hi, ho]; simp [HN.out])
        clear hw hi ho
        go_enter Try.func28, Try.ntmps28
        go_wp2
        go_ret
        exact ⟨by rw [HX.out]; rfl, Below.refl _ _⟩
      have e8 : (k.x.op == 8) = false := ne_beq ho
      have n8 := Lib.hid ho
      clear ho
      by_cases ho : k.x.op = 7
      · rw [ho] at hop
        have hmo := H.out.mode
        by_cases h0 : n = 0
        · have hem := HEm.out
          rw [show ((n : Int) == 0) = true by rw [h0]; rfl] at hem
          have HE := Lib.hid hem
          have HX := Lib.hid (show nxtV k bl most = 2 by unfold nxtV; rw [hw, hi, ho]; simp [HN.out, h0])
          clear hw hi ho h0 hem
          go_enter Try.func28, Try.ntmps28
          go_wp2_with (first
            | (go_at_call 40; (with_reducible refine HE.out.mono ?_); rintro e w' ⟨rfl, rfl⟩)
            | (go_at_call 39; (with_reducible refine (c_comes1t _).mono ?_); rintro e w' ⟨rfl, rfl⟩))
          go_ret
          exact ⟨by rw [HX.out]; rfl, Below.refl _ _⟩
        · by_cases h3 : k.x.mode = 3
          · rw [h3] at hmo
            have hem := HEm.out
            rw [show ((n : Int) == 0) = false from ne_beq (by omega)] at hem
            have HE := Lib.hid hem
            have HX := Lib.hid (show nxtV k bl most = 4 by unfold nxtV; rw [hw, hi, ho]; simp [HN.out, h0, h3])
            clear hw hi ho h0 h3 hem
            go_enter Try.func28, Try.ntmps28
            go_wp2_with (first
              | (go_at_call 40; (with_reducible refine HE.out.mono ?_); rintro e w' ⟨rfl, rfl⟩)
              | (go_at_call 39; (with_reducible refine (c_comes1f _).mono ?_); rintro e w' ⟨rfl, rfl⟩))
            go_ret
            exact ⟨by rw [HX.out]; rfl, Below.refl _ _⟩
          · have hm3 : (k.x.mode != 3) = true := by rw [bne_iff_ne]; exact h3
            have hem := HEm.out
            rw [show ((n : Int) == 0) = false from ne_beq (by omega)] at hem
            have HE := Lib.hid hem
            have HX := Lib.hid (show nxtV k bl most = 2 by unfold nxtV; rw [hw, hi, ho]; simp [HN.out, h0, h3])
            clear hw hi ho h0 h3 hem
            go_enter Try.func28, Try.ntmps28
            go_wp2_with (first
              | (go_at_call 40; (with_reducible refine HE.out.mono ?_); rintro e w' ⟨rfl, rfl⟩)
              | (go_at_call 39; (with_reducible refine (c_comes1t _).mono ?_); rintro e w' ⟨rfl, rfl⟩))
            go_ret
            exact ⟨by rw [HX.out]; rfl, Below.refl _ _⟩
      have e7 : (k.x.op == 7) = false := ne_beq ho
      have n7 := Lib.hid ho
      clear ho
      by_cases ho : k.x.op = 2
      · rw [ho] at hop
        have hbu := H.out.buf
        rw [HV.out] at hbu
        by_cases hp : 0 < most
        · by_cases hlt : (n : Int) < most
          · have hd1 : decide ((n : Int) < most) = true := decide_eq_true hlt
            have HX := Lib.hid (show nxtV k bl most = 2 by unfold nxtV; rw [hw, hi, ho]; simp [HN.out, hp, hlt])
            clear hw hi ho hlt
            go_enter Try.func28, Try.ntmps28
            go_wp2_with (first
              | (go_at_call 39; (with_reducible refine (c_comes1t _).mono ?_); rintro e w' ⟨rfl, rfl⟩))
            go_ret
            exact ⟨by rw [HX.out]; rfl, Below.refl _ _⟩
          · have hd1 : decide ((n : Int) < most) = false := decide_eq_false hlt
            have HX := Lib.hid (show nxtV k bl most = 4 by unfold nxtV; rw [hw, hi, ho]; simp [HN.out, hp, hlt])
            clear hw hi ho hlt
            go_enter Try.func28, Try.ntmps28
            go_wp2_with (first
              | (go_at_call 39; (with_reducible refine (c_comes1f _).mono ?_); rintro e w' ⟨rfl, rfl⟩))
            go_ret
            exact ⟨by rw [HX.out]; rfl, Below.refl _ _⟩
        · have hdr := H.out.dr
          cases hd : k.c.dr with
          | true =>
            rw [hd] at hdr
            have HX := Lib.hid (show nxtV k bl most = 4 by unfold nxtV; rw [hw, hi, ho]; simp [hp, askV, hd])
            clear hw hi ho  hd
            go_enter Try.func28, Try.ntmps28
            go_wp2
            go_ret
            exact ⟨by rw [HX.out]; rfl, Below.refl _ _⟩
          | false =>
            rw [hd] at hdr
            have HX := Lib.hid (show nxtV k bl most = 3 by unfold nxtV; rw [hw, hi, ho]; simp [hp, askV, hd])
            clear hw hi ho  hd
            go_enter Try.func28, Try.ntmps28
            go_wp2
            go_ret
            exact ⟨by rw [HX.out]; rfl, Below.refl _ _⟩
      have e2 : (k.x.op == 2) = false := ne_beq ho
      have n2 := Lib.hid ho
      clear ho
      by_cases ho : k.x.op = 1
      · rw [ho] at hop
        have hlo := H.out.loc
        rw [HLC.out] at hlo
        cases hy : (yng bl lc).isSome with
        | true =>
          have hyo := HYo.out
          rw [hy] at hyo
          have HY2 := Lib.hid hyo
          have HX := Lib.hid (show nxtV k bl most = 2 by unfold nxtV; rw [hw, hi, ho, HLC.out, Int.toNat_natCast, hy]; rfl)
          clear hw hi ho hy hyo
          go_enter Try.func28, Try.ntmps28
          go_wp2_with (first
            | (go_at_call 41; (with_reducible refine HY2.out.mono ?_); rintro e wy ⟨rfl, hby⟩))
          go_ret
          exact ⟨by rw [HX.out]; rfl, hby⟩
        | false =>
          have hdr := H.out.dr
          have hyo := HYo.out
          rw [hy] at hyo
          have HY2 := Lib.hid hyo
          cases hd : k.c.dr with
          | true =>
            have HX := Lib.hid (show nxtV k bl most = 4 by unfold nxtV askV; rw [hw, hi, ho, HLC.out, Int.toNat_natCast, hy, hd]; rfl)
            have HD := Lib.hid hd
            clear hw hi ho hy hyo hd hdr
            go_enter Try.func28, Try.ntmps28
            go_wp2_with (first
              | (go_at_call 41; (with_reducible refine HY2.out.mono ?_); rintro e wy ⟨rfl, hby⟩; have hdr := (H.out.over hby).dr; rw [HD.out] at hdr))
            go_ret
            exact ⟨by rw [HX.out]; rfl, hby⟩
          | false =>
            have HX := Lib.hid (show nxtV k bl most = 3 by unfold nxtV askV; rw [hw, hi, ho, HLC.out, Int.toNat_natCast, hy, hd]; rfl)
            have HD := Lib.hid hd
            clear hw hi ho hy hyo hd hdr
            go_enter Try.func28, Try.ntmps28
            go_wp2_with (first
              | (go_at_call 41; (with_reducible refine HY2.out.mono ?_); rintro e wy ⟨rfl, hby⟩; have hdr := (H.out.over hby).dr; rw [HD.out] at hdr))
            go_ret
            exact ⟨by rw [HX.out]; rfl, hby⟩
      have e1 : (k.x.op == 1) = false := ne_beq ho
      have n1 := Lib.hid ho
      clear ho
      by_cases ho : k.x.op = 4
      · rw [ho] at hop
        by_cases h0 : n = 0
        · have hdr := H.out.dr
          cases hd : k.c.dr with
          | true =>
            rw [hd] at hdr
            have hem := HEm.out
            rw [show ((n : Int) == 0) = true by rw [h0]; rfl] at hem
            have HE := Lib.hid hem
            have HX := Lib.hid (show nxtV k bl most = 4 by unfold nxtV; rw [hw, hi, ho]; simp [HN.out, h0, askV, hd])
            clear hw hi ho h0 hem hd
            go_enter Try.func28, Try.ntmps28
            go_wp2_with (first
              | (go_at_call 40; (with_reducible refine HE.out.mono ?_); rintro e w' ⟨rfl, rfl⟩))
            go_ret
            exact ⟨by rw [HX.out]; rfl, Below.refl _ _⟩
          | false =>
            rw [hd] at hdr
            have hem := HEm.out
            rw [show ((n : Int) == 0) = true by rw [h0]; rfl] at hem
            have HE := Lib.hid hem
            have HX := Lib.hid (show nxtV k bl most = 3 by unfold nxtV; rw [hw, hi, ho]; simp [HN.out, h0, askV, hd])
            clear hw hi ho h0 hem hd
            go_enter Try.func28, Try.ntmps28
            go_wp2_with (first
              | (go_at_call 40; (with_reducible refine HE.out.mono ?_); rintro e w' ⟨rfl, rfl⟩))
            go_ret
            exact ⟨by rw [HX.out]; rfl, Below.refl _ _⟩
        · have hem := HEm.out
          rw [show ((n : Int) == 0) = false from ne_beq (by omega)] at hem
          have HE := Lib.hid hem
          have HX := Lib.hid (show nxtV k bl most = 4 by unfold nxtV; rw [hw, hi, ho]; simp [HN.out, h0])
          clear hw hi ho h0 hem
          go_enter Try.func28, Try.ntmps28
          go_wp2_with (first
            | (go_at_call 40; (with_reducible refine HE.out.mono ?_); rintro e w' ⟨rfl, rfl⟩))
          go_ret
          exact ⟨by rw [HX.out]; rfl, Below.refl _ _⟩
      have e4 : (k.x.op == 4) = false := ne_beq ho
      have n4 := Lib.hid ho
      clear ho
      by_cases ho : k.x.op = 5
      · rw [ho] at hop
        by_cases h0 : n = 0
        · have hdr := H.out.dr
          cases hd : k.c.dr with
          | true =>
            rw [hd] at hdr
            have hem := HEm.out
            rw [show ((n : Int) == 0) = true by rw [h0]; rfl] at hem
            have HE := Lib.hid hem
            have HX := Lib.hid (show nxtV k bl most = 4 by unfold nxtV; rw [hw, hi, ho]; simp [HN.out, h0, askV, hd])
            clear hw hi ho h0 hem hd
            go_enter Try.func28, Try.ntmps28
            go_wp2_with (first
              | (go_at_call 40; (with_reducible refine HE.out.mono ?_); rintro e w' ⟨rfl, rfl⟩))
            go_ret
            exact ⟨by rw [HX.out]; rfl, Below.refl _ _⟩
          | false =>
            rw [hd] at hdr
            have hem := HEm.out
            rw [show ((n : Int) == 0) = true by rw [h0]; rfl] at hem
            have HE := Lib.hid hem
            have HX := Lib.hid (show nxtV k bl most = 3 by unfold nxtV; rw [hw, hi, ho]; simp [HN.out, h0, askV, hd])
            clear hw hi ho h0 hem hd
            go_enter Try.func28, Try.ntmps28
            go_wp2_with (first
              | (go_at_call 40; (with_reducible refine HE.out.mono ?_); rintro e w' ⟨rfl, rfl⟩))
            go_ret
            exact ⟨by rw [HX.out]; rfl, Below.refl _ _⟩
        · have hem := HEm.out
          rw [show ((n : Int) == 0) = false from ne_beq (by omega)] at hem
          have HE := Lib.hid hem
          have HX := Lib.hid (show nxtV k bl most = 4 by unfold nxtV; rw [hw, hi, ho]; simp [HN.out, h0])
          clear hw hi ho h0 hem
          go_enter Try.func28, Try.ntmps28
          go_wp2_with (first
            | (go_at_call 40; (with_reducible refine HE.out.mono ?_); rintro e w' ⟨rfl, rfl⟩))
          go_ret
          exact ⟨by rw [HX.out]; rfl, Below.refl _ _⟩
      have e5 : (k.x.op == 5) = false := ne_beq ho
      have n5 := Lib.hid ho
      clear ho
      by_cases ho : k.x.op = 6
      · rw [ho] at hop
        by_cases h0 : n = 0
        · have hdr := H.out.dr
          cases hd : k.c.dr with
          | true =>
            rw [hd] at hdr
            have hem := HEm.out
            rw [show ((n : Int) == 0) = true by rw [h0]; rfl] at hem
            have HE := Lib.hid hem
            have HX := Lib.hid (show nxtV k bl most = 4 by unfold nxtV; rw [hw, hi, ho]; simp [HN.out, h0, askV, hd])
            clear hw hi ho h0 hem hd
            go_enter Try.func28, Try.ntmps28
            go_wp2_with (first
              | (go_at_call 40; (with_reducible refine HE.out.mono ?_); rintro e w' ⟨rfl, rfl⟩))
            go_ret
            exact ⟨by rw [HX.out]; rfl, Below.refl _ _⟩
          | false =>
            rw [hd] at hdr
            have hem := HEm.out
            rw [show ((n : Int) == 0) = true by rw [h0]; rfl] at hem
            have HE := Lib.hid hem
            have HX := Lib.hid (show nxtV k bl most = 3 by unfold nxtV; rw [hw, hi, ho]; simp [HN.out, h0, askV, hd])
            clear hw hi ho h0 hem hd
            go_enter Try.func28, Try.ntmps28
            go_wp2_with (first
              | (go_at_call 40; (with_reducible refine HE.out.mono ?_); rintro e w' ⟨rfl, rfl⟩))
            go_ret
            exact ⟨by rw [HX.out]; rfl, Below.refl _ _⟩
        · have hem := HEm.out
          rw [show ((n : Int) == 0) = false from ne_beq (by omega)] at hem
          have HE := Lib.hid hem
          have HX := Lib.hid (show nxtV k bl most = 4 by unfold nxtV; rw [hw, hi, ho]; simp [HN.out, h0])
          clear hw hi ho h0 hem
          go_enter Try.func28, Try.ntmps28
          go_wp2_with (first
            | (go_at_call 40; (with_reducible refine HE.out.mono ?_); rintro e w' ⟨rfl, rfl⟩))
          go_ret
          exact ⟨by rw [HX.out]; rfl, Below.refl _ _⟩
      have e6 : (k.x.op == 6) = false := ne_beq ho
      have n6 := Lib.hid ho
      clear ho
      have HX := Lib.hid (show nxtV k bl most = 4 by unfold nxtV; rw [hw, hi]; simp [show ¬ k.x.op = 3 from n3.out, show ¬ k.x.op = 8 from n8.out, show ¬ k.x.op = 7 from n7.out, show ¬ k.x.op = 2 from n2.out, show ¬ k.x.op = 1 from n1.out, show ¬ k.x.op = 4 from n4.out, show ¬ k.x.op = 5 from n5.out, show ¬ k.x.op = 6 from n6.out])
      clear hw hi
      go_enter Try.func28, Try.ntmps28
      go_wp2
      go_ret
      exact ⟨by rw [HX.out]; rfl, Below.refl _ _⟩
end Go.Proofs.Ytckcdpmfmfpmmaa
