/-
  seisinref01.Subsets returns the same as marks.Subsets, for every set and limit.
-/
import Derived.Test.YtgegmoedgegkcaaDoorSub
namespace Go.Proofs.YtgegmoedgegkcaaDoor
open Go.RowKit

/-- The first i elements of the subset with the number m. -/
def depTo (s : BitVec 64) (m i : Nat) : BitVec 64 := Mk.setOf fun j => has s j && decide (Mk.rk s j < i) && m.testBit (Mk.rk s j)
theorem has_depTo (s : BitVec 64) (m i j : Nat) : has (depTo s m i) j = (has s j && decide (Mk.rk s j < i) && m.testBit (Mk.rk s j)) := by
  unfold depTo
  rw [Mk.has_setOf]
  cases h : has s j with
  | false => simp
  | true => simp [Mk.has_lt h]
theorem depTo_zero (s : BitVec 64) (m : Nat) : depTo s m 0 = 0#64 := Mk.has_ext' fun j => by rw [has_depTo]; simp [has]
theorem depTo_all (s : BitVec 64) (m : Nat) : depTo s m (Mk.elems s).length = Mk.dep s m := Mk.has_ext' fun j => by
  rw [has_depTo, Mk.has_dep]
  cases h : has s j with
  | false => rfl
  | true => simp [Mk.rk_lt h]
theorem depTo_succ (s : BitVec 64) (m i : Nat) (hi : i < (Mk.elems s).length) :
    depTo s m (i + 1) = if m.testBit i then wth (depTo s m i) ((Mk.elems s)[i] : Nat) else depTo s m i := by
  obtain ⟨c, hc⟩ : ∃ c, c = (Mk.elems s)[i] := ⟨_, rfl⟩
  have hcs : has s c = true := by rw [hc]; exact Mk.has_at s hi
  have hck : Mk.rk s c = i := by rw [hc]; exact Mk.rk_at s hi
  have hc64 := Mk.has_lt hcs
  rw [← hc]
  have hiff : ∀ j, has s j = true → (Mk.rk s j = i ↔ j = c) := fun j hj => by
    constructor
    · intro h
      rw [← hck] at h
      rcases Nat.lt_trichotomy j c with h1 | h1 | h1
      · have := Mk.rk_mono hj h1; omega
      · exact h1
      · have := Mk.rk_mono hcs h1; omega
    · rintro rfl; exact hck
  apply Mk.has_ext'
  intro j
  split
  · rename_i hb
    have e : has (wth (depTo s m i) (c : Int)) j = (has (depTo s m i) j || decide (j = c)) := by
      unfold wth
      rw [if_pos (by omega), has_or, Int.toNat_natCast, has_one c j hc64]
    rw [e, has_depTo, has_depTo]
    cases hj : has s j with
    | false =>
      have : j ≠ c := fun h => by rw [h, hcs] at hj; cases hj
      simp [this]
    | true =>
      by_cases h1 : j = c
      · subst h1; simp [hck, hb]
      · have := (not_congr (hiff j hj)).2 h1
        by_cases h2 : Mk.rk s j < i
        · simp [h1, h2, show Mk.rk s j < i + 1 by omega]
        · simp [h1, h2, show ¬ Mk.rk s j < i + 1 by omega]
  · rename_i hb
    rw [has_depTo, has_depTo]
    cases hj : has s j with
    | false => rfl
    | true =>
      by_cases h1 : j = c
      · subst h1; simp [hck, hb]
      · have := (not_congr (hiff j hj)).2 h1
        by_cases h2 : Mk.rk s j < i
        · simp [h2, show Mk.rk s j < i + 1 by omega]
        · simp [h2, show ¬ Mk.rk s j < i + 1 by omega]

/-- seisinref01.Has at a number. -/
theorem c_refHasN (m i : Nat) (w : World) (hm : m < 18446744073709551616) : Calls Tryd.prog 99 #[.int .u64 m, .int .i64 i] w fun e w' => e = .returned (.bool (decide (i < 64) && m.testBit i)) ∧ w = w' := by
  have h := c_refHas (BitVec.ofNat 64 m) i w
  have e1 : iv (BitVec.ofNat 64 m) = (m : Int) := by unfold iv; rw [BitVec.toNat_ofNat, Nat.mod_eq_of_lt (by omega)]
  have e2 : (decide (0 ≤ (i : Int)) && has (BitVec.ofNat 64 m) (i : Int).toNat) = (decide (i < 64) && m.testBit i) := by
    unfold has
    rw [decide_eq_true (by omega), Bool.true_and, Int.toNat_natCast, BitVec.getLsbD_ofNat]
  rw [e1, e2] at h
  exact h

set_option maxRecDepth 8000 in
set_option maxHeartbeats 1000000 in
/-- seisinref01.Subsets -/
theorem c_refSubsets (s : BitVec 64) (most : Int) (w : World) : Calls Tryd.prog 41 #[.int .u64 (iv s), .int .i64 most] w fun e w' =>
    ∃ v, e = .returned (.tuple #[v, .int .i64 (msubs s most).2]) ∧ w'.ownsRow w.heap.size 23 1 v (msubs s most).1.length (vs (msubs s most).1) ∧ Below w.heap.size w w' := by
  obtain ⟨i0, hi, hz0, hz1, hz2⟩ := info_parts Tryd.info23
  obtain ⟨B, hB⟩ : ∃ B, B = w.heap.size := ⟨_, rfl⟩
  rw [← hB]
  have HB := Lib.hid hB
  clear hB
  have hlist := c_refList s w
  obtain ⟨n, hn⟩ : ∃ n, n = (Mk.elems s).length := ⟨_, rfl⟩
  rw [← hn] at hlist
  have HL := Lib.hid hlist
  clear hlist
  have hn64 : n ≤ 64 := by rw [hn]; exact Mk.elems_length_le s
  by_cases h1 : 65536 < most
  · have Hm := Lib.hid (show msubs s most = ([], 2) from if_pos h1)
    clear hn
    go_enter Tryd.func41, Tryd.ntmps41
    go_wp2_with (go_at_call 31; refine HL.out.mono ?_; rintro e w' ⟨v, rfl, hown, hb⟩; obtain ⟨ad, cap, rfl, hsl⟩ := SlAt.of_owns hown)
    go_ret2
    rw [← HB.out] at hb
    exact ⟨.slice none 0 0, by rw [Hm.out]; rfl, by rw [Hm.out]; exact World.ownsRow_nil _ _ _ _, hb⟩
  · have Hn := Lib.hid hn
    clear hn
    go_enter Tryd.func41, Tryd.ntmps41
    go_wp2_with (go_at_call 31; refine HL.out.mono ?_; rintro e w1 ⟨v, rfl, hown, hb⟩; rw [← HB.out] at hb; obtain ⟨ad, cap, rfl, hsl⟩ := SlAt.of_owns hown)
    have HSL := Lib.hid hsl
    have hs1 := hb.size
    clear hsl hown
    go_loop [7, 8] (fun m i => ∃ k : Nat, k ≤ n ∧ k ≤ 17 ∧ i = .int .i64 k ∧ m = .int .i64 ((2 ^ k : Nat) : Int)) (fun _ i => n - (intOf i).toNat)
    case atStart => exact ⟨0, by omega, by omega, rfl, rfl⟩
    case round =>
      obtain ⟨k, hk, hk17, rfl, rfl⟩ := hrel
      have hpow : 2 ^ k ≤ 131072 := Nat.pow_le_pow_right (n := 2) (j := 17) (by omega) hk17
      have hpow17 : k = 17 → 2 ^ k = 131072 := fun h => by subst h; rfl
      have hpow16 : k ≤ 16 → 2 ^ k ≤ 65536 := fun h => Nat.pow_le_pow_right (n := 2) (j := 16) (by omega) h
      have hpows : 2 ^ (k + 1) = 2 * 2 ^ k := by rw [Nat.pow_succ, Nat.mul_comm]
      obtain ⟨M, hM⟩ : ∃ M, M = 2 ^ k := ⟨_, rfl⟩
      obtain ⟨M', hM'⟩ : ∃ M', M' = 2 ^ (k + 1) := ⟨_, rfl⟩
      rw [← hM'] at hpows
      rw [← hM] at hpow hpow17 hpow16 hpows ⊢
      have HM := Lib.hid hM
      have HM' := Lib.hid hM'
      have Hpows := Lib.hid hpows
      clear hM hM' hpows
      by_cases hgo : k < n ∧ k ≤ 16
      · obtain ⟨hgo1, hgo2⟩ := hgo
        have hle := hpow16 hgo2
        clear hpow16 hpow17
        go_wp2
        go_round
        case rel => exact ⟨k + 1, by omega, by omega, by go_num, by rw [← HM'.out, Hpows.out]; go_num⟩
        case measure => simp [intOf]; omega
      · by_cases hmost : most < (M : Int)
        · have Hm := Lib.hid (show msubs s most = ([], 5) by
            unfold msubs
            rw [if_neg (by omega), ← Hn.out]
            rw [if_pos]
            by_cases h16 : 16 < n
            · exact .inl h16
            · have e : k = n := by omega
              rw [← e, ← HM.out]; exact .inr hmost)
          by_cases hkn : k < n
          · have h17 := hpow17 (by omega)
            have H17 := Lib.hid h17
            have hbig : ¬ M ≤ 65536 := by omega
            clear hpow16 hpow17 h17
            go_wp2
            go_ret2
            exact ⟨.slice none 0 0, by rw [Hm.out]; rfl, by rw [Hm.out]; exact World.ownsRow_nil _ _ _ _, hb⟩
          · clear hpow16 hpow17
            go_wp2
            go_ret2
            exact ⟨.slice none 0 0, by rw [Hm.out]; rfl, by rw [Hm.out]; exact World.ownsRow_nil _ _ _ _, hb⟩
        · have hkn : ¬ k < n := fun h => by have := hpow17 (by omega); omega
          have hkn' : k = n := by omega
          have Hm := Lib.hid (show msubs s most = (subsL s, 0) by
            unfold msubs
            rw [if_neg (by omega), ← Hn.out, if_neg]
            rintro (h | h)
            · have := hpow17 (by omega); omega
            · rw [← hkn', ← HM.out] at h; omega)
          have hM16 : M ≤ 65536 := by omega
          have HMn := Lib.hid (show M = 2 ^ n by rw [← hkn', HM.out])
          clear hpow16 hpow17 hkn'
          go_wp2
          go_loopw [9, 10] (fun v c wr => ∃ m : Nat, m ≤ M ∧ c = .int .i64 m ∧ wr.ownsRow w1.heap.size 23 1 v m (vs ((List.range m).map (Mk.dep s))) ∧ Below B w wr ∧ Below w1.heap.size w1 wr) (fun _ c _ => M - (intOf c).toNat)
          case atStart => exact ⟨0, by omega, rfl, World.ownsRow_nil _ _ _ _, hb, Below.refl _ _⟩
          case round =>
            obtain ⟨m, hmM, rfl, hown, hbB, hb1⟩ := hrel
            have hsz := hbB.size
            have hBs : B ≤ wr.heap.size := by rw [HB.out]; exact hsz
            have hsz1 := hb1.size
            have hB1 : B ≤ w1.heap.size := by rw [HB.out]; exact hs1
            by_cases hlt : m < M
            · have hsn : vs ((List.range m).map (Mk.dep s)) ++ [.int .u64 (iv (Mk.dep s m))] = vs ((List.range (m + 1)).map (Mk.dep s)) := by
                rw [List.range_succ, List.map_append, List.map_cons, List.map_nil, vs_snoc]
              have Hsn := Lib.hid hsn
              clear hsn
              go_wp2
              go_loop [11, 12] (fun u j => ∃ i : Nat, i ≤ n ∧ j = .int .i64 i ∧ u = .int .u64 (iv (depTo s m i))) (fun _ j => n - (intOf j).toNat)
              case atStart => exact ⟨0, by omega, rfl, by rw [depTo_zero]; rfl⟩
              case round =>
                obtain ⟨i, hin, rfl, rfl⟩ := hrel
                have hdep := depTo_all s m
                rw [← Hn.out] at hdep
                have Hdep := Lib.hid hdep
                clear hdep
                by_cases hin2 : i < n
                · have hil : i < (Mk.elems s).length := by have := Hn.out; omega
                  have hsucc := depTo_succ s m i hil
                  obtain ⟨b, off, rfl, hblt, hc⟩ := HSL.out.nat hil
                  have hc2 := (hb1.cell (p := ⟨b, off + i, none⟩) hblt).trans hc
                  obtain ⟨x, hx⟩ : ∃ x, x = (Mk.elems s)[i] := ⟨_, rfl⟩
                  rw [← hx] at hsucc hc2
                  have h64 : i < 64 := by omega
                  clear hc hx
                  cases hbit : m.testBit i with
                  | false =>
                    have hS : depTo s m (i + 1) = depTo s m i := by rw [hsucc, if_neg (by rw [hbit]; simp)]
                    have HS := Lib.hid hS
                    clear hsucc hS
                    go_wp2_with (go_at_call 99; refine (c_refHasN m i _ (by omega)).mono ?_; rintro e w' ⟨rfl, rfl⟩)
                    go_round
                    case rel => exact ⟨i + 1, by omega, by go_num, by rw [HS.out]⟩
                    case measure => simp [intOf]; omega
                  | true =>
                    have hS : depTo s m (i + 1) = wth (depTo s m i) x := by rw [hsucc, if_pos hbit]
                    have HS := Lib.hid hS
                    clear hsucc hS
                    go_wp2_with (first | (go_at_call 99; refine (c_refHasN m i _ (by omega)).mono ?_; rintro e w' ⟨rfl, rfl⟩) | (go_at_call 97; refine (c_refWith _ _ _).mono ?_; rintro e w' ⟨rfl, rfl⟩))
                    go_round
                    case rel => exact ⟨i + 1, by omega, by go_num, by rw [HS.out]⟩
                    case measure => simp [intOf]; omega
                · obtain rfl : i = n := by omega
                  rw [Hdep.out]
                  go_wp2_with (at_builtin; refine wpList_append_own _ rfl _ _ 39 rfl w1.heap.size 23 i0 (.int .u64 0) 1 8 Tryd.underlying39 hi hz0 hz1 hz2 rfl (by decide) _ _ _ rfl (hown.alloc _) ⟨wr.heap.size, 0, none⟩ 1 1 [.int .u64 (iv (Mk.dep s m))] rfl rfl (cell_one_new _ _ _) (by simp [Value.oneCell']) (by unfold maxLen; omega) (by omega) (by simp; omega) ?_; intro v' w2 hown' hgrow _)
                  have hch := app_chg hown hgrow
                  have hb2 := hbB.trans (hch.below (B := B) hBs (by intro k hk; omega))
                  have hb3 := hb1.trans (hch.below (B := w1.heap.size) hsz1 (by intro k hk; omega))
                  rw [Hsn.out] at hown'
                  go_roundw
                  case rel => exact ⟨m + 1, by omega, by go_num, hown', hb2, hb3⟩
                  case measure => simp [intOf]; omega
            · obtain rfl : m = M := by omega
              have hall : (List.range m).map (Mk.dep s) = subsL s := by unfold subsL; rw [← Hn.out, ← HMn.out]
              rw [hall] at hown
              have hl : (subsL s).length = m := by rw [← hall]; simp
              have Hl := Lib.hid hl
              clear hall hl
              go_wp2
              go_ret2
              refine ⟨_, by rw [Hm.out]; rfl, ?_, hbB⟩
              rw [Hm.out]
              simp only [Hl.out]
              exact ownsRow_base hown hB1
end Go.Proofs.YtgegmoedgegkcaaDoor
