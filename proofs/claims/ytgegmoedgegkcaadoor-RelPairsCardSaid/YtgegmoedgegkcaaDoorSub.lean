/-
  marks.Subsets returns all subsets or the error, for every set and limit, if the library table is laid.
-/
import Derived.Test.YtgegmoedgegkcaaDoorPSub
import Derived.Test.YtgegmoedgegkcaaDoorNext
namespace Go.Proofs
theorem Tryd.info23 : (Tryd.prog.info? 23).map (fun i => (i.zero, i.size, i.bytes)) = some (some (.int .u64 0), 1, 8) := by kernel_rfl
namespace YtgegmoedgegkcaaDoor
open Go.RowKit

/-- All subsets. -/
def subsL (s : BitVec 64) : List (BitVec 64) := (List.range (2 ^ (Mk.elems s).length)).map (Mk.dep s)
/-- marks.Subsets: the list and the error's number. -/
def msubs (s : BitVec 64) (most : Int) : List (BitVec 64) × Int :=
  if 65536 < most then ([], 2) else if 16 < (Mk.elems s).length ∨ most < ((2 ^ (Mk.elems s).length : Nat) : Int) then ([], 5) else (subsL s, 0)

theorem vs_snoc (l : List (BitVec 64)) (x : BitVec 64) : vs (l ++ [x]) = vs l ++ [.int .u64 (iv x)] := by simp [vs]
theorem wrap_pow (n : Nat) (h : n ≤ 16) : wrap64 (2 ^ n) = ((2 ^ n : Nat) : Int) := by
  have h1 : 2 ^ n ≤ 2 ^ 16 := Nat.pow_le_pow_right (by omega) h
  have h2 : ((2 : Int) ^ n) = ((2 ^ n : Nat) : Int) := by rw [Int.natCast_pow]; rfl
  rw [h2]
  have h3 : 2 ^ n ≤ 65536 := h1
  clear h1 h2
  generalize 2 ^ n = M at *
  exact IntWalk.wrap64_in _ ⟨by omega, by omega⟩

set_option maxRecDepth 4000 in
set_option maxHeartbeats 400000 in
/-- marks.Subsets -/
theorem c_Subsets (s : BitVec 64) (most : Int) (w : World) (hT : Tab w) : Calls Tryd.prog 40 #[.int .u64 (iv s), .int .i64 most] w fun e w' =>
    ∃ v, e = .returned (.tuple #[v, .int .i64 (msubs s most).2]) ∧ w'.ownsRow w.heap.size 23 1 v (msubs s most).1.length (vs (msubs s most).1) ∧ Below w.heap.size w w' := by
  obtain ⟨i0, hi, hz0, hz1, hz2⟩ := info_parts Tryd.info23
  obtain ⟨B, hB⟩ : ∃ B, B = w.heap.size := ⟨_, rfl⟩
  rw [← hB]
  have HB := Lib.hid hB
  clear hB
  have hlen := c_Len s w hT
  obtain ⟨n, hn⟩ : ∃ n, n = (Mk.elems s).length := ⟨_, rfl⟩
  rw [← hn] at hlen
  have HL := Lib.hid hlen
  clear hlen
  have hn64 : n ≤ 64 := by rw [hn]; exact Mk.elems_length_le s
  by_cases h1 : 65536 < most
  · have Hm := Lib.hid (show msubs s most = ([], 2) from if_pos h1)
    clear hn
    go_enter Tryd.func40, Tryd.ntmps40
    go_wp2_with (go_at_call 32; refine HL.out.mono ?_; rintro e w' ⟨rfl, hb⟩)
    go_ret2
    rw [← HB.out] at hb
    exact ⟨.slice none 0 0, by rw [Hm.out]; rfl, by rw [Hm.out]; exact World.ownsRow_nil _ _ _ _, hb⟩
  · by_cases h2 : 16 < n
    · have Hm := Lib.hid (show msubs s most = ([], 5) by unfold msubs; rw [if_neg h1, if_pos (.inl (by omega))])
      clear hn
      go_enter Tryd.func40, Tryd.ntmps40
      go_wp2_with (go_at_call 32; refine HL.out.mono ?_; rintro e w' ⟨rfl, hb⟩)
      go_ret2
      rw [← HB.out] at hb
      exact ⟨.slice none 0 0, by rw [Hm.out]; rfl, by rw [Hm.out]; exact World.ownsRow_nil _ _ _ _, hb⟩
    · have hp := wrap_pow n (by omega)
      obtain ⟨M, hM⟩ : ∃ M, M = 2 ^ n := ⟨_, rfl⟩
      rw [← hM] at hp
      by_cases h3 : most < (M : Int)
      · have Hm := Lib.hid (show msubs s most = ([], 5) by unfold msubs; rw [if_neg h1, if_pos (.inr (by rw [← hn, ← hM]; exact h3))])
        clear hn hM
        go_enter Tryd.func40, Tryd.ntmps40
        go_wp2_with (go_at_call 32; refine HL.out.mono ?_; rintro e w' ⟨rfl, hb⟩)
        go_ret2
        rw [← HB.out] at hb
        exact ⟨.slice none 0 0, by rw [Hm.out]; rfl, by rw [Hm.out]; exact World.ownsRow_nil _ _ _ _, hb⟩
      · have Hm := Lib.hid (show msubs s most = (subsL s, 0) by unfold msubs; rw [if_neg h1, if_neg (by rw [← hn, ← hM]; omega)])
        have hM16 : M ≤ 65536 := by rw [hM]; have : 2 ^ n ≤ 2 ^ 16 := Nat.pow_le_pow_right (by omega) (by omega); omega
        have Hn := Lib.hid hn
        have HM := Lib.hid hM
        clear hn hM
        go_enter Tryd.func40, Tryd.ntmps40
        go_wp2_with (go_at_call 32; refine HL.out.mono ?_; rintro e w' ⟨rfl, hb⟩; rw [← HB.out] at hb)
        go_loopw [7, 8] (fun v u wr => ∃ k : Nat, k < M ∧ u = .int .u64 (iv (Mk.dep s k)) ∧ wr.ownsRow B 23 1 v ((List.range k).map (Mk.dep s)).length (vs ((List.range k).map (Mk.dep s))) ∧ Below B w wr) (fun _ u _ => (2 ^ 64 - intOf u).toNat)
        case atStart =>
          exact ⟨0, by rw [HM.out]; exact Nat.two_pow_pos _, by rw [Mk.dep_zero]; rfl, World.ownsRow_nil _ _ _ _, hb⟩
        case round =>
          obtain ⟨k, hk, rfl, hown, hbel⟩ := hrel
          have hsz := hbel.size
          have hBs : B ≤ wr.heap.size := by rw [HB.out]; exact hsz
          rw [List.length_map, List.length_range] at hown
          have hsn : vs ((List.range k).map (Mk.dep s)) ++ [.int .u64 (iv (Mk.dep s k))] = vs ((List.range (k + 1)).map (Mk.dep s)) := by
            rw [List.range_succ, List.map_append, List.map_cons, List.map_nil, vs_snoc]
          have Hsn := Lib.hid hsn
          clear hsn
          by_cases hlast : k + 1 = M
          · have hd : Mk.dep s k = s := by
              have := Mk.dep_all s
              rw [← Hn.out, ← HM.out, ← hlast] at this; exact this
            have hall : (List.range (k + 1)).map (Mk.dep s) = subsL s := by unfold subsL; rw [← Hn.out, ← HM.out, hlast]
            rw [hd] at Hsn
            have Hall := Lib.hid hall
            clear hall hlast
            rw [hd]
            clear hd
            go_wp2_with (at_builtin; refine wpList_append_own _ rfl _ _ 39 rfl B 23 i0 (.int .u64 0) 1 8 Tryd.underlying39 hi hz0 hz1 hz2 rfl (by decide) _ _ _ rfl (hown.alloc _) ⟨wr.heap.size, 0, none⟩ 1 1 [.int .u64 (iv s)] rfl rfl (cell_one_new _ _ _) (by simp [Value.oneCell']) (by unfold maxLen; omega) (by omega) (by simp; omega) ?_; intro v' w1 hown' hgrow _)
            have hb2 := hbel.trans ((app_chg hown hgrow).below (B := B) hBs (by intro k hk; omega))
            go_ret2
            rw [Hsn.out, Hall.out] at hown'
            refine ⟨v', by rw [Hm.out]; rfl, ?_, hb2⟩
            rw [Hm.out]
            have e : (subsL s).length = k + 1 := by rw [← Hall.out]; simp
            rw [e]; exact hown'
          · obtain ⟨e1, e2, e3⟩ := Mk.dep_succ s k (by rw [← Hn.out, ← HM.out]; omega)
            have hne : (Mk.dep s k == s) = false := by simpa using e2
            obtain ⟨t, ht⟩ : ∃ t, t = Mk.dep s k := ⟨_, rfl⟩
            obtain ⟨t', ht'⟩ : ∃ t', t' = Mk.dep s (k + 1) := ⟨_, rfl⟩
            rw [← ht] at hne e1 e3 Hsn ⊢
            rw [← ht'] at e1 e3
            have He3 := Lib.hid e3
            have Ht := Lib.hid ht
            have Ht' := Lib.hid ht'
            clear e2 e3 ht ht'
            go_wp2_with (at_builtin; refine wpList_append_own _ rfl _ _ 39 rfl B 23 i0 (.int .u64 0) 1 8 Tryd.underlying39 hi hz0 hz1 hz2 rfl (by decide) _ _ _ rfl (hown.alloc _) ⟨wr.heap.size, 0, none⟩ 1 1 [.int .u64 (iv t)] rfl rfl (cell_one_new _ _ _) (by simp [Value.oneCell']) (by unfold maxLen; omega) (by omega) (by simp; omega) ?_; intro v' w1 hown' hgrow _)
            have hb2 := hbel.trans ((app_chg hown hgrow).below (B := B) hBs (by intro k hk; omega))
            rw [Hsn.out] at hown'
            go_roundw
            case rel => exact ⟨k + 1, by omega, by rw [Ht'.out], by simpa using hown', hb2⟩
            case measure =>
              have := He3.out
              simp only [intOf, iv]
              have := t'.isLt; omega
end YtgegmoedgegkcaaDoor
end Go.Proofs
