/-
  seisinlaw01.MarksBack returns true for every set and every list of bytes, if the library table is laid.
-/
import Derived.Test.YtgegmoedgegkcaaDoorLNext
namespace Go.Proofs.YtgegmoedgegkcaaDoor
open Go.RowKit

theorem vn_vi (l : List Nat) : vn l = vi (l.map fun (x : Nat) => (x : Int)) := by simp [vn, vi]
theorem has_orTo (t : BitVec 64) (l : List Int) (j : Nat) (h : ∀ x ∈ l, okI x = true) : has (orTo t l) j = (has t j || l.any fun x => decide (x = (j : Int))) := by
  induction l generalizing t with
  | nil => simp [orTo]
  | cons a l ih =>
    have ha := h a (by simp)
    unfold okI at ha
    simp only [Bool.and_eq_true, decide_eq_true_eq] at ha
    have e : orTo t (a :: l) = orTo (t ||| 1#64 <<< a.toNat) l := rfl
    rw [e, ih _ (fun x hx => h x (by simp [hx])), has_or, has_one _ _ (by omega), List.any_cons, Bool.or_assoc]
    congr 2
    rw [decide_eq_decide]; omega
theorem mof_elems (s : BitVec 64) : mof ((Mk.elems s).map fun (x : Nat) => (x : Int)) = some s := by
  have hok : ∀ x ∈ ((Mk.elems s).map fun (x : Nat) => (x : Int)), okI x = true := by
    intro x hx
    obtain ⟨n, hn, rfl⟩ := List.mem_map.1 hx
    have := Mk.elems_lt hn
    simp [okI]; omega
  unfold mof
  rw [if_pos (List.all_eq_true.2 hok)]
  congr 1
  apply Mk.has_ext'
  intro j
  rw [has_orTo _ _ _ hok, has_zero, Bool.false_or, Bool.eq_iff_iff, List.any_eq_true]
  constructor
  · rintro ⟨x, hx, hj⟩
    obtain ⟨n, hn, rfl⟩ := List.mem_map.1 hx
    have : n = j := by have := of_decide_eq_true hj; omega
    subst this; exact Mk.mem_elems.1 hn
  · intro h
    exact ⟨(j : Int), List.mem_map.2 ⟨j, Mk.mem_elems.2 h, rfl⟩, by simp⟩

/-- The cells of a list of bytes. -/
def vb (l : List Int) : List Value := l.map (Value.int .u8)
theorem SlAt.byte {w : World} {N : Nat} {ad : Option Addr} {xs : List Int} (h : SlAt w N ad (vb xs)) {j : Nat} (hj : j < xs.length) :
    ∃ b off, ad = some ⟨b, off, none⟩ ∧ b < N ∧ w.cell? ⟨b, off + j, none⟩ = some (.int .u8 xs[j]) :=
  h j _ (by simp [vb, hj])
theorem vi_snoc (l : List Int) (x : Int) : vi (l ++ [x]) = vi l ++ [.int .i64 x] := by simp [vi]
/-- What is left of bytes below 64. -/
def mod64 (l : List Int) : List Int := l.map fun x => x % 64
theorem mod64_succ (l : List Int) (k : Nat) (h : k < l.length) : mod64 (l.take (k + 1)) = mod64 (l.take k) ++ [l[k] % 64] := by
  unfold mod64
  rw [List.take_succ_eq_append_getElem h, List.map_append, List.map_cons, List.map_nil]
theorem orTo_snoc (t : BitVec 64) (l : List Int) (x : Int) : orTo t (l ++ [x]) = orTo t l ||| 1#64 <<< x.toNat := by
  unfold orTo; rw [List.foldl_append]; rfl
theorem mof_mod64 (l : List Int) : mof (mod64 l) = some (orTo 0#64 (mod64 l)) := by
  unfold mof
  rw [if_pos]
  rw [List.all_eq_true]
  intro x hx
  obtain ⟨y, _, rfl⟩ := List.mem_map.1 hx
  simp [okI]; omega

set_option maxRecDepth 8000 in
set_option maxHeartbeats 1000000 in
/-- **MarksBack.** -/
theorem w_MarksBack (s : BitVec 64) (ad : Option Addr) (n c : Nat) (bs : List Int) (w : World) (hT : Tab w) (hn : bs.length = n) (hmax : n ≤ maxLen) (hx : SlAt w w.heap.size ad (vb bs)) (hbs : ∀ x ∈ bs, 0 ≤ x ∧ x ≤ 255) :
    Calls Tryd.prog 4 #[.int .u64 (iv s), .slice ad n c] w fun e w' => e = .returned (.bool true) ∧ Below w.heap.size w w' := by
  obtain ⟨i0, hi, hz0, hz1, hz2⟩ := info_parts Tryd.info3
  unfold maxLen at hmax
  have hn64 := Mk.elems_length_le s
  have HList := Lib.hid (fun w hT => c_List s w hT)
  have hof : ∀ ad n c w N, (Mk.elems s).length = n → SlAt w N ad (vn (Mk.elems s)) → Calls Tryd.prog 25 #[.slice ad n c] w fun e w' => e = .returned (.tuple #[.int .u64 (iv s), .int .i64 0]) ∧ w = w' := by
    intro ad n c w N hn hx
    rw [vn_vi] at hx
    have h := c_Of ad n c _ w N (by simpa using hn) (by unfold maxLen; omega) hx
    rw [mof_elems] at h
    exact h
  have helem : ∀ k (h : k < (Mk.elems s).length), (Mk.elems s)[k] < 64 ∧ has s (Mk.elems s)[k] = true ∧ ∀ h2 : k - 1 < (Mk.elems s).length, 0 < k → (Mk.elems s)[k - 1] < (Mk.elems s)[k] := fun k h =>
    ⟨Mk.elems_lt (List.getElem_mem h), Mk.has_at s h, fun h2 h3 => List.pairwise_iff_getElem.1 (Mk.elems_sorted s) (k - 1) k h2 h (by omega)⟩
  obtain ⟨l, hl⟩ : ∃ l, l = Mk.elems s := ⟨_, rfl⟩
  have HLen := Lib.hid (fun w hT => c_Len s w hT)
  rw [← hl] at HList hn64 helem hof HLen
  obtain ⟨m, hm⟩ : ∃ m, m = l.length := ⟨_, rfl⟩
  rw [← hm] at HList hn64 hof HLen
  have Hm := Lib.hid hm
  have HE := Lib.hid helem
  have HOf := Lib.hid hof
  have HX := Lib.hid hx
  have Hn := Lib.hid hn
  have HBS := Lib.hid hbs
  have hB := Below.refl w.heap.size w
  clear hm helem hof hx hn hbs hl
  by_cases hbig : 100 < n
  · go_enter Tryd.func4, Tryd.ntmps4
    go_wp2_with (first | (go_at_call 30; (with_reducible refine (HList.out _ (by assumption)).mono ?_); rintro e w1 ⟨v, rfl, hown, hb⟩; obtain ⟨ad1, cap, rfl, hsl⟩ := SlAt.of_owns hown; have HSL := Lib.hid hsl; clear hsl hown; have hB1 := Below.refl w1.heap.size w1; have hT := Tab.below' hb (by assumption); have hB := Below.chain (by assumption : Below w.heap.size w _) hb; clear hb) | (go_at_call 25; (with_reducible refine (HOf.out _ _ _ _ _ rfl HSL.out).mono ?_); rintro e wn ⟨rfl, rfl⟩) | (go_at_call 32; (with_reducible refine (HLen.out _ (by assumption)).mono ?_); rintro e wn ⟨rfl, hb⟩; have hT := Tab.below' hb (by assumption); have hB := Below.chain (by assumption : Below w.heap.size w _) hb; clear hb) | (go_at_call 24; (with_reducible refine (c_awake1 _ (by assumption)).mono ?_); rintro e wn ⟨rfl, hb⟩; have hT := Tab.below' hb (by assumption); have hB := Below.chain (by assumption : Below w.heap.size w _) hb; clear hb))
    go_ret
    exact ⟨rfl, by assumption⟩
  · go_enter Tryd.func4, Tryd.ntmps4
    go_wp2_with (first | (go_at_call 30; (with_reducible refine (HList.out _ (by assumption)).mono ?_); rintro e w1 ⟨v, rfl, hown, hb⟩; obtain ⟨ad1, cap, rfl, hsl⟩ := SlAt.of_owns hown; have HSL := Lib.hid hsl; clear hsl hown; have hB1 := Below.refl w1.heap.size w1; have hT := Tab.below' hb (by assumption); have hB := Below.chain (by assumption : Below w.heap.size w _) hb; clear hb) | (go_at_call 25; (with_reducible refine (HOf.out _ _ _ _ _ rfl HSL.out).mono ?_); rintro e wn ⟨rfl, rfl⟩) | (go_at_call 32; (with_reducible refine (HLen.out _ (by assumption)).mono ?_); rintro e w2 ⟨rfl, hb⟩; have hB1 := Below.chain (by assumption : Below w1.heap.size w1 _) hb; have hT := Tab.below' hb (by assumption); have hB := Below.chain (by assumption : Below w.heap.size w _) hb; clear hb))
    go_loopw [59] (fun i wr => ∃ k : Nat, k ≤ m ∧ i = .int .i64 k ∧ wr = w2) (fun i _ => m - (intOf i).toNat)
    case atStart => exact ⟨0, by omega, rfl, rfl⟩
    case round =>
      obtain ⟨k, hk, rfl, rfl⟩ := hrel
      by_cases hlt : k < m
      · have hkl : k < l.length := by have := Hm.out; omega
        obtain ⟨h64, hhas, hprev⟩ := HE.out k hkl
        obtain ⟨b, off, rfl, hblt, hc0⟩ := HSL.out.nat (j := k) (by exact hkl)
        have hB1 : Below w1.heap.size w1 wr := by assumption
        have hc := (hB1.cell (p := ⟨b, off + k, none⟩) hblt).trans hc0
        by_cases hk0 : 0 < k
        · have hkl2 : k - 1 < l.length := by omega
          have hlt2 := hprev hkl2 hk0
          obtain ⟨b', off', e', _, hc0'⟩ := HSL.out.nat (j := k - 1) (by exact hkl2)
          obtain ⟨rfl, rfl⟩ : b = b' ∧ off = off' := by simpa using e'
          have hc' := (hB1.cell (p := ⟨b, off + (k - 1), none⟩) hblt).trans hc0'
          obtain ⟨x, hx⟩ : ∃ x, x = l[k] := ⟨_, rfl⟩
          obtain ⟨y, hy⟩ : ∃ y, y = l[k - 1] := ⟨_, rfl⟩
          rw [← hx] at h64 hhas hc hlt2
          rw [← hy] at hc' hlt2
          clear hprev hc0 hc0' e' hx hy
          go_wp2
          go_roundw
          case rel => exact ⟨k + 1, by omega, by go_num, trivial⟩
          case measure => simp [intOf]; omega
        · obtain ⟨x, hx⟩ : ∃ x, x = l[k] := ⟨_, rfl⟩
          rw [← hx] at h64 hhas hc
          clear hprev hc0 hx
          have hd : decide (0 < k) = false := by simpa using hk0
          go_wp2
          go_roundw
          case rel => exact ⟨k + 1, by omega, by go_num, trivial⟩
          case measure => simp [intOf]; omega
      · obtain ⟨wo, rfl⟩ : ∃ wo : World, wo = wr := ⟨_, rfl⟩
        have hB : Below w.heap.size w wo := by assumption
        have hT : Tab wo := by assumption
        clear hk
        go_wp2
        go_loopw [10, 11, 93] (fun v u i wr => ∃ k : Nat, k ≤ n ∧ i = .int .i64 k ∧ u = .int .u64 (iv (orTo 0#64 (mod64 (bs.take k)))) ∧ wr.ownsRow wo.heap.size 3 1 v k (vi (mod64 (bs.take k))) ∧ Below wo.heap.size wo wr) (fun _ _ i _ => n - (intOf i).toNat)
        case atStart => exact ⟨0, by omega, rfl, rfl, World.ownsRow_nil _ _ _ _, Below.refl _ _⟩
        case round =>
          obtain ⟨k, hk, rfl, rfl, hown, hBq⟩ := hrel
          have hsz := hBq.size
          by_cases hlt : k < n
          · have hkl : k < bs.length := by have := Hn.out; omega
            have hsucc := mod64_succ bs k hkl
            obtain ⟨hx0, hx1⟩ := HBS.out bs[k] (List.getElem_mem hkl)
            obtain ⟨b, off, rfl, hblt, hc0⟩ := HX.out.byte hkl
            have hB2 : Below w.heap.size w wr := Below.chain hB hBq
            have hc := (hB2.cell (p := ⟨b, off + k, none⟩) hblt).trans hc0
            obtain ⟨x, hx⟩ : ∃ x, x = bs[k] := ⟨_, rfl⟩
            rw [← hx] at hsucc hx0 hx1 hc
            obtain ⟨r, hr⟩ : ∃ r, r = mod64 (bs.take k) := ⟨_, rfl⟩
            rw [← hr] at hsucc hown ⊢
            have Hs := Lib.hid hsucc
            clear hsucc hc0 hx hr
            go_wp2_with (at_builtin; refine wpList_append_own _ rfl _ _ 24 rfl wo.heap.size 3 i0 (.int .i64 0) 1 8 Tryd.underlying24 hi hz0 hz1 hz2 rfl (by decide) _ _ _ rfl (hown.alloc _) ⟨wr.heap.size, 0, none⟩ 1 1 [.int .i64 (x % 64)] rfl rfl (cell_one_new _ _ _) (by simp [Value.oneCell']) (by unfold maxLen; omega) (by omega) (by simp; omega) ?_; intro v' wp hown' hgrow _)
            have hbq2 := hBq.trans ((app_chg hown hgrow).below (B := wo.heap.size) hsz (by intro k hk; omega))
            go_roundw
            case rel => exact ⟨k + 1, by omega, by go_num, by rw [Hs.out, orTo_snoc], by rw [Hs.out, vi_snoc]; exact hown', hbq2⟩
            case measure => simp [intOf]; omega
          · have hkn : bs.take k = bs := List.take_of_length_le (by have := Hn.out; omega)
            have hke : k = n := by omega
            rw [hkn] at hown ⊢
            obtain ⟨ad2, cap2, rfl, hsl2⟩ := SlAt.of_owns hown
            have hlen2 : (mod64 bs).length = k := by unfold mod64; rw [List.length_map, Hn.out, hke]
            have hof2 := fun w N hx => c_Of ad2 k cap2 (mod64 bs) w N hlen2 (by unfold maxLen; omega) hx
            rw [mof_mod64] at hof2
            obtain ⟨t, ht⟩ : ∃ t, t = orTo 0#64 (mod64 bs) := ⟨_, rfl⟩
            rw [← ht] at hof2 ⊢
            have HOF2 := Lib.hid (show ∀ w N, SlAt w N ad2 (vi (mod64 bs)) → Calls Tryd.prog 25 #[.slice ad2 k cap2] w fun e w' => e = .returned (.tuple #[.int .u64 (iv t), .int .i64 0]) ∧ w = w' from hof2)
            have HSL2 := Lib.hid hsl2
            have hT2 : Tab wr := hT.below hBq
            have hB2 : Below w.heap.size w wr := Below.chain hB hBq
            clear hof2 hsl2 hkn hke ht hlen2 hown hT
            go_wp2_with (first | (go_at_call 25; (with_reducible refine (HOF2.out _ _ HSL2.out).mono ?_); rintro e wn ⟨rfl, rfl⟩) | (go_at_call 24; (with_reducible refine (c_awake1 _ (by assumption)).mono ?_); rintro e wn ⟨rfl, hb⟩; have hT := Tab.below' hb (by assumption); have hB := Below.chain (by assumption : Below w.heap.size w _) hb; clear hb))
            go_ret
            exact ⟨rfl, by assumption⟩
end Go.Proofs.YtgegmoedgegkcaaDoor
