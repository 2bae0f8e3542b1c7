/-
  seisinlaw01.awake returns true, if the library table is laid.
-/
import Derived.Test.YtgegmoedgegkcaaDoorAw1
namespace Go.Proofs.YtgegmoedgegkcaaDoor
open Go.RowKit

set_option maxRecDepth 8000 in
set_option maxHeartbeats 1000000 in
theorem c_awake1 (w : World) (hT : Tab w) : Calls Tryd.prog 24 #[] w fun e w' => e = .returned (.bool true) ∧ Below w.heap.size w w' := by
  have HT := Lib.hid hT
  clear hT
  go_enter Tryd.func24, Tryd.ntmps24
  go_wp2_with fail
  refine (a_Of1 _ _ _ (by exact SlAt.new' (by simp))).mono ?_; rintro e w' ⟨rfl, rfl⟩
  go_wp2_with fail
  refine (a_Of2 _ _ _ (by exact SlAt.new' (by simp))).mono ?_; rintro e w' ⟨rfl, rfl⟩
  go_wp2_with fail
  have hb0 : ∀ o1 o2, Below w.heap.size w ((w.alloc o1).alloc o2) := fun o1 o2 => ((Below.refl _ w).alloc (Nat.le_refl _) o1).alloc (by simp) o2
  refine (a_Subsets1 _ (HT.out.below (hb0 _ _))).mono ?_; rintro e w1 ⟨ad, c, rfl, hs1, hb1⟩
  have hB1 : Below w.heap.size w w1 := (hb0 _ _).trans (hb1.mono (by simp; omega))
  have HS1 := Lib.hid hs1
  have HB1 := Lib.hid hB1
  have HT1 := Lib.hid (HT.out.below hB1)
  clear hb0 hb1 hs1 hB1
  go_wp2_with fail
  refine (a_Subsets2 _ HT1.out).mono ?_; rintro e w2 ⟨v, rfl, hb2⟩
  have HB2 := Lib.hid hb2
  have HT2 := Lib.hid (HT1.out.below hb2)
  clear hb2
  go_wp2_with fail
  have hsz2 := HB2.out.size
  refine (a_Sets _ _ _ _ _ (w2.heap.size + 1) (by exact (HS1.out.below (HB2.out.alloc HB2.out.size _)).mono (by omega)) (by exact SlAt.new' rfl)).mono ?_
  rintro e w' ⟨rfl, d1, rfl⟩
  go_wp2_with fail
  refine (a_All1 _).mono ?_; rintro e w' ⟨rfl, rfl⟩
  go_wp2_with fail
  have hb3 : ∀ o, Below w2.heap.size w2 ((w2.alloc o).drewN d1) := fun o => below_drewN ((Below.refl _ w2).alloc (Nat.le_refl _) o) d1
  refine (a_List _ (HT2.out.below (hb3 _))).mono ?_; rintro e w3 ⟨ad3, c3, rfl, hs3, hb4⟩
  have hB3 : Below w2.heap.size w2 w3 := (hb3 _).trans (hb4.mono (by simp))
  have HS3 := Lib.hid hs3
  have HB3 := Lib.hid hB3
  have HT3 := Lib.hid (HT2.out.below hB3)
  clear hb3 hb4 hs3 hB3
  go_wp2_with fail
  have hsz3 := HB3.out.size
  refine (a_Ints _ _ _ _ _ (w3.heap.size + 1) (by exact (HS3.out.below ((Below.refl _ w3).alloc (Nat.le_refl _) _)).mono (by omega)) (by exact SlAt.new' rfl)).mono ?_
  rintro e w' ⟨rfl, d2, rfl⟩
  go_wp2_with fail
  refine (a_All2 _).mono ?_; rintro e w' ⟨rfl, rfl⟩
  go_wp2_with fail
  have HBs := Lib.hid (Below.chain (Below.chain (Below.chain HB1.out HB2.out) HB3.out) (below_drewN ((Below.refl w3.heap.size w3).alloc (Nat.le_refl _) (.cells #[.int .i64 0, .int .i64 1, .int .i64 2] 3)) d2))
  refine (c_is' 1 _).mono ?_; rintro e w10 ⟨b10, rfl, hc, hlt, hb⟩
  have HB10 := Lib.hid (Below.chain HBs.out hb)
  have HC10 := Lib.hid hc
  have HL10 := Lib.hid hlt
  have HT10 := Lib.hid (HT.out.below HB10.out)
  clear hc hlt hb
  go_wp2_with fail
  refine (a_First _ HT10.out).mono ?_; rintro e w11 ⟨rfl, hb⟩
  have HB11 := Lib.hid (Below.chain HB10.out hb)
  have HC11 := Lib.hid ((hb.cell (p := ⟨b10, 0, none⟩) HL10.out).trans HC10.out)
  clear hb
  go_wp2_with fail
  refine (c_is_yes b10 1 (by decide) _ HC11.out).mono ?_; rintro e w' ⟨rfl, rfl⟩
  go_wp2_with fail
  refine (c_is' 5 _).mono ?_; rintro e w12 ⟨b12, rfl, hc, hlt, hb⟩
  have HB12 := Lib.hid (Below.chain HB11.out hb)
  have HC12 := Lib.hid hc
  have HL12 := Lib.hid hlt
  have HT12 := Lib.hid (HT.out.below HB12.out)
  clear hc hlt hb
  go_wp2_with fail
  refine (a_Next1 _ HT12.out).mono ?_; rintro e w13 ⟨rfl, hb⟩
  have HB13 := Lib.hid (Below.chain HB12.out hb)
  have HC13 := Lib.hid ((hb.cell (p := ⟨b12, 0, none⟩) HL12.out).trans HC12.out)
  clear hb
  go_wp2_with fail
  refine (c_is_yes b12 5 (by decide) _ HC13.out).mono ?_; rintro e w' ⟨rfl, rfl⟩
  go_wp2_with fail
  refine (c_is' 1 _).mono ?_; rintro e w14 ⟨b14, rfl, hc, hlt, hb⟩
  have HB14 := Lib.hid (Below.chain HB13.out hb)
  have HC14 := Lib.hid hc
  have HL14 := Lib.hid hlt
  have HT14 := Lib.hid (HT.out.below HB14.out)
  clear hc hlt hb
  go_wp2_with fail
  refine (a_Next2 _ HT14.out).mono ?_; rintro e w15 ⟨rfl, hb⟩
  have HB15 := Lib.hid (Below.chain HB14.out hb)
  have HC15 := Lib.hid ((hb.cell (p := ⟨b14, 0, none⟩) HL14.out).trans HC14.out)
  clear hb
  go_wp2_with fail
  refine (c_is_yes b14 1 (by decide) _ HC15.out).mono ?_; rintro e w' ⟨rfl, rfl⟩
  go_wp2_with fail
  refine (c_is' (-1) _).mono ?_; rintro e w16 ⟨b16, rfl, hc, hlt, hb⟩
  have HB16 := Lib.hid (Below.chain HB15.out hb)
  have HC16 := Lib.hid hc
  have HL16 := Lib.hid hlt
  have HT16 := Lib.hid (HT.out.below HB16.out)
  clear hc hlt hb
  go_wp2_with fail
  refine (a_Next3 _ HT16.out).mono ?_; rintro e w17 ⟨rfl, hb⟩
  have HB17 := Lib.hid (Below.chain HB16.out hb)
  have HC17 := Lib.hid ((hb.cell (p := ⟨b16, 0, none⟩) HL16.out).trans HC16.out)
  clear hb
  go_wp2_with fail
  refine (c_is_no b16 (-1) (by decide) _ HC17.out).mono ?_; rintro e w' ⟨rfl, rfl⟩
  go_wp2_with fail
  refine (c_is' 5 _).mono ?_; rintro e w18 ⟨b18, rfl, hc, hlt, hb⟩
  have HB18 := Lib.hid (Below.chain HB17.out hb)
  have HC18 := Lib.hid hc
  have HL18 := Lib.hid hlt
  have HT18 := Lib.hid (HT.out.below HB18.out)
  clear hc hlt hb
  go_wp2_with fail
  refine (a_Pick _ HT18.out).mono ?_; rintro e w19 ⟨rfl, hb⟩
  have HB19 := Lib.hid (Below.chain HB18.out hb)
  have HC19 := Lib.hid ((hb.cell (p := ⟨b18, 0, none⟩) HL18.out).trans HC18.out)
  clear hb
  go_wp2_with fail
  refine (c_is_yes b18 5 (by decide) _ HC19.out).mono ?_; rintro e w' ⟨rfl, rfl⟩
  go_wp2_with fail
  have HT19 := Lib.hid (HT.out.below HB19.out)
  refine (a_Rank1 _ HT19.out).mono ?_; rintro e w20 ⟨rfl, hb⟩
  have HB20 := Lib.hid (Below.chain HB19.out hb)
  have HT20 := Lib.hid (HT.out.below HB20.out)
  clear hb
  go_wp2_with fail
  refine (a_Rank2 _ HT20.out).mono ?_; rintro e w21 ⟨rfl, hb⟩
  have HB21 := Lib.hid (Below.chain HB20.out hb)
  clear hb
  go_wp2_with fail
  go_ret
  exact ⟨rfl, HB21.out⟩
end Go.Proofs.YtgegmoedgegkcaaDoor
