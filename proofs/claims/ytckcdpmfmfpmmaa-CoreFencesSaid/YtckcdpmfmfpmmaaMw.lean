/-
  The working state with a buffer of its own, and the methods that execute an instruction: load, move, fence, skip, store.
-/
import Derived.Test.YtckcdpmfmfpmmaaNext
import Derived.Deep.RegionLawGrows
import Derived.ArgAppend
namespace Go.Proofs.Ytckcdpmfmfpmmaa
open Go.RowKit

def SameOrNew (w : World) (v v' : Value) : Prop := v'.ownBlock = v.ownBlock ∨ ∀ g, v'.ownBlock = some g → w.heap.size ≤ g
theorem owned_block {w : World} {base e size n : Nat} {v : Value} {xs : List Value} (h : w.ownsRow base e size v n xs) {g : Nat} (hg : v.ownBlock = some g) : base ≤ g ∧ g < w.heap.size := by
  obtain ⟨_, ⟨rfl, _⟩ | ⟨g', cap, cur, rfl, hb, hh, _⟩⟩ := h
  · simp [Value.ownBlock] at hg
  · simp only [Value.ownBlock, Option.some.injEq] at hg
    subst hg
    exact ⟨hb, (Array.getElem?_eq_some_iff.1 hh).1⟩
theorem owns_of_heap {w w' : World} {base e size n : Nat} {v : Value} {xs : List Value} (h : w.ownsRow base e size v n xs) (hh : ∀ g, v.ownBlock = some g → w'.heap[g]? = w.heap[g]?) : w'.ownsRow base e size v n xs := by
  obtain ⟨hl, h1 | ⟨g, cap, cur, rfl, hb, hg, r⟩⟩ := h
  · exact ⟨hl, .inl h1⟩
  · exact ⟨hl, .inr ⟨g, cap, cur, rfl, hb, (hh g rfl).trans hg, r⟩⟩
section
variable {P : Program} (w : World)
theorem run_append_own2 (base : Nat) (t ty e : TypeId) (i : TypeInfo) (z : Value) (size bytes : Nat) (ht : P.underlying t = some (.slice e)) (hi : P.info? e = some i) (hz : i.zero = some z)
    (hsize : i.size = size) (hby : i.bytes = bytes) (hzs : z.cells.size = size) (hsz : 0 < size)
    (v : Value) (n : Nat) (xs : List Value) (hown : w.ownsRow base e size v n xs)
    (a : Addr) (m c : Nat) (news : List Value) (hl : news.length = m * size) (hnews : ∀ j u, news[j]? = some u → w.cell? (a.add j) = some u) (h1 : ∀ u ∈ news, u.oneCell' = true)
    (h63 : n + m ≤ maxLen) (hbytes : (n + m) * bytes ≤ 140737488355328) (hbase : base ≤ w.heap.size) :
    ∃ v' w', (Builtin.append_ #[t, t] ty #[v, .slice (some a) m c]).run P w = .ok v' w' ∧ w'.ownsRow base e size v' (n + m) (xs ++ news) ∧ w.grownBy w' v.ownBlock ∧ SameOrNew w v v' := by
  obtain ⟨v', w', hr, ho, hg, _⟩ := run_append_own (P := P) w base t ty e i z size bytes ht hi hz hsize hby hzs hsz v n xs hown a m c news hl hnews h1 h63 hbytes hbase
  refine ⟨v', w', hr, ho, hg, ?_⟩
  have hown' := hown
  obtain ⟨_, ⟨rfl, rfl⟩ | ⟨g, cap, cur, rfl, hb, hh, hnc, hcm, hcs, htk⟩⟩ := hown
  · have hx : xs = [] := List.eq_nil_of_length_eq_zero (by simpa using hown'.1)
    subst hx
    obtain ⟨v2, w2, hr2, ho2, _, _⟩ := run_append_own (P := P) w w.heap.size t ty e i z size bytes ht hi hz hsize hby hzs hsz (.slice none 0 0) 0 [] (World.ownsRow_nil w _ e size) a m c news hl hnews h1 h63 hbytes (Nat.le_refl _)
    rw [hr] at hr2
    simp only [Result.ok.injEq] at hr2
    obtain ⟨rfl, rfl⟩ := hr2
    exact .inr fun g hg => (owned_block ho2 hg).1
  · by_cases hroom : n + m ≤ cap
    · subst hsize
      have hr2 := run_append_room_cells (P := P) w t ty e i ht hi g 0 n cap a m c news hl hnews h1 hroom
        (fun j hj => by
          have hlt : 0 + n * i.size + j < cur.size := by
            rw [hcs]
            have : (n + m) * i.size ≤ cap * i.size := Nat.mul_le_mul_right _ hroom
            rw [Nat.add_mul] at this
            omega
          rw [cell_of_row w g _ cur e (0, 0) hh, Array.getElem?_eq_getElem hlt]; rfl)
        (fun j hj => by simp [World.frozen?, hh])
      rw [hr] at hr2
      simp only [Result.ok.injEq] at hr2
      rw [hr2.1]
      exact .inl rfl
    · obtain ⟨v2, w2, hr2, ho2, _⟩ := run_append_arg_grows (P := P) w t ty e i z size bytes ht hi hz hsize hby hzs hsz ⟨g, 0, none⟩ n cap xs hown'.1 (hown'.cells (g := g) rfl) a m c news hl hnews (by omega) h63 hbytes
      rw [hr] at hr2
      simp only [Result.ok.injEq] at hr2
      obtain ⟨rfl, rfl⟩ := hr2
      exact .inr fun g hg => (owned_block ho2 hg).1
end
/-- append onto an own row, as one step of a region that draws. -/
theorem step_append_own2 {P : Program} {ops : Array Oper} {o : Oper} {a : Act} {w : World} {K : Act → World → Prop} {Q : Exit → Act → World → Prop} {E : Prop} (hgd : o.guard = none) (s x : Operand) (t : TypeId)
    (hop : o.op = .call { callee := .builtin .append, args := #[s, x], argTypes := #[t, t] })
    (base : Nat) (e : TypeId) (i : TypeInfo) (z : Value) (size bytes : Nat) (ht : P.underlying t = some (.slice e)) (hi : P.info? e = some i) (hz : i.zero = some z)
    (hsize : i.size = size) (hby : i.bytes = bytes) (hzs : z.cells.size = size) (hsz : 0 < size)
    (v : Value) (n : Nat) (xs : List Value) (hs : a.eval s = v) (hown : w.ownsRow base e size v n xs)
    (ad : Addr) (m c : Nat) (news : List Value) (hx : a.eval x = .slice (some ad) m c) (hl : news.length = m * size) (hnews : ∀ j u, news[j]? = some u → w.cell? (ad.add j) = some u) (h1 : ∀ u ∈ news, u.oneCell' = true)
    (h63 : n + m ≤ maxLen) (hbytes : (n + m) * bytes ≤ 140737488355328) (hbase : base ≤ w.heap.size)
    (h : ∀ v' w', w'.ownsRow base e size v' (n + m) (xs ++ news) → w.grownBy w' v.ownBlock → SameOrNew w v v' → K (a.put o.dst v') w') : if Region.wanted o (yielded ops a.tmps) = true then Oper.wp P o a w K Q else E := by
  have hw : Region.wanted o (yielded ops a.tmps) = true := by simp [Region.wanted, hgd]
  rw [if_pos hw]
  obtain ⟨v', w', hrun, r1, r2, r3⟩ := run_append_own2 (P := P) w base t o.type e i z size bytes ht hi hz hsize hby hzs hsz v n xs hown ad m c news hl hnews h1 h63 hbytes hbase
  unfold Oper.wp
  simp [execOp, hop, resolve, invoke, builtin, hs, hx, hrun, Result.andThen]
  exact h v' w' r1 r2 r3

/-- A working state whose buffer is its own. -/
structure WkS (B : Nat) (w : World) (b : Nat) (k : Wk) (bl : List (Nat × Nat)) : Prop where
  at_ : WkAt w b k
  own : w.ownsRow B 59 2 k.c.buf bl.length (vst bl)
  ne : k.c.buf.ownBlock ≠ some b
  ge : B ≤ b
theorem owns_over {w w' : World} {base e size n : Nat} {v : Value} {xs : List Value} (h : w.ownsRow base e size v n xs) (hb : Below w.heap.size w w') : w'.ownsRow base e size v n xs :=
  owns_of_heap h fun g hg => hb.block g (owned_block h hg).2
namespace WkS
variable {B : Nat} {w w' : World} {b : Nat} {k k' : Wk} {bl : List (Nat × Nat)}
theorem over (h : WkS B w b k bl) (hb : Below w.heap.size w w') : WkS B w' b k bl := ⟨h.at_.over hb, owns_over h.own hb, h.ne, h.ge⟩
theorem left (h : WkS B w b k bl) (hL : Left B w w' b k') (hk : k'.c.buf = k.c.buf) : WkS B w' b k' bl :=
  ⟨hL.at_, by rw [hk]; exact owns_of_heap h.own fun g hg => hL.oth g (owned_block h.own hg).2 (fun e => h.ne (by rw [hg, e])), by rw [hk]; exact h.ne, h.ge⟩
theorem buf (h : WkS B w b k bl) : ∃ ad cap, k.c.buf = .slice ad bl.length cap ∧ StAt w w.heap.size ad bl := StAt.of_owns h.own
end WkS

/-- What is known of a working state's numbers. -/
structure KOk (k : Wk) : Prop where
  pc0 : 0 ≤ k.c.pc
  pc1 : k.c.pc ≤ 255
  r0 : ∀ i, 0 ≤ k.c.r i
  r1 : ∀ i, k.c.r i ≤ 255
  op : 0 ≤ k.x.op
  dst : 0 ≤ k.x.dst
  loc : 0 ≤ k.x.loc ∧ k.x.loc ≤ 255
  an : 0 ≤ k.x.an ∧ k.x.an ≤ 255
  bn : 0 ≤ k.x.bn ∧ k.x.bn ≤ 255
  fn : 0 ≤ k.x.fn ∧ k.x.fn ≤ 255
  skip : 0 ≤ k.x.skip ∧ k.x.skip ≤ 255
theorem argV_bd {c : Cr} (h0 : ∀ i, 0 ≤ c.r i) (h1 : ∀ i, c.r i ≤ 255) {reg : Bool} {n : Int} (hn : 0 ≤ n ∧ n ≤ 255) : 0 ≤ argV c reg n ∧ argV c reg n ≤ 255 := by
  unfold argV
  split
  · split
    · exact ⟨h0 _, h1 _⟩
    · omega
  · exact hn
def Wk.a (k : Wk) : Int := argV k.c k.x.ar k.x.an
def Wk.b (k : Wk) : Int := argV k.c k.x.br k.x.bn
theorem KOk.a {k : Wk} (h : KOk k) : 0 ≤ k.a ∧ k.a ≤ 255 := argV_bd h.r0 h.r1 h.an
theorem KOk.b {k : Wk} (h : KOk k) : 0 ≤ k.b ∧ k.b ≤ 255 := argV_bd h.r0 h.r1 h.bn
/-- The registers, when the destination takes v. -/
def Wk.rset (k : Wk) (v : Int) : Nat → Int := if k.x.dst < 8 then updR k.c.r k.x.dst.toNat v else k.c.r
def Wk.upR (k : Wk) (r : Nat → Int) (v : Value) : Wk := ⟨{ k.c with r := r, buf := v }, k.ins, k.x, k.is⟩
theorem Wk.setR_eq (k : Wk) (v : Int) : k.setR v = k.upR (k.rset v) k.c.buf := by
  unfold Wk.setR Wk.rset Wk.upR
  split <;> rfl
/-- What a method leaves. -/
def MPost (B : Nat) (w : World) (b : Nat) (k : Wk) (r : Nat → Int) (bl : List (Nat × Nat)) (n : Int) (e : Ending) (w' : World) : Prop :=
  e = .returned (.int .i64 n) ∧ (∃ v, WkS B w' b (k.upR r v) bl) ∧ Below B w w' ∧ w.heap.size ≤ w'.heap.size

section
variable {B : Nat} {b : Nat} {k : Wk} {bl : List (Nat × Nat)} {w : World}
theorem co_args (hk : KOk k) (h : WkS B w b k bl) : Calls Try.prog 37 #[.pointer (some ⟨b, 0, none⟩)] w fun e w' => e = .returned (.tuple #[.int .u8 k.a, .int .u8 k.b]) ∧ Below w.heap.size w w' :=
  c_args b k hk.an.1 hk.bn.1 w h.at_
theorem upR_self (k : Wk) : k.upR k.c.r k.c.buf = k := rfl

set_option maxRecDepth 8000 in
theorem c_mload (hk : KOk k) (hn : bl.length ≤ 1000) (h : WkS B w b k bl) : Calls Try.prog 29 #[.pointer (some ⟨b, 0, none⟩)] w fun e w' => MPost B w b k (k.rset ((yng bl k.x.loc.toNat).getD 0 : Nat)) bl 1 e w' := by
  obtain ⟨ad, cap, hv, hst⟩ := h.buf
  obtain ⟨lc, hlc⟩ : ∃ lc : Nat, k.x.loc = lc := ⟨k.x.loc.toNat, (Int.toNat_of_nonneg hk.loc.1).symm⟩
  have hloc := h.at_.loc
  rw [hlc] at hloc
  have HY := Lib.hid (c_young b k ad _ cap bl lc hv rfl (by unfold maxLen; omega) w h.at_ hst)
  have HS := Lib.hid h
  have hd := hk.dst
  have HL := Lib.hid (show k.x.loc.toNat = lc by omega)
  clear hv hst h hlc hk
  go_enter Try.func29, Try.ntmps29
  go_wp2_with (first
    | (go_at_call 41; (with_reducible refine HY.out.mono ?_); rintro e w1 ⟨rfl, hb1⟩; have HS1 := Lib.hid (HS.out.over hb1))
    | (go_at_call 42; (with_reducible refine (c_set b k _ hd B HS.out.ge _ HS1.out.at_).mono ?_); rintro e w2 ⟨rfl, hL⟩))
  go_ret
  have h2 := HS1.out.left hL (by rw [Wk.setR_eq]; rfl)
  rw [Wk.setR_eq] at h2
  refine ⟨rfl, ⟨_, by rw [HL.out]; exact h2⟩, (hb1.mono (Nat.le_trans HS.out.ge (Nat.le_of_lt HS.out.at_.lt))).trans hL.bel, Nat.le_trans hb1.size hL.size⟩

set_option maxRecDepth 8000 in
theorem c_mmove (hk : KOk k) (h : WkS B w b k bl) : Calls Try.prog 31 #[.pointer (some ⟨b, 0, none⟩)] w fun e w' => MPost B w b k (k.rset (cal k.x.fn k.a k.b)) bl 1 e w' := by
  have HA := Lib.hid (co_args hk h)
  have HS := Lib.hid h
  have HK := Lib.hid hk
  clear hk h
  go_enter Try.func31, Try.ntmps31
  go_upto_region 2 with (first
    | (go_at_call 37; (with_reducible refine HA.out.mono ?_); rintro e w1 ⟨rfl, hb1⟩; have HS1 := Lib.hid (HS.out.over hb1)))
  have hfn := HS1.out.at_.fn
  go_wp2_with (first
    | (go_at_call 8; (with_reducible refine (c_Calc _ _ _ HK.out.a HK.out.b _).mono ?_); rintro e w2 ⟨rfl, rfl⟩)
    | (go_at_call 42; (with_reducible refine (c_set b k _ HK.out.dst B HS.out.ge _ HS1.out.at_).mono ?_); rintro e w2 ⟨rfl, hL⟩))
  go_ret
  have h2 := HS1.out.left hL (by rw [Wk.setR_eq]; rfl)
  rw [Wk.setR_eq] at h2
  exact ⟨rfl, ⟨_, h2⟩, (hb1.mono (Nat.le_trans HS.out.ge (Nat.le_of_lt HS.out.at_.lt))).trans hL.bel, Nat.le_trans hb1.size hL.size⟩

theorem c_mfence (h : WkS B w b k bl) : Calls Try.prog 32 #[.pointer (some ⟨b, 0, none⟩)] w fun e w' => MPost B w b k k.c.r bl 1 e w' := by
  have HS := Lib.hid h
  clear h
  go_enter Try.func32, Try.ntmps32
  go_wp2
  go_ret
  exact ⟨rfl, ⟨_, HS.out⟩, Below.refl _ _, Nat.le_refl _⟩

/-- By how many instructions a skip goes on. -/
def Wk.hop (k : Wk) : Int := if tst k.x.fn k.a k.b then 1 + k.x.skip else 1
set_option maxRecDepth 8000 in
theorem c_mskip (hk : KOk k) (h : WkS B w b k bl) : Calls Try.prog 33 #[.pointer (some ⟨b, 0, none⟩)] w fun e w' => MPost B w b k k.c.r bl k.hop e w' := by
  have HA := Lib.hid (co_args hk h)
  have HS := Lib.hid h
  have HK := Lib.hid hk
  have hs0 := hk.skip.1
  have hs1 := hk.skip.2
  clear hk h
  cases ht : tst k.x.fn k.a k.b with
  | true =>
    have HT := Lib.hid (show ∀ w, Calls Try.prog 10 #[.int .u8 k.x.fn, .int .u8 k.a, .int .u8 k.b] w fun e w' => e = .returned (.bool true) ∧ w = w' from fun w => ht ▸ c_Test _ _ _ w)
    have HV := Lib.hid (show k.hop = 1 + k.x.skip by unfold Wk.hop; rw [ht]; rfl)
    clear ht
    go_enter Try.func33, Try.ntmps33
    go_upto_region 2 with (first
      | (go_at_call 37; (with_reducible refine HA.out.mono ?_); rintro e w1 ⟨rfl, hb1⟩; have HS1 := Lib.hid (HS.out.over hb1)))
    have hfn := HS1.out.at_.fn
    have hsk := HS1.out.at_.skip
    go_wp2_with (first
      | (go_at_call 10; (with_reducible refine (HT.out _).mono ?_); rintro e w2 ⟨rfl, rfl⟩))
    go_ret
    exact ⟨by rw [HV.out]; rfl, ⟨_, HS1.out⟩, (hb1.mono (Nat.le_trans HS.out.ge (Nat.le_of_lt HS.out.at_.lt))), hb1.size⟩
  | false =>
    have HT := Lib.hid (show ∀ w, Calls Try.prog 10 #[.int .u8 k.x.fn, .int .u8 k.a, .int .u8 k.b] w fun e w' => e = .returned (.bool false) ∧ w = w' from fun w => ht ▸ c_Test _ _ _ w)
    have HV := Lib.hid (show k.hop = 1 by unfold Wk.hop; rw [ht]; rfl)
    clear ht
    go_enter Try.func33, Try.ntmps33
    go_upto_region 2 with (first
      | (go_at_call 37; (with_reducible refine HA.out.mono ?_); rintro e w1 ⟨rfl, hb1⟩; have HS1 := Lib.hid (HS.out.over hb1)))
    have hfn := HS1.out.at_.fn
    go_wp2_with (first
      | (go_at_call 10; (with_reducible refine (HT.out _).mono ?_); rintro e w2 ⟨rfl, rfl⟩))
    go_ret
    exact ⟨by rw [HV.out]; rfl, ⟨_, HS1.out⟩, (hb1.mono (Nat.le_trans HS.out.ge (Nat.le_of_lt HS.out.at_.lt))), hb1.size⟩

theorem cell_two_new (w : World) (x y : Value) (e : TypeId) : ∀ j u, [x, y][j]? = some u → (w.alloc (.cells #[x, y] e)).cell? ((⟨w.heap.size, 0, none⟩ : Addr).add j) = some u := by
  intro j u hu
  rw [Addr.add_lit, cell_of_row _ _ _ _ _ _ (heap_alloc_new w _)]
  simpa using hu
theorem own_dr {base e size n : Nat} {v : Value} {xs : List Value} (h : w.ownsRow base e size v n xs) (o : Obj) : (w.drew.alloc o).ownsRow base e size v n xs :=
  owns_over h ((below_drewN' (Below.refl w.heap.size w) 1).alloc (Nat.le_refl _) o)
theorem st_of {base n m : Nat} {v v0 : Value} {l : List (Nat × Nat)} {c d : Nat} {w w2 : World} (_ : w.ownsRow base 59 2 v0 n (vst l)) (h : w2.ownsRow base 59 2 v m (vst l ++ [.int .u8 (c : Int), .int .u8 (d : Int)])) : ∃ ad cap, v = .slice ad m cap ∧ StAt w2 w2.heap.size ad (l ++ [(c, d)]) := by
  rw [vst_snoc] at h
  exact StAt.of_owns h
theorem grown_wk {o : Obj} {w w2 : World} {v : Value} (h : WkS B w b k bl) (hv : k.c.buf = v) (hg : (w.drew.alloc o).grownBy w2 v.ownBlock) : WkAt w2 b k := by
  have h1 : WkAt (w.drew.alloc o) b k := h.at_.over ((below_drewN' (Below.refl w.heap.size w) 1).alloc (Nat.le_refl _) o)
  exact ⟨(hg.block b h1.lt (by rw [← hv]; exact fun e => h.ne e.symm)).trans h1.heap⟩
theorem store_end {o : Obj} {w w1 w2 : World} {ad0 ad2 : Option Addr} {cap0 cap2 n : Nat} {x y : Nat} (h0 : WkS B w b k bl) (hb1 : Below w.heap.size w w1) (h1 : WkS B w1 b k bl) (hv : k.c.buf = .slice ad0 bl.length cap0) (ho : w1.ownsRow B 59 2 (.slice ad0 bl.length cap0) bl.length (vst bl)) (hW : WkAt w2 b k)
    (hown : w2.ownsRow B 59 2 (.slice ad2 n cap2) (bl.length + 1) (vst bl ++ [.int .u8 (x : Int), .int .u8 (y : Int)])) (hg : (w1.drew.alloc o).grownBy w2 (Value.slice ad0 bl.length cap0).ownBlock) (hsn : SameOrNew (w1.drew.alloc o) (.slice ad0 bl.length cap0) (.slice ad2 n cap2)) :
    MPost B w b k k.c.r (bl ++ [(x, y)]) 1 (.returned (.int .i64 1)) (w2.setCell ⟨b, 9, none⟩ (.slice ad2 n cap2)) := by
  have hb := h1.at_.lt
  have hBb := h1.ge
  have hne : (Value.slice ad2 n cap2).ownBlock ≠ some b := by
    intro e
    rcases hsn with h | h
    · rw [e] at h; rw [← hv] at h; exact h1.ne h.symm
    · have := h b e
      simp only [World.size_alloc] at this
      have : w1.drew.heap.size = w1.heap.size := rfl
      omega
  rw [vst_snoc, show bl.length + 1 = (bl ++ [(x, y)]).length from (by simp)] at hown
  have hs : w1.drew.heap.size = w1.heap.size := rfl
  refine ⟨rfl, ⟨.slice ad2 n cap2, hW.setBuf _, ?_, hne, hBb⟩, ?_, ?_⟩
  · exact owns_of_heap hown fun g hg => Below.heap_setCell w2 ⟨b, 9, none⟩ _ g (fun e => hne (hg.trans (by rw [e])))
  · have hbw : B ≤ w.heap.size := Nat.le_trans h0.ge (Nat.le_of_lt h0.at_.lt)
    refine (((((hb1.mono hbw).trans ((below_drewN' (Below.refl B w1) 1))).alloc (Nat.le_trans hbw hb1.size) o).grown hg ?_ (fun k hk => (owned_block ho hk).1)).setCell hBb _)
    have h3 := hb1.size
    show B ≤ (w1.drew.alloc o).heap.size
    simp only [World.size_alloc, hs]
    omega
  · have h2 := hg.size
    have h3 := hb1.size
    simp only [World.size_alloc, hs] at h2
    rw [show (w2.setCell ⟨b, 9, none⟩ (.slice ad2 n cap2)).heap.size = w2.heap.size by simp [World.setCell]]
    omega
theorem build59 (a b : Int) (w : World) : (Instr.build 59 #[(0, .int .u8 a), (1, .int .u8 b)]).run Try.prog w = .ok (.agg #[.int .u8 a, .int .u8 b]) w := run_build w 59 _ _ (by kernel_rfl)
set_option maxRecDepth 8000 in
set_option maxHeartbeats 1000000 in
theorem c_mstore (hk : KOk k) (hn : bl.length ≤ 1000) (h : WkS B w b k bl) : Calls Try.prog 30 #[.pointer (some ⟨b, 0, none⟩)] w fun e w' => MPost B w b k k.c.r (bl ++ [(k.x.loc.toNat, k.a.toNat)]) 1 e w' := by
  obtain ⟨i0, hi, hz0, hz1, hz2⟩ := info_parts info59
  have HA := Lib.hid (co_args hk h)
  have HS := Lib.hid h
  have HK := Lib.hid hk
  obtain ⟨lc, hlc⟩ : ∃ lc : Nat, k.x.loc = lc := ⟨k.x.loc.toNat, (Int.toNat_of_nonneg hk.loc.1).symm⟩
  obtain ⟨av, hav⟩ : ∃ av : Nat, k.a = av := ⟨k.a.toNat, (Int.toNat_of_nonneg hk.a.1).symm⟩
  rw [hav] at HA
  rw [hlc, hav, Int.toNat_natCast, Int.toNat_natCast]
  have HLC := Lib.hid hlc
  clear hk h hlc hav
  have hbd := build59
  go_enter Try.func30, Try.ntmps30
  go_upto_region 2 with (first
    | (go_at_call 37; (with_reducible refine HA.out.mono ?_); rintro e w1 ⟨rfl, hb1⟩; have HS1 := Lib.hid (HS.out.over hb1)))
  have hloc := HS1.out.at_.loc
  rw [HLC.out] at hloc
  have hbu := HS1.out.at_.buf
  have hfz := HS1.out.at_.unfrozen 9
  have hblt := HS1.out.at_.lt
  obtain ⟨ad0, cap0, hv0, -⟩ := HS1.out.buf
  have HV0 := Lib.hid hv0
  rw [hv0] at hbu
  have ho1 := HS1.out.own
  rw [hv0] at ho1
  have HO1 := Lib.hid ho1
  clear hv0 ho1
  go_region_law (refine step_append_own2 rfl (.tmp 15) (.tmp 23) 25 rfl B 59 i0 _ 2 2 Try.underlying25 hi hz0 hz1 hz2 rfl (by decide) _ bl.length (vst bl) (by rfl) (own_dr HO1.out _) ⟨w1.heap.size, 0, none⟩ 1 1 [.int .u8 lc, .int .u8 av] (by rfl) rfl (cell_two_new w1.drew _ _ _) (by simp [Value.oneCell']) (by unfold maxLen; omega) (by omega) (by simp; have := HS1.out.ge; have := HS1.out.at_.lt; omega) ?_; intro v2 w2 hown2 hgrow2 hsn2; obtain ⟨ad2, cap2, rfl, hst2⟩ := st_of HO1.out hown2; clear hst2; have HW2 := Lib.hid (grown_wk HS1.out HV0.out hgrow2); have HO2 := Lib.hid hown2; have HG2 := Lib.hid hgrow2; have HN2 := Lib.hid hsn2; have hbu2 := HW2.out.buf; have hfz2 := HW2.out.unfrozen 9; clear hown2 hgrow2 hsn2)
  all_goals
    go_wp2
    go_ret
    exact store_end HS.out hb1 HS1.out HV0.out HO1.out HW2.out HO2.out HG2.out HN2.out
end
end Go.Proofs.Ytckcdpmfmfpmmaa
