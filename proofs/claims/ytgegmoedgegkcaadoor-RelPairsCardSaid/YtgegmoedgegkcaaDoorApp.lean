/-
  append of whatever slice that reads as a list, onto a row of one's own, and onto a slice without room; in a walk and as a step of a region that draws.
-/
import Derived.Test.YtgegmoedgegkcaaDoorBase
import Derived.Deep.RegionLaw
import Derived.Deep.RegionLawGrows
import Derived.Laws.OwnMore
namespace Go.Proofs.YtgegmoedgegkcaaDoor
open Go.RowKit

theorem SlAt.drop {w : World} {N g o : Nat} {xs : List Value} (h : SlAt w N (some ⟨g, o, none⟩) xs) (k : Nat) : SlAt w N (some ⟨g, o + k, none⟩) (xs.drop k) := by
  intro j x hx
  rw [List.getElem?_drop] at hx
  obtain ⟨b, off, e, hb, hc⟩ := h _ x hx
  simp only [Option.some.injEq, Addr.mk.injEq] at e
  obtain ⟨rfl, rfl, _⟩ := e
  exact ⟨_, _, rfl, hb, by rw [Nat.add_assoc]; exact hc⟩
theorem SlAt.take {w : World} {N : Nat} {ad : Option Addr} {xs : List Value} (h : SlAt w N ad xs) (k : Nat) : SlAt w N ad (xs.take k) := by
  intro j x hx
  rw [List.getElem?_take] at hx
  split at hx
  · exact h j x hx
  · cases hx

section
variable {P : Program} (w : World)

theorem run_append_sl (base : Nat) (t ty e : TypeId) (i : TypeInfo) (z : Value) (bytes : Nat) (ht : P.underlying t = some (.slice e)) (hi : P.info? e = some i) (hz : i.zero = some z)
    (hsize : i.size = 1) (hby : i.bytes = bytes) (hzs : z.cells.size = 1)
    (v : Value) (n : Nat) (xs : List Value) (hown : w.ownsRow base e 1 v n xs)
    (ad : Option Addr) (m c N : Nat) (news : List Value) (hl : news.length = m) (hx : SlAt w N ad news) (h1 : ∀ u ∈ news, u.oneCell' = true)
    (h63 : n + m ≤ maxLen) (hbytes : (n + m) * bytes ≤ 140737488355328) (hbase : base ≤ w.heap.size) :
    ∃ v' w', (Builtin.append_ #[t, t] ty #[v, .slice ad m c]).run P w = .ok v' w' ∧ w'.ownsRow base e 1 v' (n + m) (xs ++ news) ∧ w.grownBy w' v.ownBlock ∧
      (v' = .slice none 0 0 → v = .slice none 0 0) := by
  cases ad with
  | some a =>
    obtain ⟨v', w', h2, h3, h4, h5⟩ := run_append_own (P := P) w base t ty e i z 1 bytes ht hi hz hsize hby hzs (by decide) v n xs hown a m c news (by rw [hl, Nat.mul_one])
      (fun j u hu => by
        obtain ⟨b, off, ea, _, hc⟩ := hx j u hu
        simp only [Option.some.injEq] at ea
        subst ea
        rw [Addr.add_lit]; exact hc) h1 h63 hbytes hbase
    exact ⟨v', w', h2, h3, h4, fun h => (h5.1 h).1⟩
  | none =>
    have hn : news = [] := by
      cases news with
      | nil => rfl
      | cons a l => obtain ⟨b, off, ea, _⟩ := hx 0 a rfl; cases ea
    subst hn
    obtain rfl : m = 0 := by simpa using hl.symm
    refine ⟨v, w, ?_, by simpa using hown, ⟨rfl, rfl, rfl, Nat.le_refl _, fun _ _ _ => rfl⟩, id⟩
    rcases hown.2 with ⟨rfl, rfl⟩ | ⟨g, cap, cur, rfl, _, _, hnc, _⟩
    · simp [Builtin.append_, run_underlying ht, sizeOf, typeInfo, hi, Builtin.lenOf, Builtin.firstCells]
    · simp [Builtin.append_, run_underlying ht, sizeOf, typeInfo, hi, Builtin.lenOf, Builtin.firstCells, hnc, storeCells]

theorem run_append_full (t ty e : TypeId) (i : TypeInfo) (z : Value) (bytes : Nat) (ht : P.underlying t = some (.slice e)) (hi : P.info? e = some i) (hz : i.zero = some z)
    (hsize : i.size = 1) (hby : i.bytes = bytes) (hzs : z.cells.size = 1)
    (ao : Option Addr) (n N : Nat) (olds : List Value) (hlo : olds.length = n) (ho : SlAt w N ao olds)
    (ad : Option Addr) (m c M : Nat) (news : List Value) (hl : news.length = m) (hx : SlAt w M ad news) (h1 : ∀ u ∈ news, u.oneCell' = true) (hm : 0 < m)
    (h63 : n + m ≤ maxLen) (hbytes : (n + m) * bytes ≤ 140737488355328) :
    ∃ v' w', (Builtin.append_ #[t, t] ty #[.slice ao n n, .slice ad m c]).run P w = .ok v' w' ∧ w'.ownsRow w.heap.size e 1 v' (n + m) (olds ++ news) ∧ w.grownBy w' none := by
  obtain ⟨b, off, rfl, _, _⟩ := hx 0 _ (List.getElem?_eq_getElem (by omega))
  have hcs : ∀ j u, news[j]? = some u → w.cell? ((⟨b, off, none⟩ : Addr).add j) = some u := fun j u hu => by
    obtain ⟨b, off, ea, _, hc⟩ := hx j u hu
    simp only [Option.some.injEq, Addr.mk.injEq] at ea
    obtain ⟨rfl, rfl, _⟩ := ea
    rw [Addr.add_lit]; exact hc
  cases ao with
  | some a =>
    exact run_append_arg_grows (P := P) w t ty e i z 1 bytes ht hi hz hsize hby hzs (by decide) a n n olds (by rw [hlo, Nat.mul_one])
      (fun j u hu => by
        obtain ⟨b, off, ea, _, hc⟩ := ho j u hu
        simp only [Option.some.injEq] at ea
        subst ea
        rw [Addr.add_lit]; exact hc) _ m c news (by rw [hl, Nat.mul_one]) hcs (by omega) h63 hbytes
  | none =>
    have hn : olds = [] := by
      cases olds with
      | nil => rfl
      | cons a l => obtain ⟨b, off, ea, _⟩ := ho 0 a rfl; cases ea
    subst hn
    obtain rfl : n = 0 := by simpa using hlo.symm
    obtain ⟨v', w', h2, h3, h4, h5⟩ := run_append_own (P := P) w w.heap.size t ty e i z 1 bytes ht hi hz hsize hby hzs (by decide) (.slice none 0 0) 0 [] (World.ownsRow_nil w _ e 1) _ m c news (by rw [hl, Nat.mul_one]) hcs h1 h63 hbytes (Nat.le_refl _)
    exact ⟨v', w', h2, h3, h4⟩
end

/-- append of a slice that reads as a list onto an own row, in a walk. -/
theorem wpList_append_sl {P : Program} (w : World) {ops : Array Oper} {rest : List Oper} {o : Oper} {a : Act} {Q : Exit → Act → World → Prop}
    (hg : o.guard = none) (s x : Operand) (t : TypeId) (hop : o.op = Op.call { callee := Callee.builtin Builtin.append, args := #[s, x], argTypes := #[t, t] })
    (base : Nat) (e : TypeId) (i : TypeInfo) (z : Value) (bytes : Nat) (ht : P.underlying t = some (.slice e)) (hi : P.info? e = some i) (hz : i.zero = some z)
    (hsize : i.size = 1) (hby : i.bytes = bytes) (hzs : z.cells.size = 1)
    (v : Value) (n : Nat) (xs : List Value) (hs : a.eval s = v) (hown : w.ownsRow base e 1 v n xs)
    (ad : Option Addr) (m c N : Nat) (news : List Value) (hx : a.eval x = .slice ad m c) (hl : news.length = m) (hsl : SlAt w N ad news) (h1 : ∀ u ∈ news, u.oneCell' = true)
    (h63 : n + m ≤ maxLen) (hbytes : (n + m) * bytes ≤ 140737488355328) (hbase : base ≤ w.heap.size)
    (hK : ∀ v' w', w'.ownsRow base e 1 v' (n + m) (xs ++ news) → w.grownBy w' v.ownBlock → (v' = .slice none 0 0 → v = .slice none 0 0) → wpList P ops Q rest (a.put o.dst v') w') :
    wpList P ops Q (o :: rest) a w := by
  refine wpList_plain hg fun K hK' => ?_
  obtain ⟨v', w', hrun, r1, r2, r3⟩ := run_append_sl (P := P) w base t o.type e i z bytes ht hi hz hsize hby hzs v n xs hown ad m c N news hl hsl h1 h63 hbytes hbase
  unfold Oper.wp
  simp [execOp, hop, resolve, invoke, builtin, hs, hx, hrun, Result.andThen]
  exact hK' _ _ (hK v' w' r1 r2 r3)

/-- The same as a step of a region that draws. -/
theorem step_append_sl {P : Program} {ops : Array Oper} {o : Oper} {a : Act} {w : World} {K : Act → World → Prop} {Q : Exit → Act → World → Prop} {E : Prop}
    (hg : o.guard = none) (s x : Operand) (t : TypeId) (hop : o.op = Op.call { callee := Callee.builtin Builtin.append, args := #[s, x], argTypes := #[t, t] })
    (base : Nat) (e : TypeId) (i : TypeInfo) (z : Value) (bytes : Nat) (ht : P.underlying t = some (.slice e)) (hi : P.info? e = some i) (hz : i.zero = some z)
    (hsize : i.size = 1) (hby : i.bytes = bytes) (hzs : z.cells.size = 1)
    (v : Value) (n : Nat) (xs : List Value) (hs : a.eval s = v) (hown : w.ownsRow base e 1 v n xs)
    (ad : Option Addr) (m c N : Nat) (news : List Value) (hx : a.eval x = .slice ad m c) (hl : news.length = m) (hsl : SlAt w N ad news) (h1 : ∀ u ∈ news, u.oneCell' = true)
    (h63 : n + m ≤ maxLen) (hbytes : (n + m) * bytes ≤ 140737488355328) (hbase : base ≤ w.heap.size)
    (hK : ∀ v' w', w'.ownsRow base e 1 v' (n + m) (xs ++ news) → w.grownBy w' v.ownBlock → K (a.put o.dst v') w') :
    if Region.wanted o (yielded ops a.tmps) = true then Oper.wp P o a w K Q else E := by
  have hw : Region.wanted o (yielded ops a.tmps) = true := by simp [Region.wanted, hg]
  rw [if_pos hw]
  obtain ⟨v', w', hrun, r1, r2, r3⟩ := run_append_sl (P := P) w base t o.type e i z bytes ht hi hz hsize hby hzs v n xs hown ad m c N news hl hsl h1 h63 hbytes hbase
  unfold Oper.wp
  simp [execOp, hop, resolve, invoke, builtin, hs, hx, hrun, Result.andThen]
  exact hK v' w' r1 r2

/-- append onto a slice without room, as a step of a region that draws. -/
theorem step_append_full {P : Program} {ops : Array Oper} {o : Oper} {a : Act} {w : World} {K : Act → World → Prop} {Q : Exit → Act → World → Prop} {E : Prop}
    (hg : o.guard = none) (s x : Operand) (t : TypeId) (hop : o.op = Op.call { callee := Callee.builtin Builtin.append, args := #[s, x], argTypes := #[t, t] })
    (e : TypeId) (i : TypeInfo) (z : Value) (bytes : Nat) (ht : P.underlying t = some (.slice e)) (hi : P.info? e = some i) (hz : i.zero = some z)
    (hsize : i.size = 1) (hby : i.bytes = bytes) (hzs : z.cells.size = 1)
    (ao : Option Addr) (n N : Nat) (olds : List Value) (hs : a.eval s = .slice ao n n) (hlo : olds.length = n) (ho : SlAt w N ao olds)
    (ad : Option Addr) (m c M : Nat) (news : List Value) (hx : a.eval x = .slice ad m c) (hl : news.length = m) (hsl : SlAt w M ad news) (h1 : ∀ u ∈ news, u.oneCell' = true) (hm : 0 < m)
    (h63 : n + m ≤ maxLen) (hbytes : (n + m) * bytes ≤ 140737488355328)
    (hK : ∀ v' w', w'.ownsRow w.heap.size e 1 v' (n + m) (olds ++ news) → w.grownBy w' none → K (a.put o.dst v') w') :
    if Region.wanted o (yielded ops a.tmps) = true then Oper.wp P o a w K Q else E := by
  have hw : Region.wanted o (yielded ops a.tmps) = true := by simp [Region.wanted, hg]
  rw [if_pos hw]
  obtain ⟨v', w', hrun, r1, r2⟩ := run_append_full (P := P) w t o.type e i z bytes ht hi hz hsize hby hzs ao n N olds hlo ho ad m c M news hl hsl h1 hm h63 hbytes
  unfold Oper.wp
  simp [execOp, hop, resolve, invoke, builtin, hs, hx, hrun, Result.andThen]
  exact hK v' w' r1 r2
theorem owns_form {w : World} {base e n : Nat} {v : Value} {xs : List Value} (h : w.ownsRow base e 1 v n xs) (hne : v ≠ .slice none 0 0) :
    ∃ g cap, v = .slice (some ⟨g, 0, none⟩) n cap ∧ n ≤ cap ∧ cap ≤ maxLen ∧ base ≤ g ∧ g < w.heap.size ∧ SlAt w w.heap.size (some ⟨g, 0, none⟩) xs ∧ (∀ k, w.frozen? ⟨g, k, none⟩ = false) := by
  obtain ⟨ad, cap', hv, hs⟩ := SlAt.of_owns h
  obtain ⟨hl, ⟨rfl, rfl⟩ | ⟨g, cap, cur, rfl, hb, hg, hn, hcm, hcs, ht⟩⟩ := h
  · exact absurd rfl hne
  · simp only [Value.slice.injEq] at hv
    obtain ⟨rfl, _, rfl⟩ := hv
    refine ⟨g, cap, rfl, hn, hcm, hb, (Array.getElem?_eq_some_iff.1 hg).1, hs, fun k => ?_⟩
    simp [World.frozen?, hg]
theorem owns_form_pos {w : World} {base e n : Nat} {v : Value} {xs : List Value} (h : w.ownsRow base e 1 v n xs) (hn : 0 < n) :
    ∃ g cap, v = .slice (some ⟨g, 0, none⟩) n cap ∧ n ≤ cap ∧ cap ≤ maxLen ∧ base ≤ g ∧ g < w.heap.size ∧ SlAt w w.heap.size (some ⟨g, 0, none⟩) xs ∧ (∀ k, w.frozen? ⟨g, k, none⟩ = false) := by
  refine owns_form h fun hv => ?_
  subst hv
  obtain ⟨_, ⟨_, h2⟩ | ⟨g, cap, cur, h2, _⟩⟩ := h
  · omega
  · cases h2
theorem SlAt.cell {w : World} {N g o : Nat} {xs : List Value} (h : SlAt w N (some ⟨g, o, none⟩) xs) {j : Nat} (hj : j < xs.length) : g < N ∧ w.cell? ⟨g, o + j, none⟩ = some xs[j] := by
  obtain ⟨b, off, e, hb, hc⟩ := h j _ (List.getElem?_eq_getElem hj)
  simp only [Option.some.injEq, Addr.mk.injEq] at e
  obtain ⟨rfl, rfl, _⟩ := e
  exact ⟨hb, hc⟩
theorem SlAt.setCell {w : World} {N g : Nat} {xs : List Value} (h : SlAt w N (some ⟨g, 0, none⟩) xs) {k : Nat} (hk : k < xs.length) (v : Value) : SlAt (w.setCell ⟨g, k, none⟩ v) N (some ⟨g, 0, none⟩) (xs.set k v) := by
  intro j x hx
  have hjl : j < xs.length := by
    have := (List.getElem?_eq_some_iff.1 hx).1
    simpa using this
  obtain ⟨hb, hc⟩ := h.cell hjl
  rw [Nat.zero_add] at hc
  refine ⟨g, 0, rfl, hb, ?_⟩
  rw [Nat.zero_add]
  by_cases e : k = j
  · subst e
    rw [List.getElem?_set_self hk] at hx
    simp only [Option.some.injEq] at hx
    subst hx
    exact World.cell?_setCell_same' _ _ _ (by rw [hc]; rfl)
  · rw [List.getElem?_set_ne e] at hx
    have ho := World.cell?_setCell_other w ⟨g, k, none⟩ ⟨g, j, none⟩ v (fun h => e (by cases h; rfl))
    rw [ho, hc]
    exact (List.getElem?_eq_getElem hjl).symm.trans hx
end Go.Proofs.YtgegmoedgegkcaaDoor
