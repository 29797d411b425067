/- Laws on rows of elements of several cells, of no one program: copy into a row that is known whole; an append whose source is of another slice type; an append of a make where the row must grow. No condition beyond those that stand in each statement. -/
import Derived.Laws.CopyOwn
import Derived.Laws.CopyRow
import Derived.Laws.AppendOwn
import Derived.Laws.IdiomCopy
import Derived.Lib.AppendZerosOnto
import Derived.Maps.AppendAt
import Derived.Tactics
import Derived.Below
namespace Go.Proofs.YtepgfnoafhlokaaDoor
open Go.RowKit

/-! Rows and what lies below. -/
theorem grown_below {w w1 : World} (h : Below w.heap.size w w1) (row : Option Nat) : w.grownBy w1 row := ⟨h.os, h.tape, h.output, h.size, fun i hi _ => h.block i hi⟩
theorem row_below {w w1 : World} {base : Nat} {e : TypeId} {size n : Nat} {v : Value} {xs : List Value} (h : w.ownsRow base e size v n xs) (hb : Below w.heap.size w w1) : w1.ownsRow base e size v n xs :=
  h.kept (grown_below hb none) (by cases v.ownBlock <;> simp)
theorem row_lower {w : World} {base base' : Nat} {e : TypeId} {size n : Nat} {v : Value} {xs : List Value} (h : w.ownsRow base e size v n xs) (hb : base' ≤ base) : w.ownsRow base' e size v n xs := by
  obtain ⟨h1, h2⟩ := h
  refine ⟨h1, ?_⟩
  rcases h2 with h2 | ⟨g, cap, cur, rfl, hg, r⟩
  · exact .inl h2
  · exact .inr ⟨g, cap, cur, rfl, Nat.le_trans hb hg, r⟩
theorem cell_below {w w1 : World} (h : Below w.heap.size w w1) {a : Addr} {v : Value} (hc : w.cell? a = some v) : w1.cell? a = some v := (h.cell (World.block_lt_of_cell? w a hc)).trans hc
theorem below_new {w W : World} (h : Below w.heap.size w W) (o : Obj) : Below w.heap.size w (W.alloc o) := h.alloc h.size o

section
variable {P : Program}

/-- One element of sz cells is appended; it lies in a new block of its own. -/
theorem run_append_one {w0 W : World} (base : Nat) (t e ty : TypeId) (z : Value) (sz bytes : Nat) (ht : P.underlying t = some (.slice e)) (hinfo : (P.info? e).map (fun i => (i.zero, i.size, i.bytes)) = some (some z, sz, bytes)) (hz : z.cells.size = sz) (hsz : 0 < sz)
    (v : Value) (n : Nat) (xs ys : List Value) (ho : W.ownsRow base e sz v n xs) (hB : Below base w0 W) (hbase : base ≤ W.heap.size) (hn : n ≤ 1000000) (hb : bytes ≤ 1000) (hys : ys.length = sz) (h1 : ∀ u ∈ ys, u.oneCell' = true) :
    ∃ v1 w1, (Builtin.append_ #[t, t] ty #[v, .slice (some ⟨W.heap.size, 0, none⟩) 1 1]).run P (W.alloc (.cells ys.toArray e)) = .ok v1 w1 ∧ w1.ownsRow base e sz v1 (n + 1) (xs ++ ys) ∧ Below base w0 w1 ∧ (W.alloc (.cells ys.toArray e)).grownBy w1 v.ownBlock := by
  obtain ⟨i0, hi, hzz⟩ := Option.map_eq_some_iff.1 hinfo
  simp only [Prod.mk.injEq] at hzz
  obtain ⟨hz0, hz1, hz2⟩ := hzz
  have hbase' : base ≤ (W.alloc (.cells ys.toArray e)).heap.size := by simp; omega
  have hmul : (n + 1) * bytes ≤ 140737488355328 := Nat.le_trans (Nat.mul_le_mul (show n + 1 ≤ 1000001 by omega) hb) (by omega)
  obtain ⟨v1, w1, hr, hown, hg, _, _⟩ := run_append_own_at (P := P) (W.alloc (.cells ys.toArray e)) base t ty e i0 z sz bytes ht hi hz0 hz1 hz2 hz hsz v n xs (ho.alloc _) ⟨W.heap.size, 0, none⟩ 1 1 ys (by omega)
    (fun j u hj => by rw [Addr.add_lit, World.cell?, heap_alloc_new W]; simpa using hj) h1 (by unfold maxLen; omega) hmul hbase'
  exact ⟨v1, w1, hr, hown, (hB.alloc hbase _).grown hg hbase' (fun k hk => (ho.lt k hk).1), hg⟩

/-- copy, elements of sz cells. -/
theorem run_copy_wide (w : World) (dT sT ty elem : TypeId) (g o dLen dCap : Nat) (a : Addr) (sLen sCap : Nat) (cur : List Value) (t : TypeId) (cs : List Value) (sz : Nat)
    (hu : P.underlying dT = some (.slice elem)) (hsz : (P.info? elem).map (·.size) = some sz) (hg : w.heap[g]? = some (.cells cur.toArray t (0, 0))) (hn : cs.length = Nat.min sLen dLen * sz)
    (hsrc : ∀ j v, cs[j]? = some v → w.cell? (a.add j) = some v) (hfit : o + cs.length ≤ cur.length) (h1 : ∀ v ∈ cs, v.oneCell' = true) :
    (Builtin.copy_ #[dT, sT] ty #[.slice (some ⟨g, o, none⟩) dLen dCap, .slice (some a) sLen sCap]).run P w = .ok (goInt (Nat.min sLen dLen)) (w.setRow g (splice cur o cs).toArray) := by
  have hl := run_loadCells_list (P := P) w a cs hsrc
  have hst := run_storeCells_at P g o t cs 0 cur.toArray w hg (by simpa using hfit) h1
  simp only [Nat.add_zero] at hst
  cases hq : P.info? elem with
  | none => simp [hq] at hsz
  | some i =>
    have hi : i.size = sz := by simpa [hq] using hsz
    simp [Builtin.copy_, run_underlying hu, Builtin.lenOf, Builtin.firstCells, sizeOf, typeInfo, hq, hi, ← hn, hl, hst, splice]

/-- append's answer does not hang on which slice type the source is of. -/
theorem run_append_src (w : World) (t u e e' ty : TypeId) (i : TypeInfo) (base : Option Addr) (n c : Nat) (a : Addr) (m c' : Nat) (ht : P.underlying t = some (.slice e)) (hu : P.underlying u = some (.slice e')) (hi : P.info? e = some i) :
    (Builtin.append_ #[t, u] ty #[.slice base n c, .slice (some a) m c']).run P w = (Builtin.append_ #[t, t] ty #[.slice base n c, .slice (some a) m c']).run P w := by
  simp [Builtin.append_, run_underlying ht, run_underlying hu, sizeOf, typeInfo, hi, Builtin.lenOf]

/-- copy as one operation of the walk, its run known by an equation. -/
theorem wpList_copy_known (w : World) {ops : Array Oper} {rest : List Oper} {o : Oper} {a : Act} {Q : Exit → Act → World → Prop} (hgd : o.guard = none) (d s : Operand) (t t' : TypeId)
    (ho : o.op = .call { callee := .builtin .copy, args := #[d, s], argTypes := #[t, t'] }) (v u : Value) (hd : a.eval d = v) (hs : a.eval s = u) {v' : Value} {w' : World}
    (hr : (Builtin.copy_ #[t, t'] o.type #[v, u]).run P w = .ok v' w') (h : wpList P ops Q rest (a.put o.dst v') w') : wpList P ops Q (o :: rest) a w := by
  refine wpList_plain hgd fun K hK => ?_
  unfold Oper.wp execOp
  simp only [ho, resolve, invoke, builtin, Sem.run_bind, Sem.run_pure, Result.andThen_ok, List.map_toArray, List.map_cons, List.map_nil, hd, hs, hr]
  exact hK _ _ h
/-- .. and as one step of a region that draws its order. -/
theorem step_copy_known {ops : Array Oper} {o : Oper} {a : Act} {w : World} {K : Act → World → Prop} {Q : Exit → Act → World → Prop} {E : Prop}
    (hg : o.guard = none) (d x : Operand) (dT sT : TypeId) (hop : o.op = Op.call { callee := Callee.builtin Builtin.copy, args := #[d, x], argTypes := #[dT, sT] })
    (v u : Value) (hd : a.eval d = v) (hx : a.eval x = u) {v' : Value} {w' : World} (hr : (Builtin.copy_ #[dT, sT] o.type #[v, u]).run P w = .ok v' w') (hK : K (a.put o.dst v') w') :
    if Region.wanted o (yielded ops a.tmps) = true then Oper.wp P o a w K Q else E := by
  have hw : Region.wanted o (yielded ops a.tmps) = true := by simp [Region.wanted, hg]
  rw [if_pos hw]
  unfold Oper.wp
  simp [execOp, hop, resolve, invoke, builtin, hd, hx, hr, Result.andThen]
  exact hK

end

/-! The two splices of slices.Insert. -/
theorem splice_length {α : Type} (L : List α) (o : Nat) (cs : List α) (h : o + cs.length ≤ L.length) : (splice L o cs).length = L.length := by
  simp [splice]; omega
theorem splice_get {α : Type} (L : List α) (o : Nat) (cs : List α) (h : o + cs.length ≤ L.length) (j : Nat) :
    (splice L o cs)[j]? = if j < o then L[j]? else if j < o + cs.length then cs[j - o]? else L[j]? := by
  unfold splice
  have hto : (L.take o).length = o := by rw [List.length_take]; omega
  by_cases h1 : j < o
  · rw [if_pos h1, List.getElem?_append_left (by omega), List.getElem?_take, if_pos h1]
  · rw [if_neg h1, List.getElem?_append_right (by omega), hto]
    by_cases h2 : j < o + cs.length
    · rw [if_pos h2, List.getElem?_append_left (by omega)]
    · rw [if_neg h2, List.getElem?_append_right (by omega), List.getElem?_drop]
      congr 1
      omega
/-- In place: what stood behind the place goes first. -/
theorem insert_shift {α : Type} (L xs vs : List α) (p m q : Nat) (hL : L.take (p + q) = xs) (hl : p + q + m ≤ L.length) (hv : vs.length = m) :
    (splice (splice L (p + m) (xs.drop p)) p vs).take (p + q + m) = xs.take p ++ vs ++ xs.drop p := by
  have hx : xs.length = p + q := by rw [← hL, List.length_take]; omega
  have hd : (xs.drop p).length = q := by rw [List.length_drop]; omega
  have l1 : (splice L (p + m) (xs.drop p)).length = L.length := splice_length _ _ _ (by omega)
  apply List.ext_getElem?
  intro j
  rw [List.getElem?_take, splice_get _ _ _ (by omega), splice_get _ _ _ (by omega), hd, hv]
  by_cases h1 : j < p
  · rw [if_pos (by omega), if_pos h1, if_pos (by omega), List.append_assoc, List.getElem?_append_left (by rw [List.length_take]; omega), List.getElem?_take, if_pos h1, ← hL, List.getElem?_take, if_pos (by omega)]
  · by_cases h2 : j < p + m
    · rw [if_pos (by omega), if_neg h1, if_pos h2, List.append_assoc, List.getElem?_append_right (by rw [List.length_take]; omega), List.getElem?_append_left (by rw [List.length_take]; omega), List.length_take]
      congr 1
      omega
    · by_cases h3 : j < p + q + m
      · rw [if_pos h3, if_neg h1, if_neg h2, if_neg h2, if_pos (by omega), List.getElem?_append_right (by rw [List.length_append, List.length_take]; omega)]
        congr 1
        rw [List.length_append, List.length_take]
        omega
      · rw [if_neg h3, List.getElem?_eq_none]
        simp only [List.length_append, List.length_take, hd]
        omega
/-- In a new row: the new ones go first. -/
theorem insert_grow {α : Type} (L xs vs : List α) (p m q : Nat) (hL : L.take p = xs.take p) (hx : xs.length = p + q) (hl : p + q + m ≤ L.length) (hv : vs.length = m) :
    (splice (splice L p vs) (p + m) (xs.drop p)).take (p + q + m) = xs.take p ++ vs ++ xs.drop p := by
  have hd : (xs.drop p).length = q := by rw [List.length_drop]; omega
  have l1 : (splice L p vs).length = L.length := splice_length _ _ _ (by omega)
  apply List.ext_getElem?
  intro j
  rw [List.getElem?_take, splice_get _ _ _ (by omega), splice_get _ _ _ (by omega), hd, hv]
  by_cases h1 : j < p
  · have e : L[j]? = xs[j]? := by
      have := congrArg (fun l : List α => l[j]?) hL
      simpa [List.getElem?_take, h1] using this
    rw [if_pos (by omega), if_pos (by omega), if_pos h1, List.append_assoc, List.getElem?_append_left (by rw [List.length_take]; omega), List.getElem?_take, if_pos h1, e]
  · by_cases h2 : j < p + m
    · rw [if_pos (by omega), if_pos h2, if_neg h1, if_pos h2, List.append_assoc, List.getElem?_append_right (by rw [List.length_take]; omega), List.getElem?_append_left (by rw [List.length_take]; omega), List.length_take]
      congr 1
      omega
    · by_cases h3 : j < p + q + m
      · rw [if_pos h3, if_neg h2, if_pos (by omega), List.getElem?_append_right (by rw [List.length_append, List.length_take]; omega)]
        congr 1
        rw [List.length_append, List.length_take]
        omega
      · rw [if_neg h3, List.getElem?_eq_none]
        simp only [List.length_append, List.length_take, hd]
        omega

end Go.Proofs.YtepgfnoafhlokaaDoor
