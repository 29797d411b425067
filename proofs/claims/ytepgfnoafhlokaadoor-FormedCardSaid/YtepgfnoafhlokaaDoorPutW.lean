/- The walks of (Op).put and (Op).add: each does to the row of parts, which is the call's own, what the plain function on lists says. Conditions: the row is the call's own, and the numbers are below a million million. -/
import Derived.Test.YtepgfnoafhlokaaDoorInsertW
import Derived.Laws.OwnMore
namespace Go.Proofs.YtepgfnoafhlokaaDoor
open Go.RowKit

/-- A part, as the program's package ops and as package api have it: three fields. -/
structure S54 where
  f0 : Int
  f1 : Int
  f2 : ByteArray
abbrev S37 := S54
/-- A part's three cells; a row's. -/
def c54 (p : S54) : List Value := [.int .i64 p.f0, .int .i64 p.f1, .string p.f2]
def flat : List S54 → List Value
  | [] => []
  | p :: r => c54 p ++ flat r
theorem flat_length (os : List S54) : (flat os).length = os.length * 3 := by
  induction os with
  | nil => rfl
  | cons p r ih => simp [flat, c54, ih]; omega
theorem flat_append (a b : List S54) : flat (a ++ b) = flat a ++ flat b := by
  induction a with
  | nil => rfl
  | cons p r ih => simp [flat, ih]
theorem flat_split (os : List S54) (j : Nat) (p : S54) (h : os[j]? = some p) : flat os = flat (os.take j) ++ (c54 p ++ flat (os.drop (j + 1))) := by
  obtain ⟨hj, hp⟩ := List.getElem?_eq_some_iff.1 h
  have e : os = os.take j ++ (p :: os.drop (j + 1)) := by rw [← hp, ← List.drop_eq_getElem_cons hj, List.take_append_drop]
  conv => lhs; rw [e, flat_append]
  rfl
theorem flat_get (os : List S54) (j : Nat) (p : S54) (h : os[j]? = some p) (i : Nat) (hi : i < 3) : (flat os)[j * 3 + i]? = (c54 p)[i]? := by
  have hj := (List.getElem?_eq_some_iff.1 h).1
  have hl : (flat (os.take j)).length = j * 3 := by rw [flat_length, List.length_take]; omega
  rw [flat_split os j p h, List.getElem?_append_right (by omega), hl, List.getElem?_append_left (by simp [c54]; omega)]
  congr 1
  omega
theorem flat_set (os : List S54) (j : Nat) (p : S54) (h : os[j]? = some p) (m : Int) (t : ByteArray) :
    ((flat os).set (j * 3 + 1) (.int .i64 m)).set (j * 3 + 2) (.string t) = flat (os.set j ⟨p.f0, m, t⟩) := by
  have hj := (List.getElem?_eq_some_iff.1 h).1
  have hl : (flat (os.take j)).length = j * 3 := by rw [flat_length, List.length_take]; omega
  have h2 : (os.set j ⟨p.f0, m, t⟩)[j]? = some ⟨p.f0, m, t⟩ := by rw [List.getElem?_set_self hj]
  rw [flat_split os j p h, flat_split _ j _ h2, List.set_append, if_neg (by omega), hl, List.set_append, if_neg (by omega), hl]
  rw [List.take_set_of_le (by omega), List.drop_set_of_lt (by omega), Nat.add_sub_cancel_left, Nat.add_sub_cancel_left]
  rfl
theorem flat_take (os : List S54) (p : Nat) (h : p ≤ os.length) : (flat os).take (p * 3) = flat (os.take p) := by
  have e : flat os = flat (os.take p) ++ flat (os.drop p) := by rw [← flat_append, List.take_append_drop]
  rw [e, List.take_append_of_le_length (by rw [flat_length, List.length_take]; omega)]
  exact List.take_of_length_le (by rw [flat_length, List.length_take]; omega)
theorem flat_drop (os : List S54) (p : Nat) (h : p ≤ os.length) : (flat os).drop (p * 3) = flat (os.drop p) := by
  have e : flat os = flat (os.take p) ++ flat (os.drop p) := by rw [← flat_append, List.take_append_drop]
  rw [e]
  exact List.drop_left' (by rw [flat_length, List.length_take]; omega)
theorem flat_one (os : List S54) : ∀ u ∈ flat os, u.oneCell' = true := by
  induction os with
  | nil => intro u hu; cases hu
  | cons p r ih =>
    intro u hu
    rcases List.mem_append.1 hu with hu | hu
    · simp only [c54, List.mem_cons, List.not_mem_nil, or_false] at hu
      rcases hu with rfl | rfl | rfl <;> rfl
    · exact ih u hu

/-- The row of parts 'os' is the call's own: made since w0. -/
structure Own (w0 w : World) (v : Value) (os : List S54) : Prop where
  below : Below w0.heap.size w0 w
  row : w.ownsRow w0.heap.size 54 3 v os.length (flat os)

theorem own_cells {w : World} {base g n cap : Nat} {os : List S54} (h : w.ownsRow base 54 3 (.slice (some ⟨g, 0, none⟩) n cap) n (flat os)) (j : Nat) (p : S54) (hj : os[j]? = some p) :
    w.cell? ⟨g, j * 3, none⟩ = some (.int .i64 p.f0) ∧ w.cell? ⟨g, j * 3 + 1, none⟩ = some (.int .i64 p.f1) ∧ w.cell? ⟨g, j * 3 + 2, none⟩ = some (.string p.f2) := by
  have hl : (flat os).length = n * 3 := h.1
  have hlt := (List.getElem?_eq_some_iff.1 hj).1
  rw [flat_length] at hl
  refine ⟨?_, ?_, ?_⟩
  · rw [h.cellAt _ (by omega)]; exact flat_get os j p hj 0 (by omega)
  · rw [h.cellAt _ (by omega)]; exact flat_get os j p hj 1 (by omega)
  · rw [h.cellAt _ (by omega)]; exact flat_get os j p hj 2 (by omega)

set_option maxHeartbeats 1000000 in
set_option maxRecDepth 100000 in
/-- put, the last part is an insert. -/
theorem put_mod1 (w0 w : World) (g cap j : Nat) (os : List S54) (m a : Int) (t s : ByteArray) (ho : Own w0 w (.slice (some ⟨g, 0, none⟩) (j + 1) cap) os) (hl : os.length = j + 1) (hp : os[j]? = some ⟨2, m, t⟩)
    (hm : 0 ≤ m) (hm2 : m ≤ 1000000000000) (ha : 0 ≤ a) (ha2 : a ≤ 1000000000000) (ht : t.size ≤ 1000000000000) (hs : s.size ≤ 1000000000000) (hj : j ≤ 1000000) :
    Calls Tryd.prog 31 #[.slice (some ⟨g, 0, none⟩) (j + 1) cap, .int .i64 a, .string s] w fun e w' => e = .returned (.slice (some ⟨g, 0, none⟩) (j + 1) cap) ∧ Own w0 w' (.slice (some ⟨g, 0, none⟩) (j + 1) cap) (os.set j ⟨2, m + a, t ++ s⟩) := by
  have hrow := ho.row
  rw [hl] at hrow
  obtain ⟨c0, c1, c2⟩ := own_cells hrow j _ hp
  have f1 := hrow.frozenAt (j * 3 + 1)
  have f2 := hrow.frozenAt (j * 3 + 2)
  have hbg := (hrow.lt g rfl).1
  have s1 := hrow.stored (j * 3 + 1) (.int .i64 (m + a))
  have s2 := s1.1.stored (j * 3 + 2) (.string (t ++ s))
  have b2 : Below w0.heap.size w0 ((w.setCell ⟨g, j * 3 + 1, none⟩ (.int .i64 (m + a))).setCell ⟨g, j * 3 + 2, none⟩ (.string (t ++ s))) := (ho.below.setCell (p := ⟨g, j * 3 + 1, none⟩) hbg _).setCell (p := ⟨g, j * 3 + 2, none⟩) hbg _
  have HH : Hid (Own w0 ((w.setCell ⟨g, j * 3 + 1, none⟩ (.int .i64 (m + a))).setCell ⟨g, j * 3 + 2, none⟩ (.string (t ++ s))) (.slice (some ⟨g, 0, none⟩) (j + 1) cap) (os.set j ⟨2, m + a, t ++ s⟩)) := by
    refine Lib.hid ⟨b2, ?_⟩
    have := s2.1
    rw [flat_set os j _ hp] at this
    rw [List.length_set, hl]
    exact this
  clear s1 s2 b2 ho hrow hl hp hbg
  go_enter Tryd.func31, Tryd.ntmps31
  go_wp2
  go_ret
  exact ⟨rfl, HH.out⟩


set_option maxHeartbeats 1000000 in
set_option maxRecDepth 100000 in
/-- put, the last part is a delete, the one ahead of it an insert. -/
theorem put_mod2 (w0 w : World) (g cap j : Nat) (os : List S54) (m a d : Int) (t s u : ByteArray) (ho : Own w0 w (.slice (some ⟨g, 0, none⟩) (j + 1 + 1) cap) os) (hl : os.length = j + 1 + 1) (hp : os[j]? = some ⟨2, m, t⟩) (hq : os[j + 1]? = some ⟨3, d, u⟩)
    (hm : 0 ≤ m) (hm2 : m ≤ 1000000000000) (ha : 0 ≤ a) (ha2 : a ≤ 1000000000000) (ht : t.size ≤ 1000000000000) (hs : s.size ≤ 1000000000000) (hj : j ≤ 1000000) :
    Calls Tryd.prog 31 #[.slice (some ⟨g, 0, none⟩) (j + 1 + 1) cap, .int .i64 a, .string s] w fun e w' => e = .returned (.slice (some ⟨g, 0, none⟩) (j + 1 + 1) cap) ∧ Own w0 w' (.slice (some ⟨g, 0, none⟩) (j + 1 + 1) cap) (os.set j ⟨2, m + a, t ++ s⟩) := by
  have hrow := ho.row
  rw [hl] at hrow
  obtain ⟨c0, c1, c2⟩ := own_cells hrow j _ hp
  obtain ⟨d0, _, _⟩ := own_cells hrow (j + 1) _ hq
  have f1 := hrow.frozenAt (j * 3 + 1)
  have f2 := hrow.frozenAt (j * 3 + 2)
  have hbg := (hrow.lt g rfl).1
  have s1 := hrow.stored (j * 3 + 1) (.int .i64 (m + a))
  have s2 := s1.1.stored (j * 3 + 2) (.string (t ++ s))
  have b2 : Below w0.heap.size w0 ((w.setCell ⟨g, j * 3 + 1, none⟩ (.int .i64 (m + a))).setCell ⟨g, j * 3 + 2, none⟩ (.string (t ++ s))) := (ho.below.setCell (p := ⟨g, j * 3 + 1, none⟩) hbg _).setCell (p := ⟨g, j * 3 + 2, none⟩) hbg _
  have HH : Hid (Own w0 ((w.setCell ⟨g, j * 3 + 1, none⟩ (.int .i64 (m + a))).setCell ⟨g, j * 3 + 2, none⟩ (.string (t ++ s))) (.slice (some ⟨g, 0, none⟩) (j + 1 + 1) cap) (os.set j ⟨2, m + a, t ++ s⟩)) := by
    refine Lib.hid ⟨b2, ?_⟩
    have := s2.1
    rw [flat_set os j _ hp] at this
    rw [List.length_set, hl]
    exact this
  clear s1 s2 b2 ho hrow hl hp hq hbg
  go_enter Tryd.func31, Tryd.ntmps31
  go_wp2
  go_ret
  exact ⟨rfl, HH.out⟩

/-- A new block beside the row. -/
theorem Own.alloc {w0 w : World} {v : Value} {os : List S54} (h : Own w0 w v os) (o : Obj) : Own w0 (w.alloc o) v os := ⟨h.below.alloc h.below.size o, h.row.alloc o⟩
theorem Own.not_new {w0 w : World} {v : Value} {os : List S54} (h : Own w0 w v os) : v.ownBlock ≠ some w.heap.size := fun e => by have := (h.row.lt _ e).2; omega
theorem new_cells (w : World) (p : S54) : ∀ j u, (c54 p)[j]? = some u → (w.alloc (.cells (c54 p).toArray 54)).cell? ⟨w.heap.size, j, none⟩ = some u := by
  intro j u h
  rw [World.cell?, heap_alloc_new w]
  simpa using h
theorem new_block (w : World) (p : S54) : (w.alloc (.cells (c54 p).toArray 54)).heap[w.heap.size]? = some (.cells (c54 p).toArray 54 (0, 0)) := heap_alloc_new w _
theorem c54_one (p : S54) : ∀ u ∈ c54 p, u.oneCell' = true := by
  intro u hu
  simp only [c54, List.mem_cons, List.not_mem_nil, or_false] at hu
  rcases hu with rfl | rfl | rfl <;> rfl

/-- slices.Insert at the end, the part in a new block. -/
theorem ins_end (w0 w : World) (v : Value) (os : List S54) (n : Nat) (p : S54) (ho : Own w0 w v os) (hl : os.length = n) (hn : n ≤ 1000000) :
    Calls Tryd.prog 34 #[v, .int .i64 n, .slice (some ⟨w.heap.size, 0, none⟩) 1 1] (w.alloc (.cells (c54 p).toArray 54)) fun e w' => ∃ v', e = .returned v' ∧ Own w0 w' v' (os ++ [p]) := by
  subst hl
  have h := ho.alloc (.cells (c54 p).toArray 54)
  refine (insert_end w0 _ v os.length w.heap.size (flat os) (c54 p) h.below h.row (new_cells w p) rfl (c54_one p) hn).mono ?_
  rintro e w' ⟨v', he, hr, hb⟩
  refine ⟨v', he, hb, ?_⟩
  rw [List.length_append, flat_append]
  simpa [flat] using hr

theorem ins_last (w0 w : World) (v : Value) (os : List S54) (n : Nat) (p : S54) (ho : Own w0 w v os) (hl : os.length = n + 1) (hn : n ≤ 1000000) :
    Calls Tryd.prog 34 #[v, .int .i64 n, .slice (some ⟨w.heap.size, 0, none⟩) 1 1] (w.alloc (.cells (c54 p).toArray 54)) fun e w' => ∃ v', e = .returned v' ∧ Own w0 w' v' (os.take n ++ [p] ++ os.drop n) := by
  have h := ho.alloc (.cells (c54 p).toArray 54)
  have hr0 := h.row
  rw [hl] at hr0
  refine (insert_last w0 _ v n w.heap.size (flat os) (c54 p) h.below hr0 (new_block w p) ho.not_new rfl (c54_one p) (flat_one os) hn).mono ?_
  rintro e w' ⟨v', he, hr, hb⟩
  refine ⟨v', he, hb, ?_⟩
  rw [flat_take _ _ (by omega), flat_drop _ _ (by omega)] at hr
  have e1 : (os.take n ++ [p] ++ os.drop n).length = n + 1 + 1 := by simp only [List.length_append, List.length_take, List.length_drop, List.length_cons, List.length_nil]; omega
  have e2 : flat (os.take n ++ [p] ++ os.drop n) = flat (os.take n) ++ c54 p ++ flat (os.drop n) := by rw [flat_append, flat_append]; simp [flat]
  rw [e1, e2]
  exact hr

set_option maxHeartbeats 1000000 in
set_option maxRecDepth 100000 in
/-- put onto nothing. -/
theorem put_nil (w0 w : World) (v : Value) (a : Int) (s : ByteArray) (ho : Own w0 w v []) :
    Calls Tryd.prog 31 #[v, .int .i64 a, .string s] w fun e w' => ∃ v', e = .returned v' ∧ Own w0 w' v' [⟨2, a, s⟩] := by
  have hc := ins_end w0 w v [] 0 ⟨2, a, s⟩ ho rfl (by omega)
  rcases ho.row.2 with ⟨rfl, _⟩ | ⟨g, cap, cur, rfl, _, _, _, _, _, _⟩
  · clear ho
    go_enter Tryd.func31, Tryd.ntmps31
    go_wp2_with (go_at_call 34; refine hc.mono ?_; rintro e w' ⟨v', rfl, hO⟩; have HO := Lib.hid hO; clear hO)
    go_ret
    exact ⟨_, rfl, HO.out⟩
  · clear ho
    go_enter Tryd.func31, Tryd.ntmps31
    go_wp2_with (go_at_call 34; refine hc.mono ?_; rintro e w' ⟨v', rfl, hO⟩; have HO := Lib.hid hO; clear hO)
    go_ret
    exact ⟨_, rfl, HO.out⟩

set_option maxHeartbeats 1000000 in
set_option maxRecDepth 100000 in
/-- put, the last part is a keep. -/
theorem put_keep (w0 w : World) (g cap j : Nat) (os : List S54) (a d : Int) (s u : ByteArray) (ho : Own w0 w (.slice (some ⟨g, 0, none⟩) (j + 1) cap) os) (hl : os.length = j + 1) (hp : os[j]? = some ⟨1, d, u⟩) (hj : j ≤ 900000) :
    Calls Tryd.prog 31 #[.slice (some ⟨g, 0, none⟩) (j + 1) cap, .int .i64 a, .string s] w fun e w' => ∃ v', e = .returned v' ∧ Own w0 w' v' (os ++ [⟨2, a, s⟩]) := by
  have hrow := ho.row
  rw [hl] at hrow
  obtain ⟨c0, _, _⟩ := own_cells hrow j _ hp
  have hc := ins_end w0 w _ os (j + 1) ⟨2, a, s⟩ ho hl (by omega)
  clear ho hrow hl hp
  go_enter Tryd.func31, Tryd.ntmps31
  go_wp2_with (go_at_call 34; refine hc.mono ?_; rintro e w' ⟨v', rfl, hO⟩; have HO := Lib.hid hO; clear hO)
  go_ret
  exact ⟨_, rfl, HO.out⟩

set_option maxHeartbeats 1000000 in
set_option maxRecDepth 100000 in
/-- put, the one part is a delete. -/
theorem put_del1 (w0 w : World) (g cap : Nat) (os : List S54) (a d : Int) (s u : ByteArray) (ho : Own w0 w (.slice (some ⟨g, 0, none⟩) 1 cap) os) (hl : os.length = 1) (hp : os[0]? = some ⟨3, d, u⟩) :
    Calls Tryd.prog 31 #[.slice (some ⟨g, 0, none⟩) 1 cap, .int .i64 a, .string s] w fun e w' => ∃ v', e = .returned v' ∧ Own w0 w' v' (os.take 0 ++ [⟨2, a, s⟩] ++ os.drop 0) := by
  have hrow := ho.row
  rw [hl] at hrow
  obtain ⟨c0, _, _⟩ := own_cells hrow 0 _ hp
  have hc := ins_last w0 w _ os 0 ⟨2, a, s⟩ ho hl (by omega)
  clear ho hrow hl hp
  go_enter Tryd.func31, Tryd.ntmps31
  go_wp2_with (go_at_call 34; refine hc.mono ?_; rintro e w' ⟨v', rfl, hO⟩; have HO := Lib.hid hO; clear hO)
  go_ret
  exact ⟨_, rfl, HO.out⟩

set_option maxHeartbeats 1000000 in
set_option maxRecDepth 100000 in
/-- put, the last part is a delete, the one ahead of it a keep. -/
theorem put_del2 (w0 w : World) (g cap j : Nat) (os : List S54) (a d e0 : Int) (s u u0 : ByteArray) (ho : Own w0 w (.slice (some ⟨g, 0, none⟩) (j + 1 + 1) cap) os) (hl : os.length = j + 1 + 1) (hp : os[j]? = some ⟨1, e0, u0⟩) (hq : os[j + 1]? = some ⟨3, d, u⟩) (hj : j ≤ 900000) :
    Calls Tryd.prog 31 #[.slice (some ⟨g, 0, none⟩) (j + 1 + 1) cap, .int .i64 a, .string s] w fun e w' => ∃ v', e = .returned v' ∧ Own w0 w' v' (os.take (j + 1) ++ [⟨2, a, s⟩] ++ os.drop (j + 1)) := by
  have hrow := ho.row
  rw [hl] at hrow
  obtain ⟨c0, _, _⟩ := own_cells hrow j _ hp
  obtain ⟨d0, _, _⟩ := own_cells hrow (j + 1) _ hq
  have hc := ins_last w0 w _ os (j + 1) ⟨2, a, s⟩ ho hl (by omega)
  clear ho hrow hl hp hq
  go_enter Tryd.func31, Tryd.ntmps31
  go_wp2_with (go_at_call 34; refine hc.mono ?_; rintro e w' ⟨v', rfl, hO⟩; have HO := Lib.hid hO; clear hO)
  go_ret
  exact ⟨_, rfl, HO.out⟩

end Go.Proofs.YtepgfnoafhlokaaDoor
