/- The walks of (Op).keep, (Op).gone, (Op).end and (Op).add: the row of parts that is the call's own becomes what the plain law's addR and endR say. Conditions: the parts are sound and in form, and all numbers are small. -/
import Derived.Test.YtepgfnoafhlokaaDoorPutW
import Derived.Test.YtepgfnoafhlokaaDoorPure
namespace Go.Proofs.YtepgfnoafhlokaaDoor
open Go.RowKit Txt

/-! The plain law's parts as the program's. -/
def to54 : Pt → S54
  | .keep n => ⟨1, n, ⟨#[]⟩⟩
  | .ins c => ⟨2, c.length, str c⟩
  | .del n => ⟨3, n, ⟨#[]⟩⟩
/-- What was made so far, its last part first, as the row has it. -/
def rowOf (acc : List Pt) : List S54 := acc.reverse.map to54
theorem rowOf_cons (p : Pt) (r : List Pt) : rowOf (p :: r) = rowOf r ++ [to54 p] := by simp [rowOf]
theorem rowOf_length (acc : List Pt) : (rowOf acc).length = acc.length := by simp [rowOf]

theorem flat_set1 (os : List S54) (j : Nat) (p : S54) (h : os[j]? = some p) (m : Int) :
    (flat os).set (j * 3 + 1) (.int .i64 m) = flat (os.set j ⟨p.f0, m, p.f2⟩) := by
  have hj := (List.getElem?_eq_some_iff.1 h).1
  have hl : (flat (os.take j)).length = j * 3 := by rw [flat_length, List.length_take]; omega
  have h2 : (os.set j ⟨p.f0, m, p.f2⟩)[j]? = some ⟨p.f0, m, p.f2⟩ := by rw [List.getElem?_set_self hj]
  rw [flat_split os j p h, flat_split _ j _ h2, List.set_append, if_neg (by omega), hl]
  rw [List.take_set_of_le (by omega), List.drop_set_of_lt (by omega), Nat.add_sub_cancel_left]
  rfl
/-- append of one part. -/
theorem app_own (w0 w : World) (v : Value) (os : List S54) (p : S54) (ho : Own w0 w v os) (hl : os.length ≤ 1000000) :
    ∃ v1 w1, (Builtin.append_ #[42, 42] 42 #[v, .slice (some ⟨w.heap.size, 0, none⟩) 1 1]).run Tryd.prog (w.alloc (.cells (c54 p).toArray 54)) = .ok v1 w1 ∧ Own w0 w1 v1 (os ++ [p]) := by
  obtain ⟨v1, w1, hr, hown, hb, _⟩ := run_append_one (P := Tryd.prog) (w0 := w0) w0.heap.size 42 54 42 _ 3 32 Tryd.underlying42 info54' rfl (by decide) v os.length (flat os) (c54 p) ho.row ho.below ho.below.size hl (by omega) rfl (c54_one p)
  refine ⟨v1, w1, hr, hb, ?_⟩
  rw [List.length_append, flat_append]
  simpa [flat] using hown

set_option maxHeartbeats 1000000 in
set_option maxRecDepth 100000 in
theorem keep_nil (w0 w : World) (v : Value) (a : Int) (ho : Own w0 w v []) :
    Calls Tryd.prog 29 #[v, .int .i64 a] w fun e w' => ∃ v', e = .returned v' ∧ Own w0 w' v' [⟨1, a, ⟨#[]⟩⟩] := by
  obtain ⟨v1, w1, hr, hO⟩ := app_own w0 w v [] ⟨1, a, ⟨#[]⟩⟩ ho (by simp)
  have HO := Lib.hid hO
  clear hO
  rcases ho.row.2 with ⟨rfl, _⟩ | ⟨g, cap, cur, rfl, _, _, _, _, _, _⟩
  · clear ho
    go_enter Tryd.func29, Tryd.ntmps29
    go_wp2_with (at_builtin; refine Lib.wpList_append_run _ rfl _ _ _ _ rfl _ _ rfl rfl _ _ hr ?_)
    go_ret
    exact ⟨_, rfl, HO.out⟩
  · clear ho
    go_enter Tryd.func29, Tryd.ntmps29
    go_wp2_with (at_builtin; refine Lib.wpList_append_run _ rfl _ _ _ _ rfl _ _ rfl rfl _ _ hr ?_)
    go_ret
    exact ⟨_, rfl, HO.out⟩
set_option maxHeartbeats 1000000 in
set_option maxRecDepth 100000 in
theorem keep_app (w0 w : World) (g cap j : Nat) (os : List S54) (a : Int) (q : S54) (ho : Own w0 w (.slice (some ⟨g, 0, none⟩) (j + 1) cap) os) (hl : os.length = j + 1) (hq : os[j]? = some q) (hk : (q.f0 == 1) = false) (hj : j ≤ 900000) :
    Calls Tryd.prog 29 #[.slice (some ⟨g, 0, none⟩) (j + 1) cap, .int .i64 a] w fun e w' => ∃ v', e = .returned v' ∧ Own w0 w' v' (os ++ [⟨1, a, ⟨#[]⟩⟩]) := by
  obtain ⟨v1, w1, hr, hO⟩ := app_own w0 w _ os ⟨1, a, ⟨#[]⟩⟩ ho (by omega)
  have HO := Lib.hid hO
  have hrow := ho.row
  rw [hl] at hrow
  obtain ⟨c0, _, _⟩ := own_cells hrow j _ hq
  clear ho hrow hl hq hO
  go_enter Tryd.func29, Tryd.ntmps29
  go_wp2_with (at_builtin; refine Lib.wpList_append_run _ rfl _ _ _ _ rfl _ _ rfl rfl _ _ hr ?_)
  go_ret
  exact ⟨_, rfl, HO.out⟩
set_option maxHeartbeats 1000000 in
set_option maxRecDepth 100000 in
theorem keep_mod (w0 w : World) (g cap j : Nat) (os : List S54) (m a : Int) (t : ByteArray) (ho : Own w0 w (.slice (some ⟨g, 0, none⟩) (j + 1) cap) os) (hl : os.length = j + 1) (hq : os[j]? = some ⟨1, m, t⟩)
    (hm : 0 ≤ m) (hm2 : m ≤ 1000000000000) (ha : 0 ≤ a) (ha2 : a ≤ 1000000000000) (hj : j ≤ 900000) :
    Calls Tryd.prog 29 #[.slice (some ⟨g, 0, none⟩) (j + 1) cap, .int .i64 a] w fun e w' => ∃ v', e = .returned v' ∧ Own w0 w' v' (os.set j ⟨1, m + a, t⟩) := by
  have hrow := ho.row
  rw [hl] at hrow
  obtain ⟨c0, c1, _⟩ := own_cells hrow j _ hq
  have f1 := hrow.frozenAt (j * 3 + 1)
  have hbg := (hrow.lt g rfl).1
  have s1 := hrow.stored (j * 3 + 1) (.int .i64 (m + a))
  have b1 : Below w0.heap.size w0 (w.setCell ⟨g, j * 3 + 1, none⟩ (.int .i64 (m + a))) := ho.below.setCell (p := ⟨g, j * 3 + 1, none⟩) hbg _
  have HH : Hid (Own w0 (w.setCell ⟨g, j * 3 + 1, none⟩ (.int .i64 (m + a))) (.slice (some ⟨g, 0, none⟩) (j + 1) cap) (os.set j ⟨1, m + a, t⟩)) := by
    refine Lib.hid ⟨b1, ?_⟩
    have := s1.1
    rw [flat_set1 os j _ hq] at this
    rw [List.length_set, hl]
    exact this
  clear s1 b1 ho hrow hl hq hbg
  go_enter Tryd.func29, Tryd.ntmps29
  go_wp2
  go_ret
  exact ⟨_, rfl, HH.out⟩

set_option maxHeartbeats 1000000 in
set_option maxRecDepth 100000 in
theorem gone_nil (w0 w : World) (v : Value) (a : Int) (ho : Own w0 w v []) :
    Calls Tryd.prog 30 #[v, .int .i64 a] w fun e w' => ∃ v', e = .returned v' ∧ Own w0 w' v' [⟨3, a, ⟨#[]⟩⟩] := by
  obtain ⟨v1, w1, hr, hO⟩ := app_own w0 w v [] ⟨3, a, ⟨#[]⟩⟩ ho (by simp)
  have HO := Lib.hid hO
  clear hO
  rcases ho.row.2 with ⟨rfl, _⟩ | ⟨g, cap, cur, rfl, _, _, _, _, _, _⟩
  · clear ho
    go_enter Tryd.func30, Tryd.ntmps30
    go_wp2_with (at_builtin; refine Lib.wpList_append_run _ rfl _ _ _ _ rfl _ _ rfl rfl _ _ hr ?_)
    go_ret
    exact ⟨_, rfl, HO.out⟩
  · clear ho
    go_enter Tryd.func30, Tryd.ntmps30
    go_wp2_with (at_builtin; refine Lib.wpList_append_run _ rfl _ _ _ _ rfl _ _ rfl rfl _ _ hr ?_)
    go_ret
    exact ⟨_, rfl, HO.out⟩
set_option maxHeartbeats 1000000 in
set_option maxRecDepth 100000 in
theorem gone_app (w0 w : World) (g cap j : Nat) (os : List S54) (a : Int) (q : S54) (ho : Own w0 w (.slice (some ⟨g, 0, none⟩) (j + 1) cap) os) (hl : os.length = j + 1) (hq : os[j]? = some q) (hk : (q.f0 == 3) = false) (hj : j ≤ 900000) :
    Calls Tryd.prog 30 #[.slice (some ⟨g, 0, none⟩) (j + 1) cap, .int .i64 a] w fun e w' => ∃ v', e = .returned v' ∧ Own w0 w' v' (os ++ [⟨3, a, ⟨#[]⟩⟩]) := by
  obtain ⟨v1, w1, hr, hO⟩ := app_own w0 w _ os ⟨3, a, ⟨#[]⟩⟩ ho (by omega)
  have HO := Lib.hid hO
  have hrow := ho.row
  rw [hl] at hrow
  obtain ⟨c0, _, _⟩ := own_cells hrow j _ hq
  clear ho hrow hl hq hO
  go_enter Tryd.func30, Tryd.ntmps30
  go_wp2_with (at_builtin; refine Lib.wpList_append_run _ rfl _ _ _ _ rfl _ _ rfl rfl _ _ hr ?_)
  go_ret
  exact ⟨_, rfl, HO.out⟩
set_option maxHeartbeats 1000000 in
set_option maxRecDepth 100000 in
theorem gone_mod (w0 w : World) (g cap j : Nat) (os : List S54) (m a : Int) (t : ByteArray) (ho : Own w0 w (.slice (some ⟨g, 0, none⟩) (j + 1) cap) os) (hl : os.length = j + 1) (hq : os[j]? = some ⟨3, m, t⟩)
    (hm : 0 ≤ m) (hm2 : m ≤ 1000000000000) (ha : 0 ≤ a) (ha2 : a ≤ 1000000000000) (hj : j ≤ 900000) :
    Calls Tryd.prog 30 #[.slice (some ⟨g, 0, none⟩) (j + 1) cap, .int .i64 a] w fun e w' => ∃ v', e = .returned v' ∧ Own w0 w' v' (os.set j ⟨3, m + a, t⟩) := by
  have hrow := ho.row
  rw [hl] at hrow
  obtain ⟨c0, c1, _⟩ := own_cells hrow j _ hq
  have f1 := hrow.frozenAt (j * 3 + 1)
  have hbg := (hrow.lt g rfl).1
  have s1 := hrow.stored (j * 3 + 1) (.int .i64 (m + a))
  have b1 : Below w0.heap.size w0 (w.setCell ⟨g, j * 3 + 1, none⟩ (.int .i64 (m + a))) := ho.below.setCell (p := ⟨g, j * 3 + 1, none⟩) hbg _
  have HH : Hid (Own w0 (w.setCell ⟨g, j * 3 + 1, none⟩ (.int .i64 (m + a))) (.slice (some ⟨g, 0, none⟩) (j + 1) cap) (os.set j ⟨3, m + a, t⟩)) := by
    refine Lib.hid ⟨b1, ?_⟩
    have := s1.1
    rw [flat_set1 os j _ hq] at this
    rw [List.length_set, hl]
    exact this
  clear s1 b1 ho hrow hl hq hbg
  go_enter Tryd.func30, Tryd.ntmps30
  go_wp2
  go_ret
  exact ⟨_, rfl, HH.out⟩

set_option maxHeartbeats 1000000 in
set_option maxRecDepth 100000 in
theorem end_none (w : World) (A : Option Addr) (cap : Nat) : Calls Tryd.prog 23 #[.slice A 0 cap] w fun e w' => e = .returned (.slice A 0 cap) ∧ w = w' := by
  go_enter Tryd.func23, Tryd.ntmps23
  go_wp2
  go_ret
  exact ⟨rfl, rfl⟩
set_option maxHeartbeats 1000000 in
set_option maxRecDepth 100000 in
theorem end_same (w : World) (g cap j : Nat) (K : Int) (c0 : w.cell? ⟨g, j * 3, none⟩ = some (.int .i64 K)) (hk : (K == 1) = false) (hj : j ≤ 900000) :
    Calls Tryd.prog 23 #[.slice (some ⟨g, 0, none⟩) (j + 1) cap] w fun e w' => e = .returned (.slice (some ⟨g, 0, none⟩) (j + 1) cap) ∧ w = w' := by
  go_enter Tryd.func23, Tryd.ntmps23
  go_wp2
  go_ret
  exact ⟨rfl, rfl⟩
set_option maxHeartbeats 1000000 in
set_option maxRecDepth 100000 in
theorem end_less (w : World) (g cap j : Nat) (c0 : w.cell? ⟨g, j * 3, none⟩ = some (.int .i64 1)) (hc : j + 1 ≤ cap) (hj : j ≤ 900000) :
    Calls Tryd.prog 23 #[.slice (some ⟨g, 0, none⟩) (j + 1) cap] w fun e w' => e = .returned (.slice (some ⟨g, 0, none⟩) j cap) ∧ w = w' := by
  go_enter Tryd.func23, Tryd.ntmps23
  go_wp2
  go_ret
  exact ⟨rfl, rfl⟩

theorem own_form {w0 w : World} {v : Value} {os : List S54} (h : Own w0 w v os) {n : Nat} (hl : os.length = n + 1) : ∃ g cap, v = .slice (some ⟨g, 0, none⟩) (n + 1) cap := by
  rcases h.row.2 with ⟨_, h0⟩ | ⟨g, cap, cur, e, _⟩
  · omega
  · exact ⟨g, cap, by rw [e, hl]⟩
theorem rowOf_at (p : Pt) (r : List Pt) : (rowOf (p :: r))[r.length]? = some (to54 p) := by
  rw [rowOf_cons, List.getElem?_append_right (by rw [rowOf_length]; exact Nat.le_refl _), rowOf_length, Nat.sub_self]
  rfl
theorem rowOf_at2 (p q : Pt) (r : List Pt) : (rowOf (p :: q :: r))[r.length]? = some (to54 q) := by
  rw [rowOf_cons, List.getElem?_append_left (by rw [rowOf_length]; exact Nat.lt_succ_self _)]
  exact rowOf_at q r
theorem rowOf_set (p : Pt) (r : List Pt) (q : S54) (p' : Pt) (h : to54 p' = q) : (rowOf (p :: r)).set r.length q = rowOf (p' :: r) := by
  rw [rowOf_cons, rowOf_cons, h, ← rowOf_length r]
  simp
theorem rowOf_set2 (o p : Pt) (r : List Pt) (q : S54) (p' : Pt) (h : to54 p' = q) : (rowOf (o :: p :: r)).set r.length q = rowOf (o :: p' :: r) := by
  rw [rowOf_cons o, rowOf_cons o, ← rowOf_set p r q p' h, List.set_append_left _ _ (by rw [rowOf_length]; exact Nat.lt_succ_self _)]

theorem rowOf_last {w0 w : World} {v : Value} {p : Pt} {r : List Pt} (ho : Own w0 w v (rowOf (p :: r))) : ∃ g cap, v = .slice (some ⟨g, 0, none⟩) (r.length + 1) cap := own_form ho (rowOf_length _)
theorem keep_any (w0 w : World) (v : Value) (acc : List Pt) (n : Nat) (ho : Own w0 w v (rowOf acc)) (hl : acc.length ≤ 100000) (ht : total acc ≤ 1000000) (hn : n ≤ 1000000) :
    Calls Tryd.prog 29 #[v, .int .i64 n] w fun e w' => ∃ v', e = .returned v' ∧ Own w0 w' v' (rowOf (addR acc (.keep n))) := by
  match acc, hl, ht, ho with
  | [], _, _, ho => exact keep_nil w0 w v n ho
  | .keep m :: r, hl, ht, ho =>
    obtain ⟨g, cap, rfl⟩ := rowOf_last ho
    have hr : r.length ≤ 100000 := by simp only [List.length_cons] at hl; omega
    have hm : m ≤ 1000000 := by simp only [total, List.map_cons, List.sum_cons, weight] at ht; omega
    refine (keep_mod w0 w g cap r.length _ m n ⟨#[]⟩ ho (rowOf_length _) (rowOf_at _ _) (by omega) (by omega) (by omega) (by omega) (by omega)).mono ?_
    rintro e w' ⟨v', he, hO⟩
    refine ⟨v', he, ?_⟩
    rw [rowOf_set (.keep m) r _ (.keep (m + n)) (by simp [to54])] at hO
    exact hO
  | .ins x :: r, hl, _, ho =>
    obtain ⟨g, cap, rfl⟩ := rowOf_last ho
    have hr : r.length ≤ 100000 := by simp only [List.length_cons] at hl; omega
    refine (keep_app w0 w g cap r.length _ n _ ho (rowOf_length _) (rowOf_at _ _) (by simp [to54]) (by omega)).mono ?_
    rintro e w' ⟨v', he, hO⟩
    refine ⟨v', he, ?_⟩
    show Own w0 w' v' (rowOf (.keep n :: .ins x :: r))
    rw [rowOf_cons]
    exact hO
  | .del x :: r, hl, _, ho =>
    obtain ⟨g, cap, rfl⟩ := rowOf_last ho
    have hr : r.length ≤ 100000 := by simp only [List.length_cons] at hl; omega
    refine (keep_app w0 w g cap r.length _ n _ ho (rowOf_length _) (rowOf_at _ _) (by simp [to54]) (by omega)).mono ?_
    rintro e w' ⟨v', he, hO⟩
    refine ⟨v', he, ?_⟩
    show Own w0 w' v' (rowOf (.keep n :: .del x :: r))
    rw [rowOf_cons]
    exact hO
theorem gone_any (w0 w : World) (v : Value) (acc : List Pt) (n : Nat) (ho : Own w0 w v (rowOf acc)) (hl : acc.length ≤ 100000) (ht : total acc ≤ 1000000) (hn : n ≤ 1000000) :
    Calls Tryd.prog 30 #[v, .int .i64 n] w fun e w' => ∃ v', e = .returned v' ∧ Own w0 w' v' (rowOf (addR acc (.del n))) := by
  match acc, hl, ht, ho with
  | [], _, _, ho => exact gone_nil w0 w v n ho
  | .del m :: r, hl, ht, ho =>
    obtain ⟨g, cap, rfl⟩ := rowOf_last ho
    have hr : r.length ≤ 100000 := by simp only [List.length_cons] at hl; omega
    have hm : m ≤ 1000000 := by simp only [total, List.map_cons, List.sum_cons, weight] at ht; omega
    refine (gone_mod w0 w g cap r.length _ m n ⟨#[]⟩ ho (rowOf_length _) (rowOf_at _ _) (by omega) (by omega) (by omega) (by omega) (by omega)).mono ?_
    rintro e w' ⟨v', he, hO⟩
    refine ⟨v', he, ?_⟩
    rw [rowOf_set (.del m) r _ (.del (m + n)) (by simp [to54])] at hO
    exact hO
  | .ins x :: r, hl, _, ho =>
    obtain ⟨g, cap, rfl⟩ := rowOf_last ho
    have hr : r.length ≤ 100000 := by simp only [List.length_cons] at hl; omega
    refine (gone_app w0 w g cap r.length _ n _ ho (rowOf_length _) (rowOf_at _ _) (by simp [to54]) (by omega)).mono ?_
    rintro e w' ⟨v', he, hO⟩
    refine ⟨v', he, ?_⟩
    show Own w0 w' v' (rowOf (.del n :: .ins x :: r))
    rw [rowOf_cons]
    exact hO
  | .keep x :: r, hl, _, ho =>
    obtain ⟨g, cap, rfl⟩ := rowOf_last ho
    have hr : r.length ≤ 100000 := by simp only [List.length_cons] at hl; omega
    refine (gone_app w0 w g cap r.length _ n _ ho (rowOf_length _) (rowOf_at _ _) (by simp [to54]) (by omega)).mono ?_
    rintro e w' ⟨v', he, hO⟩
    refine ⟨v', he, ?_⟩
    show Own w0 w' v' (rowOf (.del n :: .keep x :: r))
    rw [rowOf_cons]
    exact hO
theorem end_any (w0 w : World) (v : Value) (acc : List Pt) (ho : Own w0 w v (rowOf acc)) (hl : acc.length ≤ 100000) :
    Calls Tryd.prog 23 #[v] w fun e w' => ∃ v', e = .returned v' ∧ Own w0 w' v' (rowOf (endR acc)) := by
  match acc, hl, ho with
  | [], _, ho =>
    rcases ho.row.2 with ⟨rfl, _⟩ | ⟨g, cap, cur, rfl, _⟩
    · exact (end_none w none 0).mono fun e w' ⟨he, hw⟩ => ⟨_, he, hw ▸ ho⟩
    · exact (end_none w _ cap).mono fun e w' ⟨he, hw⟩ => ⟨_, he, hw ▸ ho⟩
  | .keep m :: r, hl, ho =>
    have hr : r.length ≤ 100000 := by simp only [List.length_cons] at hl; omega
    have hrow := ho.row
    rw [rowOf_length] at hrow
    rcases hrow.2 with ⟨_, h⟩ | ⟨g, cap, cur, rfl, hbg, hg, hnc, hcm, hcs, htake⟩
    · simp at h
    · obtain ⟨c0, _, _⟩ := own_cells hrow r.length _ (rowOf_at (.keep m) r)
      have hnc' : r.length + 1 ≤ cap := hnc
      refine (end_less w g cap r.length c0 hnc' (by omega)).mono fun e w' ⟨he, hw⟩ => ⟨_, he, ?_⟩
      subst hw
      refine ⟨ho.below, ?_⟩
      show w.ownsRow w0.heap.size 54 3 _ (rowOf r).length (flat (rowOf r))
      rw [rowOf_length]
      refine ⟨by rw [flat_length, rowOf_length], .inr ⟨g, cap, cur, rfl, hbg, hg, by omega, hcm, hcs, ?_⟩⟩
      have e1 : cur.toList.take (r.length * 3) = (cur.toList.take ((r.length + 1) * 3)).take (r.length * 3) := by rw [List.take_take, Nat.min_eq_left (by omega)]
      have e2 : cur.toList.take ((r.length + 1) * 3) = flat (rowOf (.keep m :: r)) := htake
      rw [e1, e2, rowOf_cons, flat_append]
      exact List.take_left' (by rw [flat_length, rowOf_length])
  | .ins x :: r, hl, ho =>
    obtain ⟨g, cap, rfl⟩ := rowOf_last ho
    have hr : r.length ≤ 100000 := by simp only [List.length_cons] at hl; omega
    have hrow := ho.row
    rw [rowOf_length] at hrow
    obtain ⟨c0, _, _⟩ := own_cells hrow r.length _ (rowOf_at (.ins x) r)
    exact (end_same w g cap r.length _ c0 (by simp [to54]) (by omega)).mono fun e w' ⟨he, hw⟩ => ⟨_, he, hw ▸ ho⟩
  | .del x :: r, hl, ho =>
    obtain ⟨g, cap, rfl⟩ := rowOf_last ho
    have hr : r.length ≤ 100000 := by simp only [List.length_cons] at hl; omega
    have hrow := ho.row
    rw [rowOf_length] at hrow
    obtain ⟨c0, _, _⟩ := own_cells hrow r.length _ (rowOf_at (.del x) r)
    exact (end_same w g cap r.length _ c0 (by simp [to54]) (by omega)).mono fun e w' ⟨he, hw⟩ => ⟨_, he, hw ▸ ho⟩

/-- put, whatever was made so far. -/
theorem put_any (w0 w : World) (v : Value) (acc : List Pt) (c : List Ch) (ho : Own w0 w v (rowOf acc)) (hf : Txt.Form acc) (hs : AllSound acc) (hc : AllCh c) (hl : acc.length ≤ 100000) (ht : total acc ≤ 1000000) (hw : c.length ≤ 1000000) :
    Calls Tryd.prog 31 #[v, .int .i64 c.length, .string (str c)] w fun e w' => ∃ v', e = .returned v' ∧ Own w0 w' v' (rowOf (addR acc (.ins c))) := by
  have hcs := size_le hc
  have h0 := rowOf_length acc
  match acc, hf, hs, hl, ht, h0, ho with
  | [], _, _, _, _, _, ho =>
    exact put_nil w0 w v c.length (str c) ho
  | .keep m :: r, _, _, hl, _, h0, ho =>
    obtain ⟨g, cap, rfl⟩ := own_form ho h0
    have hr : r.length ≤ 100000 := by simp only [List.length_cons] at hl; omega
    refine (put_keep w0 w g cap r.length _ c.length m (str c) _ ho h0 (rowOf_at _ _) (by omega)).mono ?_
    rintro e w' ⟨v', he, hO⟩
    refine ⟨v', he, ?_⟩
    show Own w0 w' v' (rowOf (.ins c :: .keep m :: r))
    rw [rowOf_cons]
    exact hO
  | .ins d :: r, _, hs, hl, ht, h0, ho =>
    obtain ⟨g, cap, rfl⟩ := own_form ho h0
    have hr : r.length ≤ 100000 := by simp only [List.length_cons] at hl; omega
    have hd : AllCh d := (hs _ List.mem_cons_self).2
    have hds := size_le hd
    have hdl : d.length ≤ 1000000 := by simp only [total, List.map_cons, List.sum_cons, weight] at ht; omega
    refine (put_mod1 w0 w g cap r.length _ d.length c.length (str d) (str c) ho h0 (rowOf_at _ _) (by omega) (by omega) (by omega) (by omega) (by omega) (by omega) (by omega)).mono ?_
    rintro e w' ⟨he, hO⟩
    refine ⟨_, he, ?_⟩
    rw [rowOf_set (.ins d) r _ (.ins (d ++ c)) (by simp [to54, str_append])] at hO
    exact hO
  | [.del m], _, _, _, _, h0, ho =>
    obtain ⟨g, cap, rfl⟩ := own_form (n := 0) ho h0
    refine (put_del1 w0 w g cap _ c.length m (str c) _ ho h0 (rowOf_at (.del m) [])).mono ?_
    rintro e w' ⟨v', he, hO⟩
    exact ⟨v', he, hO⟩
  | .del m :: .ins d :: r, _, hs, hl, ht, h0, ho =>
    obtain ⟨g, cap, rfl⟩ := own_form ho h0
    have hr : r.length ≤ 100000 := by simp only [List.length_cons] at hl; omega
    have hd : AllCh d := (hs _ (List.mem_cons_of_mem _ List.mem_cons_self)).2
    have hds := size_le hd
    have hdl : d.length ≤ 1000000 := by simp only [total, List.map_cons, List.sum_cons, weight] at ht; omega
    refine (put_mod2 w0 w g cap r.length _ d.length c.length m (str d) (str c) _ ho h0 (rowOf_at2 _ _ _) (rowOf_at (.del m) (.ins d :: r)) (by omega) (by omega) (by omega) (by omega) (by omega) (by omega) (by omega)).mono ?_
    rintro e w' ⟨he, hO⟩
    refine ⟨_, he, ?_⟩
    rw [rowOf_set2 (.del m) (.ins d) r _ (.ins (d ++ c)) (by simp [to54, str_append])] at hO
    exact hO
  | .del m :: .keep n :: r, _, _, hl, _, h0, ho =>
    obtain ⟨g, cap, rfl⟩ := own_form ho h0
    have hr : r.length ≤ 100000 := by simp only [List.length_cons] at hl; omega
    refine (put_del2 w0 w g cap r.length _ c.length m n (str c) _ _ ho h0 (rowOf_at2 _ _ _) (rowOf_at (.del m) (.keep n :: r)) (by omega)).mono ?_
    rintro e w' ⟨v', he, hO⟩
    refine ⟨v', he, ?_⟩
    show Own w0 w' v' (rowOf (.del m :: .ins c :: .keep n :: r))
    have e1 : (rowOf (.del m :: .keep n :: r)).take (r.length + 1) = rowOf (.keep n :: r) := by
      rw [rowOf_cons (.del m)]
      exact List.take_left' (rowOf_length _)
    have e2 : (rowOf (.del m :: .keep n :: r)).drop (r.length + 1) = [to54 (.del m)] := by
      rw [rowOf_cons (.del m)]
      exact List.drop_left' (rowOf_length _)
    rw [e1, e2] at hO
    rw [rowOf_cons, rowOf_cons]
    exact hO
  | .del m :: .del n :: r, hf, _, _, _, _, _ => exact absurd hf.1 (by simp [behind])

/-- A part as the program's value. -/
def valOf (p : Pt) : Value := .agg #[.int .i64 (to54 p).f0, .int .i64 (to54 p).f1, .string (to54 p).f2]

set_option maxHeartbeats 1000000 in
set_option maxRecDepth 100000 in
theorem add_any (w0 w : World) (v : Value) (acc : List Pt) (p : Pt) (ho : Own w0 w v (rowOf acc)) (hf : Txt.Form acc) (hs : AllSound acc) (hp : Sound p) (hl : acc.length ≤ 100000) (ht : total acc ≤ 1000000) (hw : weight p ≤ 1000000) :
    Calls Tryd.prog 22 #[v, valOf p] w fun e w' => ∃ v', e = .returned v' ∧ Own w0 w' v' (rowOf (addR acc p)) := by
  match p, hp, hw with
  | .keep n, hp, hw =>
    have hp' : 0 < n := hp
    have hc := fun o => keep_any w0 (w.alloc o) v acc n (ho.alloc o) hl ht hw
    obtain ⟨x, hx⟩ : ∃ x : Int, x = n := ⟨_, rfl⟩
    show Calls Tryd.prog 22 #[v, .agg #[.int .i64 1, .int .i64 (n : Int), .string ⟨#[]⟩]] w _
    rw [← hx] at hc ⊢
    have h0 : (x == 0) = false := by rw [beq_eq_false_iff_ne]; omega
    have HX := Lib.hid hx
    clear hx ho hf hs
    go_enter Tryd.func22, Tryd.ntmps22
    go_wp2_with (go_at_call 29; refine (hc _).mono ?_; rintro e w' ⟨v', rfl, hO⟩; have HO := Lib.hid hO; clear hO)
    go_ret
    exact ⟨_, rfl, HO.out⟩
  | .del n, hp, hw =>
    have hp' : 0 < n := hp
    have hc := fun o => gone_any w0 (w.alloc o) v acc n (ho.alloc o) hl ht hw
    obtain ⟨x, hx⟩ : ∃ x : Int, x = n := ⟨_, rfl⟩
    show Calls Tryd.prog 22 #[v, .agg #[.int .i64 3, .int .i64 (n : Int), .string ⟨#[]⟩]] w _
    rw [← hx] at hc ⊢
    have h0 : (x == 0) = false := by rw [beq_eq_false_iff_ne]; omega
    have HX := Lib.hid hx
    clear hx ho hf hs
    go_enter Tryd.func22, Tryd.ntmps22
    go_wp2_with (go_at_call 30; refine (hc _).mono ?_; rintro e w' ⟨v', rfl, hO⟩; have HO := Lib.hid hO; clear hO)
    go_ret
    exact ⟨_, rfl, HO.out⟩
  | .ins c, hp, hw =>
    have hp' : 0 < c.length := List.length_pos_iff.2 hp.1
    have hc := fun o => put_any w0 (w.alloc o) v acc c (ho.alloc o) hf hs hp.2 hl ht hw
    obtain ⟨x, hx⟩ : ∃ x : Int, x = c.length := ⟨_, rfl⟩
    show Calls Tryd.prog 22 #[v, .agg #[.int .i64 2, .int .i64 (c.length : Int), .string (str c)]] w _
    rw [← hx] at hc ⊢
    have h0 : (x == 0) = false := by rw [beq_eq_false_iff_ne]; omega
    have HX := Lib.hid hx
    clear hx ho hf hs
    go_enter Tryd.func22, Tryd.ntmps22
    go_wp2_with (go_at_call 31; refine (hc _).mono ?_; rintro e w' ⟨v', rfl, hO⟩; have HO := Lib.hid hO; clear hO)
    go_ret
    exact ⟨_, rfl, HO.out⟩

end Go.Proofs.YtepgfnoafhlokaaDoor
