/- The walk of (Op).add, by the contracts of put, keep and gone: the row of parts that is the call's own becomes what the plain law's addR says; and (Op).end likewise. Conditions: the parts are sound and in form, and all numbers are small. -/
import Derived.Test.YtepgfnoafhlokaaDoorPutW
import Derived.Test.YtepgfnoafhlokaaDoorPure
namespace Go.Proofs.YtepgfnoafhlokaaDoor
open Go.RowKit PFormed Txt Go.Proofs.YtepgfnoafhlokaaDoorW.PrintWords

/-! The print's word for a row and ours. -/
theorem flat_of_reps {M : S54 → List Value → Prop} (hM : ∀ p c, M p c → c = c54 p) : ∀ (os : List S54) (inner : List Value), Reps M 3 os inner → inner = flat os
  | [], inner, h => List.eq_nil_of_length_eq_zero (by simpa using h.1)
  | p :: r, inner, h => by
    have h0 := hM _ _ (h.2 0 p rfl)
    simp only [Nat.zero_mul, List.drop_zero] at h0
    have hr : Reps M 3 r (inner.drop 3) := by
      refine ⟨by have := h.1; simp only [List.length_cons] at this; rw [List.length_drop]; omega, fun j q hq => ?_⟩
      have := h.2 (j + 1) q (by simpa using hq)
      rw [List.drop_drop, show 3 + j * 3 = (j + 1) * 3 by omega]
      exact this
    have ih := flat_of_reps hM r _ hr
    rw [← List.take_append_drop 3 inner, h0, ih]
    rfl
theorem reps_of_flat {M : S54 → List Value → Prop} (hM : ∀ p, M p (c54 p)) (os : List S54) : Reps M 3 os (flat os) := by
  refine ⟨flat_length os, fun j p hj => ?_⟩
  have hlt := (List.getElem?_eq_some_iff.1 hj).1
  have hl : (flat (os.take j)).length = j * 3 := by rw [flat_length, List.length_take]; omega
  rw [flat_split os j p hj, ← hl, List.drop_left]
  have : (c54 p ++ flat (os.drop (j + 1))).take 3 = c54 p := List.take_left' rfl
  rw [this]
  exact hM p
theorem R_of_Own {w0 w : World} {v : Value} {os : List S54} (h : Own w0 w v os) : Kd.R k54 54 w w0.heap.size (fun _ => True) v os :=
  ⟨fun _ _ => trivial, flat os, h.row, reps_of_flat (fun p => k54_mkM w _ _ p) os⟩
theorem Own_of_R {w0 w : World} {ok : Nat → Prop} {v : Value} {os : List S54} (hb : Below w0.heap.size w0 w) (h : Kd.R k54 54 w w0.heap.size ok v os) : Own w0 w v os := by
  obtain ⟨_, inner, ho, hr⟩ := h
  have e := flat_of_reps (fun p c hc => k54_openM hc) os inner hr
  subst e
  exact ⟨hb, ho⟩

theorem keep_own (w0 w : World) (v : Value) (os r : List S54) (a : Int) (ho : Own w0 w v os) (hf : ops_Op_keep.f os a = some r) :
    Calls Tryd.prog 29 #[v, .int .i64 a] w fun e w' => ∃ v', e = .returned v' ∧ Own w0 w' v' r := by
  refine (ops_Op_keep.calls (fun _ => True) v os a r w0 w ho.below (R_of_Own ho) hf).mono ?_
  rintro e w' ⟨v', he, hR, hB, _⟩
  exact ⟨v', he, Own_of_R hB hR⟩
theorem gone_own (w0 w : World) (v : Value) (os r : List S54) (a : Int) (ho : Own w0 w v os) (hf : ops_Op_gone.f os a = some r) :
    Calls Tryd.prog 30 #[v, .int .i64 a] w fun e w' => ∃ v', e = .returned v' ∧ Own w0 w' v' r := by
  refine (ops_Op_gone.calls (fun _ => True) v os a r w0 w ho.below (R_of_Own ho) hf).mono ?_
  rintro e w' ⟨v', he, hR, hB, _⟩
  exact ⟨v', he, Own_of_R hB hR⟩
theorem end_own (w0 w : World) (v : Value) (os r : List S54) (ho : Own w0 w v os) (hf : ops_Op_end.f os = some r) :
    Calls Tryd.prog 23 #[v] w fun e w' => ∃ v', e = .returned v' ∧ Own w0 w' v' r := by
  refine (ops_Op_end.calls (fun _ => True) v os r w0 w ho.below (R_of_Own ho) hf).mono ?_
  rintro e w' ⟨v', he, hR, hB, _⟩
  exact ⟨v', he, Own_of_R hB hR⟩

/-! What keep, gone and end answer, by the last part. -/
theorem last_rd (r : List S54) (q : S54) : rd_T54 (r ++ [q]) (r.length : Int) = q := by simp [rd_T54]
theorem last_set (r : List S54) (q q' : S54) : (r ++ [q]).set r.length q' = r ++ [q'] := by simp
theorem last_wrap (r : List S54) (q : S54) (h : r.length ≤ 1000000) : wrap64 (((r ++ [q]).length : Int) - 1) = (r.length : Int) := by
  rw [List.length_append, List.length_singleton]
  unfold wrap64
  omega
theorem keep_nil (a : Int) : ops_Op_keep.f [] a = some [⟨1, a, ⟨#[]⟩⟩] := by simp [ops_Op_keep.f, wrap64]
theorem gone_nil (a : Int) : ops_Op_gone.f [] a = some [⟨3, a, ⟨#[]⟩⟩] := by simp [ops_Op_gone.f, wrap64]
theorem end_nil : ops_Op_end.f [] = some [] := by simp [ops_Op_end.f, wrap64]
theorem keep_snoc (r : List S54) (q : S54) (a : Int) (h : r.length ≤ 1000000) : ops_Op_keep.f (r ++ [q]) a = some (if q.f0 = 1 then r ++ [⟨q.f0, wrap64 (q.f1 + a), q.f2⟩] else r ++ [q] ++ [⟨1, a, ⟨#[]⟩⟩]) := by
  have hl : ((r ++ [q]).length : Int) = (r.length : Int) + 1 := by simp
  have hl2 : (r ++ [q]).length < 4398046511104 := by simp; omega
  simp only [ops_Op_keep.f]
  rw [last_wrap r q h, if_pos (by omega), if_pos (by omega), if_pos (by omega), last_rd, Int.toNat_natCast, last_set, if_pos hl2]
  split <;> rfl
theorem gone_snoc (r : List S54) (q : S54) (a : Int) (h : r.length ≤ 1000000) : ops_Op_gone.f (r ++ [q]) a = some (if q.f0 = 3 then r ++ [⟨q.f0, wrap64 (q.f1 + a), q.f2⟩] else r ++ [q] ++ [⟨3, a, ⟨#[]⟩⟩]) := by
  have hl : ((r ++ [q]).length : Int) = (r.length : Int) + 1 := by simp
  have hl2 : (r ++ [q]).length < 4398046511104 := by simp; omega
  simp only [ops_Op_gone.f]
  rw [last_wrap r q h, if_pos (by omega), if_pos (by omega), if_pos (by omega), last_rd, Int.toNat_natCast, last_set, if_pos hl2]
  split <;> rfl
theorem end_snoc (r : List S54) (q : S54) (h : r.length ≤ 1000000) : ops_Op_end.f (r ++ [q]) = some (if q.f0 = 1 then r else r ++ [q]) := by
  have hl : ((r ++ [q]).length : Int) = (r.length : Int) + 1 := by simp
  simp only [ops_Op_end.f]
  rw [last_wrap r q h, if_pos (by omega), if_pos (by omega), if_pos (by omega), last_rd]
  by_cases h1 : q.f0 = 1
  · rw [if_pos h1, if_pos h1, if_pos (by omega), Int.toNat_natCast, List.take_left]
  · rw [if_neg h1, if_neg h1]

/-! The plain law's parts as the program's. -/
def to54 : Pt → S54
  | .keep n => ⟨1, n, ⟨#[]⟩⟩
  | .ins c => ⟨2, c.length, str c⟩
  | .del n => ⟨3, n, ⟨#[]⟩⟩
/-- What was made so far, its last part first, as the row has it. -/
def rowOf (acc : List Pt) : List S54 := acc.reverse.map to54
theorem rowOf_cons (p : Pt) (r : List Pt) : rowOf (p :: r) = rowOf r ++ [to54 p] := by simp [rowOf]
theorem rowOf_length (acc : List Pt) : (rowOf acc).length = acc.length := by simp [rowOf]

theorem keep_rowOf (acc : List Pt) (n : Nat) (hl : acc.length ≤ 1000000) (ht : total acc ≤ 1000000) (hn : n ≤ 1000000) : ops_Op_keep.f (rowOf acc) n = some (rowOf (addR acc (.keep n))) := by
  match acc with
  | [] => exact keep_nil _
  | .keep m :: r =>
    have hm : m ≤ 1000000 := by simp only [total, List.map_cons, List.sum_cons, weight] at ht; omega
    rw [rowOf_cons, keep_snoc _ _ _ (by rw [rowOf_length]; simp only [List.length_cons] at hl; omega), if_pos (show (to54 (.keep m)).f0 = 1 from rfl)]
    show some (rowOf r ++ [⟨1, wrap64 ((m : Int) + n), ⟨#[]⟩⟩]) = some (rowOf (.keep (m + n) :: r))
    rw [rowOf_cons, show wrap64 ((m : Int) + n) = ((m + n : Nat) : Int) by unfold wrap64; omega]
    rfl
  | .ins c :: r =>
    rw [rowOf_cons, keep_snoc _ _ _ (by rw [rowOf_length]; simp only [List.length_cons] at hl; omega), if_neg (by simp [to54])]
    show _ = some (rowOf (.keep n :: .ins c :: r))
    rw [rowOf_cons, rowOf_cons]
    rfl
  | .del m :: r =>
    rw [rowOf_cons, keep_snoc _ _ _ (by rw [rowOf_length]; simp only [List.length_cons] at hl; omega), if_neg (by simp [to54])]
    show _ = some (rowOf (.keep n :: .del m :: r))
    rw [rowOf_cons, rowOf_cons]
    rfl
theorem gone_rowOf (acc : List Pt) (n : Nat) (hl : acc.length ≤ 1000000) (ht : total acc ≤ 1000000) (hn : n ≤ 1000000) : ops_Op_gone.f (rowOf acc) n = some (rowOf (addR acc (.del n))) := by
  match acc with
  | [] => exact gone_nil _
  | .del m :: r =>
    have hm : m ≤ 1000000 := by simp only [total, List.map_cons, List.sum_cons, weight] at ht; omega
    rw [rowOf_cons, gone_snoc _ _ _ (by rw [rowOf_length]; simp only [List.length_cons] at hl; omega), if_pos (show (to54 (.del m)).f0 = 3 from rfl)]
    show some (rowOf r ++ [⟨3, wrap64 ((m : Int) + n), ⟨#[]⟩⟩]) = some (rowOf (.del (m + n) :: r))
    rw [rowOf_cons, show wrap64 ((m : Int) + n) = ((m + n : Nat) : Int) by unfold wrap64; omega]
    rfl
  | .ins c :: r =>
    rw [rowOf_cons, gone_snoc _ _ _ (by rw [rowOf_length]; simp only [List.length_cons] at hl; omega), if_neg (by simp [to54])]
    show _ = some (rowOf (.del n :: .ins c :: r))
    rw [rowOf_cons, rowOf_cons]
    rfl
  | .keep m :: r =>
    rw [rowOf_cons, gone_snoc _ _ _ (by rw [rowOf_length]; simp only [List.length_cons] at hl; omega), if_neg (by simp [to54])]
    show _ = some (rowOf (.del n :: .keep m :: r))
    rw [rowOf_cons, rowOf_cons]
    rfl
theorem end_rowOf (acc : List Pt) (hl : acc.length ≤ 1000000) : ops_Op_end.f (rowOf acc) = some (rowOf (endR acc)) := by
  match acc with
  | [] => exact end_nil
  | .keep m :: r =>
    rw [rowOf_cons, end_snoc _ _ (by rw [rowOf_length]; simp only [List.length_cons] at hl; omega), if_pos (show (to54 (.keep m)).f0 = 1 from rfl)]
    rfl
  | .ins c :: r =>
    rw [rowOf_cons, end_snoc _ _ (by rw [rowOf_length]; simp only [List.length_cons] at hl; omega), if_neg (by simp [to54]), ← rowOf_cons]
    rfl
  | .del m :: r =>
    rw [rowOf_cons, end_snoc _ _ (by rw [rowOf_length]; simp only [List.length_cons] at hl; omega), if_neg (by simp [to54]), ← rowOf_cons]
    rfl


theorem own_form {w0 w : World} {v : Value} {os : List S54} (h : Own w0 w v os) {n : Nat} (hl : os.length = n + 1) : ∃ g cap, v = .slice (some ⟨g, 0, none⟩) (n + 1) cap := by
  obtain ⟨g, cap, e, _⟩ := h.row.form (by omega)
  exact ⟨g, cap, by rw [e, hl]⟩
theorem rowOf_at (p : Pt) (r : List Pt) : (rowOf (p :: r))[r.length]? = some (to54 p) := by
  rw [rowOf_cons, List.getElem?_append_right (by rw [rowOf_length]; exact Nat.le_refl _), rowOf_length, Nat.sub_self]
  rfl
theorem rowOf_at2 (p q : Pt) (r : List Pt) : (rowOf (p :: q :: r))[r.length]? = some (to54 q) := by
  rw [rowOf_cons, List.getElem?_append_left (by rw [rowOf_length]; exact Nat.lt_succ_self _)]
  exact rowOf_at q r
theorem rowOf_set (p : Pt) (r : List Pt) (q : S54) (p' : Pt) (h : to54 p' = q) : (rowOf (p :: r)).set r.length q = rowOf (p' :: r) := by
  rw [rowOf_cons, rowOf_cons, h, ← rowOf_length r]
  simp
theorem rowOf_set2 (o p : Pt) (r : List Pt) (q : S54) (p' : Pt) (h : to54 p' = q) : (rowOf (o :: p :: r)).set r.length q = rowOf (o :: p' :: r) := by
  rw [rowOf_cons o, rowOf_cons o, ← rowOf_set p r q p' h, List.set_append_left _ _ (by rw [rowOf_length]; exact Nat.lt_succ_self _)]

/-- put, whatever was made so far. -/
theorem put_any (w0 w : World) (v : Value) (acc : List Pt) (c : List Ch) (ho : Own w0 w v (rowOf acc)) (hf : Txt.Form acc) (hs : AllSound acc) (hc : AllCh c) (hl : acc.length ≤ 100000) (ht : total acc ≤ 1000000) (hw : c.length ≤ 1000000) :
    Calls Tryd.prog 31 #[v, .int .i64 c.length, .string (str c)] w fun e w' => ∃ v', e = .returned v' ∧ Own w0 w' v' (rowOf (addR acc (.ins c))) := by
  have hcs := size_le hc
  have h0 := rowOf_length acc
  match acc, hf, hs, hl, ht, h0, ho with
  | [], _, _, _, _, _, ho =>
    exact put_nil w0 w v c.length (str c) ho
  | .keep m :: r, _, _, hl, _, h0, ho =>
    obtain ⟨g, cap, rfl⟩ := own_form ho h0
    have hr : r.length ≤ 100000 := by simp only [List.length_cons] at hl; omega
    refine (put_keep w0 w g cap r.length _ c.length m (str c) _ ho h0 (rowOf_at _ _) (by omega)).mono ?_
    rintro e w' ⟨v', he, hO⟩
    refine ⟨v', he, ?_⟩
    show Own w0 w' v' (rowOf (.ins c :: .keep m :: r))
    rw [rowOf_cons]
    exact hO
  | .ins d :: r, _, hs, hl, ht, h0, ho =>
    obtain ⟨g, cap, rfl⟩ := own_form ho h0
    have hr : r.length ≤ 100000 := by simp only [List.length_cons] at hl; omega
    have hd : AllCh d := (hs _ List.mem_cons_self).2
    have hds := size_le hd
    have hdl : d.length ≤ 1000000 := by simp only [total, List.map_cons, List.sum_cons, weight] at ht; omega
    refine (put_mod1 w0 w g cap r.length _ d.length c.length (str d) (str c) ho h0 (rowOf_at _ _) (by omega) (by omega) (by omega) (by omega) (by omega) (by omega) (by omega)).mono ?_
    rintro e w' ⟨he, hO⟩
    refine ⟨_, he, ?_⟩
    rw [rowOf_set (.ins d) r _ (.ins (d ++ c)) (by simp [to54, str_append])] at hO
    exact hO
  | [.del m], _, _, _, _, h0, ho =>
    obtain ⟨g, cap, rfl⟩ := own_form (n := 0) ho h0
    refine (put_del1 w0 w g cap _ c.length m (str c) _ ho h0 (rowOf_at (.del m) [])).mono ?_
    rintro e w' ⟨v', he, hO⟩
    exact ⟨v', he, hO⟩
  | .del m :: .ins d :: r, _, hs, hl, ht, h0, ho =>
    obtain ⟨g, cap, rfl⟩ := own_form ho h0
    have hr : r.length ≤ 100000 := by simp only [List.length_cons] at hl; omega
    have hd : AllCh d := (hs _ (List.mem_cons_of_mem _ List.mem_cons_self)).2
    have hds := size_le hd
    have hdl : d.length ≤ 1000000 := by simp only [total, List.map_cons, List.sum_cons, weight] at ht; omega
    refine (put_mod2 w0 w g cap r.length _ d.length c.length m (str d) (str c) _ ho h0 (rowOf_at2 _ _ _) (rowOf_at (.del m) (.ins d :: r)) (by omega) (by omega) (by omega) (by omega) (by omega) (by omega) (by omega)).mono ?_
    rintro e w' ⟨he, hO⟩
    refine ⟨_, he, ?_⟩
    rw [rowOf_set2 (.del m) (.ins d) r _ (.ins (d ++ c)) (by simp [to54, str_append])] at hO
    exact hO
  | .del m :: .keep n :: r, _, _, hl, _, h0, ho =>
    obtain ⟨g, cap, rfl⟩ := own_form ho h0
    have hr : r.length ≤ 100000 := by simp only [List.length_cons] at hl; omega
    refine (put_del2 w0 w g cap r.length _ c.length m n (str c) _ _ ho h0 (rowOf_at2 _ _ _) (rowOf_at (.del m) (.keep n :: r)) (by omega)).mono ?_
    rintro e w' ⟨v', he, hO⟩
    refine ⟨v', he, ?_⟩
    show Own w0 w' v' (rowOf (.del m :: .ins c :: .keep n :: r))
    have e1 : (rowOf (.del m :: .keep n :: r)).take (r.length + 1) = rowOf (.keep n :: r) := by
      rw [rowOf_cons (.del m)]
      exact List.take_left' (rowOf_length _)
    have e2 : (rowOf (.del m :: .keep n :: r)).drop (r.length + 1) = [to54 (.del m)] := by
      rw [rowOf_cons (.del m)]
      exact List.drop_left' (rowOf_length _)
    rw [e1, e2] at hO
    rw [rowOf_cons, rowOf_cons]
    exact hO
  | .del m :: .del n :: r, hf, _, _, _, _, _ => exact absurd hf.1 (by simp [behind])

/-- A part as the program's value. -/
def valOf (p : Pt) : Value := .agg #[.int .i64 (to54 p).f0, .int .i64 (to54 p).f1, .string (to54 p).f2]

set_option maxHeartbeats 1000000 in
set_option maxRecDepth 100000 in
theorem add_any (w0 w : World) (v : Value) (acc : List Pt) (p : Pt) (ho : Own w0 w v (rowOf acc)) (hf : Txt.Form acc) (hs : AllSound acc) (hp : Sound p) (hl : acc.length ≤ 100000) (ht : total acc ≤ 1000000) (hw : weight p ≤ 1000000) :
    Calls Tryd.prog 22 #[v, valOf p] w fun e w' => ∃ v', e = .returned v' ∧ Own w0 w' v' (rowOf (addR acc p)) := by
  match p, hp, hw with
  | .keep n, hp, hw =>
    have hp' : 0 < n := hp
    have hc := fun o => keep_own w0 (w.alloc o) v _ _ n (ho.alloc o) (keep_rowOf acc n (by omega) ht hw)
    obtain ⟨x, hx⟩ : ∃ x : Int, x = n := ⟨_, rfl⟩
    show Calls Tryd.prog 22 #[v, .agg #[.int .i64 1, .int .i64 (n : Int), .string ⟨#[]⟩]] w _
    rw [← hx] at hc ⊢
    have h0 : (x == 0) = false := by rw [beq_eq_false_iff_ne]; omega
    have HX := Lib.hid hx
    clear hx ho hf hs
    go_enter Tryd.func22, Tryd.ntmps22
    go_wp2_with (go_at_call 29; refine (hc _).mono ?_; rintro e w' ⟨v', rfl, hO⟩; have HO := Lib.hid hO; clear hO)
    go_ret
    exact ⟨_, rfl, HO.out⟩
  | .del n, hp, hw =>
    have hp' : 0 < n := hp
    have hc := fun o => gone_own w0 (w.alloc o) v _ _ n (ho.alloc o) (gone_rowOf acc n (by omega) ht hw)
    obtain ⟨x, hx⟩ : ∃ x : Int, x = n := ⟨_, rfl⟩
    show Calls Tryd.prog 22 #[v, .agg #[.int .i64 3, .int .i64 (n : Int), .string ⟨#[]⟩]] w _
    rw [← hx] at hc ⊢
    have h0 : (x == 0) = false := by rw [beq_eq_false_iff_ne]; omega
    have HX := Lib.hid hx
    clear hx ho hf hs
    go_enter Tryd.func22, Tryd.ntmps22
    go_wp2_with (go_at_call 30; refine (hc _).mono ?_; rintro e w' ⟨v', rfl, hO⟩; have HO := Lib.hid hO; clear hO)
    go_ret
    exact ⟨_, rfl, HO.out⟩
  | .ins c, hp, hw =>
    have hp' : 0 < c.length := List.length_pos_iff.2 hp.1
    have hc := fun o => put_any w0 (w.alloc o) v acc c (ho.alloc o) hf hs hp.2 hl ht hw
    obtain ⟨x, hx⟩ : ∃ x : Int, x = c.length := ⟨_, rfl⟩
    show Calls Tryd.prog 22 #[v, .agg #[.int .i64 2, .int .i64 (c.length : Int), .string (str c)]] w _
    rw [← hx] at hc ⊢
    have h0 : (x == 0) = false := by rw [beq_eq_false_iff_ne]; omega
    have HX := Lib.hid hx
    clear hx ho hf hs
    go_enter Tryd.func22, Tryd.ntmps22
    go_wp2_with (go_at_call 31; refine (hc _).mono ?_; rintro e w' ⟨v', rfl, hO⟩; have HO := Lib.hid hO; clear hO)
    go_ret
    exact ⟨_, rfl, HO.out⟩

theorem end_any (w0 w : World) (v : Value) (acc : List Pt) (ho : Own w0 w v (rowOf acc)) (hl : acc.length ≤ 1000000) :
    Calls Tryd.prog 23 #[v] w fun e w' => ∃ v', e = .returned v' ∧ Own w0 w' v' (rowOf (endR acc)) := end_own w0 w v _ _ ho (end_rowOf acc hl)

end Go.Proofs.YtepgfnoafhlokaaDoor
