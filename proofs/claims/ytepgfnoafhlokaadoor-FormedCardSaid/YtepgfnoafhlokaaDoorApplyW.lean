/- The walks of (Op).Parts, ops.Normal, ops.readOn, (Op).Done and ops.Apply: Normal answers the normal form, Apply what the operation leaves of the text. Conditions: sound parts, at most forty, that take no more characters than the text has; all numbers at most a million. -/
import Derived.Test.YtepgfnoafhlokaaDoorReadW
import Derived.Test.YtepgfnoafhlokaaDoorTakenB
import Derived.Test.YtepgfnoafhlokaaDoorShelf
import Derived.Lib.UnsafeStr
namespace Go.Proofs.YtepgfnoafhlokaaDoor
open Go.RowKit PFormed Txt Go.Proofs.YtepgfnoafhlokaaDoorW.PrintWords

/-! ### Parts -/
theorem rd54_at (qs : List Pt) (j : Nat) (q : Pt) (h : qs[j]? = some q) : rd_T54 (qs.map to54) (j : Int) = to54 q := by
  simp [rd_T54, List.getD_eq_getElem?_getD, List.getElem?_map, h]
theorem parts_loop (qs : List Pt) (hl : qs.length ≤ 1000000) : ∀ (d k : Nat), k + d = qs.length → ops_Op_Parts.l0 (d + 1) ((qs.take k).map to37) (qs.map to54) (qs.length : Int) (k : Int) = some (qs.map to37)
  | 0, k, hk => by
    simp only [ops_Op_Parts.l0]
    rw [if_neg (by omega), List.take_of_length_le (by omega)]
  | d + 1, k, hk => by
    have hlt : k < qs.length := by omega
    obtain ⟨q, hq⟩ : ∃ q, qs[k]? = some q := ⟨qs[k], List.getElem?_eq_getElem hlt⟩
    have ih := parts_loop qs hl d (k + 1) (by omega)
    have hw : wrap64 ((k : Int) + 1) = ((k + 1 : Nat) : Int) := by unfold wrap64; omega
    have ht : (qs.take (k + 1)).map to37 = (qs.take k).map to37 ++ [to37 q] := by
      have : qs[k] = q := (List.getElem?_eq_some_iff.1 hq).2
      rw [List.take_succ_eq_append_getElem hlt, List.map_append, this]
      rfl
    rw [ht] at ih
    have hs : ((qs.take k).map to37).length < 4398046511104 := by simp; omega
    unfold ops_Op_Parts.l0
    rw [if_pos (by omega), if_pos (by omega), if_pos (by simp; omega), rd54_at qs k q hq, hw, if_pos hs, if_pos hs]
    cases q with
    | keep n => rw [if_neg (by simp [to54])]; exact ih
    | del n => rw [if_neg (by simp [to54])]; exact ih
    | ins c => rw [if_pos (by simp [to54])]; exact ih
theorem parts_f (qs : List Pt) (hl : qs.length ≤ 1000000) : ops_Op_Parts.f (qs.length + 1) (qs.map to54) = some (qs.map to37) := by
  have h := parts_loop qs hl qs.length 0 (by omega)
  simp only [ops_Op_Parts.f, List.length_map]
  exact h

theorem cells_of_reps {M : S37 → List Value → Prop} (hM : ∀ p c, M p c → c = [.int .i64 p.f0, .int .i64 p.f1, .string p.f2]) : ∀ (ps : List Pt) (inner : List Value), Reps M 3 (ps.map to37) inner → inner = cells37 ps
  | [], inner, h => List.eq_nil_of_length_eq_zero (by simpa using h.1)
  | p :: r, inner, h => by
    have h0 := hM _ _ (h.2 0 (to37 p) rfl)
    simp only [Nat.zero_mul, List.drop_zero] at h0
    have hr : Reps M 3 (r.map to37) (inner.drop 3) := by
      refine ⟨by have := h.1; simp only [List.map_cons, List.length_cons] at this; rw [List.length_drop]; omega, fun j q hq => ?_⟩
      have := h.2 (j + 1) q (by simpa using hq)
      rw [List.drop_drop, show 3 + j * 3 = (j + 1) * 3 by omega]
      exact this
    have ih := cells_of_reps hM r _ hr
    rw [← List.take_append_drop 3 inner, h0, ih]
    rfl
theorem Reads_of_R {w : World} {base : Nat} {ok : Nat → Prop} {v : Value} {ps : List Pt} (h : Kd.R k37 37 w base ok v (ps.map to37)) : Reads w v ps := by
  obtain ⟨_, inner, ho, hr⟩ := h
  have e := cells_of_reps (fun p c hc => k37_openM hc) ps inner hr
  subst e
  rw [List.length_map] at ho
  exact own_weaken ho (Nat.zero_le _)

theorem parts_any (w0 w : World) (v : Value) (qs : List Pt) (ho : Own w0 w v (qs.map to54)) (hl : qs.length ≤ 1000000) :
    Calls Tryd.prog 15 #[v] w fun e w' => ∃ v', e = .returned v' ∧ Reads w' v' qs ∧ Below w.heap.size w w' := by
  obtain ⟨A, c, rfl, hc, hC⟩ := Kd.R_reads (R_of_Own ho)
  refine (ops_Op_Parts.calls (qs.length + 1) A c (qs.map to54) (qs.map to37) w hC hc (parts_f qs hl)).mono ?_
  rintro e w' ⟨v', he, hR, hB⟩
  exact ⟨v', he, Reads_of_R hR, hB⟩

/-! ### Normal -/
/-- What is asked of an operation on a text of n characters. -/
structure Fits (ps : List Pt) (n : Nat) : Prop where
  good : Good ps
  used : used ps ≤ n
  short : ps.length ≤ 40
  total : total ps ≤ 1000000

set_option maxHeartbeats 1000000 in
set_option maxRecDepth 100000 in
theorem normal_any (v : Value) (ps : List Pt) (n : Nat) (hn : n ≤ 1000000) (hf : Fits ps n) (w : World) (hr : Reads w v ps) :
    Calls Tryd.prog 8 #[v, .int .i64 n] w fun e w' => ∃ v', e = .returned (.tuple #[v', .int .i64 0]) ∧ Reads w' v' (norm ps) ∧ Below w.heap.size w w' := by
  have hc := read_any v ps hf.good n hn hf.used hf.short hf.total w hr
  have hl := (norm_facts ps hf.good.1).2.2.2.1
  have hs := hf.short
  clear hr hf hn
  go_enter Tryd.func8, Tryd.ntmps8
  go_wp2_with (go_at_call 14; refine hc.mono ?_)
  rintro e w1 ⟨v1, rfl, hO⟩
  have HO := Lib.hid hO
  clear hO hc
  go_wp2_with (go_at_call 15; refine (parts_any w w1 v1 (norm ps) HO.out (by omega)).mono ?_)
  rintro e w2 ⟨v2, rfl, hR, hB⟩
  have HR := Lib.hid hR
  have HB := Lib.hid hB
  clear hR hB
  go_wp2
  go_ret2
  exact ⟨_, rfl, HR.out, HO.out.below.trans (HB.out.mono HO.out.below.size)⟩

/-! ### readOn -/
theorem Own.lower {w0 w1 w : World} {v : Value} {os : List S54} (h : Own w1 w v os) (hb : Below w0.heap.size w0 w1) : Own w0 w v os := ⟨hb.trans (h.below.mono hb.size), own_weaken h.row hb.size⟩

set_option maxHeartbeats 1000000 in
set_option maxRecDepth 100000 in
theorem readOn_any (cs : List Ch) (hcs : AllCh cs) (hn : cs.length ≤ 1000000) (v : Value) (ps : List Pt) (hf : Fits ps cs.length) (w : World) (hr : Reads w v ps) :
    Calls Tryd.prog 16 #[.string (str cs), v] w fun e w' => ∃ v', e = .returned (.tuple #[v', .int .i64 0]) ∧ Own w w' v' ((norm ps).map to54) := by
  have hc := length_any cs hcs hn w
  obtain ⟨n, hnn⟩ : ∃ n, n = cs.length := ⟨_, rfl⟩
  rw [← hnn] at hc hf hn
  clear hnn hcs
  have HR := Lib.hid hr
  clear hr
  go_enter Tryd.func16, Tryd.ntmps16
  go_wp2_with (go_at_call 21; refine hc.mono ?_)
  rintro e w1 ⟨rfl, hb⟩
  have HB := Lib.hid hb
  clear hb hc
  go_wp2_with (go_at_call 14; refine (read_any v ps hf.good n hn hf.used hf.short hf.total w1 (HR.out.below HB.out)).mono ?_)
  rintro e w2 ⟨v2, rfl, hO⟩
  have HO := Lib.hid (hO.lower HB.out)
  clear hO
  go_wp2
  go_ret2
  exact ⟨_, rfl, HO.out⟩

end Go.Proofs.YtepgfnoafhlokaaDoor
