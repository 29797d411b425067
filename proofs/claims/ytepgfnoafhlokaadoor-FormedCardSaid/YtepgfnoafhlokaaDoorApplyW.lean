/- The walks of (Op).Parts, ops.Normal, ops.readOn, (Op).Done and ops.Apply: Normal answers the normal form, Apply what the operation leaves of the text. Conditions: sound parts, at most forty, that take no more characters than the text has; all numbers at most a million. -/
import Derived.Test.YtepgfnoafhlokaaDoorReadW
import Derived.Test.YtepgfnoafhlokaaDoorShelf
import Derived.Lib.UnsafeStr
namespace Go.Proofs.YtepgfnoafhlokaaDoor
open Go.RowKit Txt

/-! ### Parts -/
def c37 (p : Pt) : List Value := [.int .i64 (to37 p).f0, .int .i64 (to37 p).f1, .string (to37 p).f2]
theorem c37_one (p : Pt) : ∀ u ∈ c37 p, u.oneCell' = true := by
  intro u hu
  simp only [c37, List.mem_cons, List.not_mem_nil, or_false] at hu
  rcases hu with rfl | rfl | rfl <;> rfl
/-- The row of parts is the call's own: made since w0. -/
structure Own37 (w0 w : World) (v : Value) (ps : List Pt) : Prop where
  below : Below w0.heap.size w0 w
  row : w.ownsRow w0.heap.size 37 3 v ps.length (cells37 ps)
theorem Own37.none (w : World) : Own37 w w (.slice none 0 0) [] := ⟨Below.refl _ _, World.ownsRow_nil _ _ _ _⟩
theorem Own37.onward {w0 w w' : World} {v : Value} {ps : List Pt} (h : Own37 w0 w v ps) (hb : Below w.heap.size w w') : Own37 w0 w' v ps := ⟨h.below.trans (hb.mono h.below.size), row_below h.row hb⟩
theorem Own37.alloc {w0 w : World} {v : Value} {ps : List Pt} (h : Own37 w0 w v ps) (o : Obj) : Own37 w0 (w.alloc o) v ps := ⟨h.below.alloc h.below.size o, h.row.alloc o⟩
theorem Own37.reads {w0 w : World} {v : Value} {ps : List Pt} (h : Own37 w0 w v ps) : Reads w v ps := row_lower h.row (Nat.zero_le _)
theorem info37' : (Tryd.prog.info? 37).map (fun i => (i.zero, i.size, i.bytes)) = some (some (.agg #[(.int .i64 0), (.int .i64 0), (.string ⟨#[]⟩)]), 3, 32) := by kernel_rfl
theorem app37 (w0 w : World) (v : Value) (ps : List Pt) (p : Pt) (ho : Own37 w0 w v ps) (hl : ps.length ≤ 1000000) :
    ∃ v1 w1, (Builtin.append_ #[25, 25] 25 #[v, .slice (some ⟨w.heap.size, 0, none⟩) 1 1]).run Tryd.prog (w.alloc (.cells (c37 p).toArray 37)) = .ok v1 w1 ∧ Own37 w0 w1 v1 (ps ++ [p]) ∧ (w.alloc (.cells (c37 p).toArray 37)).grownBy w1 v.ownBlock := by
  obtain ⟨v1, w1, hr, hown, hb, hg⟩ := run_append_one (P := Tryd.prog) (w0 := w0) w0.heap.size 25 37 25 _ 3 32 Tryd.underlying25 info37' rfl (by decide) v ps.length (cells37 ps) (c37 p) ho.row ho.below ho.below.size hl (by omega) rfl (c37_one p)
  refine ⟨v1, w1, hr, ⟨hb, ?_⟩, hg⟩
  rw [List.length_append, cells37_append]
  simpa [cells37, c37] using hown
theorem take_snoc (ps : List Pt) (k : Nat) (p : Pt) (h : ps[k]? = some p) : ps.take (k + 1) = ps.take k ++ [p] := by
  obtain ⟨hk, rfl⟩ := List.getElem?_eq_some_iff.1 h
  exact List.take_succ_eq_append_getElem hk

set_option maxHeartbeats 1000000 in
set_option maxRecDepth 100000 in
theorem parts_none (w : World) (A : Option Addr) (cap : Nat) : Calls Tryd.prog 15 #[.slice A 0 cap] w fun e w' => e = .returned (.slice none 0 0) ∧ w = w' := by
  go_enter Tryd.func15, Tryd.ntmps15
  go_wp2
  refine wp_loop_rounds 1 ?_; rw [rounds_succ]
  go_wp2
  go_ret
  exact ⟨rfl, rfl⟩
set_option maxHeartbeats 2000000 in
set_option maxRecDepth 100000 in
theorem parts_row (w0 w : World) (g n cap : Nat) (qs : List Pt) (ho : Own w0 w (.slice (some ⟨g, 0, none⟩) n cap) (qs.map to54)) (hq : qs.length = n) (hl : n ≤ 1000) :
    Calls Tryd.prog 15 #[.slice (some ⟨g, 0, none⟩) n cap] w fun e w' => ∃ v', e = .returned v' ∧ Own37 w w' v' qs := by
  have HQ := Lib.hid hq
  clear hq
  have HO := Lib.hid ho
  clear ho
  go_enter Tryd.func15, Tryd.ntmps15
  go_wp2
  go_loopw [3, 8] (fun vo vi wr => ∃ k : Nat, k ≤ n ∧ vi = .int .i64 k ∧ Hid (Own37 w wr vo (qs.take k))) (fun _ i _ => n - (intOf i).toNat)
  case atStart => exact ⟨0, Nat.zero_le _, rfl, Lib.hid (Own37.none w)⟩
  case round =>
    obtain ⟨k, hk, rfl, HF⟩ := hrel
    by_cases hlt : k < n
    · have hkp : k < qs.length := by rw [HQ.out]; exact hlt
      obtain ⟨q, hqk⟩ : ∃ q, qs[k]? = some q := ⟨qs[k], List.getElem?_eq_getElem hkp⟩
      have hrow := (HO.out.onward HF.out.below).row
      rw [List.length_map, HQ.out] at hrow
      obtain ⟨c0, c1, c2⟩ := own_cells hrow k (to54 q) (by rw [List.getElem?_map, hqk]; rfl)
      obtain ⟨v1, w1, hr, hO, _⟩ := app37 w _ u3 (qs.take k) q (HF.out.alloc (.cells (c54 (to54 q)).toArray 54)) (by rw [List.length_take]; omega)
      rw [← take_snoc qs k q hqk] at hO
      have HN := Lib.hid hO
      rw [show (wr.alloc (.cells (c54 (to54 q)).toArray 54)).heap.size = wr.heap.size + 1 by simp] at hr
      clear hkp hrow hqk hO
      cases q with
      | ins c =>
        simp only [to54, to37, c54, c37] at c0 c1 c2 hr
        go_wp2_with (at_builtin; refine Lib.wpList_append_run _ rfl _ _ _ _ rfl _ _ rfl rfl _ _ hr ?_)
        go_roundw
        case rel => exact ⟨k + 1, by omega, by go_num, HN⟩
        case measure => simp [intOf]; omega
      | keep m =>
        simp only [to54, to37, c54, c37] at c0 c1 c2 hr
        go_wp2_with (at_builtin; refine Lib.wpList_append_run _ rfl _ _ _ _ rfl _ _ rfl rfl _ _ hr ?_)
        go_roundw
        case rel => exact ⟨k + 1, by omega, by go_num, HN⟩
        case measure => simp [intOf]; omega
      | del m =>
        simp only [to54, to37, c54, c37] at c0 c1 c2 hr
        go_wp2_with (at_builtin; refine Lib.wpList_append_run _ rfl _ _ _ _ rfl _ _ rfl rfl _ _ hr ?_)
        go_roundw
        case rel => exact ⟨k + 1, by omega, by go_num, HN⟩
        case measure => simp [intOf]; omega
    · obtain rfl : k = n := by omega
      have hO := HF.out
      rw [List.take_of_length_le (by rw [HQ.out]; exact Nat.le_refl _)] at hO
      have HN := Lib.hid hO
      clear hO
      go_wp2
      go_ret
      exact ⟨_, rfl, HN.out⟩
theorem parts_any (w0 w : World) (v : Value) (qs : List Pt) (ho : Own w0 w v (qs.map to54)) (hl : qs.length ≤ 1000) :
    Calls Tryd.prog 15 #[v] w fun e w' => ∃ v', e = .returned v' ∧ Reads w' v' qs ∧ Below w.heap.size w w' := by
  rcases ho.row.2 with ⟨rfl, h0⟩ | ⟨g, cap, cur, rfl, _⟩
  · rw [List.length_map] at h0
    obtain rfl := List.eq_nil_of_length_eq_zero h0
    refine (parts_none w none 0).mono ?_
    rintro e w' ⟨he, rfl⟩
    exact ⟨_, he, (Own37.none w).reads, Below.refl _ _⟩
  · rw [List.length_map] at ho ⊢
    refine (parts_row w0 w g _ cap qs ho rfl hl).mono ?_
    rintro e w' ⟨v', he, hO⟩
    exact ⟨v', he, hO.reads, hO.below⟩

/-! ### Normal -/
/-- What is asked of an operation on a text of n characters. -/
structure Fits (ps : List Pt) (n : Nat) : Prop where
  good : Good ps
  used : used ps ≤ n
  short : ps.length ≤ 40
  total : total ps ≤ 1000000

set_option maxHeartbeats 1000000 in
set_option maxRecDepth 100000 in
theorem normal_any (v : Value) (ps : List Pt) (n : Nat) (hn : n ≤ 1000000) (hf : Fits ps n) (w : World) (hr : Reads w v ps) :
    Calls Tryd.prog 8 #[v, .int .i64 n] w fun e w' => ∃ v', e = .returned (.tuple #[v', .int .i64 0]) ∧ Reads w' v' (norm ps) ∧ Below w.heap.size w w' := by
  have hc := read_any v ps hf.good n hn hf.used hf.short hf.total w hr
  have hl := (norm_facts ps hf.good.1).2.2.2.1
  have hs := hf.short
  clear hr hf hn
  go_enter Tryd.func8, Tryd.ntmps8
  go_wp2_with (go_at_call 14; refine hc.mono ?_)
  rintro e w1 ⟨v1, rfl, hO⟩
  have HO := Lib.hid hO
  clear hO hc
  go_wp2_with (go_at_call 15; refine (parts_any w w1 v1 (norm ps) HO.out (by omega)).mono ?_)
  rintro e w2 ⟨v2, rfl, hR, hB⟩
  have HR := Lib.hid hR
  have HB := Lib.hid hB
  clear hR hB
  go_wp2
  go_ret2
  exact ⟨_, rfl, HR.out, HO.out.below.trans (HB.out.mono HO.out.below.size)⟩

/-! ### readOn -/
theorem Own.lower {w0 w1 w : World} {v : Value} {os : List S54} (h : Own w1 w v os) (hb : Below w0.heap.size w0 w1) : Own w0 w v os := ⟨hb.trans (h.below.mono hb.size), row_lower h.row hb.size⟩

set_option maxHeartbeats 1000000 in
set_option maxRecDepth 100000 in
theorem readOn_any (cs : List Ch) (hcs : AllCh cs) (hn : cs.length ≤ 1000000) (v : Value) (ps : List Pt) (hf : Fits ps cs.length) (w : World) (hr : Reads w v ps) :
    Calls Tryd.prog 16 #[.string (str cs), v] w fun e w' => ∃ v', e = .returned (.tuple #[v', .int .i64 0]) ∧ Own w w' v' ((norm ps).map to54) := by
  have hc := length_any cs hcs hn w
  obtain ⟨n, hnn⟩ : ∃ n, n = cs.length := ⟨_, rfl⟩
  rw [← hnn] at hc hf hn
  clear hnn hcs
  have HR := Lib.hid hr
  clear hr
  go_enter Tryd.func16, Tryd.ntmps16
  go_wp2_with (go_at_call 21; refine hc.mono ?_)
  rintro e w1 ⟨rfl, hb⟩
  have HB := Lib.hid hb
  clear hb hc
  go_wp2_with (go_at_call 14; refine (read_any v ps hf.good n hn hf.used hf.short hf.total w1 (HR.out.below HB.out)).mono ?_)
  rintro e w2 ⟨v2, rfl, hO⟩
  have HO := Lib.hid (hO.lower HB.out)
  clear hO
  go_wp2
  go_ret2
  exact ⟨_, rfl, HO.out⟩

end Go.Proofs.YtepgfnoafhlokaaDoor
