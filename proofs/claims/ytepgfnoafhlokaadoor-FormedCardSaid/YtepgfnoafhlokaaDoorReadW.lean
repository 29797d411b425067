/- The walks of slices.ContainsFunc with the literal of ops.Read, of ops.Read and of ops.Normal: of sound parts that take no more characters than the text has, Read answers the normal form and no error. Conditions: at most forty parts, and all numbers at most a million. -/
import Derived.Test.YtepgfnoafhlokaaDoorRightW
namespace Go.Proofs.YtepgfnoafhlokaaDoor
open Go.RowKit Txt

set_option maxHeartbeats 1000000 in
set_option maxRecDepth 100000 in
theorem contains_any (v : Value) (ps : List Pt) (hg : Good ps) (w : World) (hr : Reads w v ps) (hl : ps.length ≤ 1000000) :
    Calls Tryd.prog 18 #[v, .func (.func 19) #[] #[]] w fun e w' => e = .returned (.bool false) ∧ Below w.heap.size w w' := by
  have hc := index_any v ps hg w hr hl
  clear hr hg hl
  go_enter Tryd.func18, Tryd.ntmps18
  go_wp2_with (go_at_call 27; refine hc.mono ?_; rintro e w' ⟨rfl, hb⟩; have HB := Lib.hid hb; clear hb)
  go_ret
  exact ⟨rfl, HB.out⟩

/-- What Read does with a part, in numbers: its kind, its number, its text; how many characters the text has; the greater of the two. -/
theorem part_facts (p : Pt) (hp : Sound p) (hw : weight p ≤ 1000000) : ∃ (K N M : Int) (T : ByteArray) (L : Nat), (to37 p).f0 = K ∧ (to37 p).f1 = N ∧ (to37 p).f2 = T ∧ valOf p = .agg #[.int .i64 K, .int .i64 M, .string T] ∧ N = use p ∧ max (L : Int) N = M ∧ L ≤ 1000000 ∧
    ∀ W : World, Calls Tryd.prog 21 #[.string T] W fun e w' => e = .returned (.tuple #[.int .i64 L, .bool true]) ∧ Below W.heap.size W w' := by
  match p, hp, hw with
  | .keep n, _, _ => exact ⟨1, n, n, ⟨#[]⟩, 0, rfl, rfl, rfl, rfl, rfl, by omega, by omega, fun W => length_any [] (fun _ h => by cases h) (by simp) W⟩
  | .del n, _, _ => exact ⟨3, n, n, ⟨#[]⟩, 0, rfl, rfl, rfl, rfl, rfl, by omega, by omega, fun W => length_any [] (fun _ h => by cases h) (by simp) W⟩
  | .ins c, hp, hw => exact ⟨2, 0, c.length, str c, c.length, rfl, rfl, rfl, rfl, rfl, by omega, hw, fun W => length_any c hp.2 hw W⟩

theorem Own.onward {w0 w w' : World} {v : Value} {os : List S54} (h : Own w0 w v os) (hb : Below w.heap.size w w') : Own w0 w' v os := ⟨h.below.trans (hb.mono h.below.size), row_below h.row hb⟩
theorem Own.none (w : World) : Own w w (.slice none 0 0) (rowOf []) := ⟨Below.refl _ _, World.ownsRow_nil _ _ _ _⟩

theorem used_take (ps : List Pt) (k : Nat) (p : Pt) (h : ps[k]? = some p) : used (ps.take (k + 1)) = used (ps.take k) + use p := by
  obtain ⟨hk, rfl⟩ := List.getElem?_eq_some_iff.1 h
  rw [List.take_succ_eq_append_getElem hk]
  unfold used
  rw [List.map_append, List.sum_append]
  simp
theorem total_take (ps : List Pt) (k : Nat) : total (ps.take k) ≤ total ps := by
  have : total ps = total (ps.take k) + total (ps.drop k) := by
    unfold total
    rw [← List.sum_append, ← List.map_append, List.take_append_drop]
  omega
theorem used_le (ps : List Pt) (k : Nat) : used (ps.take k) ≤ used ps := by
  have : used ps = used (ps.take k) + used (ps.drop k) := by
    unfold used
    rw [← List.sum_append, ← List.map_append, List.take_append_drop]
  omega
theorem addAll_take (ps : List Pt) (k : Nat) (p : Pt) (h : ps[k]? = some p) : addAll (ps.take (k + 1)) = addR (addAll (ps.take k)) p := by
  obtain ⟨hk, rfl⟩ := List.getElem?_eq_some_iff.1 h
  unfold addAll
  rw [List.take_succ_eq_append_getElem hk, List.foldl_append]
  rfl

theorem box_cell {W W2 : World} {cs : Array Value} {t : TypeId} (hb : Below (W.alloc (.cells cs t)).heap.size (W.alloc (.cells cs t)) W2) (j : Nat) (v : Value) (h : cs[j]? = some v) : W2.cell? ⟨W.heap.size, j, none⟩ = some v := by
  rw [hb.cell (p := ⟨W.heap.size, j, none⟩) (by simp), World.cell?, heap_alloc_new W]
  exact h
theorem use_le (p : Pt) : use p ≤ weight p := by cases p <;> simp [use, weight]

set_option maxHeartbeats 2000000 in
set_option maxRecDepth 100000 in
theorem read_any (v : Value) (ps : List Pt) (hg : Good ps) (n : Nat) (hn : n ≤ 1000000) (hu : used ps ≤ n) (hl : ps.length ≤ 40) (ht : total ps ≤ 1000000) (w : World) (hr : Reads w v ps) :
    Calls Tryd.prog 14 #[v, .int .i64 n] w fun e w' => ∃ v', e = .returned (.tuple #[v', .int .i64 0]) ∧ Own w w' v' ((norm ps).map to54) := by
  have hnorm : ∀ W V, Own w W V (rowOf (endR (addAll ps))) → Own w W V ((norm ps).map to54) := fun _ _ h => h
  have hcf := contains_any v ps hg w hr (by omega)
  rcases hr.form with ⟨rfl, rfl⟩ | ⟨g, cap, rfl, hcap, hcm, _⟩
  · clear hr hg hl hu ht
    go_enter Tryd.func14, Tryd.ntmps14
    go_wp2_with (go_at_call 18; refine hcf.mono ?_)
    rintro e w1 ⟨rfl, hb⟩
    have HO := Lib.hid ((Own.none w).onward hb)
    clear hb hcf
    go_wp2
    refine wp_loop_rounds 1 ?_; rw [rounds_succ]
    go_wp2_with (go_at_call 23; refine (end_any w _ _ [] HO.out (by simp)).mono ?_)
    rintro e w2 ⟨v', rfl, hO⟩
    have HO2 := Lib.hid hO
    clear hO
    go_wp2
    go_ret2
    exact ⟨_, rfl, HO2.out⟩
  · obtain ⟨m, hm⟩ : ∃ m, m = ps.length := ⟨_, rfl⟩
    rw [← hm] at hcap hr hl hcf ⊢
    have HN := Lib.hid hm
    clear hm
    have HR := Lib.hid hr
    clear hr
    have HU := Lib.hid hu
    have HT := Lib.hid ht
    clear hu ht
    go_enter Tryd.func14, Tryd.ntmps14
    go_wp2_with (go_at_call 18; refine hcf.mono ?_)
    rintro e w1 ⟨rfl, hb⟩
    have HO := Lib.hid ((Own.none w).onward hb)
    clear hb hcf
    go_wp2
    go_loopw [1, 6, 28] (fun vn vo vi wr => ∃ k : Nat, k ≤ m ∧ vi = .int .i64 k ∧ vn = .int .i64 ((n : Int) - used (ps.take k)) ∧ Hid (Own w wr vo (rowOf (addAll (ps.take k))))) (fun _ _ i _ => m - (intOf i).toNat)
    case atStart => exact ⟨0, Nat.zero_le _, rfl, by simp [used], HO⟩
    case round =>
      obtain ⟨k, hk, rfl, rfl, HO1⟩ := hrel
      clear HO
      by_cases hlt : k < m
      · have hkp : k < ps.length := by rw [← HN.out]; exact hlt
        obtain ⟨p, hp⟩ : ∃ p, ps[k]? = some p := ⟨ps[k], List.getElem?_eq_getElem hkp⟩
        have hpm : p ∈ ps := List.mem_of_getElem? hp
        obtain ⟨K, N, M, T, L, e1, e2, e3, e4, e5, e6, hL, hlen⟩ := part_facts p (hg.1 p hpm) (hg.2 p hpm)
        obtain ⟨c0, c1, c2⟩ := ((HR.out).below HO1.out.below).cells k p hp
        rw [e1] at c0
        rw [e2] at c1
        rw [e3] at c2
        have hN0 : 0 ≤ N := by omega
        have hN1 : N ≤ 1000000 := by have := use_le p; have := hg.2 p hpm; omega
        have hU1 : ((used (ps.take k) : Nat) : Int) ≤ 1000000 := by have := used_le ps k; have := HU.out; omega
        have E5 := Lib.hid e5
        have E4 := Lib.hid e4
        have E6 := Lib.hid e6
        have HP := Lib.hid hp
        have HPM := Lib.hid hpm
        clear e1 e2 e3 e4 e5 e6 hp hpm hkp
        go_wp2_with (go_at_call 21; refine (hlen _).mono ?_)
        rintro e w2 ⟨rfl, hb⟩
        have HO2 := Lib.hid ((HO1.out.alloc (.cells #[.int .i64 K, .int .i64 N, .string T] 37)).onward hb)
        have d0 := box_cell hb 0 _ rfl
        have d1 := box_cell hb 1 _ rfl
        have d2 := box_cell hb 2 _ rfl
        have hf := fold_add (ps.take k) [] trivial (fun _ h => by cases h) (fun q hq => hg.1 q (List.mem_of_mem_take hq))
        have hadd := add_any w w2 u6 (addAll (ps.take k)) p HO2.out hf.1 hf.2.1 (hg.1 p HPM.out) (by have := hf.2.2.2.2; unfold addAll; simp only [List.length_nil, List.length_take] at this; omega) (by have := hf.2.2.1; have := total_take ps k; have := HT.out; unfold addAll; simp [total] at *; omega) (hg.2 p HPM.out)
        rw [E4.out, ← E6.out] at hadd
        rw [← addAll_take ps k p HP.out] at hadd
        have E7 := Lib.hid (used_take ps k p HP.out)
        clear hb hf c0 c1 c2 hlen
        go_wp2_with fail
        (with_reducible refine hadd.mono ?_)
        rintro e w3 ⟨v3, rfl, hO⟩
        have HO3 := Lib.hid hO
        clear hO hadd d0 d1 d2
        go_wp2
        go_roundw
        case rel => exact ⟨k + 1, by omega, by go_num, by have := E5.out; have := E7.out; first | (congr 1; omega) | skip, HO3⟩
        case measure => simp [intOf]; omega
      · obtain rfl : k = m := by omega
        have hU2 : ((used (ps.take k) : Nat) : Int) ≤ n := by have := used_le ps k; have := HU.out; omega
        have e0 : ps.take k = ps := List.take_of_length_le (by have := HN.out; omega)
        have HO3 := Lib.hid HO1.out
        rw [e0] at HO3 hU2
        clear HO1
        rw [e0]
        have hf := fold_add ps [] trivial (fun _ h => by cases h) hg.1
        have hend := end_any w wr u6 _ HO3.out (by have := hf.2.2.2.2; unfold addAll; simp only [List.length_nil] at this; have := HN.out; omega)
        clear e0 hf
        go_wp2_with (go_at_call 23; refine hend.mono ?_)
        rintro e w2 ⟨v', rfl, hO⟩
        have HO2 := Lib.hid hO
        clear hO hend
        go_wp2
        go_ret2
        exact ⟨_, rfl, HO2.out⟩

end Go.Proofs.YtepgfnoafhlokaaDoor
