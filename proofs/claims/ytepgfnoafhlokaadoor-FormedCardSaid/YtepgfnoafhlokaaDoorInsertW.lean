/- The walks of slices.Insert at []part: one part goes in at the end, or ahead of the last one. Conditions: the row is the call's own, the part lies in a block of its own, and there are at most a million parts. -/
import Derived.Test.YtepgfnoafhlokaaDoorProg
import Derived.Test.YtepgfnoafhlokaaDoorRowLaws
import Derived.WalkKit
import Derived.Lib.Walk
import Derived.Lib.SliceRun
import Derived.Lib.AppendZeros
import Derived.Lib.Overlaps
import Derived.Lib.Builder
import Derived.Laws.Externs
import Derived.Laws.NewBlocks
import Derived.Lib.Hide
import Derived.WalkSpells
import Derived.KernelRfl
import Derived.Deep.RegionLaw
namespace Go.Proofs.YtepgfnoafhlokaaDoor
open Go.RowKit

theorem info54' : (Tryd.prog.info? 54).map (fun i => (i.zero, i.size, i.bytes)) = some (some (.agg #[(.int .i64 0), (.int .i64 0), (.string ⟨#[]⟩)]), 3, 32) := by kernel_rfl
theorem size54 : (Tryd.prog.info? 54).map (·.size) = some 3 := by kernel_rfl

set_option maxHeartbeats 1000000 in
set_option maxRecDepth 100000 in
theorem insert_end (w0 w : World) (v : Value) (n vb : Nat) (xs vs : List Value) (hB : Below w0.heap.size w0 w) (ho : w.ownsRow w0.heap.size 54 3 v n xs)
    (hvb : ∀ j u, vs[j]? = some u → w.cell? ⟨vb, j, none⟩ = some u) (hl : vs.length = 3) (h1 : ∀ u ∈ vs, u.oneCell' = true) (hn : n ≤ 1000000) :
    Calls Tryd.prog 34 #[v, .int .i64 n, .slice (some ⟨vb, 0, none⟩) 1 1] w fun e w' => ∃ v', e = .returned v' ∧ w'.ownsRow w0.heap.size 54 3 v' (n + 1) (xs ++ vs) ∧ Below w0.heap.size w0 w' := by
  obtain ⟨i0, hi, hz0, hz1, hz2⟩ := info_parts info54'
  obtain ⟨v', w', hrun, hown, hg, _, hat⟩ := run_append_own_at (P := Tryd.prog) w w0.heap.size 42 42 54 i0 _ 3 32 Tryd.underlying42 hi hz0 hz1 hz2 rfl (by decide) v n xs ho ⟨vb, 0, none⟩ 1 1 vs (by omega) (fun j u hj => by rw [Addr.add_lit]; simpa using hvb j u hj) h1 (by unfold maxLen; omega) (by omega) hB.size
  have hB' : Below w0.heap.size w0 w' := hB.grown hg hB.size (fun k hk => (ho.lt k hk).1)
  have HH : Hid (w'.ownsRow w0.heap.size 54 3 v' (n + 1) (xs ++ vs) ∧ Below w0.heap.size w0 w') := Lib.hid ⟨hown, hB'⟩
  clear hown hB' hg hat hvb hl h1 hz0 hz1 hz2
  rcases ho.2 with ⟨rfl, rfl⟩ | ⟨g, cap, cur, rfl, _, _, hnc, hcm, _, _⟩
  · have hr2 : (Builtin.append_ #[42, 41] 42 #[.slice none 0 0, .slice (some ⟨vb, 0, none⟩) 1 1]).run Tryd.prog w = .ok v' w' := by
      rw [run_append_src w 42 41 54 54 42 i0 none 0 0 ⟨vb, 0, none⟩ 1 1 Tryd.underlying42 Tryd.underlying41 hi]; exact hrun
    clear hrun ho hi
    go_enter Tryd.func34, Tryd.ntmps34
    go_wp2_with (at_builtin; refine Lib.wpList_append_run _ rfl _ _ _ _ rfl _ _ rfl rfl _ _ hr2 ?_)
    go_ret
    exact ⟨_, rfl, HH.out⟩
  · have hr2 : (Builtin.append_ #[42, 41] 42 #[.slice (some ⟨g, 0, none⟩) n cap, .slice (some ⟨vb, 0, none⟩) 1 1]).run Tryd.prog w = .ok v' w' := by
      rw [run_append_src w 42 41 54 54 42 i0 (some ⟨g, 0, none⟩) n cap ⟨vb, 0, none⟩ 1 1 Tryd.underlying42 Tryd.underlying41 hi]; exact hrun
    clear hrun ho hi
    unfold maxLen at hcm
    go_enter Tryd.func34, Tryd.ntmps34
    go_wp2_with (at_builtin; refine Lib.wpList_append_run _ rfl _ _ _ _ rfl _ _ rfl rfl _ _ hr2 ?_)
    all_goals (go_ret; exact ⟨_, rfl, HH.out⟩)


set_option maxHeartbeats 1000000 in
set_option maxRecDepth 100000 in
/-- Ahead of the last one, there is room. -/
theorem insert_room (w : World) (g p cap vb : Nat) (cur vs last : List Value) (hg : w.heap[g]? = some (.cells cur.toArray 54 (0, 0))) (hcap : p + 1 < cap) (_hcm : cap ≤ 9223372036854775807) (hcl : cur.length = cap * 3)
    (hlast : (cur.take (p * 3 + 3)).drop (p * 3) = last) (hvb : w.heap[vb]? = some (.cells vs.toArray 54 (0, 0))) (hne : vb ≠ g) (hl : vs.length = 3) (h1 : ∀ u ∈ vs, u.oneCell' = true) (h2 : ∀ u ∈ last, u.oneCell' = true) (hn : p ≤ 1000000) :
    Calls Tryd.prog 34 #[.slice (some ⟨g, 0, none⟩) (p + 1) cap, .int .i64 p, .slice (some ⟨vb, 0, none⟩) 1 1] w fun e w' => e = .returned (.slice (some ⟨g, 0, none⟩) (p + 1 + 1) cap) ∧
      w' = (w.drew.setRow g (splice cur ((p + 1) * 3) last).toArray).setRow g (splice (splice cur ((p + 1) * 3) last) (p * 3) vs).toArray := by
  have hov : ∀ lb cb, (callFunc 36 #[.slice (some ⟨vb, 0, none⟩) 1 1, .slice (some ⟨g, (p + 1) * 3, none⟩) lb cb]).run Tryd.prog w = .ok (.value (.bool false)) w := fun lb cb => by
    rw [run_callFunc_extern Tryd.func36 (by kernel_rfl) (by kernel_rfl) (by kernel_rfl) (e := Extern.SlicesOverlaps.overlaps #[41, 41] #[4]) (by kernel_rfl),
      Lib.run_overlaps_apart w 41 4 54 Tryd.underlying41 3 Tryd.sizeOf54 ⟨vb, 0, none⟩ ⟨g, (p + 1) * 3, none⟩ 1 1 lb cb hne 54 54 3 (cap * 3) (by simp [World.shape?, hvb, hl]) (by simp [World.shape?, hg, hcl]) (by omega) (by simp [World.frozen?, hvb]) (by simp [World.frozen?, hvb])]
    rfl
  have hll : last.length = 3 := by rw [← hlast]; simp; omega
  have hgl : ∀ j u, last[j]? = some u → w.cell? ⟨g, p * 3 + j, none⟩ = some u := fun j u hj => by
    rw [← hlast, List.getElem?_drop, List.getElem?_take] at hj
    split at hj
    · simpa [World.cell?, hg] using hj
    · cases hj
  have hs1 : (splice cur ((p + 1) * 3) last).length = cap * 3 := by rw [splice_length _ _ _ (by omega), hcl]
  have hcp1 : ∀ ty dc sc, (Builtin.copy_ #[42, 42] ty #[.slice (some ⟨g, (p + 1) * 3, none⟩) 1 dc, .slice (some ⟨g, p * 3, none⟩) 2 sc]).run Tryd.prog w.drew = .ok (goInt 1) (w.drew.setRow g (splice cur ((p + 1) * 3) last).toArray) := fun ty dc sc =>
    run_copy_wide w.drew 42 42 ty 54 g ((p + 1) * 3) 1 dc ⟨g, p * 3, none⟩ 2 sc cur 54 last 3 Tryd.underlying42 size54 hg (by rw [hll]; rfl) (fun j u hj => by rw [Addr.add_lit]; exact hgl j u hj) (by omega) h2
  obtain ⟨W1, hW1⟩ : ∃ W1, W1 = w.drew.setRow g (splice cur ((p + 1) * 3) last).toArray := ⟨_, rfl⟩
  have hg1 : W1.heap[g]? = some (.cells (splice cur ((p + 1) * 3) last).toArray 54 (0, 0)) := by rw [hW1]; exact setRow_heap _ _ _ _ _ _ hg
  have hv1 : W1.heap[vb]? = some (.cells vs.toArray 54 (0, 0)) := by rw [hW1, setRow_other _ _ _ _ hne]; exact hvb
  have hcp2 : ∀ ty dc, (Builtin.copy_ #[42, 41] ty #[.slice (some ⟨g, p * 3, none⟩) (p + 1 + 1 - p) dc, .slice (some ⟨vb, 0, none⟩) 1 1]).run Tryd.prog W1 = .ok (goInt 1) (W1.setRow g (splice (splice cur ((p + 1) * 3) last) (p * 3) vs).toArray) := fun ty dc => by
    rw [show p + 1 + 1 - p = 2 by omega]
    exact run_copy_wide W1 42 41 ty 54 g (p * 3) 2 dc ⟨vb, 0, none⟩ 1 1 _ 54 vs 3 Tryd.underlying42 size54 hg1 (by rw [hl]; rfl) (fun j u hj => by rw [Addr.add_lit]; simpa [World.cell?, hv1] using hj) (by omega) h1
  have HW1 := Lib.hid hW1
  rw [← hW1] at hcp1 ⊢
  clear hW1 hg1 hv1 hs1 hgl hll h1 h2 hl hlast hvb hg
  go_enter Tryd.func34, Tryd.ntmps34
  go_wp2_with (simp only [hov])
  have a1 : ((p : Int) + 1).toNat = p + 1 := by omega
  have a2 : (0 : Int) ≤ (p : Int) + 1 := by omega
  have a3 : (p : Int) + 1 ≤ (p : Int) + 1 + 1 := by omega
  have a4 : (p : Int) ≤ (p : Int) + 1 + 1 := by omega
  have a5 : ¬ (cap = p + 1) := by omega
  have a6 : ¬ (cap = p) := by omega
  have a7 : p + 1 + 1 - (p + 1) = 1 := by omega
  have a8 : p + 1 + 1 - p = 2 := by omega
  have a0 : IntKind.i64.wrap ((p : Int) + 1) = (p : Int) + 1 := by rw [IntKind.wrap_i64]; omega
  go_region_law (refine step_copy_known rfl _ _ 42 42 rfl _ _ (by simp [Act.eval, Act.put]) (by simp [Act.eval, Act.put]) (hcp1 _ _ _) ?_)
  clear a0 a1 a2 a3 a4 a5 a6 a7 a8
  go_wp2_with (at_builtin; refine wpList_copy_known _ rfl _ _ 42 41 rfl _ _ rfl rfl (hcp2 _ _) ?_)
  go_ret
  exact ⟨rfl, rfl⟩


set_option maxHeartbeats 1000000 in
set_option maxRecDepth 100000 in
/-- Ahead of the last one, there is no room: a new row. -/
theorem insert_new (w : World) (g p vb G : Nat) (cur ROW vs last : List Value) (hg : w.heap[g]? = some (.cells cur.toArray 54 (0, 0))) (hcl : cur.length = (p + 1) * 3)
    (hrz : ∀ ty, (Builtin.append_ #[42, 3] ty #[.slice (some ⟨g, 0, none⟩) p (p + 1), .int .i64 ((p : Int) + 1 + 1 - p)]).run Tryd.prog w = .ok (.slice (some ⟨w.heap.size, 0, none⟩) (p + 1 + 1) G) (w.drew.alloc (.cells ROW.toArray 54)))
    (hR : ROW.length = G * 3) (hG : p + 1 + 1 ≤ G) (_hG63 : G ≤ 9223372036854775807)
    (hlast : (cur.take (p * 3 + 3)).drop (p * 3) = last) (hvb : w.heap[vb]? = some (.cells vs.toArray 54 (0, 0))) (hl : vs.length = 3) (h1 : ∀ u ∈ vs, u.oneCell' = true) (h2 : ∀ u ∈ last, u.oneCell' = true) (hn : p ≤ 1000000) :
    Calls Tryd.prog 34 #[.slice (some ⟨g, 0, none⟩) (p + 1) (p + 1), .int .i64 p, .slice (some ⟨vb, 0, none⟩) 1 1] w fun e w' => e = .returned (.slice (some ⟨w.heap.size, 0, none⟩) (p + 1 + 1) G) ∧
      w' = (((w.drew.alloc (.cells ROW.toArray 54)).setRow w.heap.size (splice ROW (p * 3) vs).toArray).drew).setRow w.heap.size (splice (splice ROW (p * 3) vs) ((p + 1) * 3) last).toArray := by
  have hll : last.length = 3 := by rw [← hlast]; simp; omega
  have hgl : ∀ j u, last[j]? = some u → w.cell? ⟨g, p * 3 + j, none⟩ = some u := fun j u hj => by
    rw [← hlast, List.getElem?_drop, List.getElem?_take] at hj
    split at hj
    · simpa [World.cell?, hg] using hj
    · cases hj
  have hgw : g < w.heap.size := (Array.getElem?_eq_some_iff.1 hg).1
  have hvw : vb < w.heap.size := (Array.getElem?_eq_some_iff.1 hvb).1
  obtain ⟨W1, hW1⟩ : ∃ W1, W1 = w.drew.alloc (.cells ROW.toArray 54) := ⟨_, rfl⟩
  have hr1 : W1.heap[w.heap.size]? = some (.cells ROW.toArray 54 (0, 0)) := by rw [hW1]; exact heap_alloc_new w.drew _
  have hv1 : W1.heap[vb]? = some (.cells vs.toArray 54 (0, 0)) := by rw [hW1, Lib.alloc_old w.drew _ vb hvw]; exact hvb
  have hg1 : W1.heap[g]? = some (.cells cur.toArray 54 (0, 0)) := by rw [hW1, Lib.alloc_old w.drew _ g hgw]; exact hg
  have hcpA : ∀ ty dc, (Builtin.copy_ #[42, 41] ty #[.slice (some ⟨w.heap.size, p * 3, none⟩) (p + 1 + 1 - p) dc, .slice (some ⟨vb, 0, none⟩) 1 1]).run Tryd.prog W1 = .ok (goInt 1) (W1.setRow w.heap.size (splice ROW (p * 3) vs).toArray) := fun ty dc => by
    rw [show p + 1 + 1 - p = 2 by omega]
    exact run_copy_wide W1 42 41 ty 54 w.heap.size (p * 3) 2 dc ⟨vb, 0, none⟩ 1 1 _ 54 vs 3 Tryd.underlying42 size54 hr1 (by rw [hl]; rfl) (fun j u hj => by rw [Addr.add_lit]; simpa [World.cell?, hv1] using hj) (by omega) h1
  obtain ⟨W2, hW2⟩ : ∃ W2, W2 = W1.setRow w.heap.size (splice ROW (p * 3) vs).toArray := ⟨_, rfl⟩
  have hs1 : (splice ROW (p * 3) vs).length = G * 3 := by rw [splice_length _ _ _ (by omega), hR]
  have hr2 : W2.heap[w.heap.size]? = some (.cells (splice ROW (p * 3) vs).toArray 54 (0, 0)) := by rw [hW2]; exact setRow_heap _ _ _ _ _ _ hr1
  have hg2 : W2.heap[g]? = some (.cells cur.toArray 54 (0, 0)) := by rw [hW2, setRow_other _ _ _ _ (by omega)]; exact hg1
  have hg3 : W2.drew.heap[g]? = some (.cells cur.toArray 54 (0, 0)) := hg2
  have hcpB : ∀ ty dc sc, (Builtin.copy_ #[42, 42] ty #[.slice (some ⟨w.heap.size, (p + 1) * 3, none⟩) 1 dc, .slice (some ⟨g, p * 3, none⟩) 1 sc]).run Tryd.prog W2.drew = .ok (goInt 1) (W2.drew.setRow w.heap.size (splice (splice ROW (p * 3) vs) ((p + 1) * 3) last).toArray) := fun ty dc sc =>
    run_copy_wide W2.drew 42 42 ty 54 w.heap.size ((p + 1) * 3) 1 dc ⟨g, p * 3, none⟩ 1 sc _ 54 last 3 Tryd.underlying42 size54 hr2 (by rw [hll]; rfl) (fun j u hj => by
      rw [Addr.add_lit]
      rw [← hlast, List.getElem?_drop, List.getElem?_take] at hj
      split at hj
      · simpa [World.cell?, hg3] using hj
      · cases hj) (by omega) h2
  rw [← hW1] at hrz ⊢
  rw [← hW2] at hcpA ⊢
  clear hW1 hW2 hr1 hv1 hg1 hs1 hr2 hg2 hg3 hgl hll h1 h2 hl hlast hvb hg hR hcl
  go_enter Tryd.func34, Tryd.ntmps34
  go_wp2_with (first
    | (at_builtin; refine Lib.wpList_append_run _ rfl _ _ _ _ rfl _ _ rfl rfl _ _ (hrz _) ?_)
    | (at_builtin; refine wpList_copy_known _ rfl _ _ 42 41 rfl _ _ rfl rfl (hcpA _ _) ?_))
  have a1 : ((p : Int) + 1).toNat = p + 1 := by omega
  have a2 : (0 : Int) ≤ (p : Int) + 1 := by omega
  have a3 : (p : Int) + 1 ≤ (p : Int) + 1 + 1 := by omega
  have a4 : (p : Int) ≤ (p : Int) + 1 := by omega
  have a5 : ¬ (G = p + 1) := by omega
  have a6 : ¬ (p + 1 = p) := by omega
  have a7 : p + 1 + 1 - (p + 1) = 1 := by omega
  have a8 : p + 1 - p = 1 := by omega
  have a0 : IntKind.i64.wrap ((p : Int) + 1) = (p : Int) + 1 := by rw [IntKind.wrap_i64]; omega
  go_region_law (refine step_copy_known rfl _ _ 42 42 rfl _ _ (by simp [Act.eval, Act.put]) (by simp [Act.eval, Act.put]) (hcpB _ _ _) ?_)
  clear a0 a1 a2 a3 a4 a5 a6 a7 a8
  go_wp2
  go_ret
  exact ⟨rfl, rfl⟩


theorem heap_drew (w : World) (k : Nat) : w.drew.heap[k]? = w.heap[k]? := rfl
set_option maxHeartbeats 1000000 in
/-- Ahead of the last one. -/
theorem insert_last (w0 w : World) (v : Value) (p vb : Nat) (xs vs : List Value) (hB : Below w0.heap.size w0 w) (ho : w.ownsRow w0.heap.size 54 3 v (p + 1) xs)
    (hvb : w.heap[vb]? = some (.cells vs.toArray 54 (0, 0))) (hne : v.ownBlock ≠ some vb) (hl : vs.length = 3) (h1 : ∀ u ∈ vs, u.oneCell' = true) (h2 : ∀ u ∈ xs, u.oneCell' = true) (hn : p ≤ 1000000) :
    Calls Tryd.prog 34 #[v, .int .i64 p, .slice (some ⟨vb, 0, none⟩) 1 1] w fun e w' => ∃ v', e = .returned v' ∧ w'.ownsRow w0.heap.size 54 3 v' (p + 1 + 1) (xs.take (p * 3) ++ vs ++ xs.drop (p * 3)) ∧ Below w0.heap.size w0 w' := by
  have hxl : xs.length = (p + 1) * 3 := ho.1
  have hfl : (xs.take (p * 3) ++ vs ++ xs.drop (p * 3)).length = (p + 1 + 1) * 3 := by simp only [List.length_append, List.length_take, List.length_drop, hl]; omega
  rcases ho.2 with ⟨_, h⟩ | ⟨g, cap, cur, rfl, hbg, hg, hnc, hcm, hcs, htake⟩
  · omega
  · have hcl : cur.toList.length = cap * 3 := by rw [Array.length_toList]; exact hcs
    have hg' : w.heap[g]? = some (.cells cur.toList.toArray 54 (0, 0)) := by rw [Array.toArray_toList]; exact hg
    have hlast : (cur.toList.take (p * 3 + 3)).drop (p * 3) = xs.drop (p * 3) := by rw [show p * 3 + 3 = (p + 1) * 3 by omega, htake]
    have h2' : ∀ u ∈ xs.drop (p * 3), u.oneCell' = true := fun u hu => h2 u (List.mem_of_mem_drop hu)
    have hvg : vb ≠ g := fun e => hne (by simp [Value.ownBlock, e])
    have hm1 : maxLen = 9223372036854775807 := rfl
    by_cases hc : cap = p + 1
    · subst hc
      obtain ⟨i0, hi, hz0, hz1, hz2⟩ := info_parts info54'
      have hold : (Builtin.firstCells i0.size p (.slice (some ⟨g, 0, none⟩) p (p + 1))).run Tryd.prog w.drew = .ok (cur.toList.take (p * 3)).toArray w.drew := by
        rw [hz1]
        refine run_firstCells_some w.drew 3 p ⟨g, 0, none⟩ p (p + 1) (cur.toList.take (p * 3)) (by rw [List.length_take]; omega) (fun j u hj => ?_)
        rw [Addr.add_lit]
        rw [List.getElem?_take] at hj
        split at hj
        · have hg4 : w.drew.heap[g]? = some (.cells cur 54 (0, 0)) := hg
          simpa [World.cell?, hg4] using hj
        · cases hj
      have hz := fun ty => Lib.run_append_grow_zeros w 42 3 ty 54 i0 _ .i64 .i64 Tryd.underlying42 Tryd.underlying3 hi hz0 (some ⟨g, 0, none⟩) p (p + 1) (cur.toList.take (p * 3)) hold 2 (by omega) (by omega) (by omega) (by omega) (by rw [hz2]; omega) (by rw [hz2]; exact growslice_fits (by omega) (by omega))
      obtain ⟨G, hG⟩ : ∃ G, G = grownCap w (p + 2) (p + 1) 54 := ⟨_, rfl⟩
      have hGn : p + 2 ≤ G := by rw [hG]; exact grownCap_ge w _ _ _
      have hGm : G ≤ maxLen := by rw [hG]; exact grownCap_le_maxLen w (p + 2) (p + 1) 54 (by unfold maxLen; omega)
      rw [← hG] at hz
      obtain ⟨ROW, hROW⟩ : ∃ ROW : List Value, ROW = ((cur.toList.take (p * 3)).toArray ++ Builtin.zeroCells (Value.agg #[(.int .i64 0), (.int .i64 0), (.string ⟨#[]⟩)]).cells 2 ++ Builtin.zeroCells (Value.agg #[(.int .i64 0), (.int .i64 0), (.string ⟨#[]⟩)]).cells (G - (p + 2))).toList := ⟨_, rfl⟩
      have hcz : (Value.agg #[(.int .i64 0), (.int .i64 0), (.string ⟨#[]⟩)]).cells.size = 3 := rfl
      have hRl : ROW.length = G * 3 := by
        rw [hROW, Array.length_toList]
        simp only [Array.size_append, size_zeroCells, hcz, List.size_toArray, List.length_take]
        omega
      have hRt : ROW.take (p * 3) = xs.take (p * 3) := by
        rw [hROW]
        simp only [Array.toList_append, List.append_assoc]
        rw [List.take_append_of_le_length (by simp; omega), List.take_of_length_le (by simp; omega), ← htake, List.take_take, Nat.min_eq_left (by omega)]
      have hz' : ∀ ty, (Builtin.append_ #[42, 3] ty #[.slice (some ⟨g, 0, none⟩) p (p + 1), .int .i64 ((p : Int) + 1 + 1 - p)]).run Tryd.prog w = .ok (.slice (some ⟨w.heap.size, 0, none⟩) (p + 1 + 1) G) (w.drew.alloc (.cells ROW.toArray 54)) := fun ty => by
        rw [show (p : Int) + 1 + 1 - p = ((2 : Nat) : Int) by omega, hROW, Array.toArray_toList]
        exact hz ty
      refine (insert_new w g p vb G cur.toList ROW vs (xs.drop (p * 3)) hg' hcl hz' hRl hGn (by omega) hlast hvb hl h1 h2' hn).mono ?_
      rintro e w' ⟨he, hw⟩
      have hfin := insert_grow ROW xs vs (p * 3) 3 3 hRt (by omega) (by omega) hl
      have hs1 : (splice ROW (p * 3) vs).length = G * 3 := by rw [splice_length _ _ _ (by omega), hRl]
      have hs2 : (splice (splice ROW (p * 3) vs) ((p + 1) * 3) (xs.drop (p * 3))).length = G * 3 := by rw [splice_length _ _ _ (by rw [List.length_drop]; omega), hs1]
      have q1 : (w.drew.alloc (.cells ROW.toArray 54)).heap[w.heap.size]? = some (.cells ROW.toArray 54 (0, 0)) := heap_alloc_new w.drew _
      have q2 := setRow_heap _ w.heap.size _ (splice ROW (p * 3) vs).toArray _ _ q1
      have q3 := setRow_heap _ w.heap.size _ (splice (splice ROW (p * 3) vs) ((p + 1) * 3) (xs.drop (p * 3))).toArray _ _ (show ((w.drew.alloc (.cells ROW.toArray 54)).setRow w.heap.size (splice ROW (p * 3) vs).toArray).drew.heap[w.heap.size]? = _ from q2)
      have b1 : Below w0.heap.size w0 (w.drew.alloc (.cells ROW.toArray 54)) := Below.alloc (show Below w0.heap.size w0 w.drew from ⟨hB.os, hB.tape, hB.output, hB.size, hB.block⟩) hB.size _
      have b2 := below_setRow b1 hB.size (splice ROW (p * 3) vs).toArray
      have b3 := below_setRow (show Below w0.heap.size w0 ((w.drew.alloc (.cells ROW.toArray 54)).setRow w.heap.size (splice ROW (p * 3) vs).toArray).drew from ⟨b2.os, b2.tape, b2.output, b2.size, b2.block⟩) hB.size (splice (splice ROW (p * 3) vs) ((p + 1) * 3) (xs.drop (p * 3))).toArray
      rw [← hw] at q3 b3
      refine ⟨_, he, ⟨hfl, .inr ⟨w.heap.size, G, _, rfl, hB.size, q3, hGn, hGm, by rw [List.size_toArray]; exact hs2, ?_⟩⟩, b3⟩
      rw [← hfin]
      rw [show (p + 1 + 1) * 3 = p * 3 + 3 + 3 by omega, show (p + 1) * 3 = p * 3 + 3 by omega]
    · refine (insert_room w g p cap vb cur.toList vs (xs.drop (p * 3)) hg' (by omega) (by omega) hcl hlast hvb hvg hl h1 h2' hn).mono ?_
      rintro e w' ⟨he, hw⟩
      have hfin := insert_shift cur.toList xs vs (p * 3) 3 3 (by rw [show p * 3 + 3 = (p + 1) * 3 by omega]; exact htake) (by omega) hl
      have hs1 : (splice cur.toList ((p + 1) * 3) (xs.drop (p * 3))).length = cap * 3 := by rw [splice_length _ _ _ (by rw [List.length_drop]; omega), hcl]
      have hs2 : (splice (splice cur.toList ((p + 1) * 3) (xs.drop (p * 3))) (p * 3) vs).length = cap * 3 := by rw [splice_length _ _ _ (by omega), hs1]
      have q2 := setRow_heap w.drew g _ (splice cur.toList ((p + 1) * 3) (xs.drop (p * 3))).toArray _ _ (show w.drew.heap[g]? = _ from hg)
      have q3 := setRow_heap _ g _ (splice (splice cur.toList ((p + 1) * 3) (xs.drop (p * 3))) (p * 3) vs).toArray _ _ q2
      have b2 := below_setRow (show Below w0.heap.size w0 w.drew from ⟨hB.os, hB.tape, hB.output, hB.size, hB.block⟩) hbg (splice cur.toList ((p + 1) * 3) (xs.drop (p * 3))).toArray
      have b3 := below_setRow b2 hbg (splice (splice cur.toList ((p + 1) * 3) (xs.drop (p * 3))) (p * 3) vs).toArray
      rw [← hw] at q3 b3
      refine ⟨_, he, ⟨hfl, .inr ⟨g, cap, _, rfl, hbg, q3, by omega, hcm, by rw [List.size_toArray]; exact hs2, ?_⟩⟩, b3⟩
      rw [← hfin]
      rw [show (p + 1 + 1) * 3 = p * 3 + 3 + 3 by omega, show (p + 1) * 3 = p * 3 + 3 by omega]

end Go.Proofs.YtepgfnoafhlokaaDoor
