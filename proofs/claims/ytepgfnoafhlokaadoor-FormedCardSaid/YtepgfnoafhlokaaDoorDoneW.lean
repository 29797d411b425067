/- The walks of (Op).Done and ops.Apply: what the operation leaves of the text, as the plain law's 'done' says. Conditions: sound parts, at most forty, that take no more characters than the text has; all numbers at most a million. -/
import Derived.Test.YtepgfnoafhlokaaDoorApplyW
import Derived.Lib.OthersKept
namespace Go.Proofs.YtepgfnoafhlokaaDoor
open Go.RowKit Txt

theorem builder_below {T e : TypeId} {B b : Nat} {bs : List Value} {W W' : World} (h : Lib.IsBuilderF T e B b bs W) (hb : Below W.heap.size W W') : Lib.IsBuilderF T e B b bs W' := by
  have one : ∀ {p : Value}, Lib.BuilderAtF T e B b p bs W → Lib.BuilderAtF T e B b p bs W' := by
    rintro p ⟨hB, v, hbk, hown, hne⟩
    refine ⟨hB, v, ?_, hown.kept (row := none) (grown_below hb none) (by cases v.ownBlock <;> simp), hne⟩
    rw [hb.block b (Array.getElem?_eq_some_iff.1 hbk).1]
    exact hbk
  exact h.elim (fun x => .inl (one x)) (fun x => .inr (one x))

/-- How far the loop of Done has come. -/
structure Far (B : Nat) (w wr : World) (qs : List Pt) (cs : List Ch) (k : Nat) (out rest : List Ch) : Prop where
  chars : AllCh rest
  short : rest.length ≤ 1000000
  small : out.flatten.length ≤ k * 4000000
  law : out ++ done (qs.drop k) rest = done qs cs
  builder : Lib.IsBuilderF 59 5 B B (Lib.byteCells out.flatten) wr
  below : Below B w wr
theorem Far.ins {B : Nat} {w wr w2 : World} {qs : List Pt} {cs : List Ch} {k : Nat} {out rest : List Ch} (h : Far B w wr qs cs k out rest) {c : List Ch} (hq : qs[k]? = some (.ins c)) (hc : AllCh c) (hw : c.length ≤ 1000000)
    (hB : Lib.IsBuilderF 59 5 B B (Lib.byteCells out.flatten ++ Lib.strCells (str c)) w2) (hb : Below B w w2) : Far B w w2 qs cs (k + 1) (out ++ c) rest := by
  obtain ⟨hk, hqk⟩ := List.getElem?_eq_some_iff.1 hq
  have hs := size_le hc
  rw [size_str] at hs
  refine ⟨h.chars, h.short, ?_, ?_, ?_, hb⟩
  · rw [List.flatten_append, List.length_append]; have := h.small; omega
  · rw [← h.law, List.drop_eq_getElem_cons hk, hqk, List.append_assoc]; rfl
  · rw [Lib.strCells_eq, toList_str, ← Lib.byteCells_append, ← List.flatten_append] at hB; exact hB
theorem Far.keep {B : Nat} {w wr w2 : World} {qs : List Pt} {cs : List Ch} {k : Nat} {out rest : List Ch} (h : Far B w wr qs cs k out rest) {n : Nat} (hq : qs[k]? = some (.keep n))
    (hB : Lib.IsBuilderF 59 5 B B (Lib.byteCells out.flatten ++ Lib.strCells (str (rest.take n))) w2) (hb : Below B w w2) : Far B w w2 qs cs (k + 1) (out ++ rest.take n) (rest.drop n) := by
  obtain ⟨hk, hqk⟩ := List.getElem?_eq_some_iff.1 hq
  have hs := size_le (allCh_take h.chars n)
  rw [size_str, List.length_take] at hs
  refine ⟨allCh_drop h.chars n, by rw [List.length_drop]; have := h.short; omega, ?_, ?_, ?_, hb⟩
  · rw [List.flatten_append, List.length_append]; have := h.small; have := h.short; omega
  · rw [← h.law, List.drop_eq_getElem_cons hk, hqk, List.append_assoc]; rfl
  · rw [Lib.strCells_eq, toList_str, ← Lib.byteCells_append, ← List.flatten_append] at hB; exact hB
theorem Far.del {B : Nat} {w wr w2 : World} {qs : List Pt} {cs : List Ch} {k : Nat} {out rest : List Ch} (h : Far B w wr qs cs k out rest) {n : Nat} (hq : qs[k]? = some (.del n))
    (hB : Lib.IsBuilderF 59 5 B B (Lib.byteCells out.flatten) w2) (hb : Below B w w2) : Far B w w2 qs cs (k + 1) out (rest.drop n) := by
  obtain ⟨hk, hqk⟩ := List.getElem?_eq_some_iff.1 hq
  refine ⟨allCh_drop h.chars n, by rw [List.length_drop]; have := h.short; omega, ?_, ?_, hB, hb⟩
  · exact Nat.le_trans h.small (Nat.mul_le_mul_right _ (Nat.le_succ k))
  · rw [← h.law, List.drop_eq_getElem_cons hk, hqk]; rfl

set_option maxHeartbeats 4000000 in
set_option maxRecDepth 1000000 in
theorem done_row (w0 w : World) (g n cap : Nat) (qs : List Pt) (cs : List Ch) (ho : Own w0 w (.slice (some ⟨g, 0, none⟩) n cap) (qs.map to54)) (hq : qs.length = n) (hcs : AllCh cs) (hcl : cs.length ≤ 1000000) (hg : Good qs) (hl : n ≤ 1000) :
    Calls Tryd.prog 17 #[.slice (some ⟨g, 0, none⟩) n cap, .string (str cs)] w fun e w' => e = .returned (.string (str (done qs cs))) ∧ Below w.heap.size w w' := by
  have HQ := Lib.hid hq
  clear hq
  have HO := Lib.hid ho
  clear ho
  go_enter Tryd.func17, Tryd.ntmps17
  go_wp2
  go_loopw [1, 12] (fun vt vi wr => ∃ (k : Nat) (out rest : List Ch), k ≤ n ∧ vi = .int .i64 k ∧ vt = .string (str rest) ∧ Hid (Far w.heap.size w wr qs cs k out rest)) (fun _ i _ => n - (intOf i).toNat)
  case atStart => exact ⟨0, [], cs, Nat.zero_le _, rfl, rfl, Lib.hid ⟨hcs, hcl, by simp, by simp, Lib.IsBuilderF.of (Lib.fresh_isBuilder 59 5 w), (Below.refl _ _).alloc (Nat.le_refl _) _⟩⟩
  case round =>
    obtain ⟨k, out, rest, hk, rfl, rfl, HF⟩ := hrel
    have hB1 := HF.out.below.size
    by_cases hlt : k < n
    · have hkp : k < qs.length := by rw [HQ.out]; exact hlt
      obtain ⟨q, hqk⟩ : ∃ q, qs[k]? = some q := ⟨qs[k], List.getElem?_eq_getElem hkp⟩
      have hqm : q ∈ qs := List.mem_of_getElem? hqk
      have hrow := (HO.out.onward HF.out.below).row
      rw [List.length_map, HQ.out] at hrow
      obtain ⟨c0, c1, c2⟩ := own_cells hrow k (to54 q) (by rw [List.getElem?_map, hqk]; rfl)
      have hs := hg.1 q hqm
      have hw := hg.2 q hqm
      clear hkp hqm hrow
      cases q with
      | ins c =>
        have hsz := size_le hs.2
        have hsm := HF.out.small
        have hwr := fun o => Tryd.Builder_WriteString_k w.heap.size w.heap.size (Lib.byteCells out.flatten) (str c) (wr.alloc o) (HF.out.builder.alloc o) (by rw [Lib.byteCells_length]; have : c.length ≤ 1000000 := hw; omega) (by simp; omega)
        have HK := Lib.hid hqk
        have HS := Lib.hid hs
        have HW := Lib.hid hw
        clear hqk hs hw hsz hsm
        simp only [to54] at c0 c1 c2
        go_wp2_with (go_at_call 24; refine (hwr _).mono ?_)
        rintro e w2 ⟨rfl, h1, b1, _⟩
        have HF2 := Lib.hid (HF.out.ins HK.out HS.out.2 HW.out (Or.inr h1) ((HF.out.below.alloc HF.out.below.size _).trans b1))
        clear h1 b1 hwr c0 c1 c2
        go_wp2
        go_roundw
        case rel => exact ⟨k + 1, _, rest, by omega, by go_num, rfl, HF2⟩
        case measure => simp [intOf]; omega
      | keep m =>
        have hm : m ≤ 1000000 := hw
        have hcut := fun o => cut_any rest HF.out.chars HF.out.short m (by omega) (wr.alloc o)
        have HK := Lib.hid hqk
        clear hqk hs hw
        simp only [to54] at c0 c1 c2
        go_wp2_with (go_at_call 25; refine (hcut _).mono ?_)
        rintro e w2 ⟨rfl, hb⟩
        have hsz := size_le (allCh_take HF.out.chars m)
        have hsm := HF.out.small
        have hsh := HF.out.short
        have d0 := box_cell hb 0 _ rfl
        have hb2 := HF.out.below.alloc HF.out.below.size (.cells #[.int .i64 1, .int .i64 m, .string ⟨#[]⟩] 54)
        have hsz2 := hb2.size
        have hb3 := hb2.trans (hb.mono (by simp; omega))
        have hwr := Tryd.Builder_WriteString_k w.heap.size w.heap.size (Lib.byteCells out.flatten) (str (rest.take m)) w2 (builder_below (HF.out.builder.alloc _) hb) (by rw [Lib.byteCells_length]; rw [List.length_take] at hsz; omega) hb3.size
        have HB3 := Lib.hid hb3
        clear hcut c0 c1 c2 hb hb2 hb3 hsz hsm hsh hsz2
        go_wp2_with (go_at_call 24; refine hwr.mono ?_)
        rintro e w3 ⟨rfl, h1, b1, _⟩
        have HF2 := Lib.hid (HF.out.keep HK.out (Or.inr h1) (HB3.out.trans b1))
        clear h1 b1 hwr d0
        go_wp2
        go_roundw
        case rel => exact ⟨k + 1, _, _, by omega, by go_num, rfl, HF2⟩
        case measure => simp [intOf]; omega
      | del m =>
        have hm : m ≤ 1000000 := hw
        have hcut := fun o => cut_any rest HF.out.chars HF.out.short m (by omega) (wr.alloc o)
        have HK := Lib.hid hqk
        clear hqk hs hw
        simp only [to54] at c0 c1 c2
        go_wp2_with (go_at_call 25; refine (hcut _).mono ?_)
        rintro e w2 ⟨rfl, hb⟩
        have d0 := box_cell hb 0 _ rfl
        have hb2 := HF.out.below.alloc HF.out.below.size (.cells #[.int .i64 3, .int .i64 m, .string ⟨#[]⟩] 54)
        have HF2 := Lib.hid (HF.out.del HK.out (builder_below (HF.out.builder.alloc _) hb) (hb2.trans (hb.mono (by simp; omega))))
        clear hcut c0 c1 c2 hb hb2
        go_wp2
        go_roundw
        case rel => exact ⟨k + 1, _, _, by omega, by go_num, rfl, HF2⟩
        case measure => simp [intOf]; omega
    · obtain rfl : k = n := by omega
      have e0 : qs.drop k = [] := List.drop_eq_nil_of_le (by rw [HQ.out]; exact Nat.le_refl _)
      have hlaw := HF.out.law
      rw [e0] at hlaw
      have hlaw2 : out ++ rest = done qs cs := hlaw
      have hsz := size_le HF.out.chars
      have hsm := HF.out.small
      have hsh := HF.out.short
      have hwr := Tryd.Builder_WriteString_k w.heap.size w.heap.size (Lib.byteCells out.flatten) (str rest) wr HF.out.builder (by rw [Lib.byteCells_length]; omega) HF.out.below.size
      have HL := Lib.hid hlaw2
      clear hlaw hlaw2 e0 hsz hsm hsh
      go_wp2_with (go_at_call 24; refine hwr.mono ?_)
      rintro e w2 ⟨rfl, h1, b1, _⟩
      have hI : Lib.IsBuilderF 59 5 w.heap.size w.heap.size (Lib.byteCells (out ++ rest).flatten) w2 := by
        rw [Lib.strCells_eq, toList_str, ← Lib.byteCells_append, ← List.flatten_append] at h1
        exact Or.inr h1
      have hb2 := HF.out.below.trans b1
      have hst := Tryd.Builder_String_any_k w.heap.size w.heap.size (out ++ rest).flatten w2 hI hb2.size
      rw [HL.out] at hst
      have HB2 := Lib.hid hb2
      clear h1 b1 hI hb2 hwr
      go_wp2_with (go_at_call 26; refine hst.mono ?_)
      rintro e w3 ⟨rfl, _, b2, _⟩
      have HB3 := Lib.hid (HB2.out.trans b2)
      clear b2 hst
      go_wp2
      go_ret
      exact ⟨rfl, HB3.out⟩


set_option maxHeartbeats 4000000 in
set_option maxRecDepth 1000000 in
theorem done_nil (w : World) (cs : List Ch) (hcs : AllCh cs) (hcl : cs.length ≤ 1000000) :
    Calls Tryd.prog 17 #[.slice none 0 0, .string (str cs)] w fun e w' => e = .returned (.string (str cs)) ∧ Below w.heap.size w w' := by
  have hsz := size_le hcs
  have hb0 : Below w.heap.size w (w.alloc (.cells #[.pointer none, .slice none 0 0] 59)) := (Below.refl _ _).alloc (Nat.le_refl _) _
  have hwr := Tryd.Builder_WriteString_k w.heap.size w.heap.size [] (str cs) _ (Lib.IsBuilderF.of (Lib.fresh_isBuilder 59 5 w)) (by simp; omega) hb0.size
  have HB0 := Lib.hid hb0
  clear hb0 hsz
  go_enter Tryd.func17, Tryd.ntmps17
  go_wp2
  refine wp_loop_rounds 1 ?_; rw [rounds_succ]
  go_wp2_with (go_at_call 24; refine hwr.mono ?_)
  rintro e w2 ⟨rfl, h1, b1, _⟩
  have hI : Lib.IsBuilderF 59 5 w.heap.size w.heap.size (Lib.byteCells cs.flatten) w2 := by
    rw [Lib.strCells_eq, toList_str, List.nil_append] at h1
    exact Or.inr h1
  have hb2 := HB0.out.trans b1
  have hst := Tryd.Builder_String_any_k w.heap.size w.heap.size cs.flatten w2 hI hb2.size
  have HB2 := Lib.hid hb2
  clear h1 b1 hI hb2 hwr
  go_wp2_with (go_at_call 26; refine hst.mono ?_)
  rintro e w3 ⟨rfl, _, b2, _⟩
  have HB3 := Lib.hid (HB2.out.trans b2)
  clear b2 hst
  go_wp2
  go_ret
  exact ⟨rfl, HB3.out⟩

theorem done_any (w0 w : World) (v : Value) (qs : List Pt) (cs : List Ch) (ho : Own w0 w v (qs.map to54)) (hcs : AllCh cs) (hcl : cs.length ≤ 1000000) (hg : Good qs) (hl : qs.length ≤ 1000) :
    Calls Tryd.prog 17 #[v, .string (str cs)] w fun e w' => e = .returned (.string (str (done qs cs))) ∧ Below w.heap.size w w' := by
  rcases ho.row.2 with ⟨rfl, h0⟩ | ⟨g, cap, cur, rfl, _⟩
  · rw [List.length_map] at h0
    obtain rfl := List.eq_nil_of_length_eq_zero h0
    exact done_nil w cs hcs hcl
  · rw [List.length_map] at ho ⊢
    exact done_row w0 w g _ cap qs cs ho rfl hcs hcl hg hl

theorem norm_good {ps : List Pt} (h : Good ps) (ht : total ps ≤ 1000000) : Good (norm ps) := by
  have hn := norm_facts ps h.1
  refine ⟨hn.1, fun p hp => ?_⟩
  have h1 : weight p ≤ total (norm ps) := by
    unfold total
    generalize norm ps = l at hp
    induction l with
    | nil => cases hp
    | cons q r ih =>
      rcases List.mem_cons.1 hp with rfl | hp
      · simp
      · have := ih hp
        simp only [List.map_cons, List.sum_cons]
        omega
  have := hn.2.2.1
  omega

set_option maxHeartbeats 1000000 in
set_option maxRecDepth 100000 in
theorem apply_any (cs : List Ch) (hcs : AllCh cs) (hn : cs.length ≤ 1000000) (v : Value) (ps : List Pt) (hf : Fits ps cs.length) (w : World) (hr : Reads w v ps) :
    Calls Tryd.prog 10 #[.string (str cs), v] w fun e w' => e = .returned (.tuple #[.string (str (done ps cs)), .int .i64 0]) ∧ Below w.heap.size w w' := by
  have hc := readOn_any cs hcs hn v ps hf w hr
  have hg := norm_good hf.good hf.total
  have hl := (norm_facts ps hf.good.1).2.2.2.1
  have hs := hf.short
  have hd := done_norm ps cs
  have HC := Lib.hid hcs
  have HG := Lib.hid hg
  have HD := Lib.hid hd
  clear hr hf hcs hg hd
  go_enter Tryd.func10, Tryd.ntmps10
  go_wp2_with (go_at_call 16; refine hc.mono ?_)
  rintro e w1 ⟨v1, rfl, hO⟩
  have hdn := done_any w w1 v1 (norm ps) cs hO HC.out hn HG.out (by omega)
  rw [HD.out] at hdn
  have HO := Lib.hid hO.below
  clear hO hc
  go_wp2_with (go_at_call 17; refine hdn.mono ?_)
  rintro e w2 ⟨rfl, hb⟩
  have HB := Lib.hid (HO.out.trans (hb.mono HO.out.size))
  clear hb hdn
  go_wp2
  go_ret2
  exact ⟨rfl, HB.out⟩

end Go.Proofs.YtepgfnoafhlokaaDoor
