/- The walks of ops.right, of the function literal in ops.Read, and of slices.IndexFunc and slices.ContainsFunc with that literal: of sound parts right answers true, so ContainsFunc answers false. Conditions: the parts are sound, and none is of more than a million characters. -/
import Derived.Test.YtepgfnoafhlokaaDoorAddW
import Derived.Test.YtepgfnoafhlokaaDoorTextW
import Derived.Laws.StructEq
namespace Go.Proofs.YtepgfnoafhlokaaDoor
open Go.RowKit Txt

def to37 : Pt → S37
  | .keep n => ⟨1, n, ⟨#[]⟩⟩
  | .ins c => ⟨2, 0, str c⟩
  | .del n => ⟨3, n, ⟨#[]⟩⟩
def val37 (p : Pt) : Value := .agg #[.int .i64 (to37 p).f0, .int .i64 (to37 p).f1, .string (to37 p).f2]

theorem str_ne {c : List Ch} (h0 : c ≠ []) (h : AllCh c) : (str c).toList.isEmpty = false := by
  have h1 := length_le h
  have h2 : 0 < c.length := List.length_pos_iff.2 h0
  have h3 : (str c).toList.length = (str c).size := by rw [ByteArray.toList_eq, Array.length_toList]; rfl
  cases hc : (str c).toList with
  | nil => rw [hc] at h3; simp at h3; omega
  | cons a r => rfl

set_option maxHeartbeats 1000000 in
set_option maxRecDepth 100000 in
theorem right_any (p : Pt) (hp : Sound p) (hw : weight p ≤ 1000000) (w : World) :
    Calls Tryd.prog 20 #[val37 p] w fun e w' => e = .returned (.bool true) ∧ Below w.heap.size w w' := by
  match p, hp, hw with
  | .keep n, hp, hw =>
    have h1 : (1 : Int) ≤ n := by have : 0 < n := hp; omega
    have h2 : (n : Int) ≤ 1000000 := by have : n ≤ 1000000 := hw; omega
    show Calls Tryd.prog 20 #[.agg #[.int .i64 1, .int .i64 (n : Int), .string ⟨#[]⟩]] w _
    go_enter Tryd.func20, Tryd.ntmps20
    go_wp2
    go_ret
    exact ⟨rfl, (Below.refl _ _).alloc (Nat.le_refl _) _⟩
  | .del n, hp, hw =>
    have h1 : (1 : Int) ≤ n := by have : 0 < n := hp; omega
    have h2 : (n : Int) ≤ 1000000 := by have : n ≤ 1000000 := hw; omega
    show Calls Tryd.prog 20 #[.agg #[.int .i64 3, .int .i64 (n : Int), .string ⟨#[]⟩]] w _
    go_enter Tryd.func20, Tryd.ntmps20
    go_wp2
    go_ret
    exact ⟨rfl, (Below.refl _ _).alloc (Nat.le_refl _) _⟩
  | .ins c, hp, hw =>
    have h1 := str_ne hp.1 hp.2
    have h2 : ¬ (str c).toList = [] := by intro e; rw [e] at h1; cases h1
    show Calls Tryd.prog 20 #[.agg #[.int .i64 2, .int .i64 0, .string (str c)]] w _
    go_enter Tryd.func20, Tryd.ntmps20
    go_wp2
    go_ret
    exact ⟨rfl, (Below.refl _ _).alloc (Nat.le_refl _) _⟩


set_option maxHeartbeats 1000000 in
set_option maxRecDepth 100000 in
theorem lit_any (p : Pt) (hp : Sound p) (hw : weight p ≤ 1000000) (w : World) :
    Calls Tryd.prog 19 #[val37 p] w fun e w' => e = .returned (.bool false) ∧ Below w.heap.size w w' := by
  have hc := fun W => right_any p hp hw W
  unfold val37 at hc ⊢
  go_enter Tryd.func19, Tryd.ntmps19
  go_wp2_with (go_at_call 20; refine (hc _).mono ?_; rintro e w' ⟨rfl, hb⟩; have HB := Lib.hid hb; clear hb)
  go_ret
  exact ⟨rfl, ((Below.refl _ _).alloc (Nat.le_refl _) _).trans (HB.out.mono (by simp))⟩

/-- The cells of parts as the law has them. -/
def cells37 : List Pt → List Value
  | [] => []
  | p :: r => [.int .i64 (to37 p).f0, .int .i64 (to37 p).f1, .string (to37 p).f2] ++ cells37 r
theorem cells37_length (ps : List Pt) : (cells37 ps).length = ps.length * 3 := by
  induction ps with
  | nil => rfl
  | cons p r ih => simp [cells37, ih]; omega
theorem cells37_append (a b : List Pt) : cells37 (a ++ b) = cells37 a ++ cells37 b := by
  induction a with
  | nil => rfl
  | cons p r ih => simp [cells37, ih]
theorem cells37_get (ps : List Pt) (j : Nat) (p : Pt) (h : ps[j]? = some p) (i : Nat) (hi : i < 3) : (cells37 ps)[j * 3 + i]? = ([.int .i64 (to37 p).f0, .int .i64 (to37 p).f1, .string (to37 p).f2] : List Value)[i]? := by
  obtain ⟨hj, hp⟩ := List.getElem?_eq_some_iff.1 h
  have e : ps = ps.take j ++ (p :: ps.drop (j + 1)) := by rw [← hp, ← List.drop_eq_getElem_cons hj, List.take_append_drop]
  have hl : (cells37 (ps.take j)).length = j * 3 := by rw [cells37_length, List.length_take]; omega
  conv => lhs; rw [e, cells37_append]
  rw [List.getElem?_append_right (by omega), hl, show j * 3 + i - j * 3 = i by omega]
  show (([.int .i64 (to37 p).f0, .int .i64 (to37 p).f1, .string (to37 p).f2] : List Value) ++ cells37 (ps.drop (j + 1)))[i]? = _
  rw [List.getElem?_append_left (by simpa using hi)]

/-- A slice that reads as these parts: nil, or a row. -/
def Reads (w : World) (v : Value) (ps : List Pt) : Prop := w.ownsRow 0 37 3 v ps.length (cells37 ps)
theorem Reads.below {w w' : World} {v : Value} {ps : List Pt} (h : Reads w v ps) (hb : Below w.heap.size w w') : Reads w' v ps := row_below h hb
theorem Reads.form {w : World} {v : Value} {ps : List Pt} (h : Reads w v ps) : (v = .slice none 0 0 ∧ ps = []) ∨ ∃ g cap, v = .slice (some ⟨g, 0, none⟩) ps.length cap ∧ ps.length ≤ cap ∧ cap ≤ 9223372036854775807 ∧ (0 < cap → g < w.heap.size) := by
  rcases h.2 with ⟨e, h0⟩ | ⟨g, cap, cur, e, _, hg, hn, hm, _⟩
  · exact .inl ⟨e, List.eq_nil_of_length_eq_zero h0⟩
  · exact .inr ⟨g, cap, e, hn, hm, fun _ => (Array.getElem?_eq_some_iff.1 hg).1⟩
theorem Reads.cells {w : World} {g n cap : Nat} {ps : List Pt} (h : Reads w (.slice (some ⟨g, 0, none⟩) n cap) ps) (j : Nat) (p : Pt) (hj : ps[j]? = some p) :
    w.cell? ⟨g, j * 3, none⟩ = some (.int .i64 (to37 p).f0) ∧ w.cell? ⟨g, j * 3 + 1, none⟩ = some (.int .i64 (to37 p).f1) ∧ w.cell? ⟨g, j * 3 + 2, none⟩ = some (.string (to37 p).f2) := by
  have hn : n = ps.length := by
    rcases h.2 with ⟨e, _⟩ | ⟨g', cap', cur, e, _⟩
    · cases e
    · injection e
  subst hn
  have hlt := (List.getElem?_eq_some_iff.1 hj).1
  refine ⟨?_, ?_, ?_⟩
  · rw [h.cellAt _ (by omega)]; exact cells37_get ps j p hj 0 (by omega)
  · rw [h.cellAt _ (by omega)]; exact cells37_get ps j p hj 1 (by omega)
  · rw [h.cellAt _ (by omega)]; exact cells37_get ps j p hj 2 (by omega)

/-- All parts are sound, and none is great. -/
def Good (ps : List Pt) : Prop := AllSound ps ∧ ∀ p, p ∈ ps → weight p ≤ 1000000

set_option maxHeartbeats 2000000 in
set_option maxRecDepth 100000 in
theorem index_any (v : Value) (ps : List Pt) (hg : Good ps) (w : World) (hr : Reads w v ps) (hl : ps.length ≤ 1000000) :
    Calls Tryd.prog 27 #[v, .func (.func 19) #[] #[]] w fun e w' => e = .returned (.int .i64 (-1)) ∧ Below w.heap.size w w' := by
  rcases hr.form with ⟨rfl, rfl⟩ | ⟨g, cap, rfl, hcap, hcm, _⟩
  · clear hr hg hl
    go_enter Tryd.func27, Tryd.ntmps27
    go_wp2
    refine wp_loop_rounds 1 ?_; rw [rounds_succ]
    go_wp2
    go_ret
    exact ⟨rfl, Below.refl _ _⟩
  · obtain ⟨n, hn⟩ : ∃ n, n = ps.length := ⟨_, rfl⟩
    rw [← hn] at hcap hr hl ⊢
    have HN := Lib.hid hn
    clear hn
    have HR := Lib.hid hr
    clear hr
    go_enter Tryd.func27, Tryd.ntmps27
    go_wp2
    go_loopw [8] (fun i wr => ∃ k : Nat, k ≤ n ∧ i = .int .i64 k ∧ Below w.heap.size w wr) (fun i _ => n - (intOf i).toNat)
    case atStart => exact ⟨0, Nat.zero_le _, rfl, Below.refl _ _⟩
    case round =>
      obtain ⟨k, hk, rfl, hb⟩ := hrel
      have HB := Lib.hid hb
      clear hb
      by_cases hlt : k < n
      · have hkp : k < ps.length := by rw [← HN.out]; exact hlt
        obtain ⟨p, hp⟩ : ∃ p, ps[k]? = some p := ⟨ps[k], List.getElem?_eq_getElem hkp⟩
        have hpm : p ∈ ps := List.mem_of_getElem? hp
        obtain ⟨c0, c1, c2⟩ := ((HR.out).below HB.out).cells k p hp
        have hc := fun W => lit_any p (hg.1 p hpm) (hg.2 p hpm) W
        unfold val37 at hc
        clear hp hpm
        go_wp2_with (go_at_call 19; refine (hc _).mono ?_; rintro e w' ⟨rfl, hb⟩; have HB2 := Lib.hid hb; clear hb)
        go_roundw
        case rel => exact ⟨k + 1, by omega, by go_num, HB.out.trans (HB2.out.mono HB.out.size)⟩
        case measure => simp [intOf]; omega
      · obtain rfl : k = n := by omega
        go_wp2
        go_ret
        exact ⟨rfl, HB.out⟩

end Go.Proofs.YtepgfnoafhlokaaDoor
