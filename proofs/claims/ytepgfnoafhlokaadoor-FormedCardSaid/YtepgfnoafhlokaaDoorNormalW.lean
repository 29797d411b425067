/- The walks of quillkeep.normal and quillkeep.same: normal answers true of parts that are sound, in form and end with no keep; same answers true of two slices that read alike. Conditions: at most a thousand parts. -/
import Derived.Test.YtepgfnoafhlokaaDoorDoneW
namespace Go.Proofs.YtepgfnoafhlokaaDoor
open Go.RowKit Txt

theorem form_app : ∀ (a : List Pt) (x y : Pt) (b : List Pt), Txt.Form (a ++ (x :: y :: b)) → behind x y = true
  | [], _, _, _, h => h.1
  | _ :: a, x, y, b, h => form_app a x y b (form_tail h)
/-- Neighbours in the text's order. -/
theorem form_next {ps : List Pt} (h : Txt.Form ps.reverse) {j : Nat} {q p : Pt} (hq : ps[j]? = some q) (hp : ps[j + 1]? = some p) : behind p q = true := by
  obtain ⟨hj, rfl⟩ := List.getElem?_eq_some_iff.1 hp
  obtain ⟨hj0, rfl⟩ := List.getElem?_eq_some_iff.1 hq
  have e : ps = ps.take j ++ (ps[j] :: ps[j + 1] :: ps.drop (j + 2)) := by
    rw [← List.drop_eq_getElem_cons hj, ← List.drop_eq_getElem_cons hj0, List.take_append_drop]
  have e2 : ps.reverse = (ps.drop (j + 2)).reverse ++ (ps[j + 1] :: ps[j] :: (ps.take j).reverse) := by
    conv => lhs; rw [e]
    simp
  rw [e2] at h
  exact form_app _ _ _ _ h
theorem ends_last {ps : List Pt} (h : Txt.Ends ps.reverse) {j : Nat} (hl : ps.length = j + 1) {p : Pt} (hp : ps[j]? = some p) : ∀ n, p ≠ .keep n := by
  intro n e
  subst e
  obtain ⟨hj, hpj⟩ := List.getElem?_eq_some_iff.1 hp
  have e : ps = ps.take j ++ [.keep n] := by
    have h1 : ps.drop (j + 1) = [] := List.drop_eq_nil_of_le (by omega)
    rw [← hpj, ← h1, ← List.drop_eq_getElem_cons hj, List.take_append_drop]
  rw [e, List.reverse_append] at h
  exact h

theorem old_cell {w : World} {a : Addr} {v : Value} (h : w.cell? a = some v) (o : Obj) : (w.alloc o).cell? a = some v := cell_below (below_new (Below.refl _ _) o) h

set_option maxHeartbeats 8000000 in
set_option maxRecDepth 1000000 in
theorem normal_row (w : World) (g j cap : Nat) (ps : List Pt) (hr : Reads w (.slice (some ⟨g, 0, none⟩) (j + 1) cap) ps) (hl : ps.length = j + 1) (hs : AllSound ps) (hform : Txt.Form ps.reverse) (hends : Txt.Ends ps.reverse) (hj : j ≤ 1000) :
    Calls Tryd.prog 9 #[.slice (some ⟨g, 0, none⟩) (j + 1) cap] w fun e w' => e = .returned (.bool true) ∧ Below w.heap.size w w' := by
  have HL := Lib.hid hl
  clear hl
  have HR := Lib.hid hr
  clear hr
  go_enter Tryd.func9, Tryd.ntmps9
  go_wp2
  go_loopw [3] (fun i wr => ∃ k : Nat, k ≤ j + 1 ∧ i = .int .i64 k ∧ Hid (Below w.heap.size w wr)) (fun i _ => j + 1 - (intOf i).toNat)
  case atStart => exact ⟨0, Nat.zero_le _, rfl, Lib.hid (Below.refl _ _)⟩
  case round =>
    obtain ⟨k, hk, rfl, HB⟩ := hrel
    by_cases hlt : k < j + 1
    · have hkp : k < ps.length := by rw [HL.out]; exact hlt
      obtain ⟨p, hp⟩ : ∃ p, ps[k]? = some p := ⟨ps[k], List.getElem?_eq_getElem hkp⟩
      have hpm : p ∈ ps := List.mem_of_getElem? hp
      have hsp := hs p hpm
      obtain ⟨c0, c1, c2⟩ := ((HR.out).below HB.out).cells k p hp
      have HP := Lib.hid hp
      clear hp hpm
      cases k with
      | zero =>
        clear hkp
        cases p with
        | keep n =>
          have h0 : ((n : Int) == 0) = false := by have : 0 < n := hsp; rw [beq_eq_false_iff_ne]; omega
          have h1 : ¬ ((n : Int) < 0) := by omega
          simp only [to37] at c0 c1 c2
          clear hsp
          go_wp2_with fail
          go_quiet (fail)
          go_wp2
          go_roundw
          case rel => exact ⟨0 + 1, by omega, by go_num, Lib.hid (bdraw (HB.out.alloc HB.out.size _) _)⟩
          case measure => first | (simp [intOf]; done) | (simp [intOf]; omega)
        | ins n =>
          have h0 := str_ne hsp.1 hsp.2
          have h1 : ¬ (str n).toList = [] := by intro e; rw [e] at h0; cases h0
          simp only [to37] at c0 c1 c2
          clear hsp
          go_wp2_with fail
          go_quiet (fail)
          go_wp2
          go_roundw
          case rel => exact ⟨0 + 1, by omega, by go_num, Lib.hid (bdraw (HB.out.alloc HB.out.size _) _)⟩
          case measure => first | (simp [intOf]; done) | (simp [intOf]; omega)
        | del n =>
          have h0 : ((n : Int) == 0) = false := by have : 0 < n := hsp; rw [beq_eq_false_iff_ne]; omega
          have h1 : ¬ ((n : Int) < 0) := by omega
          simp only [to37] at c0 c1 c2
          clear hsp
          go_wp2_with fail
          go_quiet (fail)
          go_wp2
          go_roundw
          case rel => exact ⟨0 + 1, by omega, by go_num, Lib.hid (bdraw (HB.out.alloc HB.out.size _) _)⟩
          case measure => first | (simp [intOf]; done) | (simp [intOf]; omega)
      | succ i =>
        obtain ⟨q, hq⟩ : ∃ q, ps[i]? = some q := ⟨ps[i]'(by omega), List.getElem?_eq_getElem (by omega)⟩
        have hbe := form_next hform hq HP.out
        obtain ⟨d0, _, _⟩ := ((HR.out).below HB.out).cells i q hq
        have d0' := fun o => old_cell d0 o
        have a0 : IntKind.i64.wrap ((i : Int) + 1 - 1) = (i : Int) := by rw [IntKind.wrap_i64]; omega
        have a1 : decide ((0 : Int) < (i : Int) + 1) = true := by rw [decide_eq_true_eq]; omega
        have a2 : (0 : Int) ≤ (i : Int) := by omega
        have a3 : (i : Int) < (j : Int) + 1 := by omega
        clear hkp hq d0
        cases p with
        | keep n =>
          have h0 : ((n : Int) == 0) = false := by have : 0 < n := hsp; rw [beq_eq_false_iff_ne]; omega
          have h1 : ¬ ((n : Int) < 0) := by omega
          simp only [to37] at c0 c1 c2
          clear hsp
          cases q with
          | keep m => exact absurd hbe (by simp [behind])
          | ins m =>
            simp only [to37] at d0'
            clear hbe
            go_wp2_with fail
            go_quiet (fail)
            go_wp2
            go_roundw
            case rel => exact ⟨i + 1 + 1, by omega, by go_num, Lib.hid (bdraw (HB.out.alloc HB.out.size _) _)⟩
            case measure => first | (simp [intOf]; done) | (simp [intOf]; omega)
          | del m =>
            simp only [to37] at d0'
            clear hbe
            go_wp2_with fail
            go_quiet (fail)
            go_wp2
            go_roundw
            case rel => exact ⟨i + 1 + 1, by omega, by go_num, Lib.hid (bdraw (HB.out.alloc HB.out.size _) _)⟩
            case measure => first | (simp [intOf]; done) | (simp [intOf]; omega)
        | ins n =>
          have h0 := str_ne hsp.1 hsp.2
          have h1 : ¬ (str n).toList = [] := by intro e; rw [e] at h0; cases h0
          simp only [to37] at c0 c1 c2
          clear hsp
          cases q with
          | keep m =>
            simp only [to37] at d0'
            clear hbe
            go_wp2_with fail
            go_quiet (fail)
            go_wp2
            go_roundw
            case rel => exact ⟨i + 1 + 1, by omega, by go_num, Lib.hid (bdraw (HB.out.alloc HB.out.size _) _)⟩
            case measure => first | (simp [intOf]; done) | (simp [intOf]; omega)
          | ins m => exact absurd hbe (by simp [behind])
          | del m => exact absurd hbe (by simp [behind])
        | del n =>
          have h0 : ((n : Int) == 0) = false := by have : 0 < n := hsp; rw [beq_eq_false_iff_ne]; omega
          have h1 : ¬ ((n : Int) < 0) := by omega
          simp only [to37] at c0 c1 c2
          clear hsp
          cases q with
          | keep m =>
            simp only [to37] at d0'
            clear hbe
            go_wp2_with fail
            go_quiet (fail)
            go_wp2
            go_roundw
            case rel => exact ⟨i + 1 + 1, by omega, by go_num, Lib.hid (bdraw (HB.out.alloc HB.out.size _) _)⟩
            case measure => first | (simp [intOf]; done) | (simp [intOf]; omega)
          | ins m =>
            simp only [to37] at d0'
            clear hbe
            go_wp2_with fail
            go_quiet (fail)
            go_wp2
            go_roundw
            case rel => exact ⟨i + 1 + 1, by omega, by go_num, Lib.hid (bdraw (HB.out.alloc HB.out.size _) _)⟩
            case measure => first | (simp [intOf]; done) | (simp [intOf]; omega)
          | del m => exact absurd hbe (by simp [behind])
    · obtain rfl : k = j + 1 := by omega
      obtain ⟨p, hp⟩ : ∃ p, ps[j]? = some p := ⟨ps[j]'(by rw [HL.out]; omega), List.getElem?_eq_getElem (by rw [HL.out]; omega)⟩
      have hne := ends_last hends HL.out hp
      obtain ⟨c0, _, _⟩ := ((HR.out).below HB.out).cells j p hp
      clear hp hform hends
      cases p with
      | keep n => exact absurd rfl (hne n)
      | ins n =>
        simp only [to37] at c0
        clear hne
        go_wp2
        go_ret
        exact ⟨rfl, HB.out⟩
      | del n =>
        simp only [to37] at c0
        clear hne
        go_wp2
        go_ret
        exact ⟨rfl, HB.out⟩

set_option maxHeartbeats 1000000 in
set_option maxRecDepth 1000000 in
theorem normal_none (w : World) (A : Option Addr) (cap : Nat) :
    Calls Tryd.prog 9 #[.slice A 0 cap] w fun e w' => e = .returned (.bool true) ∧ Below w.heap.size w w' := by
  go_enter Tryd.func9, Tryd.ntmps9
  go_wp2
  refine wp_loop_rounds 1 ?_; rw [rounds_succ]
  go_wp2
  go_ret
  exact ⟨rfl, Below.refl _ _⟩

theorem normal_true (w : World) (v : Value) (ps : List Pt) (hr : Reads w v ps) (hs : AllSound ps) (hform : Txt.Form ps.reverse) (hends : Txt.Ends ps.reverse) (hl : ps.length ≤ 1000) :
    Calls Tryd.prog 9 #[v] w fun e w' => e = .returned (.bool true) ∧ Below w.heap.size w w' := by
  rcases hr.form with ⟨rfl, rfl⟩ | ⟨g, cap, rfl, _⟩
  · exact normal_none w none 0
  · obtain h0 | ⟨j, hj⟩ : ps.length = 0 ∨ ∃ j, ps.length = j + 1 := by
      cases h : ps.length with
      | zero => exact .inl rfl
      | succ j => exact .inr ⟨j, rfl⟩
    · rw [h0]
      exact normal_none w _ cap
    · rw [hj] at hr ⊢
      exact normal_row w g j cap ps hr hj hs hform hends (by omega)

end Go.Proofs.YtepgfnoafhlokaaDoor
