/- The walk of quillkeep.same: two slices that read as the same parts are the same. Condition: at most a thousand parts. -/
import Derived.Test.YtepgfnoafhlokaaDoorNormalW
import Derived.Laws.StructEq
namespace Go.Proofs.YtepgfnoafhlokaaDoor
open Go.RowKit Txt

theorem struct37 : Tryd.prog.underlying 37 = some (.struct (Tryd.prog.fieldsOf 37)) := by kernel_rfl
theorem plain37 : Tryd.prog.stoodInHeld 37 = false := by kernel_rfl
theorem neq_self37 (a b : Int) (t : ByteArray) (w : World) : (binOp .neq 37 (.agg #[.int .i64 a, .int .i64 b, .string t]) (.agg #[.int .i64 a, .int .i64 b, .string t])).run Tryd.prog w = .ok (.bool false) w := by
  rw [run_neq_struct, run_equalIn_agg w 9999 37 _ _ struct37 plain37]
  go_simp
  done

set_option maxHeartbeats 4000000 in
set_option maxRecDepth 1000000 in
theorem same_row (w : World) (g g' n cap cap' : Nat) (ps : List Pt) (hr : Reads w (.slice (some ⟨g, 0, none⟩) n cap) ps) (hr' : Reads w (.slice (some ⟨g', 0, none⟩) n cap') ps) (hl : ps.length = n) (hn : n ≤ 1000) :
    Calls Tryd.prog 11 #[.slice (some ⟨g, 0, none⟩) n cap, .slice (some ⟨g', 0, none⟩) n cap'] w fun e w' => e = .returned (.bool true) ∧ Below w.heap.size w w' := by
  have HL := Lib.hid hl
  clear hl
  have HR := Lib.hid hr
  have HR' := Lib.hid hr'
  clear hr hr'
  go_enter Tryd.func11, Tryd.ntmps11
  go_wp2
  go_loopw [5] (fun i wr => ∃ k : Nat, k ≤ n ∧ i = .int .i64 k ∧ Hid (Below w.heap.size w wr)) (fun i _ => n - (intOf i).toNat)
  case atStart => exact ⟨0, Nat.zero_le _, rfl, Lib.hid (Below.refl _ _)⟩
  case round =>
    obtain ⟨k, hk, rfl, HB⟩ := hrel
    by_cases hlt : k < n
    · have hkp : k < ps.length := by rw [HL.out]; exact hlt
      obtain ⟨p, hp⟩ : ∃ p, ps[k]? = some p := ⟨ps[k], List.getElem?_eq_getElem hkp⟩
      obtain ⟨c0, c1, c2⟩ := ((HR.out).below HB.out).cells k p hp
      obtain ⟨d0, d1, d2⟩ := ((HR'.out).below HB.out).cells k p hp
      have heq := neq_self37 (to37 p).f0 (to37 p).f1 (to37 p).f2
      have q0 : (0 : Int) ≤ (k : Int) := by omega
      have q1 : (k : Int) < (n : Int) := by omega
      clear hkp hp
      go_wp2_with fail
      go_quiet (fail)
      go_wp2
      go_roundw
      case rel => exact ⟨k + 1, by omega, by go_num, Lib.hid (bdraw HB.out _)⟩
      case measure => first | (simp [intOf]; done) | (simp [intOf]; omega)
    · obtain rfl : k = n := by omega
      go_wp2
      go_ret
      exact ⟨rfl, HB.out⟩

set_option maxHeartbeats 1000000 in
set_option maxRecDepth 1000000 in
theorem same_none (w : World) (A A' : Option Addr) (cap cap' : Nat) :
    Calls Tryd.prog 11 #[.slice A 0 cap, .slice A' 0 cap'] w fun e w' => e = .returned (.bool true) ∧ Below w.heap.size w w' := by
  go_enter Tryd.func11, Tryd.ntmps11
  go_wp2
  refine wp_loop_rounds 1 ?_; rw [rounds_succ]
  go_wp2
  go_ret
  exact ⟨rfl, Below.refl _ _⟩

theorem same_true (w : World) (v v' : Value) (ps : List Pt) (hr : Reads w v ps) (hr' : Reads w v' ps) (hl : ps.length ≤ 1000) :
    Calls Tryd.prog 11 #[v, v'] w fun e w' => e = .returned (.bool true) ∧ Below w.heap.size w w' := by
  rcases hr.form with ⟨rfl, rfl⟩ | ⟨g, cap, rfl, _⟩
  · rcases hr'.form with ⟨rfl, _⟩ | ⟨g, cap, rfl, _⟩
    · exact same_none w none none 0 0
    · exact same_none w none _ 0 cap
  · rcases hr'.form with ⟨rfl, rfl⟩ | ⟨g', cap', rfl, _⟩
    · exact same_none w _ none cap 0
    · exact same_row w g g' ps.length cap cap' ps hr hr' rfl hl

end Go.Proofs.YtepgfnoafhlokaaDoor
