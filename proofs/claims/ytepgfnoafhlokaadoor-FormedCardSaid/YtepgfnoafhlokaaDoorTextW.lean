/- The walks of ops.Length and ops.cut at a text made of the twelve characters: Length tells how many characters there are, and that all is well; cut gives the first n characters and the rest. Conditions: each character is one of the twelve, and there are at most a million. -/
import Derived.Test.YtepgfnoafhlokaaDoorProg
import Derived.Test.YtepgfnoafhlokaaDoorChars
import Derived.WalkKit
import Derived.Lib.Walk
import Derived.Laws.RangeString
import Derived.Laws.RangeAny
import Derived.LoopTactic
import Derived.Lib.Hide
import Derived.WalkSpells
import Derived.Deep.QuietTactic
import Derived.BigQuiet
namespace Go.Proofs.YtepgfnoafhlokaaDoor
open Go.RowKit Txt

theorem bdraw {B : Nat} {a w : World} (h : Below B a w) (n : Nat) : Below B a (w.drewN n) := ⟨h.os, h.tape, h.output, h.size, h.block⟩
theorem below_iter (w : World) (s : ByteArray) (p : Nat) : Below w.heap.size w (w.iter s p) := by
  exact (Below.refl _ _).alloc (Nat.le_refl _) _

set_option maxHeartbeats 1000000 in
set_option maxRecDepth 1000000 in
theorem length_any (cs : List Ch) (ha : AllCh cs) (hn : cs.length ≤ 1000000) (w : World) :
    Calls Tryd.prog 21 #[.string (str cs)] w fun e w' => e = .returned (.tuple #[.int .i64 cs.length, .bool true]) ∧ Below w.heap.size w w' := by
  go_enter Tryd.func21, Tryd.ntmps21
  go_wp2
  go_loopw [4] (fun n w' => ∃ k : Nat, k ≤ cs.length ∧ w' = w.iter (str cs) (pos cs k) ∧ n = .int .i64 k) (fun _ w' => (str cs).size - w'.iterPos w.heap.size)
  case atStart => exact ⟨0, Nat.zero_le _, by rw [pos_zero], rfl⟩
  case round =>
    obtain ⟨k, hk, rfl, rfl⟩ := hrel
    by_cases hlt : k < cs.length
    · have hp := pos_lt ha k hlt
      have hd := decode_at ha k hlt
      have hnx : ∀ ty, (Instr.next (.pointer (some ⟨w.heap.size, 0, none⟩)) true ty).run Tryd.prog (w.iter (str cs) (pos cs k)) = _ := fun ty => run_next_any w (str cs) (pos cs k) ty hp
      rw [hd.1] at hnx
      have hr : ((((Utf8.decode (str cs) (pos cs k)).1 : Nat) : Int) == 65533) = false := by
        have := hd.2
        rw [beq_eq_false_iff_ne]
        omega
      clear hd
      go_wp2
      go_roundw
      case rel => exact ⟨k + 1, by omega, rfl, by go_num⟩
      case measure => 
        have := pos_succ cs k hlt
        have := (ch_pos (ha _ (List.getElem_mem hlt))).1
        simp
        omega
    · obtain rfl : k = cs.length := by omega
      have hnx : ∀ ty, (Instr.next (.pointer (some ⟨w.heap.size, 0, none⟩)) true ty).run Tryd.prog (w.iter (str cs) (pos cs cs.length)) = _ := fun ty => run_next_end w (str cs) (pos cs cs.length) ty (by rw [pos_all]; omega)
      go_wp2
      go_ret2
      exact ⟨rfl, below_iter _ _ _⟩


set_option maxHeartbeats 1000000 in
set_option maxRecDepth 1000000 in
theorem cut_any (cs : List Ch) (ha : AllCh cs) (hn : cs.length ≤ 1000000) (n : Nat) (hb : n ≤ 1000000000) (w : World) :
    Calls Tryd.prog 25 #[.string (str cs), .int .i64 n] w fun e w' => e = .returned (.tuple #[.string (str (cs.take n)), .string (str (cs.drop n))]) ∧ Below w.heap.size w w' := by
  go_enter Tryd.func25, Tryd.ntmps25
  go_wp2
  go_loopw [1] (fun v w' => ∃ k : Nat, k ≤ cs.length ∧ k ≤ n ∧ w' = w.iter (str cs) (pos cs k) ∧ v = .int .i64 ((n : Int) - k)) (fun _ w' => (str cs).size - w'.iterPos w.heap.size)
  case atStart => exact ⟨0, Nat.zero_le _, Nat.zero_le _, by rw [pos_zero], by simp⟩
  case round =>
    obtain ⟨k, hk, hkn, rfl, rfl⟩ := hrel
    by_cases hlt : k < cs.length
    · by_cases hz : k = n
      · obtain rfl : n = k := hz.symm
        clear hz
        have hp := pos_lt ha n hlt
        have hd := decode_at ha n hlt
        have hnx : ∀ ty, (Instr.next (.pointer (some ⟨w.heap.size, 0, none⟩)) true ty).run Tryd.prog (w.iter (str cs) (pos cs n)) = _ := fun ty => run_next_any w (str cs) (pos cs n) ty hp
        rw [hd.1] at hnx
        clear hd
        have h0 : ((n : Int) - n == 0) = true := by simp
        have hpl := pos_le cs n
        go_wp2
        go_quiet (fail)
        go_wp2
        go_ret2
        exact ⟨by rw [extract_take, extract_drop _ _ _ rfl]; rfl, bdraw (below_iter _ _ _) _⟩
      · have hp := pos_lt ha k hlt
        have hd := decode_at ha k hlt
        have hnx : ∀ ty, (Instr.next (.pointer (some ⟨w.heap.size, 0, none⟩)) true ty).run Tryd.prog (w.iter (str cs) (pos cs k)) = _ := fun ty => run_next_any w (str cs) (pos cs k) ty hp
        rw [hd.1] at hnx
        clear hd
        have h0 : ((n : Int) - k == 0) = false := by simp; omega
        go_wp2
        go_roundw
        case rel => exact ⟨k + 1, by omega, by omega, rfl, by go_num⟩
        case measure =>
          have := pos_succ cs k hlt
          have := (ch_pos (ha _ (List.getElem_mem hlt))).1
          simp
          omega
    · obtain rfl : k = cs.length := by omega
      have hnx : ∀ ty, (Instr.next (.pointer (some ⟨w.heap.size, 0, none⟩)) true ty).run Tryd.prog (w.iter (str cs) (pos cs cs.length)) = _ := fun ty => run_next_end w (str cs) (pos cs cs.length) ty (by rw [pos_all]; omega)
      go_wp2
      go_ret2
      have e1 : cs.take n = cs := List.take_of_length_le (by omega)
      have e2 : cs.drop n = [] := List.drop_eq_nil_of_le (by omega)
      rw [e1, e2]
      exact ⟨rfl, below_iter _ _ _⟩

end Go.Proofs.YtepgfnoafhlokaaDoor
