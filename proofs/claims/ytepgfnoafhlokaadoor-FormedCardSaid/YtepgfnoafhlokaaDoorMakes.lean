/- The walks of quillkeep.letters, pick, text, made and length: a text of at most thirty of the characters; an operation of at most forty sound parts that takes no more characters than there are; how many characters a text has. Condition: the raw numbers are int's. -/
import Derived.Test.YtepgfnoafhlokaaDoorSameW
namespace Go.Proofs.YtepgfnoafhlokaaDoor
open Go.RowKit Txt

def letterCells : Array Value := #[.string ⟨#[97]⟩, .string ⟨#[98]⟩, .string ⟨#[195, 169]⟩, .string ⟨#[228, 184, 150]⟩, .string ⟨#[240, 159, 144, 154]⟩, .string ⟨#[99]⟩, .string ⟨#[10]⟩, .string ⟨#[32]⟩]
/-- The slice of letters stands in block g. -/
def Letters (w : World) (g : Nat) : Prop := w.heap[g]? = some (.cells letterCells 9 (0, 0))
theorem Letters.lt {w : World} {g : Nat} (h : Letters w g) : g < w.heap.size := (Array.getElem?_eq_some_iff.1 h).1
theorem Letters.alloc {w : World} {g : Nat} (h : Letters w g) (o : Obj) : Letters (w.alloc o) g := (Lib.alloc_old w o g h.lt).trans h
theorem Letters.grown {w w' : World} {g : Nat} {row : Option Nat} (h : Letters w g) (hg : w.grownBy w' row) (hr : some g ≠ row) : Letters w' g := (hg.block g h.lt hr).trans h
theorem Letters.apart {w0 w : World} {g : Nat} {v : Value} {ps : List Pt} (h : Letters w g) (ho : Own37 w0 w v ps) : some g ≠ v.ownBlock := by
  rcases ho.row.2 with ⟨rfl, _⟩ | ⟨g', cap, cur, rfl, _, hh, _⟩
  · simp [Value.ownBlock]
  · intro e
    have : g = g' := by simpa [Value.ownBlock] using e
    subst this
    rw [show w.heap[g]? = some (.cells letterCells 9 (0, 0)) from h] at hh
    injection hh with hh
    injection hh with _ ht
    cases ht
theorem allCh_one {c : Ch} (h : c ∈ alphabet) : AllCh [c] := fun x hx => by
  rw [List.mem_singleton.1 hx]
  exact h
theorem Letters.at_ {w : World} {g : Nat} (hL : Letters w g) (c : Nat) (hc : c < 8) : ∃ x, x ∈ alphabet ∧ w.cell? ⟨g, c, none⟩ = some (.string (str [x])) := by
  have h : ∀ v, letterCells[c]? = some v → w.cell? ⟨g, c, none⟩ = some v := fun v hv => by
    rw [World.cell?, show w.heap[g]? = some (.cells letterCells 9 (0, 0)) from hL]
    exact hv
  match c, hc with
  | 0, _ => exact ⟨[97], by simp [alphabet], h _ rfl⟩
  | 1, _ => exact ⟨[98], by simp [alphabet], h _ rfl⟩
  | 2, _ => exact ⟨[195, 169], by simp [alphabet], h _ rfl⟩
  | 3, _ => exact ⟨[228, 184, 150], by simp [alphabet], h _ rfl⟩
  | 4, _ => exact ⟨[240, 159, 144, 154], by simp [alphabet], h _ rfl⟩
  | 5, _ => exact ⟨[99], by simp [alphabet], h _ rfl⟩
  | 6, _ => exact ⟨[10], by simp [alphabet], h _ rfl⟩
  | 7, _ => exact ⟨[32], by simp [alphabet], h _ rfl⟩
  | c + 8, hc => omega
set_option maxRecDepth 100000 in
theorem letters_any (w : World) : Calls Tryd.prog 12 #[] w fun e w' => e = .returned (.slice (some ⟨w.heap.size, 0, none⟩) 8 8) ∧ Letters w' w.heap.size ∧ Below w.heap.size w w' := by
  go_enter Tryd.func12, Tryd.ntmps12
  go_wp2
  go_ret
  exact ⟨rfl, heap_alloc_new w _, (Below.refl _ _).alloc (Nat.le_refl _) _⟩

/-- A number of int's kind. -/
def InR (a : Int) : Prop := -9223372036854775808 ≤ a ∧ a ≤ 9223372036854775807
theorem ret_num {a b : Int} (h : a = b) : Ending.returned (.int .i64 a) = .returned (.int .i64 b) := by rw [h]
/-- Some number from 0 to m less 1 comes back. -/
def Picked (m : Int) (w : World) (e : Ending) (w' : World) : Prop := ∃ c : Nat, (c : Int) < m ∧ e = .returned (.int .i64 c) ∧ w = w'
theorem pick_any (a m : Int) (ha : InR a) (hm : 1 ≤ m) (hm2 : m ≤ 1000000) (w : World) : Calls Tryd.prog 13 #[.int .i64 a, .int .i64 m] w (Picked m w) := by
  obtain ⟨h1, h2⟩ := ha
  by_cases h : a < 0
  · have h3 : -9223372036854775807 ≤ a + 1 := by omega
    have h4 : a + 1 ≤ 0 := by omega
    have h5 : 0 ≤ -(a + 1) := by omega
    have t0 := Int.tmod_nonneg m h5
    have t1 := Int.tmod_lt_of_pos (-(a + 1)) (show 0 < m by omega)
    rw [Int.neg_tmod] at t0 t1
    have HT := Lib.hid (And.intro t0 t1)
    clear t0 t1
    go_enter Tryd.func13, Tryd.ntmps13
    go_wp2
    go_ret
    exact ⟨(-((a + 1).tmod m)).toNat, by have := HT.out.1; have := HT.out.2; omega, ret_num (Int.toNat_of_nonneg HT.out.1).symm, rfl⟩
  · have h3 : 0 ≤ a := by omega
    have t0 := Int.emod_nonneg a (show m ≠ 0 by omega)
    have t1 := Int.emod_lt_of_pos a (show 0 < m by omega)
    have HT := Lib.hid (And.intro t0 t1)
    clear t0 t1
    go_enter Tryd.func13, Tryd.ntmps13
    go_wp2
    go_ret
    exact ⟨(a % m).toNat, by have := HT.out.1; have := HT.out.2; omega, ret_num (Int.toNat_of_nonneg HT.out.1).symm, rfl⟩

/-- The raw numbers as the walk has them. -/
structure Raw (w : World) (b off n c : Nat) (l : List Int) : Prop where
  cells : ∀ k, k < n → w.cell? ⟨b, off + k, none⟩ = some (.int .i64 (l.getD k 0))
  range : ∀ k, InR (l.getD k 0)
  cap : n ≤ c
  bound : c ≤ 9223372036854775807
theorem Raw.onward {w w' : World} {b off n c : Nat} {l : List Int} (h : Raw w b off n c l) (hb : Below w.heap.size w w') : Raw w' b off n c l := ⟨fun k hk => cell_below hb (h.cells k hk), h.range, h.cap, h.bound⟩

/-! ### text -/
set_option maxHeartbeats 1000000 in
set_option maxRecDepth 100000 in
theorem text_none (w : World) (A : Option Addr) (cap : Nat) : Calls Tryd.prog 5 #[.slice A 0 cap, .int .i64 30] w fun e w' => e = .returned (.string ⟨#[]⟩) ∧ Below w.heap.size w w' := by
  go_enter Tryd.func5, Tryd.ntmps5
  go_wp2_with (go_at_call 12; refine (letters_any _).mono ?_)
  rintro e w1 ⟨rfl, _, hb⟩
  have HB := Lib.hid hb
  clear hb
  go_wp2
  refine wp_loop_rounds 1 ?_; rw [rounds_succ]
  go_wp2
  go_ret
  exact ⟨rfl, HB.out⟩
set_option maxHeartbeats 2000000 in
set_option maxRecDepth 100000 in
theorem text_row (w : World) (b off n c : Nat) (l : List Int) (hr : Raw w b off n c l) :
    Calls Tryd.prog 5 #[.slice (some ⟨b, off, none⟩) n c, .int .i64 30] w fun e w' => ∃ cs, e = .returned (.string (str cs)) ∧ (AllCh cs ∧ cs.length ≤ 30) ∧ Below w.heap.size w w' := by
  have hnc := hr.cap
  have hcb := hr.bound
  have HR := Lib.hid hr
  clear hr
  go_enter Tryd.func5, Tryd.ntmps5
  go_wp2_with (go_at_call 12; refine (letters_any _).mono ?_)
  rintro e w1 ⟨rfl, hl, hb⟩
  have HL := Lib.hid hl
  have HB := Lib.hid hb
  have HR1 := Lib.hid (HR.out.onward hb)
  clear hl hb HR
  go_wp2
  go_loop [6, 7] (fun s i => ∃ (k : Nat) (cs : List Ch), k ≤ n ∧ k ≤ 30 ∧ i = .int .i64 k ∧ s = .string (str cs) ∧ Hid (AllCh cs ∧ cs.length ≤ k)) (fun _ i => n - (intOf i).toNat)
  case atStart => exact ⟨0, [], Nat.zero_le _, Nat.zero_le _, rfl, rfl, Lib.hid ⟨fun _ h => (List.not_mem_nil h).elim, by simp⟩⟩
  case round =>
    obtain ⟨k, cs, hk, hk30, rfl, rfl, HC⟩ := hrel
    by_cases hlt : k < n
    · by_cases h30 : k < 30
      · have c0 := HR1.out.cells k hlt
        have hp := pick_any (l.getD k 0) 8 (HR1.out.range k) (by omega) (by omega)
        obtain ⟨a, ha⟩ : ∃ a, a = l.getD k 0 := ⟨_, rfl⟩
        rw [← ha] at c0 hp
        clear ha
        go_wp2_with (go_at_call 13; refine (hp _).mono ?_)
        rintro e w2 ⟨c8, hc8, rfl, rfl⟩
        obtain ⟨x, hx, d0⟩ := HL.out.at_ c8 (by omega)
        have s1 := size_le HC.out.1
        have s2 := size_le (allCh_one hx)
        have s3 := HC.out.2
        simp only [List.length_singleton] at s2
        have HX := Lib.hid hx
        clear hx c0 hp
        go_wp2
        go_round
        case rel => exact ⟨k + 1, cs ++ [x], by omega, by omega, by go_num, by rw [str_append], Lib.hid ⟨allCh_append HC.out.1 (allCh_one HX.out), by have := HC.out.2; simp; omega⟩⟩
        case measure => simp [intOf]; omega
      · obtain rfl : k = 30 := by omega
        go_wp2
        go_ret
        exact ⟨cs, rfl, HC.out, HB.out⟩
    · obtain rfl : k = n := by omega
      go_wp2
      go_ret
      exact ⟨cs, rfl, ⟨HC.out.1, by have := HC.out.2; omega⟩, HB.out⟩


/-! ### length -/
def heads (l : List UInt8) : Nat := (l.filter fun b => decide (b.toNat < 128) || decide (192 ≤ b.toNat)).length
theorem heads_append (a b : List UInt8) : heads (a ++ b) = heads a + heads b := by simp [heads]
theorem heads_ch {c : Ch} (h : c ∈ alphabet) : heads c = 1 := by
  simp only [alphabet, List.mem_cons, List.not_mem_nil, or_false] at h
  rcases h with rfl | rfl | rfl | rfl | rfl | rfl | rfl | rfl | rfl | rfl | rfl | rfl <;> decide
theorem heads_flatten {cs : List Ch} (h : AllCh cs) : heads cs.flatten = cs.length := by
  induction cs with
  | nil => rfl
  | cons c cs ih =>
    rw [List.flatten_cons, heads_append, heads_ch (h c List.mem_cons_self), ih (fun x hx => h x (List.mem_cons_of_mem _ hx)), List.length_cons]
    omega
theorem heads_le (l : List UInt8) : heads l ≤ l.length := List.length_filter_le _ _
theorem data_len (s : ByteArray) : s.data.toList.length = s.size := by rw [Array.length_toList]; rfl
theorem heads_next (s : ByteArray) (k : Nat) (h : k < s.size) : heads (s.data.toList.take (k + 1)) = heads (s.data.toList.take k) + heads [s[k]] := by
  rw [List.take_succ_eq_append_getElem (by rw [data_len]; exact h), heads_append]
  rfl
set_option maxHeartbeats 1000000 in
set_option maxRecDepth 100000 in
theorem length_bytes (s : ByteArray) (hs : s.size ≤ 1000000) (w : World) : Calls Tryd.prog 7 #[.string s] w fun e w' => e = .returned (.int .i64 (heads s.data.toList)) ∧ w = w' := by
  go_enter Tryd.func7, Tryd.ntmps7
  go_wp2
  go_loop [3, 4] (fun n i => ∃ k a : Nat, k ≤ s.size ∧ a ≤ k ∧ i = .int .i64 k ∧ n = .int .i64 a ∧ Hid (a = heads (s.data.toList.take k))) (fun _ i => s.size - (intOf i).toNat)
  case atStart => exact ⟨0, 0, Nat.zero_le _, Nat.zero_le _, rfl, rfl, Lib.hid (by simp [heads])⟩
  case round =>
    obtain ⟨k, a, hk, hak, rfl, rfl, HA⟩ := hrel
    by_cases hlt : k < s.size
    · have hn := heads_next s k hlt
      have h1e : ∀ b : UInt8, b.toNat < 128 → heads [b] = 1 := fun b h => by simp [heads, h]
      have h2e : ∀ b : UInt8, 192 ≤ b.toNat → heads [b] = 1 := fun b h => by simp [heads, h]
      have h3e : ∀ b : UInt8, ¬ b.toNat < 128 → ¬ 192 ≤ b.toNat → heads [b] = 0 := fun b h h' => by simp [heads, h, h']
      by_cases h1 : s[k].toNat < 128
      · rw [h1e _ h1] at hn
        have HN := Lib.hid hn
        have h1' : (s[k].toNat : Int) < 128 := by omega
        clear hn h1e h2e h3e h1
        go_wp2
        go_round
        case rel => exact ⟨k + 1, a + 1, by omega, by omega, by go_num, by go_num, Lib.hid (by rw [HN.out, HA.out])⟩
        case measure => simp [intOf]; omega
      · by_cases h2 : 192 ≤ s[k].toNat
        · rw [h2e _ h2] at hn
          have HN := Lib.hid hn
          have h1' : ¬ (s[k].toNat : Int) < 128 := by omega
          have h2' : (192 : Int) ≤ (s[k].toNat : Int) := by omega
          clear hn h1e h2e h3e h1 h2
          go_wp2
          go_round
          case rel => exact ⟨k + 1, a + 1, by omega, by omega, by go_num, by go_num, Lib.hid (by rw [HN.out, HA.out])⟩
          case measure => simp [intOf]; omega
        · rw [h3e _ h1 h2] at hn
          have HN := Lib.hid hn
          have h1' : ¬ (s[k].toNat : Int) < 128 := by omega
          have h2' : ¬ (192 : Int) ≤ (s[k].toNat : Int) := by omega
          clear hn h1e h2e h3e h1 h2
          go_wp2
          go_round
          case rel => exact ⟨k + 1, a, by omega, by omega, by go_num, rfl, Lib.hid (by rw [HN.out, HA.out]; rfl)⟩
          case measure => simp [intOf]; omega
    · obtain rfl : k = s.size := by omega
      have hA := HA.out
      rw [List.take_of_length_le (by rw [data_len]; exact Nat.le_refl _)] at hA
      have HB := Lib.hid hA
      clear hA HA
      go_wp2
      go_ret
      exact ⟨ret_num (show (a : Int) = ((heads s.data.toList : Nat) : Int) by rw [← HB.out]), rfl⟩
theorem len_any (cs : List Ch) (h : AllCh cs) (hl : cs.length ≤ 100000) (W : World) : Calls Tryd.prog 7 #[.string (str cs)] W fun e w' => e = .returned (.int .i64 cs.length) ∧ Below W.heap.size W w' := by
  have hs := size_le h
  refine (length_bytes (str cs) (by omega) W).mono ?_
  rintro e w' ⟨he, rfl⟩
  rw [toList_str, heads_flatten h] at he
  exact ⟨he, Below.refl _ _⟩


/-! ### made -/
/-- What is known of the parts that were made in i rounds, of n0 characters, of which n are left. -/
structure Mk (ps : List Pt) (i n n0 : Nat) : Prop where
  sound : AllSound ps
  left : used ps + n = n0
  short : ps.length ≤ i
  total : total ps ≤ used ps + 2 * i
  small : ∀ p, p ∈ ps → weight p ≤ 3
theorem Mk.snoc {ps : List Pt} {i n n0 : Nat} (h : Mk ps i n n0) {p : Pt} (hp : Sound p) (h2 : weight p ≤ use p + 2) (h3 : weight p ≤ 3) (hu : use p ≤ n) : Mk (ps ++ [p]) (i + 1) (n - use p) n0 := by
  have e1 : used (ps ++ [p]) = used ps + use p := by simp [used]
  have e2 : Txt.total (ps ++ [p]) = Txt.total ps + weight p := by simp [Txt.total]
  have h1 := h.left
  have h4 := h.total
  have h5 := h.short
  refine ⟨fun q hq => ?_, by omega, by simp; omega, by omega, fun q hq => ?_⟩
  · rcases List.mem_append.1 hq with hq | hq
    · exact h.sound q hq
    · rw [List.mem_singleton.1 hq]; exact hp
  · rcases List.mem_append.1 hq with hq | hq
    · exact h.small q hq
    · rw [List.mem_singleton.1 hq]; exact h3
theorem Mk.step {ps : List Pt} {i n n0 : Nat} (h : Mk ps i n n0) : Mk ps (i + 1) n n0 := ⟨h.sound, h.left, by have := h.short; omega, by have := h.total; omega, h.small⟩
theorem Mk.fits {ps : List Pt} {i n n0 : Nat} (h : Mk ps i n n0) (hi : i ≤ 40) (hn : n0 ≤ 30) : Fits ps n0 := by
  have h1 := h.left
  have h2 := h.short
  have h3 := h.total
  exact ⟨⟨h.sound, fun p hp => by have := h.small p hp; omega⟩, by omega, by omega, by omega⟩

set_option maxHeartbeats 1000000 in
set_option maxRecDepth 100000 in
theorem made_none (w : World) (A : Option Addr) (cap n0 : Nat) : Calls Tryd.prog 6 #[.slice A 0 cap, .int .i64 n0] w fun e w' => e = .returned (.slice none 0 0) ∧ Below w.heap.size w w' := by
  go_enter Tryd.func6, Tryd.ntmps6
  go_wp2_with (go_at_call 12; refine (letters_any _).mono ?_)
  rintro e w1 ⟨rfl, _, hb⟩
  have HB := Lib.hid hb
  clear hb
  go_wp2
  refine wp_loop_rounds 1 ?_; rw [rounds_succ]
  go_wp2
  go_ret
  exact ⟨rfl, HB.out⟩

set_option maxHeartbeats 4000000 in
set_option maxRecDepth 100000 in
theorem made_row (w : World) (b off n c n0 : Nat) (l : List Int) (hr : Raw w b off n c l) (hn0 : n0 ≤ 30) :
    Calls Tryd.prog 6 #[.slice (some ⟨b, off, none⟩) n c, .int .i64 n0] w fun e w' => ∃ v ps, e = .returned v ∧ Fits ps n0 ∧ Reads w' v ps ∧ Below w.heap.size w w' := by
  have hnc := hr.cap
  have hcb := hr.bound
  have HR := Lib.hid hr
  clear hr
  go_enter Tryd.func6, Tryd.ntmps6
  go_wp2_with (go_at_call 12; refine (letters_any _).mono ?_)
  rintro e w1 ⟨rfl, hl, hb⟩
  have HL := Lib.hid hl
  have HO := Lib.hid ((Own37.none w).onward hb)
  clear hl hb
  go_wp2
  go_loopw [1, 5, 7] (fun vn vo vi wr => ∃ (k m : Nat) (ps : List Pt), k ≤ n ∧ k ≤ 40 ∧ m ≤ 30 ∧ vi = .int .i64 k ∧ vn = .int .i64 m ∧ Hid (Own37 w wr vo ps ∧ Mk ps k m n0 ∧ Letters wr w.heap.size)) (fun _ _ i _ => n - (intOf i).toNat)
  case atStart => exact ⟨0, n0, [], Nat.zero_le _, Nat.zero_le _, hn0, rfl, rfl, Lib.hid ⟨HO.out, ⟨fun _ h => (List.not_mem_nil h).elim, by simp [used], Nat.le_refl _, by simp [Txt.total], fun _ h => (List.not_mem_nil h).elim⟩, HL.out⟩⟩
  case round =>
    obtain ⟨k, m, ps, hk, hk40, hm30, rfl, rfl, HM⟩ := hrel
    by_cases hlt : k < n
    · by_cases h40 : k < 40
      · have c0 := (HR.out.onward HM.out.1.below).cells k hlt
        have hp := pick_any (l.getD k 0) 3000 (HR.out.range k) (by omega) (by omega)
        obtain ⟨a, ha⟩ : ∃ a, a = l.getD k 0 := ⟨_, rfl⟩
        rw [← ha] at c0 hp
        clear ha
        go_wp2_with (go_at_call 13; refine (hp _).mono ?_)
        rintro e w2 ⟨x, hx, rfl, rfl⟩
        clear c0 hp
        by_cases h3 : x % 3 = 0
        · have t3 : (((x : Int) % 3) == 0) = true := by rw [beq_iff_eq]; omega
          obtain ⟨y1, hy1, d1⟩ := HM.out.2.2.at_ (x / 3 % 8) (Nat.mod_lt _ (by omega))
          obtain ⟨y2, hy2, d2⟩ := HM.out.2.2.at_ (x / 24 % 8) (Nat.mod_lt _ (by omega))
          have s1 := size_le (allCh_one hy1)
          have s2 := size_le (allCh_one hy2)
          simp only [List.length_singleton] at s1 s2
          by_cases hbig : 1500 < x
          · obtain ⟨v1, w3, hrun, hO, hg3⟩ := app37 w wr u5 ps (.ins ([y1] ++ [y2])) HM.out.1 (by have := HM.out.2.1.short; omega)
            have hMk := HM.out.2.1.snoc (p := .ins ([y1] ++ [y2])) ⟨by simp, allCh_append (allCh_one hy1) (allCh_one hy2)⟩ (by simp [weight, use]) (by simp [weight]) (Nat.zero_le _)
            simp only [to37, c37, str_append] at hrun
            have HN := Lib.hid (And.intro hO (And.intro hMk ((HM.out.2.2.alloc _).grown hg3 (HM.out.2.2.apart HM.out.1))))
            have hb' : (1500 : Int) < (x : Int) := by omega
            clear hO hg3 hMk hy1 hy2 hbig h3
            go_wp2_with (at_builtin; refine Lib.wpList_append_run _ rfl _ _ _ _ rfl _ _ rfl rfl _ _ hrun ?_)
            go_roundw
            case rel => exact ⟨k + 1, m, ps ++ [.ins ([y1] ++ [y2])], by omega, by omega, hm30, by go_num, rfl, Lib.hid ⟨HN.out.1, HN.out.2.1, HN.out.2.2⟩⟩
            case measure => simp [intOf]; omega
          · obtain ⟨v1, w3, hrun, hO, hg3⟩ := app37 w wr u5 ps (.ins [y1]) HM.out.1 (by have := HM.out.2.1.short; omega)
            have hMk := HM.out.2.1.snoc (p := .ins [y1]) ⟨by simp, allCh_one hy1⟩ (by simp [weight, use]) (by simp [weight]) (Nat.zero_le _)
            simp only [to37, c37] at hrun
            have HN := Lib.hid (And.intro hO (And.intro hMk ((HM.out.2.2.alloc _).grown hg3 (HM.out.2.2.apart HM.out.1))))
            have hb' : ¬ (1500 : Int) < (x : Int) := by omega
            clear hO hg3 hMk hy1 hy2 hbig h3
            go_wp2_with (at_builtin; refine Lib.wpList_append_run _ rfl _ _ _ _ rfl _ _ rfl rfl _ _ hrun ?_)
            go_roundw
            case rel => exact ⟨k + 1, m, ps ++ [.ins [y1]], by omega, by omega, hm30, by go_num, rfl, Lib.hid ⟨HN.out.1, HN.out.2.1, HN.out.2.2⟩⟩
            case measure => simp [intOf]; omega
        · have t3 : (((x : Int) % 3) == 0) = false := by rw [beq_eq_false_iff_ne]; omega
          obtain ⟨K, hK, hK1, hK3⟩ : ∃ K : Nat, (1 : Int) + (x : Int) / 3 % 3 = (K : Int) ∧ 1 ≤ K ∧ K ≤ 3 := ⟨1 + x / 3 % 3, by omega, by omega, by omega⟩
          have t3' := t3
          by_cases hKm : K ≤ m
          · by_cases h2 : x % 3 = 1
            · have t1 : (x : Int) % 3 = 1 := by omega
              obtain ⟨v1, w3, hrun, hO, hg3⟩ := app37 w (wr.alloc (.cells #[.int .i64 0, .int .i64 1, .int .i64 3] 3)) u5 ps (.keep K) (HM.out.1.alloc _) (by have := HM.out.2.1.short; omega)
              have hMk := HM.out.2.1.snoc (p := .keep K) hK1 (by simp only [weight, use]; omega) hK3 hKm
              simp only [to37, c37] at hrun
              rw [show (wr.alloc (.cells #[.int .i64 0, .int .i64 1, .int .i64 3] 3)).heap.size = wr.heap.size + 1 by simp] at hrun
              have HN := Lib.hid (And.intro hO (And.intro hMk (((HM.out.2.2.alloc _).alloc _).grown hg3 (HM.out.2.2.apart HM.out.1))))
              clear hO hg3 hMk h3 t3' h2
              go_wp2_with (at_builtin; refine Lib.wpList_append_run _ rfl _ _ _ _ rfl _ _ rfl rfl _ _ hrun ?_)
              go_roundw
              case rel => exact ⟨k + 1, m - K, ps ++ [.keep K], by omega, by omega, by omega, by go_num, by go_num, Lib.hid ⟨HN.out.1, HN.out.2.1, HN.out.2.2⟩⟩
              case measure => simp [intOf]; omega
            · have t1 : (x : Int) % 3 = 2 := by omega
              obtain ⟨v1, w3, hrun, hO, hg3⟩ := app37 w (wr.alloc (.cells #[.int .i64 0, .int .i64 1, .int .i64 3] 3)) u5 ps (.del K) (HM.out.1.alloc _) (by have := HM.out.2.1.short; omega)
              have hMk := HM.out.2.1.snoc (p := .del K) hK1 (by simp only [weight, use]; omega) hK3 hKm
              simp only [to37, c37] at hrun
              rw [show (wr.alloc (.cells #[.int .i64 0, .int .i64 1, .int .i64 3] 3)).heap.size = wr.heap.size + 1 by simp] at hrun
              have HN := Lib.hid (And.intro hO (And.intro hMk (((HM.out.2.2.alloc _).alloc _).grown hg3 (HM.out.2.2.apart HM.out.1))))
              clear hO hg3 hMk h3 t3' h2
              go_wp2_with (at_builtin; refine Lib.wpList_append_run _ rfl _ _ _ _ rfl _ _ rfl rfl _ _ hrun ?_)
              go_roundw
              case rel => exact ⟨k + 1, m - K, ps ++ [.del K], by omega, by omega, by omega, by go_num, by go_num, Lib.hid ⟨HN.out.1, HN.out.2.1, HN.out.2.2⟩⟩
              case measure => simp [intOf]; omega
          · have hKm' : (m : Int) < (K : Int) := by omega
            have HN := Lib.hid HM.out.2.1.step
            clear h3 hKm t3'
            go_wp2
            go_roundw
            case rel => exact ⟨k + 1, m, ps, by omega, by omega, hm30, by go_num, rfl, Lib.hid ⟨HM.out.1, HN.out, HM.out.2.2⟩⟩
            case measure => simp [intOf]; omega
      · obtain rfl : k = 40 := by omega
        go_wp2
        go_ret
        exact ⟨_, ps, rfl, HM.out.2.1.fits (Nat.le_refl _) hn0, HM.out.1.reads, HM.out.1.below⟩
    · obtain rfl : k = n := by omega
      go_wp2
      go_ret
      exact ⟨_, ps, rfl, HM.out.2.1.fits hk40 hn0, HM.out.1.reads, HM.out.1.below⟩

end Go.Proofs.YtepgfnoafhlokaaDoor
