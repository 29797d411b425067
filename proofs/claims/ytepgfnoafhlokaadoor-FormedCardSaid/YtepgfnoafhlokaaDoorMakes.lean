/- What quillkeep.text, quillkeep.made and quillkeep.length answer, on lists and numbers alone (over the plain functions of the print): a text of at most thirty of the characters; an operation of at most forty sound parts that takes no more characters than there are; how many characters a text has. Condition: the raw numbers are int's. -/
import Derived.Test.YtepgfnoafhlokaaDoorSameW
namespace Go.Proofs.YtepgfnoafhlokaaDoor
open Go.RowKit PFormed Txt Go.Proofs.YtepgfnoafhlokaaDoorW.PrintWords

def lets : List ByteArray := [(⟨#[97]⟩ : ByteArray), (⟨#[98]⟩ : ByteArray), (⟨#[195, 169]⟩ : ByteArray), (⟨#[228, 184, 150]⟩ : ByteArray), (⟨#[240, 159, 144, 154]⟩ : ByteArray), (⟨#[99]⟩ : ByteArray), (⟨#[10]⟩ : ByteArray), (⟨#[32]⟩ : ByteArray)]
theorem letter_at (n : Nat) (h : n < 8) : ∃ c, c ∈ alphabet ∧ rdOf ByteArray.empty lets (n : Int) = str [c] := by
  match n, h with
  | 0, _ => exact ⟨[97], by simp [alphabet], rfl⟩
  | 1, _ => exact ⟨[98], by simp [alphabet], rfl⟩
  | 2, _ => exact ⟨[195, 169], by simp [alphabet], rfl⟩
  | 3, _ => exact ⟨[228, 184, 150], by simp [alphabet], rfl⟩
  | 4, _ => exact ⟨[240, 159, 144, 154], by simp [alphabet], rfl⟩
  | 5, _ => exact ⟨[99], by simp [alphabet], rfl⟩
  | 6, _ => exact ⟨[10], by simp [alphabet], rfl⟩
  | 7, _ => exact ⟨[32], by simp [alphabet], rfl⟩
  | n + 8, h => omega

/-- A number of int's kind. -/
def InR (a : Int) : Prop := -9223372036854775808 ≤ a ∧ a ≤ 9223372036854775807
theorem rd_in {l : List Int} (h : ∀ x, x ∈ l → InR x) (i : Int) : InR (rd l i) := by
  unfold rd
  rw [List.getD_eq_getElem?_getD]
  cases hx : l[i.toNat]? with
  | none => exact ⟨by simp, by simp⟩
  | some x => exact h x (List.mem_of_getElem? hx)
theorem pick_f (a m : Int) (ha : InR a) (hm : 0 < m) : ∃ c : Nat, quillkeep_pick.f a m = some (c : Int) ∧ (c : Int) < m := by
  have hm0 : ¬ (m = 0) := by omega
  have key : ∀ b : Int, 0 ≤ b → ∃ c : Nat, some (Int.tmod b m) = some (c : Int) ∧ (c : Int) < m := by
    intro b hb
    have h1 := Int.tmod_nonneg m hb
    have h2 := Int.tmod_lt_of_pos b hm
    obtain ⟨n, hn⟩ := Int.eq_ofNat_of_zero_le h1
    exact ⟨n, by rw [hn], by omega⟩
  obtain ⟨h1, h2⟩ := ha
  by_cases h : a < 0
  · have e1 : wrap64 (a + 1) = a + 1 := by unfold wrap64; omega
    have e2 : wrap64 (-(a + 1)) = -(a + 1) := by unfold wrap64; omega
    simp only [quillkeep_pick.f]
    rw [if_pos h, if_neg hm0, e1, e2]
    exact key _ (by omega)
  · simp only [quillkeep_pick.f]
    rw [if_neg h, if_neg hm0]
    exact key _ (by omega)
theorem lets_length : ((lets.length : Nat) : Int) = 8 := rfl
theorem tmod_nat (c m : Nat) : Int.tmod (c : Int) (m : Int) = ((c % m : Nat) : Int) := rfl
theorem tdiv_nat (c m : Nat) : Int.tdiv (c : Int) (m : Int) = ((c / m : Nat) : Int) := rfl

theorem allCh_one {c : Ch} (h : c ∈ alphabet) : AllCh [c] := fun x hx => by
  rw [List.mem_singleton.1 hx]
  exact h

/-! ### text -/
theorem text_l0 (l : List Int) (hl : ∀ x, x ∈ l → InR x) : ∀ (d i : Nat) (cs : List Ch), i + d = 30 → AllCh cs → cs.length ≤ i →
    ∃ cs', quillkeep_text.l0 (d + 1) l 30 lets (str cs) (i : Int) = some (str cs') ∧ AllCh cs' ∧ cs'.length ≤ 30
  | 0, i, cs, hi, ha, hc => by
    refine ⟨cs, ?_, ha, by omega⟩
    simp only [quillkeep_text.l0]
    rw [if_neg (show ¬ ((i : Int) < 30) by omega)]
    split <;> rfl
  | d + 1, i, cs, hi, ha, hc => by
    by_cases hlt : (i : Int) < (l.length : Int)
    · obtain ⟨c, hp, hc8⟩ := pick_f (rd l i) 8 (rd_in hl _) (by omega)
      obtain ⟨x, hx, hle⟩ := letter_at c (by omega)
      obtain ⟨cs', h1, h2, h3⟩ := text_l0 l hl d (i + 1) (cs ++ [x]) (by omega) (allCh_append ha (allCh_one hx)) (by simp; omega)
      refine ⟨cs', ?_, h2, h3⟩
      have s1 := size_le ha
      have s2 := size_le (allCh_one hx)
      simp only [List.length_singleton] at s2
      unfold quillkeep_text.l0
      rw [if_pos hlt, if_pos (by omega), if_pos (by omega)]
      rw [lets_length, hp, Option.bind_some, if_pos (by omega), if_pos (by omega), hle, if_pos (by omega), ← str_append,
        show wrap64 ((i : Int) + 1) = ((i + 1 : Nat) : Int) by unfold wrap64; omega]
      exact h1
    · refine ⟨cs, ?_, ha, by omega⟩
      simp only [quillkeep_text.l0]
      rw [if_neg hlt]
theorem text_f (l : List Int) (hl : ∀ x, x ∈ l → InR x) : ∃ cs, quillkeep_text.f 31 l 30 = some (str cs) ∧ AllCh cs ∧ cs.length ≤ 30 :=
  text_l0 l hl 30 0 [] rfl (fun _ h => by cases h) (by simp)

/-! ### made -/
/-- What is known of the parts that were made in i rounds, of n0 characters, of which n are left. -/
structure Mk (ps : List Pt) (i n n0 : Nat) : Prop where
  sound : AllSound ps
  left : used ps + n = n0
  short : ps.length ≤ i
  total : total ps ≤ used ps + 2 * i
  small : ∀ p, p ∈ ps → weight p ≤ 3
theorem Mk.snoc {ps : List Pt} {i n n0 : Nat} (h : Mk ps i n n0) {p : Pt} (hp : Sound p) (h2 : weight p ≤ use p + 2) (h3 : weight p ≤ 3) (hu : use p ≤ n) : Mk (ps ++ [p]) (i + 1) (n - use p) n0 := by
  have e1 : used (ps ++ [p]) = used ps + use p := by simp [used]
  have e2 : Txt.total (ps ++ [p]) = Txt.total ps + weight p := by simp [Txt.total]
  have h1 := h.left
  have h4 := h.total
  have h5 := h.short
  refine ⟨fun q hq => ?_, by omega, by simp; omega, by omega, fun q hq => ?_⟩
  · rcases List.mem_append.1 hq with hq | hq
    · exact h.sound q hq
    · rw [List.mem_singleton.1 hq]; exact hp
  · rcases List.mem_append.1 hq with hq | hq
    · exact h.small q hq
    · rw [List.mem_singleton.1 hq]; exact h3
theorem Mk.step {ps : List Pt} {i n n0 : Nat} (h : Mk ps i n n0) : Mk ps (i + 1) n n0 := ⟨h.sound, h.left, by have := h.short; omega, by have := h.total; omega, h.small⟩


theorem w64 (x : Int) (h0 : 0 ≤ x) (h1 : x ≤ 1000000000000) : wrap64 x = x := by unfold wrap64; omega
theorem ec0 (c : Nat) : Int.tmod (c : Int) 3 = ((c % 3 : Nat) : Int) := tmod_nat c 3
theorem ec1 (c : Nat) (h : c < 3000) : wrap64 (Int.tdiv (c : Int) 3) = ((c / 3 : Nat) : Int) := by
  rw [show Int.tdiv (c : Int) 3 = ((c / 3 : Nat) : Int) from tdiv_nat c 3]
  exact w64 _ (Int.natCast_nonneg _) (by omega)
theorem ec2 (c : Nat) (h : c < 3000) : wrap64 (Int.tdiv (c : Int) 24) = ((c / 24 : Nat) : Int) := by
  rw [show Int.tdiv (c : Int) 24 = ((c / 24 : Nat) : Int) from tdiv_nat c 24]
  exact w64 _ (Int.natCast_nonneg _) (by omega)
theorem ec3 (c : Nat) : Int.tmod ((c / 3 : Nat) : Int) 8 = ((c / 3 % 8 : Nat) : Int) := tmod_nat (c / 3) 8
theorem ec4 (c : Nat) : Int.tmod ((c / 24 : Nat) : Int) 8 = ((c / 24 % 8 : Nat) : Int) := tmod_nat (c / 24) 8
theorem ec5 (c : Nat) (_h : c < 3000) : wrap64 (1 + Int.tmod ((c / 3 : Nat) : Int) 3) = ((1 + c / 3 % 3 : Nat) : Int) := by
  rw [show Int.tmod ((c / 3 : Nat) : Int) 3 = ((c / 3 % 3 : Nat) : Int) from tmod_nat (c / 3) 3]
  rw [w64 _ (by omega) (by omega)]
  omega
theorem ec6 (i : Nat) (h : i < 40) : wrap64 ((i : Int) + 1) = ((i + 1 : Nat) : Int) := by
  rw [w64 _ (by omega) (by omega)]
  omega
section
variable (k : Nat) (l : List Int) (n : Int) (L : List S37) (i c : Nat)
/-- One round: at the end of the numbers, or behind forty. -/
theorem made_end (h : ¬ ((i : Int) < (l.length : Int)) ∨ i = 40) : quillkeep_made.l0 (k + 1 + 1) l n L lets (i : Int) = some L := by
  have hj : ∀ x, quillkeep_made.j1 (k + 1) l n L lets x false = some L := fun x => by
    rw [quillkeep_made.j1, if_neg (by decide)]
  rw [quillkeep_made.l0]
  rcases h with h | rfl
  · rw [if_neg h]
    exact hj _
  · have h40 : decide (((40 : Nat) : Int) < 40) = false := by decide
    rw [h40]
    split
    · exact hj _
    · exact hj _
/-- A round's beginning. -/
theorem made_pick (hlt : (i : Int) < (l.length : Int)) (hi : i < 40) (hp : quillkeep_pick.f (rd l i) 3000 = some (c : Int)) (hc : c < 3000) (R : Option (List S37))
    (h : (if ((c % 3 : Nat) : Int) = 0 then (if 0 ≤ ((c / 3 % 8 : Nat) : Int) then (if ((c / 3 % 8 : Nat) : Int) < 8 then (if (c : Int) > 1500 then (if 0 ≤ ((c / 24 % 8 : Nat) : Int) then (if ((c / 24 % 8 : Nat) : Int) < 8 then
      (if (rdOf ByteArray.empty lets ((c / 3 % 8 : Nat) : Int)).size + (rdOf ByteArray.empty lets ((c / 24 % 8 : Nat) : Int)).size ≤ 9223372036854775807 then (if L.length < 4398046511104 then
      (quillkeep_made.l0 k l n (L ++ [(⟨2, 0, (rdOf ByteArray.empty lets ((c / 3 % 8 : Nat) : Int)) ++ (rdOf ByteArray.empty lets ((c / 24 % 8 : Nat) : Int))⟩ : S37)]) lets ((i + 1 : Nat) : Int)) else none) else none) else none) else none)
      else (if L.length < 4398046511104 then (quillkeep_made.l0 k l n (L ++ [(⟨2, 0, rdOf ByteArray.empty lets ((c / 3 % 8 : Nat) : Int)⟩ : S37)]) lets ((i + 1 : Nat) : Int)) else none)) else none) else none)
      else (if ((1 + c / 3 % 3 : Nat) : Int) > n then (quillkeep_made.l0 k l n L lets ((i + 1 : Nat) : Int)) else ((some (([0, 1, 3] : List Int) : List Int)).bind fun y179 => (if 0 ≤ ((c % 3 : Nat) : Int) then (if ((c % 3 : Nat) : Int) < (y179.length : Int) then (if L.length < 4398046511104 then
      (quillkeep_made.l0 k l (wrap64 (n - ((1 + c / 3 % 3 : Nat) : Int))) (L ++ [(⟨rd y179 ((c % 3 : Nat) : Int), ((1 + c / 3 % 3 : Nat) : Int), (⟨#[]⟩ : ByteArray)⟩ : S37)]) lets ((i + 1 : Nat) : Int)) else none) else none) else none)))) = R) :
    quillkeep_made.l0 (k + 1 + 1) l n L lets (i : Int) = R := by
  rw [quillkeep_made.l0, if_pos hlt, decide_eq_true (show (i : Int) < 40 by omega), quillkeep_made.j1, if_pos rfl, if_pos (Int.natCast_nonneg i), if_pos hlt, hp, Option.bind_some, ec0, ec1 c hc, ec2 c hc, ec3, ec4, ec5 c hc, ec6 i hi, lets_length]
  exact h
end


theorem map_snoc (ps : List Pt) (p : Pt) : (ps ++ [p]).map to37 = ps.map to37 ++ [to37 p] := by simp

theorem made_l0 (l : List Int) (hl : ∀ x, x ∈ l → InR x) (n0 : Nat) (hn0 : n0 ≤ 30) : ∀ (d i n : Nat) (ps : List Pt), i + d = 40 → Mk ps i n n0 →
    ∃ ps' n' k, quillkeep_made.l0 k l (n : Int) (ps.map to37) lets (i : Int) = some (ps'.map to37) ∧ Mk ps' 40 n' n0
  | 0, i, n, ps, hi, hm => by
    obtain rfl : i = 40 := by omega
    exact ⟨ps, n, 2, made_end 0 l n _ 40 (.inr rfl), hm⟩
  | d + 1, i, n, ps, hi, hm => by
    by_cases hlt : (i : Int) < (l.length : Int)
    · obtain ⟨c, hp, hc0⟩ := pick_f (rd l i) 3000 (rd_in hl _) (by omega)
      have hc : c < 3000 := by omega
      have hi40 : i < 40 := by omega
      have hps : (ps.map to37).length < 4398046511104 := by have := hm.short; simp; omega
      by_cases h3 : c % 3 = 0
      · obtain ⟨x, hx, hlx⟩ := letter_at (c / 3 % 8) (Nat.mod_lt _ (by omega))
        obtain ⟨y, hy, hly⟩ := letter_at (c / 24 % 8) (Nat.mod_lt _ (by omega))
        have s1 := size_le (allCh_one hx)
        have s2 := size_le (allCh_one hy)
        simp only [List.length_singleton] at s1 s2
        have q1 : ((c / 3 % 8 : Nat) : Int) < 8 := by omega
        have q2 : ((c / 24 % 8 : Nat) : Int) < 8 := by omega
        have q3 : (str [x]).size + (str [y]).size ≤ 9223372036854775807 := by omega
        by_cases hb : (c : Int) > 1500
        · have hk := hm.snoc (p := .ins ([x] ++ [y])) ⟨by simp, allCh_append (allCh_one hx) (allCh_one hy)⟩ (by simp [weight, use]) (by simp [weight]) (Nat.zero_le _)
          obtain ⟨ps', n', k, h1, h2⟩ := made_l0 l hl n0 hn0 d (i + 1) _ _ (by omega) hk
          refine ⟨ps', n', k + 1 + 1, ?_, h2⟩
          refine made_pick k l n _ i c hlt hi40 hp hc _ ?_
          rw [if_pos (by rw [h3]; rfl), if_pos (Int.natCast_nonneg _), if_pos q1, if_pos hb, if_pos (Int.natCast_nonneg _), if_pos q2, hlx, hly, if_pos q3, if_pos hps, ← str_append, ← h1, map_snoc]
          rfl
        · have hk := hm.snoc (p := .ins [x]) ⟨by simp, allCh_one hx⟩ (by simp [weight, use]) (by simp [weight]) (Nat.zero_le _)
          obtain ⟨ps', n', k, h1, h2⟩ := made_l0 l hl n0 hn0 d (i + 1) _ _ (by omega) hk
          refine ⟨ps', n', k + 1 + 1, ?_, h2⟩
          refine made_pick k l n _ i c hlt hi40 hp hc _ ?_
          rw [if_pos (by rw [h3]; rfl), if_pos (Int.natCast_nonneg _), if_pos q1, if_neg hb, if_pos hps, hlx, ← h1, map_snoc]
          rfl
      · have q0 : ¬ (((c % 3 : Nat) : Int) = 0) := by omega
        have hn := hm.left
        by_cases hk3 : ((1 + c / 3 % 3 : Nat) : Int) > (n : Int)
        · obtain ⟨ps', n', k, h1, h2⟩ := made_l0 l hl n0 hn0 d (i + 1) n ps (by omega) hm.step
          refine ⟨ps', n', k + 1 + 1, ?_, h2⟩
          refine made_pick k l n _ i c hlt hi40 hp hc _ ?_
          rw [if_neg q0, if_pos hk3]
          exact h1
        · have hle : 1 + c / 3 % 3 ≤ n := by omega
          have e7 : wrap64 ((n : Int) - ((1 + c / 3 % 3 : Nat) : Int)) = ((n - (1 + c / 3 % 3) : Nat) : Int) := by
            rw [w64 _ (by omega) (by omega)]
            omega
          have q5 : 0 < 1 + c / 3 % 3 := by omega
          have q6 : 1 + c / 3 % 3 ≤ 3 := by omega
          obtain ⟨K, hK⟩ : ∃ K, K = 1 + c / 3 % 3 := ⟨_, rfl⟩
          obtain hr | hr : c % 3 = 1 ∨ c % 3 = 2 := by omega
          · have hk := hm.snoc (p := .keep (1 + c / 3 % 3)) q5 (Nat.le_add_right _ _) q6 hle
            obtain ⟨ps', n', k, h1, h2⟩ := made_l0 l hl n0 hn0 d (i + 1) _ _ (by omega) hk
            refine ⟨ps', n', k + 1 + 1, ?_, h2⟩
            refine made_pick k l n _ i c hlt hi40 hp hc _ ?_
            rw [if_neg q0, if_neg hk3, e7, hr, ← h1, map_snoc, ← hK]
            rw [Option.bind_some, if_pos (by decide), if_pos (by decide), if_pos hps]
            rfl
          · have hk := hm.snoc (p := .del (1 + c / 3 % 3)) q5 (Nat.le_add_right _ _) q6 hle
            obtain ⟨ps', n', k, h1, h2⟩ := made_l0 l hl n0 hn0 d (i + 1) _ _ (by omega) hk
            refine ⟨ps', n', k + 1 + 1, ?_, h2⟩
            refine made_pick k l n _ i c hlt hi40 hp hc _ ?_
            rw [if_neg q0, if_neg hk3, e7, hr, ← h1, map_snoc, ← hK]
            rw [Option.bind_some, if_pos (by decide), if_pos (by decide), if_pos hps]
            rfl
    · exact ⟨ps, n, 2, made_end 0 l n _ i (.inl hlt), ⟨hm.sound, hm.left, by have := hm.short; omega, by have := hm.total; omega, hm.small⟩⟩

theorem made_f (l : List Int) (hl : ∀ x, x ∈ l → InR x) (n0 : Nat) (hn0 : n0 ≤ 30) : ∃ ps k, quillkeep_made.f k l (n0 : Int) = some (ps.map to37) ∧ Fits ps n0 := by
  obtain ⟨ps, n', k, h1, h2⟩ := made_l0 l hl n0 hn0 40 0 n0 [] rfl ⟨fun _ h => (List.not_mem_nil h).elim, by simp [used], Nat.le_refl _, by simp [Txt.total], fun _ h => (List.not_mem_nil h).elim⟩
  have hn := h2.left
  have ht := h2.total
  exact ⟨ps, k, h1, ⟨h2.sound, fun p hp => by have := h2.small p hp; omega⟩, by omega, h2.short, by omega⟩


/-! ### length -/
def heads (l : List UInt8) : Nat := (l.filter fun b => decide (b.toNat < 128) || decide (192 ≤ b.toNat)).length
theorem heads_append (a b : List UInt8) : heads (a ++ b) = heads a + heads b := by simp [heads]
theorem heads_ch {c : Ch} (h : c ∈ alphabet) : heads c = 1 := by
  simp only [alphabet, List.mem_cons, List.not_mem_nil, or_false] at h
  rcases h with rfl | rfl | rfl | rfl | rfl | rfl | rfl | rfl | rfl | rfl | rfl | rfl <;> decide
theorem heads_flatten {cs : List Ch} (h : AllCh cs) : heads cs.flatten = cs.length := by
  induction cs with
  | nil => rfl
  | cons c cs ih =>
    rw [List.flatten_cons, heads_append, heads_ch (h c List.mem_cons_self), ih (fun x hx => h x (List.mem_cons_of_mem _ hx)), List.length_cons]
    omega
theorem length_l0 (s : ByteArray) (hs : s.size ≤ 1000000) : ∀ (d i a : Nat), i + d = s.size → a ≤ i → quillkeep_length.l0 (d + 1) s (a : Int) (i : Int) = some ((a + heads (s.data.toList.drop i) : Nat) : Int)
  | 0, i, a, hi, _ => by
    have h0 : s.data.toList.drop i = [] := List.drop_eq_nil_of_le (by rw [data_length]; omega)
    simp only [quillkeep_length.l0]
    rw [if_neg (by omega), h0]
    rfl
  | d + 1, i, a, hi, ha => by
    have hlt : i < s.size := by omega
    have hl : i < s.data.toList.length := by rw [data_length]; exact hlt
    have hb : bt s (i : Int) = ((s.data.toList[i]).toNat : Int) := by
      have := bt_at s (i : Int) (by simpa using hlt)
      rw [← this]
      rfl
    have hd : s.data.toList.drop i = s.data.toList[i] :: s.data.toList.drop (i + 1) := List.drop_eq_getElem_cons hl
    have e1 : wrap64 ((i : Int) + 1) = ((i + 1 : Nat) : Int) := by rw [w64 _ (by omega) (by omega)]; omega
    have e2 : wrap64 ((a : Int) + 1) = ((a + 1 : Nat) : Int) := by rw [w64 _ (by omega) (by omega)]; omega
    unfold quillkeep_length.l0
    rw [if_pos (by omega), if_pos (by omega), hb, e1, e2, hd]
    generalize s.data.toList[i] = b
    by_cases h1 : (b.toNat : Int) < 128
    · rw [if_pos h1, length_l0 s hs d (i + 1) (a + 1) (by omega) (by omega)]
      have : heads (b :: s.data.toList.drop (i + 1)) = 1 + heads (s.data.toList.drop (i + 1)) := by
        rw [← List.singleton_append, heads_append]
        congr 1
        have : b.toNat < 128 := by omega
        simp [heads, this]
      rw [this]
      congr 2
      omega
    · by_cases h2 : (b.toNat : Int) ≥ 192
      · rw [if_neg h1, if_pos h2, length_l0 s hs d (i + 1) (a + 1) (by omega) (by omega)]
        have : heads (b :: s.data.toList.drop (i + 1)) = 1 + heads (s.data.toList.drop (i + 1)) := by
          rw [← List.singleton_append, heads_append]
          congr 1
          have : 192 ≤ b.toNat := by omega
          simp [heads, this]
        rw [this]
        congr 2
        omega
      · rw [if_neg h1, if_neg h2, length_l0 s hs d (i + 1) a (by omega) (by omega)]
        have : heads (b :: s.data.toList.drop (i + 1)) = heads (s.data.toList.drop (i + 1)) := by
          rw [← List.singleton_append, heads_append]
          have n1 : ¬ b.toNat < 128 := by omega
          have n2 : ¬ 192 ≤ b.toNat := by omega
          simp [heads, n1, n2]
        rw [this]
theorem length_f (cs : List Ch) (h : AllCh cs) (hl : cs.length ≤ 100000) : quillkeep_length.f ((str cs).size + 1) (str cs) = some (cs.length : Int) := by
  have hs := size_le h
  have := length_l0 (str cs) (by omega) (str cs).size 0 0 (by omega) (Nat.le_refl _)
  rw [List.drop_zero, toList_str, heads_flatten h] at this
  simp only [quillkeep_length.f]
  have e : ((0 + cs.length : Nat) : Int) = (cs.length : Int) := by omega
  rw [e] at this
  exact this

end Go.Proofs.YtepgfnoafhlokaaDoor
