/- Plain facts on texts made of the twelve characters that the law's texts are made of: how the model's decoder reads one of them wherever it stands. No program occurs here; the one condition is that each character is one of the twelve. -/
import Derived.Laws.RangeAny
namespace Go.Proofs.YtepgfnoafhlokaaDoor.Txt

/-- A character: its bytes. -/
abbrev Ch := List UInt8
def alphabet : List Ch := [[97], [98], [195, 169], [228, 184, 150], [240, 159, 144, 154], [99], [10], [32], [104], [101], [108], [111]]
/-- The text of these characters. -/
def str (cs : List Ch) : ByteArray := ⟨cs.flatten.toArray⟩
def AllCh (cs : List Ch) : Prop := ∀ c, c ∈ cs → c ∈ alphabet

theorem get_at' (l : List UInt8) (i : Nat) (h : i < l.length) : (ByteArray.mk l.toArray).get! i = l[i] := by
  simp [ByteArray.get!, h]

theorem get_mid (pre c post : List UInt8) (k : Nat) (h : k < c.length) : (ByteArray.mk (pre ++ (c ++ post)).toArray).get! (pre.length + k) = c[k] := by
  rw [get_at' _ _ (by simp; omega)]
  rw [List.getElem_append_right (by omega)]
  simp only [Nat.add_sub_cancel_left]
  rw [List.getElem_append_left h]

/-- The decoder at a character of ours: its width, and no error's rune. -/
theorem decode_ch (pre c post : List UInt8) (h : c ∈ alphabet) :
    (Utf8.decode ⟨(pre ++ (c ++ post)).toArray⟩ pre.length).2 = c.length ∧ (Utf8.decode ⟨(pre ++ (c ++ post)).toArray⟩ pre.length).1 ≠ 65533 := by
  have g := fun k hk => get_mid pre c post k hk
  have hsz : (ByteArray.mk (pre ++ (c ++ post)).toArray).size = pre.length + (c.length + post.length) := by
    simp [ByteArray.size]
  simp only [alphabet, List.mem_cons, List.not_mem_nil, or_false] at h
  rcases h with rfl | rfl | rfl | rfl | rfl | rfl | rfl | rfl | rfl | rfl | rfl | rfl
  all_goals
    simp only [Utf8.decode, hsz]
    have g0 := g 0 (by decide)
    try have g1 := g 1 (by decide)
    try have g2 := g 2 (by decide)
    try have g3 := g 3 (by decide)
    simp only [g0]
    try simp only [g1]
    try simp only [g2]
    try simp only [g3]
    simp [Utf8.valid, Utf8.runeError]
    try (rw [if_pos (by omega)]; simp)


/-- Where the k-th character begins. -/
def pos (cs : List Ch) (k : Nat) : Nat := (cs.take k).flatten.length
theorem size_str (cs : List Ch) : (str cs).size = cs.flatten.length := by simp [str, ByteArray.size]
theorem pos_all (cs : List Ch) : pos cs cs.length = (str cs).size := by rw [size_str]; simp [pos]
theorem pos_zero (cs : List Ch) : pos cs 0 = 0 := by simp [pos]
theorem ch_pos {c : Ch} (h : c ∈ alphabet) : 1 ≤ c.length ∧ c.length ≤ 4 := by
  simp only [alphabet, List.mem_cons, List.not_mem_nil, or_false] at h
  rcases h with rfl | rfl | rfl | rfl | rfl | rfl | rfl | rfl | rfl | rfl | rfl | rfl <;> simp
theorem split_at (cs : List Ch) (k : Nat) (h : k < cs.length) : cs.flatten = (cs.take k).flatten ++ (cs[k] ++ (cs.drop (k + 1)).flatten) := by
  have e := congrArg List.flatten (List.take_append_drop k cs)
  rw [List.flatten_append, List.drop_eq_getElem_cons h, List.flatten_cons] at e
  exact e.symm
theorem pos_succ (cs : List Ch) (k : Nat) (h : k < cs.length) : pos cs (k + 1) = pos cs k + cs[k].length := by
  unfold pos
  rw [List.take_succ_eq_append_getElem h, List.flatten_append, List.length_append]
  simp only [List.flatten_cons, List.flatten_nil, List.append_nil]
theorem pos_lt {cs : List Ch} (ha : AllCh cs) (k : Nat) (h : k < cs.length) : pos cs k < (str cs).size := by
  rw [size_str, split_at cs k h]
  have := (ch_pos (ha _ (List.getElem_mem h))).1
  simp [pos]
  omega
theorem pos_le (cs : List Ch) (k : Nat) : pos cs k ≤ (str cs).size := by
  rw [size_str]
  have e := congrArg (fun l : List Ch => l.flatten.length) (List.take_append_drop k cs)
  simp only [List.flatten_append, List.length_append] at e
  unfold pos
  omega
theorem decode_at {cs : List Ch} (ha : AllCh cs) (k : Nat) (h : k < cs.length) :
    pos cs k + (Utf8.decode (str cs) (pos cs k)).2 = pos cs (k + 1) ∧ (Utf8.decode (str cs) (pos cs k)).1 ≠ 65533 := by
  have hd := decode_ch (cs.take k).flatten cs[k] (cs.drop (k + 1)).flatten (ha _ (List.getElem_mem h))
  rw [← split_at cs k h] at hd
  refine ⟨?_, hd.2⟩
  rw [pos_succ cs k h]
  congr 1
  exact hd.1
theorem size_le {cs : List Ch} (ha : AllCh cs) : (str cs).size ≤ 4 * cs.length := by
  rw [size_str]
  induction cs with
  | nil => simp
  | cons c cs ih =>
    have h1 := (ch_pos (ha c List.mem_cons_self)).2
    have h2 := ih (fun c hc => ha c (List.mem_cons_of_mem _ hc))
    simp only [List.flatten_cons, List.length_append, List.length_cons]
    omega
theorem length_le {cs : List Ch} (ha : AllCh cs) : cs.length ≤ (str cs).size := by
  rw [size_str]
  induction cs with
  | nil => simp
  | cons c cs ih =>
    have h1 := (ch_pos (ha c List.mem_cons_self)).1
    have h2 := ih (fun c hc => ha c (List.mem_cons_of_mem _ hc))
    simp only [List.flatten_cons, List.length_append, List.length_cons]
    omega
theorem str_append (a b : List Ch) : str (a ++ b) = str a ++ str b := by
  apply ByteArray.ext
  simp [str]
theorem toList_str (cs : List Ch) : (str cs).data.toList = cs.flatten := by simp [str]
theorem ext_str {s : ByteArray} {cs : List Ch} (h : s.data.toList = cs.flatten) : s = str cs := by
  apply ByteArray.ext
  apply Array.toList_inj.1
  rw [h, toList_str]
theorem extract_take (cs : List Ch) (k : Nat) : (str cs).extract 0 (pos cs k) = str (cs.take k) := by
  apply ext_str
  rw [ByteArray.data_extract, Array.toList_extract, toList_str]
  have : cs.flatten = (cs.take k).flatten ++ (cs.drop k).flatten := by rw [← List.flatten_append, List.take_append_drop]
  rw [this]
  simp [pos]
theorem extract_drop (cs : List Ch) (k n : Nat) (hn : n = (str cs).size) : (str cs).extract (pos cs k) n = str (cs.drop k) := by
  subst hn
  apply ext_str
  rw [ByteArray.data_extract, Array.toList_extract, toList_str, size_str]
  have : cs.flatten = (cs.take k).flatten ++ (cs.drop k).flatten := by rw [← List.flatten_append, List.take_append_drop]
  rw [this]
  have e : List.drop (pos cs k) ((cs.take k).flatten ++ (cs.drop k).flatten) = (cs.drop k).flatten := List.drop_left' rfl
  simp only [List.extract_eq_take_drop, e]
  refine List.take_of_length_le ?_
  simp only [List.length_append]
  unfold pos
  omega
theorem allCh_take {cs : List Ch} (h : AllCh cs) (k : Nat) : AllCh (cs.take k) := fun c hc => h c (List.mem_of_mem_take hc)
theorem allCh_drop {cs : List Ch} (h : AllCh cs) (k : Nat) : AllCh (cs.drop k) := fun c hc => h c (List.mem_of_mem_drop hc)
theorem allCh_append {a b : List Ch} (h : AllCh a) (k : AllCh b) : AllCh (a ++ b) := fun c hc => (List.mem_append.1 hc).elim (h c) (k c)

end Go.Proofs.YtepgfnoafhlokaaDoor.Txt
