/- The plain law: operations as lists of parts (the last part first while they are made), their normal form, what they do to a text; a normal form is one, does the same, and is its own. No program occurs here. -/
import Derived.Test.YtepgfnoafhlokaaDoorChars
namespace Go.Proofs.YtepgfnoafhlokaaDoor.Txt

inductive Pt where
  | keep (n : Nat)
  | ins (cs : List Ch)
  | del (n : Nat)

/-- A part is added; what was made so far stands with its last part first. -/
def addR : List Pt → Pt → List Pt
  | .keep m :: r, .keep n => .keep (m + n) :: r
  | .del m :: r, .del n => .del (m + n) :: r
  | .del m :: .ins d :: r, .ins c => .del m :: .ins (d ++ c) :: r
  | .del m :: r, .ins c => .del m :: .ins c :: r
  | .ins d :: r, .ins c => .ins (d ++ c) :: r
  | acc, p => p :: acc
def endR : List Pt → List Pt
  | .keep _ :: r => r
  | acc => acc
def addAll (l : List Pt) : List Pt := l.foldl addR []
def norm (l : List Pt) : List Pt := (endR (addAll l)).reverse

def Sound : Pt → Prop
  | .keep n => 0 < n
  | .ins c => c ≠ [] ∧ AllCh c
  | .del n => 0 < n
def AllSound (l : List Pt) : Prop := ∀ p, p ∈ l → Sound p
def weight : Pt → Nat
  | .keep n => n
  | .ins c => c.length
  | .del n => n
def use : Pt → Nat
  | .keep n => n
  | .ins _ => 0
  | .del n => n
def total (l : List Pt) : Nat := (l.map weight).sum
def used (l : List Pt) : Nat := (l.map use).sum

/-- May the first stand right behind the second? -/
def behind : Pt → Pt → Bool
  | .keep _, .keep _ => false
  | .ins _, .ins _ => false
  | .del _, .del _ => false
  | .ins _, .del _ => false
  | _, _ => true
/-- In form, the last part first. -/
def Form : List Pt → Prop
  | [] => True
  | [_] => True
  | p :: q :: r => behind p q = true ∧ Form (q :: r)

theorem form_tail {p : Pt} {r : List Pt} (h : Form (p :: r)) : Form r := by
  cases r with
  | nil => trivial
  | cons q r => exact h.2

theorem form_cons {p : Pt} {r : List Pt} (h : Form r) (hb : ∀ q, r.head? = some q → behind p q = true) : Form (p :: r) := by
  cases r with
  | nil => trivial
  | cons q r => exact ⟨hb q rfl, h⟩

theorem form_head {p q : Pt} {r : List Pt} (h : Form (p :: r)) (hb : ∀ x, behind p x = true → behind q x = true) : Form (q :: r) := by
  cases r with
  | nil => trivial
  | cons x r => exact ⟨hb x h.1, h.2⟩

theorem form_add : ∀ (acc : List Pt) (p : Pt), Form acc → Form (addR acc p)
  | [], p, _ => by cases p <;> trivial
  | .keep m :: r, .keep n, h => form_head h (fun x hx => by cases x <;> simp_all [behind])
  | .keep m :: r, .ins c, h => ⟨rfl, h⟩
  | .keep m :: r, .del n, h => ⟨rfl, h⟩
  | .ins d :: r, .keep n, h => ⟨rfl, h⟩
  | .ins d :: r, .ins c, h => form_head h (fun x hx => by cases x <;> simp_all [behind])
  | .ins d :: r, .del n, h => ⟨rfl, h⟩
  | .del m :: r, .keep n, h => ⟨rfl, h⟩
  | .del m :: r, .del n, h => form_head h (fun x hx => by cases x <;> simp_all [behind])
  | .del m :: [], .ins c, h => ⟨rfl, trivial⟩
  | .del m :: .ins d :: r, .ins c, h => ⟨rfl, form_head h.2 (fun x hx => by cases x <;> simp_all [behind])⟩
  | .del m :: .keep n :: r, .ins c, h => ⟨rfl, rfl, h.2⟩
  | .del m :: .del n :: r, .ins c, h => by have := h.1; simp [behind] at this

theorem sound_add (acc : List Pt) (p : Pt) (ha : AllSound acc) (hp : Sound p) : AllSound (addR acc p) := by
  have tl : ∀ {x : Pt} {r : List Pt}, AllSound (x :: r) → Sound x ∧ AllSound r := fun h => ⟨h _ List.mem_cons_self, fun q hq => h q (List.mem_cons_of_mem _ hq)⟩
  have mk : ∀ {x : Pt} {r : List Pt}, Sound x → AllSound r → AllSound (x :: r) := fun h1 h2 q hq => (List.mem_cons.1 hq).elim (fun e => e ▸ h1) (h2 q)
  unfold addR
  split
  · have h := tl ha
    refine mk ?_ h.2
    have h1 := h.1
    simp only [Sound] at h1 hp ⊢
    omega
  · have h := tl ha
    refine mk ?_ h.2
    have h1 := h.1
    simp only [Sound] at h1 hp ⊢
    omega
  · have h := tl ha
    have h2 := tl h.2
    refine mk h.1 (mk ?_ h2.2)
    have h1 := h2.1
    simp only [Sound] at h1 hp ⊢
    exact ⟨by simp [h1.1], allCh_append h1.2 hp.2⟩
  · have h := tl ha
    exact mk h.1 (mk hp h.2)
  · have h := tl ha
    refine mk ?_ h.2
    have h1 := h.1
    simp only [Sound] at h1 hp ⊢
    exact ⟨by simp [h1.1], allCh_append h1.2 hp.2⟩
  · exact mk hp ha

theorem total_add (acc : List Pt) (p : Pt) : total (addR acc p) = total acc + weight p := by
  unfold addR
  split <;> simp [total, weight] <;> omega
theorem used_add (acc : List Pt) (p : Pt) : used (addR acc p) = used acc + use p := by
  unfold addR
  split <;> simp [used, use] <;> omega
theorem length_add (acc : List Pt) (p : Pt) : (addR acc p).length ≤ acc.length + 1 := by
  unfold addR
  split <;> simp

theorem fold_add (l : List Pt) (acc : List Pt) (hf : Form acc) (hs : AllSound acc) (hl : AllSound l) :
    Form (l.foldl addR acc) ∧ AllSound (l.foldl addR acc) ∧ total (l.foldl addR acc) = total acc + total l ∧ used (l.foldl addR acc) = used acc + used l ∧ (l.foldl addR acc).length ≤ acc.length + l.length := by
  induction l generalizing acc with
  | nil => exact ⟨hf, hs, by simp [total], by simp [used], by simp⟩
  | cons p r ih =>
    have hp := hl p List.mem_cons_self
    obtain ⟨h1, h2, h3, h4, h5⟩ := ih (addR acc p) (form_add _ _ hf) (sound_add _ _ hs hp) (fun q hq => hl q (List.mem_cons_of_mem _ hq))
    refine ⟨h1, h2, ?_, ?_, ?_⟩
    · rw [List.foldl_cons, h3, total_add]; simp [total]; omega
    · rw [List.foldl_cons, h4, used_add]; simp [used]; omega
    · rw [List.foldl_cons]
      have := length_add acc p
      simp only [List.length_cons]
      omega

/-- No keep at the end (the last part first). -/
def Ends : List Pt → Prop
  | .keep _ :: _ => False
  | _ => True
theorem ends_end (acc : List Pt) (h : Form acc) : Ends (endR acc) ∧ Form (endR acc) := by
  match acc, h with
  | [], _ => exact ⟨trivial, trivial⟩
  | .ins _ :: r, h => exact ⟨trivial, h⟩
  | .del _ :: r, h => exact ⟨trivial, h⟩
  | [.keep _], _ => exact ⟨trivial, trivial⟩
  | .keep _ :: .keep _ :: r, h => exact absurd h.1 (by simp [behind])
  | .keep _ :: .ins _ :: r, h => exact ⟨trivial, h.2⟩
  | .keep _ :: .del _ :: r, h => exact ⟨trivial, h.2⟩
theorem end_of_ends (acc : List Pt) (h : Ends acc) : endR acc = acc := by
  match acc, h with
  | [], _ => rfl
  | .ins _ :: r, _ => rfl
  | .del _ :: r, _ => rfl
theorem sound_end {acc : List Pt} (h : AllSound acc) : AllSound (endR acc) := by
  match acc, h with
  | [], h => exact h
  | .ins _ :: r, h => exact h
  | .del _ :: r, h => exact h
  | .keep _ :: r, h => exact fun q hq => h q (List.mem_cons_of_mem _ hq)
theorem used_end (acc : List Pt) : used (endR acc) ≤ used acc := by
  unfold endR
  split <;> simp [used]
theorem total_end (acc : List Pt) : total (endR acc) ≤ total acc := by
  unfold endR
  split <;> simp [total]
theorem length_end (acc : List Pt) : (endR acc).length ≤ acc.length := by
  unfold endR
  split <;> simp

/-- What is in form is made of its own parts. -/
theorem add_of_form {p : Pt} {r : List Pt} (h : Form (p :: r)) : addR r p = p :: r := by
  match p, r, h with
  | p, [], _ => cases p <;> rfl
  | .keep _, .keep _ :: r, h => exact absurd h.1 (by simp [behind])
  | .keep _, .ins _ :: r, _ => rfl
  | .keep _, .del _ :: r, _ => rfl
  | .ins _, .keep _ :: r, _ => rfl
  | .ins _, .ins _ :: r, h => exact absurd h.1 (by simp [behind])
  | .ins _, .del _ :: r, h => exact absurd h.1 (by simp [behind])
  | .del _, .keep _ :: r, _ => rfl
  | .del _, .ins _ :: r, _ => rfl
  | .del _, .del _ :: r, h => exact absurd h.1 (by simp [behind])
theorem addAll_form (acc : List Pt) (h : Form acc) : addAll acc.reverse = acc := by
  induction acc with
  | nil => rfl
  | cons p r ih =>
    have hr := ih (form_tail h)
    unfold addAll at hr ⊢
    rw [List.reverse_cons, List.foldl_append, hr]
    exact add_of_form h
theorem norm_norm (l : List Pt) (hl : AllSound l) : norm (norm l) = norm l := by
  have h := fold_add l [] trivial (fun _ h => by cases h) hl
  have he := ends_end (addAll l) h.1
  unfold norm
  rw [addAll_form _ he.2, end_of_ends _ he.1]

/-! What an operation does to a text. -/
def done : List Pt → List Ch → List Ch
  | [], t => t
  | .keep n :: r, t => t.take n ++ done r (t.drop n)
  | .ins c :: r, t => c ++ done r t
  | .del n :: r, t => done r (t.drop n)

/-- Two pieces of an operation do the same, whatever comes behind. -/
def Alike (a b : List Pt) : Prop := ∀ r t, done (a ++ r) t = done (b ++ r) t
theorem Alike.refl (a : List Pt) : Alike a a := fun _ _ => rfl
theorem Alike.trans {a b c : List Pt} (h : Alike a b) (k : Alike b c) : Alike a c := fun r t => (h r t).trans (k r t)
theorem Alike.front {a b : List Pt} (h : Alike a b) (x : List Pt) : Alike (x ++ a) (x ++ b) := by
  induction x with
  | nil => exact h
  | cons p x ih =>
    intro r t
    have e := fun t => ih r t
    simp only [List.append_assoc, List.cons_append] at e ⊢
    cases p <;> simp [done, e]
theorem Alike.back {a b : List Pt} (h : Alike a b) (x : List Pt) : Alike (a ++ x) (b ++ x) := fun r t => by
  rw [List.append_assoc, List.append_assoc]
  exact h _ _
theorem take_drop_take {α : Type} (t : List α) (m n : Nat) : t.take m ++ (t.drop m).take n = t.take (m + n) := by rw [List.take_add]
theorem alike_add (acc : List Pt) (p : Pt) : Alike (addR acc p).reverse (acc.reverse ++ [p]) := by
  unfold addR
  split
  · rename_i m r n
    simp only [List.reverse_cons, List.append_assoc]
    refine Alike.front ?_ _
    intro r t
    simp only [List.cons_append, List.nil_append, done, ← List.append_assoc, take_drop_take, List.drop_drop]
  · rename_i m r n
    simp only [List.reverse_cons, List.append_assoc]
    refine Alike.front ?_ _
    intro r t
    simp only [List.cons_append, List.nil_append, done, List.drop_drop]
  · simp only [List.reverse_cons, List.append_assoc]
    refine Alike.front ?_ _
    intro r t
    simp only [List.cons_append, List.nil_append, done, List.append_assoc]
  · simp only [List.reverse_cons, List.append_assoc]
    refine Alike.front ?_ _
    intro r t
    simp only [List.cons_append, List.nil_append, done]
  · simp only [List.reverse_cons, List.append_assoc]
    refine Alike.front ?_ _
    intro r t
    simp only [List.cons_append, List.nil_append, done, List.append_assoc]
  · rw [List.reverse_cons]
    exact Alike.refl _
theorem alike_fold (l acc : List Pt) : Alike (l.foldl addR acc).reverse (acc.reverse ++ l) := by
  induction l generalizing acc with
  | nil => rw [List.append_nil]; exact Alike.refl _
  | cons p r ih =>
    have h := (ih (addR acc p)).trans ((alike_add acc p).back r)
    rw [List.append_assoc] at h
    exact h
theorem done_norm (l : List Pt) (t : List Ch) : done (norm l) t = done l t := by
  have h := alike_fold l [] [] t
  simp only [List.append_nil, List.reverse_nil, List.nil_append] at h
  rw [← h]
  show done (endR (addAll l)).reverse t = done (addAll l).reverse t
  unfold endR
  split
  · rename_i m r e
    rw [e, List.reverse_cons]
    have h2 : ∀ (x : List Pt) (t : List Ch), done x t = done (x ++ [.keep m]) t := by
      intro x
      induction x with
      | nil => intro t; simp [done]
      | cons q x ih => intro t; cases q <;> simp [done, ← ih]
    exact h2 _ _
  · rfl

theorem norm_facts (l : List Pt) (hl : AllSound l) : AllSound (norm l) ∧ used (norm l) ≤ used l ∧ total (norm l) ≤ total l ∧ (norm l).length ≤ l.length ∧ Form (norm l).reverse ∧ Ends (norm l).reverse := by
  have h : Form (addAll l) ∧ AllSound (addAll l) ∧ total (addAll l) = total [] + total l ∧ used (addAll l) = used [] + used l ∧ (addAll l).length ≤ ([] : List Pt).length + l.length := fold_add l [] trivial (fun _ h => by cases h) hl
  have he := ends_end (addAll l) h.1
  have hs := sound_end h.2.1
  have hu := used_end (addAll l)
  have ht := total_end (addAll l)
  have hn := length_end (addAll l)
  have e1 : used (addAll l) = used l := by have := h.2.2.2.1; simpa [used] using this
  have e2 : total (addAll l) = total l := by have := h.2.2.1; simpa [total] using this
  have e3 := h.2.2.2.2
  unfold norm
  refine ⟨fun p hp => hs p (by simpa using hp), ?_, ?_, ?_, ?_, ?_⟩
  · have : used (endR (addAll l)).reverse = used (endR (addAll l)) := by simp [used, List.sum_reverse]
    omega
  · have : total (endR (addAll l)).reverse = total (endR (addAll l)) := by simp [total, List.sum_reverse]
    omega
  · rw [List.length_reverse]
    simp only [List.length_nil] at e3
    omega
  · rw [List.reverse_reverse]; exact he.2
  · rw [List.reverse_reverse]; exact he.1

end Go.Proofs.YtepgfnoafhlokaaDoor.Txt
