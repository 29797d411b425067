/- The walks of quillkeep.works and quillkeep.Formed: each answers true. Condition: the two slices read as lists of int's. -/
import Derived.Test.YtepgfnoafhlokaaDoorMakes
namespace Go.Proofs.YtepgfnoafhlokaaDoor
open Go.RowKit Txt

/-! ### works -/
def hello : List Ch := [[104], [195, 169], [108], [108], [111]]
def helloOp : List Pt := [.keep 1, .del 1, .ins [[101]]]
theorem hello_ch : AllCh hello := by
  intro c hc
  simp only [hello, List.mem_cons, List.not_mem_nil, or_false] at hc
  rcases hc with rfl | rfl | rfl | rfl | rfl <;> simp [alphabet]
theorem hello_fits : Fits helloOp hello.length := by
  refine ⟨⟨?_, ?_⟩, by decide, by decide, by decide⟩
  · intro p hp
    simp only [helloOp, List.mem_cons, List.not_mem_nil, or_false] at hp
    rcases hp with rfl | rfl | rfl
    · exact Nat.one_pos
    · exact Nat.one_pos
    · exact ⟨by simp, allCh_one (by simp [alphabet])⟩
  · intro p hp
    simp only [helloOp, List.mem_cons, List.not_mem_nil, or_false] at hp
    rcases hp with rfl | rfl | rfl <;> decide
theorem hello_reads (w : World) : Reads (w.alloc (.cells (cells37 helloOp).toArray 37)) (.slice (some ⟨w.heap.size, 0, none⟩) 3 3) helloOp := by
  have h := World.ownsRow_lit (base := 0) (e := 37) (size := 3) w (cells37 helloOp).toArray 3 (Nat.zero_le _) (by unfold maxLen; omega) (by simp [cells37_length, helloOp])
  have e : (cells37 helloOp).toArray.toList = cells37 helloOp := List.toList_toArray
  rw [e] at h
  exact h

set_option maxHeartbeats 1000000 in
set_option maxRecDepth 100000 in
theorem works_any (w : World) : Calls Tryd.prog 4 #[] w fun e w' => e = .returned (.bool true) ∧ Below w.heap.size w w' := by
  have hc : ∀ W : World, Calls Tryd.prog 10 #[.string ⟨#[104, 195, 169, 108, 108, 111]⟩, .slice (some ⟨W.heap.size, 0, none⟩) 3 3] (W.alloc (.cells #[.int .i64 1, .int .i64 1, .string ⟨#[]⟩, .int .i64 3, .int .i64 1, .string ⟨#[]⟩, .int .i64 2, .int .i64 0, .string ⟨#[101]⟩] 37))
      fun e w' => e = .returned (.tuple #[.string ⟨#[104, 101, 108, 108, 111]⟩, .int .i64 0]) ∧ Below (W.alloc (.cells (cells37 helloOp).toArray 37)).heap.size (W.alloc (.cells (cells37 helloOp).toArray 37)) w' := fun W =>
    apply_any hello hello_ch (by decide) _ helloOp hello_fits _ (hello_reads W)
  go_enter Tryd.func4, Tryd.ntmps4
  go_wp2_with (go_at_call 10; refine (hc _).mono ?_)
  rintro e w1 ⟨rfl, hb⟩
  have HB := Lib.hid (((Below.refl w.heap.size w).alloc (Nat.le_refl _) (.cells (cells37 helloOp).toArray 37)).trans (hb.mono (by simp)))
  clear hb hc
  go_wp2
  go_ret
  exact ⟨rfl, HB.out⟩


/-- A slice of n numbers came in: none, or raw numbers. -/
def Given (w : World) (A : Option Addr) (n c : Nat) : Prop := n = 0 ∨ ∃ b off l, A = some ⟨b, off, none⟩ ∧ Raw w b off n c l
theorem Given.onward {w w' : World} {A : Option Addr} {n c : Nat} (h : Given w A n c) (hb : Below w.heap.size w w') : Given w' A n c := by
  rcases h with h | ⟨b, off, l, e, h⟩
  · exact .inl h
  · exact .inr ⟨b, off, l, e, h.onward hb⟩
/-- Making the text. -/
theorem text_any (w : World) (A : Option Addr) (n c : Nat) (h : Given w A n c) :
    Calls Tryd.prog 5 #[.slice A n c, .int .i64 30] w fun e w' => ∃ cs, e = .returned (.string (str cs)) ∧ (AllCh cs ∧ cs.length ≤ 30) ∧ Below w.heap.size w w' := by
  rcases h with rfl | ⟨b, off, l, rfl, h⟩
  · refine (text_none w A c).mono ?_
    rintro e w' ⟨he, hb⟩
    exact ⟨[], he, ⟨fun _ h => (List.not_mem_nil h).elim, by simp⟩, hb⟩
  · exact text_row w b off n c l h
/-- Making the operation. -/
theorem made_any (w : World) (A : Option Addr) (n c n0 : Nat) (h : Given w A n c) (hn : n0 ≤ 30) :
    Calls Tryd.prog 6 #[.slice A n c, .int .i64 n0] w fun e w' => ∃ v ps, e = .returned v ∧ Fits ps n0 ∧ Reads w' v ps ∧ Below w.heap.size w w' := by
  rcases h with rfl | ⟨b, off, l, rfl, h⟩
  · refine (made_none w A c n0).mono ?_
    rintro e w' ⟨he, hb⟩
    exact ⟨_, [], he, Mk.fits (i := 0) (n := n0) ⟨fun _ h => (List.not_mem_nil h).elim, by simp [used], Nat.le_refl _, by simp [Txt.total], fun _ h => (List.not_mem_nil h).elim⟩ (by omega) hn, (Own37.none w').reads, hb⟩
  · exact made_row w b off n c n0 l h hn

theorem fits_norm {ps : List Pt} {n : Nat} (h : Fits ps n) : Fits (norm ps) n := by
  have hn := norm_facts ps h.good.1
  have h1 := h.used
  have h2 := h.short
  have h3 := h.total
  exact ⟨norm_good h.good h.total, by omega, by omega, by omega⟩
theorem below_on {w w1 w2 : World} (h : Below w.heap.size w w1) (k : Below w1.heap.size w1 w2) : Below w.heap.size w w2 := h.trans (k.mono h.size)

set_option maxHeartbeats 4000000 in
set_option maxRecDepth 1000000 in
theorem formed_any (w : World) (A B : Option Addr) (la lb ca cb : Nat) (ha : Given w A la ca) (hb : Given w B lb cb) :
    Calls Tryd.prog 3 #[.slice A la ca, .slice B lb cb] w fun e w' => e = .returned (.bool true) ∧ Below w.heap.size w w' := by
  have HA := Lib.hid ha
  have HB := Lib.hid hb
  clear ha hb
  go_enter Tryd.func3, Tryd.ntmps3
  go_wp2_with (go_at_call 4; refine (works_any _).mono ?_)
  rintro e w1 ⟨rfl, hb1⟩
  have HB1 := Lib.hid hb1
  clear hb1
  have htext := text_any w1 B lb cb (HB.out.onward HB1.out)
  go_wp2_with (go_at_call 5; refine htext.mono ?_)
  rintro e w2 ⟨cs, rfl, hch, hb2⟩
  have HC := Lib.hid hch.1
  have HL := Lib.hid hch.2
  have HB2 := Lib.hid (below_on HB1.out hb2)
  have hlen := fun W => len_any cs hch.1 (by have := hch.2; omega) W
  clear hb2 HB1 htext hch
  obtain ⟨S, hS⟩ : ∃ S, S = str cs := ⟨_, rfl⟩
  obtain ⟨n, hn⟩ : ∃ n, n = cs.length := ⟨_, rfl⟩
  rw [← hS] at hlen ⊢
  rw [← hn] at hlen
  have HS := Lib.hid hS
  have HN := Lib.hid hn
  clear hS hn
  go_wp2_with (go_at_call 7; refine (hlen _).mono ?_)
  rintro e w3 ⟨rfl, hb3⟩
  have HB3 := Lib.hid (below_on HB2.out hb3)
  clear hb3 HB2
  have hmade := made_any w3 A la ca n (HA.out.onward HB3.out) (by rw [HN.out]; exact HL.out)
  go_wp2_with (go_at_call 6; refine hmade.mono ?_)
  rintro e w4 ⟨v, ps, rfl, hfit, hR, hb4⟩
  rw [HN.out] at hfit
  have HF := Lib.hid hfit
  have HR4 := Lib.hid hR
  have HB4 := Lib.hid (below_on HB3.out hb4)
  clear hb4 HB3 hR hmade hfit
  go_wp2_with (go_at_call 7; refine (hlen _).mono ?_)
  rintro e w5 ⟨rfl, hb5⟩
  have HR5 := Lib.hid (HR4.out.below hb5)
  have HB5 := Lib.hid (below_on HB4.out hb5)
  clear hb5 HB4 HR4
  have hnorm := fun W (hr : Reads W v ps) => normal_any v ps cs.length (by have := HL.out; omega) HF.out W hr
  rw [← HN.out] at hnorm
  go_wp2_with (go_at_call 8; refine (hnorm _ HR5.out).mono ?_)
  rintro e w6 ⟨u, rfl, hR, hb6⟩
  have HU6 := Lib.hid hR
  have HR6 := Lib.hid (HR5.out.below hb6)
  have HB6 := Lib.hid (below_on HB5.out hb6)
  clear hb6 HB5 HR5 hR hnorm
  have hN := norm_facts ps HF.out.good.1
  have hform := fun W (hr : Reads W u (norm ps)) => normal_true W u (norm ps) hr hN.1 hN.2.2.2.2.1 hN.2.2.2.2.2 (by have := hN.2.2.2.1; have := HF.out.short; omega)
  clear hN
  go_wp2_with (go_at_call 9; refine (hform _ HU6.out).mono ?_)
  rintro e w7 ⟨rfl, hb7⟩
  have HU7 := Lib.hid (HU6.out.below hb7)
  have HR7 := Lib.hid (HR6.out.below hb7)
  have HB7 := Lib.hid (below_on HB6.out hb7)
  clear hb7 HB6 HR6 HU6 hform
  have happ := fun W (hr : Reads W v ps) => apply_any cs HC.out (by have := HL.out; omega) v ps HF.out W hr
  have happ2 := fun W (hr : Reads W u (norm ps)) => apply_any cs HC.out (by have := HL.out; omega) u (norm ps) (fits_norm HF.out) W hr
  rw [done_norm] at happ2
  obtain ⟨D, hD⟩ : ∃ D, D = str (done ps cs) := ⟨_, rfl⟩
  rw [← HS.out, ← hD] at happ happ2
  clear hD
  go_wp2_with (go_at_call 10; refine (happ _ HR7.out).mono ?_)
  rintro e w8 ⟨rfl, hb8⟩
  have HU8 := Lib.hid (HU7.out.below hb8)
  have HB8 := Lib.hid (below_on HB7.out hb8)
  clear hb8 HB7 HR7 HU7 happ
  go_wp2_with (go_at_call 10; refine (happ2 _ HU8.out).mono ?_)
  rintro e w9 ⟨rfl, hb9⟩
  have HU9 := Lib.hid (HU8.out.below hb9)
  have HB9 := Lib.hid (below_on HB8.out hb9)
  clear hb9 HB8 HU8 happ2
  go_wp2_with (go_at_call 7; refine (hlen _).mono ?_)
  rintro e w10 ⟨rfl, hb10⟩
  have HU10 := Lib.hid (HU9.out.below hb10)
  have HB10 := Lib.hid (below_on HB9.out hb10)
  clear hb10 HB9 HU9
  have hnorm2 := fun W (hr : Reads W u (norm ps)) => normal_any u (norm ps) cs.length (by have := HL.out; omega) (fits_norm HF.out) W hr
  rw [norm_norm ps HF.out.good.1, ← HN.out] at hnorm2
  go_wp2_with (go_at_call 8; refine (hnorm2 _ HU10.out).mono ?_)
  rintro e w11 ⟨x, rfl, hR, hb11⟩
  have HX := Lib.hid hR
  have HU11 := Lib.hid (HU10.out.below hb11)
  have HB11 := Lib.hid (below_on HB10.out hb11)
  clear hb11 HB10 HU10 hR hnorm2
  have hsame := same_true w11 u x (norm ps) HU11.out HX.out (by have := (fits_norm HF.out).short; omega)
  go_wp2_with (go_at_call 11; refine hsame.mono ?_)
  rintro e w12 ⟨rfl, hb12⟩
  have HB12 := Lib.hid (below_on HB11.out hb12)
  clear hb12 HB11 HU11 HX hsame
  go_wp2
  go_ret
  exact ⟨by first | rfl | simp, HB12.out⟩

end Go.Proofs.YtepgfnoafhlokaaDoor
