/- Texts on the way to a law (J1, J2), each with its own remark. -/
import Derived.Test.YtnomlkkhkacajaaPA28
import Derived.Test.YtnomlkkhkacajaaPA29
namespace Go.Proofs.Ytnomlkkhkacajaa
open Go.RowKit Go.Lib

/-- A deed as a value. -/
def dv (a : Dd) : Value := .agg #[.int .i64 a.kind, .int .i64 a.num, .string (bs a.text)]
/-- Whether a deed has a kind, and the zero value where nothing is named for it. -/
def okD (a : Dd) : Bool :=
  if a.kind = 0 then decide (a.num = 0) else if a.kind = 1 ∨ a.kind = 2 ∨ a.kind = 6 then decide (a.num = 0) && a.text.isEmpty
  else if 3 ≤ a.kind ∧ a.kind ≤ 5 then a.text.isEmpty else false
theorem kind_cases (k : Int) : k = 0 ∨ k = 1 ∨ k = 2 ∨ k = 3 ∨ k = 4 ∨ k = 5 ∨ k = 6 ∨ (((k == 0) = false ∧ (k == 1) = false ∧ (k == 2) = false ∧ (k == 3) = false ∧ (k == 4) = false ∧ (k == 5) = false ∧ (k == 6) = false) ∧ wordOf k = [] ∧ ¬ (0 ≤ k ∧ k ≤ 6)) := by
  by_cases h : 0 ≤ k ∧ k ≤ 6
  · omega
  · right; right; right; right; right; right; right
    refine ⟨⟨?_, ?_, ?_, ?_, ?_, ?_, ?_⟩, ?_, h⟩
    · rw [beq_eq_false_iff_ne]; omega
    · rw [beq_eq_false_iff_ne]; omega
    · rw [beq_eq_false_iff_ne]; omega
    · rw [beq_eq_false_iff_ne]; omega
    · rw [beq_eq_false_iff_ne]; omega
    · rw [beq_eq_false_iff_ne]; omega
    · rw [beq_eq_false_iff_ne]; omega
    · unfold wordOf
      rw [if_neg (by omega), if_neg (by omega), if_neg (by omega), if_neg (by omega), if_neg (by omega), if_neg (by omega), if_neg (by omega)]
theorem bs_toL (t : Txt) : (bs t).toList = t := by rw [toList_data, bs_data]
theorem bs_nilB (t : Txt) : (bs t).toList.isEmpty = t.isEmpty := by rw [bs_toL]
theorem kindOf_words : kindOf (wordOf 0) = 0 ∧ kindOf (wordOf 1) = 1 ∧ kindOf (wordOf 2) = 2 ∧ kindOf (wordOf 3) = 3 ∧ kindOf (wordOf 4) = 4 ∧ kindOf (wordOf 5) = 5 ∧ kindOf (wordOf 6) = 6 := by decide
/-- The first kinds' words are others. -/
def KNo (l : Txt) (k : Nat) : Prop := ∀ j : Nat, j < k → wordOf j ≠ l
theorem kindOf_at {l : Txt} {k : Nat} (h : KNo l k) (hk : k ≤ 6) (h2 : wordOf k = l) : kindOf l = k := by
  have := kindOf_words
  subst h2
  have h6 : k = 0 ∨ k = 1 ∨ k = 2 ∨ k = 3 ∨ k = 4 ∨ k = 5 ∨ k = 6 := by omega
  rcases h6 with rfl | rfl | rfl | rfl | rfl | rfl | rfl
  · exact this.1
  · exact this.2.1
  · exact this.2.2.1
  · exact this.2.2.2.1
  · exact this.2.2.2.2.1
  · exact this.2.2.2.2.2.1
  · exact this.2.2.2.2.2.2
theorem kindOf_none {l : Txt} (h : KNo l 7) : kindOf l = -1 := by
  unfold kindOf
  rw [if_neg (show wordOf 0 ≠ l from h 0 (by omega)), if_neg (show wordOf 1 ≠ l from h 1 (by omega)), if_neg (show wordOf 2 ≠ l from h 2 (by omega)), if_neg (show wordOf 3 ≠ l from h 3 (by omega)), if_neg (show wordOf 4 ≠ l from h 4 (by omega)), if_neg (show wordOf 5 ≠ l from h 5 (by omega)), if_neg (show wordOf 6 ≠ l from h 6 (by omega))]
end Go.Proofs.Ytnomlkkhkacajaa
namespace Go.Proofs.Ytnomlkkhkacajaa
open Go.RowKit
open Go.Lib hiding intOf

theorem box_cell {w w1 : World} (vs : Array Value) (E : TypeId) (hb : Below (w.alloc (.cells vs E)).heap.size (w.alloc (.cells vs E)) w1) {j : Nat} {v : Value} (hj : vs[j]? = some v) :
    w1.cell? ⟨w.heap.size, j, none⟩ = some v := by
  refine (hb.cell (p := ⟨w.heap.size, j, none⟩) (by show w.heap.size < (w.heap.push _).size; rw [Array.size_push]; exact Nat.lt_succ_self _)).trans ?_
  rw [World.cell?_alloc_at _ _ _ _ rfl]
  exact hj
theorem below_box {w w1 : World} (vs : Array Value) (E : TypeId) (hb : Below (w.alloc (.cells vs E)).heap.size (w.alloc (.cells vs E)) w1) : Below w.heap.size w w1 :=
  (below_alloc w _).trans (hb.mono (by show w.heap.size ≤ (w.heap.push _).size; rw [Array.size_push]; omega))
theorem dText_not {a : Dd} (h : okD a = false) : dText a = [] := by
  unfold okD at h
  unfold dText
  by_cases h0 : a.kind = 0
  · rw [if_pos h0] at h ⊢
    rw [if_neg]
    rintro ⟨h1, _⟩
    rw [decide_eq_false_iff_not] at h
    exact h h1
  rw [if_neg h0] at h ⊢
  by_cases h1 : a.kind = 1 ∨ a.kind = 2 ∨ a.kind = 6
  · rw [if_pos h1] at h
    rw [if_neg (by omega), if_pos h1, if_neg]
    rintro ⟨h2, h3⟩
    rw [h2, h3] at h
    cases h
  rw [if_neg h1] at h
  by_cases h2 : 3 ≤ a.kind ∧ a.kind ≤ 5
  · rw [if_pos h2] at h ⊢
    rw [if_neg]
    rintro ⟨h3, _⟩
    rw [h3] at h
    cases h
  rw [if_neg h2, if_neg h1]
theorem dText_write {t : Txt} : dText ⟨0, 0, t⟩ = if plainT t = true then wordOf 0 ++ 32 :: t else [] := by
  unfold dText
  simp
theorem dText_move {k n : Int} (h : 3 ≤ k ∧ k ≤ 5) : dText ⟨k, n, []⟩ = if -99 ≤ n ∧ n ≤ 99 then wordOf k ++ 32 :: itoa n else [] := by
  unfold dText
  simp only [show ¬ k = 0 by omega, if_false, h, and_self, if_true, true_and]
theorem dText_plain_kind {k : Int} (h : k = 1 ∨ k = 2 ∨ k = 6) : dText ⟨k, 0, []⟩ = wordOf k := by
  unfold dText
  simp only [show ¬ k = 0 by omega, if_false, show ¬ (3 ≤ k ∧ k ≤ 5) by omega, h, and_self, if_true]
theorem okD_true {a : Dd} (h : okD a = true) : (a.kind = 0 ∧ a.num = 0) ∨ ((a.kind = 1 ∨ a.kind = 2 ∨ a.kind = 6) ∧ a.num = 0 ∧ a.text = []) ∨ ((a.kind = 3 ∨ a.kind = 4 ∨ a.kind = 5) ∧ a.text = []) := by
  unfold okD at h
  split at h
  · rename_i h0; exact .inl ⟨h0, of_decide_eq_true h⟩
  · split at h
    · rename_i h1
      rw [Bool.and_eq_true] at h
      exact .inr (.inl ⟨h1, of_decide_eq_true h.1, List.isEmpty_iff.1 h.2⟩)
    · split at h
      · rename_i h2
        exact .inr (.inr ⟨by omega, List.isEmpty_iff.1 h⟩)
      · cases h
theorem sp_app (a b : Txt) : (bs a ++ { data := #[32] }) ++ bs b = bs (a ++ 32 :: b) := by
  show (bs a ++ bs [32]) ++ bs b = _
  rw [bs_append, bs_append]; simp
theorem sp_app1 (a : Txt) : bs a ++ { data := #[32] } = bs (a ++ [32]) := by
  show bs a ++ bs [32] = _
  rw [bs_append]
theorem wordOf_len (k : Int) : (wordOf k).length ≤ 6 := by
  unfold wordOf
  repeat' split
  all_goals decide

end Go.Proofs.Ytnomlkkhkacajaa
