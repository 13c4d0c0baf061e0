/- Deeds as values; the word of a kind, the kind of a word, whether a deed is one. -/
import Derived.Test.YtemcdeopehdggaaDoorU2
namespace Go.Proofs.YtemcdeopehdggaaDoor
open Go.RowKit Go.Lib

/-- A deed as a value. -/
def dv (a : Dd) : Value := .agg #[.int .i64 a.kind, .int .i64 a.num, .string (bs a.text)]
/-- Whether a deed has a kind, and the zero value where nothing is named for it. -/
def okD (a : Dd) : Bool :=
  if a.kind = 0 then decide (a.num = 0) else if a.kind = 1 ∨ a.kind = 2 ∨ a.kind = 6 then decide (a.num = 0) && a.text.isEmpty
  else if 3 ≤ a.kind ∧ a.kind ≤ 5 then a.text.isEmpty else false
theorem kind_cases (k : Int) : k = 0 ∨ k = 1 ∨ k = 2 ∨ k = 3 ∨ k = 4 ∨ k = 5 ∨ k = 6 ∨ (((k == 0) = false ∧ (k == 1) = false ∧ (k == 2) = false ∧ (k == 3) = false ∧ (k == 4) = false ∧ (k == 5) = false ∧ (k == 6) = false) ∧ wordOf k = [] ∧ ¬ (0 ≤ k ∧ k ≤ 6)) := by
  by_cases h : 0 ≤ k ∧ k ≤ 6
  · omega
  · right; right; right; right; right; right; right
    refine ⟨⟨?_, ?_, ?_, ?_, ?_, ?_, ?_⟩, ?_, h⟩
    · rw [beq_eq_false_iff_ne]; omega
    · rw [beq_eq_false_iff_ne]; omega
    · rw [beq_eq_false_iff_ne]; omega
    · rw [beq_eq_false_iff_ne]; omega
    · rw [beq_eq_false_iff_ne]; omega
    · rw [beq_eq_false_iff_ne]; omega
    · rw [beq_eq_false_iff_ne]; omega
    · unfold wordOf
      rw [if_neg (by omega), if_neg (by omega), if_neg (by omega), if_neg (by omega), if_neg (by omega), if_neg (by omega), if_neg (by omega)]
theorem iWord (k : Int) (w : World) : Calls Tryd.prog 69 #[.int .i64 k] w fun e w' => e = .returned (.string (bs (wordOf k))) ∧ w' = w := by
  rcases kind_cases k with rfl | rfl | rfl | rfl | rfl | rfl | rfl | ⟨⟨h0, h1, h2, h3, h4, h5, h6⟩, hw, _⟩
  all_goals try (
    go_enter Tryd.func69, Tryd.ntmps69
    go_wp2_with fail
    go_ret
    exact ⟨rfl, rfl⟩)
  rw [hw]
  clear hw
  go_enter Tryd.func69, Tryd.ntmps69
  go_wp2_with fail
  go_ret
  exact ⟨rfl, rfl⟩
theorem bs_toL (t : Txt) : (bs t).toList = t := by rw [toList_data, bs_data]
theorem bs_nilB (t : Txt) : (bs t).toList.isEmpty = t.isEmpty := by rw [bs_toL]
set_option maxHeartbeats 1000000 in
theorem iDeedOk (a : Dd) (w : World) : Calls Tryd.prog 68 #[dv a] w fun e w' => e = .returned (.bool (okD a)) ∧ Below w.heap.size w w' := by
  obtain ⟨k, n, t⟩ := a
  unfold dv okD
  have hto := bs_nilB
  rcases kind_cases k with rfl | rfl | rfl | rfl | rfl | rfl | rfl | ⟨⟨h0, h1, h2, h3, h4, h5, h6⟩, _, h7⟩
  · go_enter Tryd.func68, Tryd.ntmps68
    go_wp2_with fail
    go_ret
    exact ⟨rfl, below_alloc _ _⟩
  all_goals try (
    by_cases hn : n = 0
    · subst hn
      go_enter Tryd.func68, Tryd.ntmps68
      go_wp2_with fail
      go_ret
      exact ⟨rfl, below_alloc _ _⟩
    · have hb : (n == 0) = false := (by rw [beq_eq_false_iff_ne]; exact hn)
      have hd : decide (n = 0) = false := (by simpa using hn)
      go_enter Tryd.func68, Tryd.ntmps68
      go_wp2_with fail
      go_ret
      exact ⟨ret_bool (by first | rfl | simp [hd]), below_alloc _ _⟩)
  simp only [show ¬ k = 0 by omega, show ¬ (k = 1 ∨ k = 2 ∨ k = 6) by omega, show ¬ (3 ≤ k ∧ k ≤ 5) by omega, if_false]
  clear h7
  go_enter Tryd.func68, Tryd.ntmps68
  go_wp2_with fail
  go_ret
  exact ⟨rfl, below_alloc _ _⟩
theorem kindOf_words : kindOf (wordOf 0) = 0 ∧ kindOf (wordOf 1) = 1 ∧ kindOf (wordOf 2) = 2 ∧ kindOf (wordOf 3) = 3 ∧ kindOf (wordOf 4) = 4 ∧ kindOf (wordOf 5) = 5 ∧ kindOf (wordOf 6) = 6 := by decide
/-- The first kinds' words are others. -/
def KNo (l : Txt) (k : Nat) : Prop := ∀ j : Nat, j < k → wordOf j ≠ l
theorem kindOf_at {l : Txt} {k : Nat} (h : KNo l k) (hk : k ≤ 6) (h2 : wordOf k = l) : kindOf l = k := by
  have := kindOf_words
  subst h2
  have h6 : k = 0 ∨ k = 1 ∨ k = 2 ∨ k = 3 ∨ k = 4 ∨ k = 5 ∨ k = 6 := by omega
  rcases h6 with rfl | rfl | rfl | rfl | rfl | rfl | rfl
  · exact this.1
  · exact this.2.1
  · exact this.2.2.1
  · exact this.2.2.2.1
  · exact this.2.2.2.2.1
  · exact this.2.2.2.2.2.1
  · exact this.2.2.2.2.2.2
theorem kindOf_none {l : Txt} (h : KNo l 7) : kindOf l = -1 := by
  unfold kindOf
  rw [if_neg (show wordOf 0 ≠ l from h 0 (by omega)), if_neg (show wordOf 1 ≠ l from h 1 (by omega)), if_neg (show wordOf 2 ≠ l from h 2 (by omega)), if_neg (show wordOf 3 ≠ l from h 3 (by omega)), if_neg (show wordOf 4 ≠ l from h 4 (by omega)), if_neg (show wordOf 5 ≠ l from h 5 (by omega)), if_neg (show wordOf 6 ≠ l from h 6 (by omega))]
theorem iKind (l : Txt) (w : World) : Calls Tryd.prog 73 #[.string (bs l)] w fun e w' => e = .returned (.int .i64 (kindOf l)) ∧ w' = w := by
  have hto := bs_toL
  go_enter Tryd.func73, Tryd.ntmps73
  go_wp2_with fail
  go_loop [3] (fun i => ∃ k : Nat, k ≤ 7 ∧ i = .int .i64 k ∧ KNo l k) (fun i => 7 - (intOf i).toNat)
  case atStart => exact ⟨0, by omega, rfl, fun j hj => by omega⟩
  case round =>
    obtain ⟨k, hk, rfl, hno⟩ := hrel
    have HN := Lib.hid hno
    clear hno
    by_cases hlt : k ≤ 6
    · go_wp2_with fail
      refine (iWord k w).mono ?_
      rintro e w' ⟨rfl, rfl⟩
      by_cases he : wordOf k = l
      · have HE := Lib.hid he
        have e2 : (wordOf k == l) = true := by rw [beq_iff_eq]; exact he
        clear he
        go_wp2_with fail
        go_ret
        exact ⟨ret_int (kindOf_at HN.out hlt HE.out).symm, rfl⟩
      · have HE : Hid (KNo l (k + 1)) := fun j hj => by
          by_cases h : j = k
          · subst h; exact he
          · exact HN.out j (by omega)
        have e2 : (wordOf k == l) = false := by rw [beq_eq_false_iff_ne]; exact he
        clear he
        go_wp2_with fail
        go_round
        case rel => exact ⟨k + 1, by omega, by go_num, HE.out⟩
        case measure => simp [intOf]; omega
    · obtain rfl : k = 7 := by omega
      go_wp2_with fail
      go_ret
      exact ⟨ret_int (kindOf_none HN.out).symm, rfl⟩
end Go.Proofs.YtemcdeopehdggaaDoor
