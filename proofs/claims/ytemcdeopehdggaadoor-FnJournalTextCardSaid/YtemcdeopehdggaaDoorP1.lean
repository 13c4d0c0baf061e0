/- Steps there and back: plain facts. -/
import Derived.Test.YtemcdeopehdggaaDoorB4
import Derived.Test.YtemcdeopehdggaaDoorA5
namespace Go.Proofs.YtemcdeopehdggaaDoor
open Go.RowKit

theorem fromSteps_fin' (l : List Int) (step : Int) : ((fromSteps l step).getD []).all finB = true := by
  unfold fromSteps
  split
  · simp only [Option.getD_some]
    refine List.all_eq_true.2 fun z hz => ?_
    unfold fromSt at hz
    obtain ⟨i, _, rfl⟩ := List.mem_map.1 hz
    exact milli_fin _ _
  · rfl
theorem fromSteps_short' (l : List Int) (step : Int) : ((fromSteps l step).getD []).length ≤ 16 := by
  unfold fromSteps
  split
  · rename_i h
    simp only [Option.getD_some, fromSt_len]
    unfold stOk at h
    simp at h
    omega
  · simp
theorem stp_mul {x step : Int} (h1 : 1 ≤ step) : stp (x * step) step = x := by
  have h0 : step / 2 / step = 0 := Int.ediv_eq_zero_of_lt (by omega) (by omega)
  unfold stp
  split
  · rw [show -(x * step) + step / 2 = step / 2 + (-x) * step by rw [Int.neg_mul]; omega, Int.add_mul_ediv_right _ _ (by omega), h0]; omega
  · rw [show x * step + step / 2 = step / 2 + x * step by omega, Int.add_mul_ediv_right _ _ (by omega), h0]; omega
theorem tho_milli {a b : Int} (a1 : -9999999 ≤ a) (a2 : a ≤ 9999999) (b1 : -9999999 ≤ b) (b2 : b ≤ 9999999) : tho (milli a b) = some (a, b) := by
  have e : milli a b = (mp a, mp b) := by unfold milli; rw [show milB a = true from inB_true a1 a2, show milB b = true from inB_true b1 b2]; rfl
  rw [e]
  exact tho_ab (thou_some (mp_thou a1 a2)) (thou_some (mp_thou b1 b2))
theorem pairs_take (l : List Int) : ∀ m, 2 * m ≤ l.length → ((List.range m).flatMap fun i => [inth l (2 * i), inth l (2 * i + 1)]) = l.take (2 * m)
  | 0, _ => rfl
  | m + 1, h => by
    rw [List.range_succ, List.flatMap_append, pairs_take l m (by omega)]
    rw [show 2 * (m + 1) = (2 * m + 1) + 1 by omega, List.take_succ_eq_append_getElem (by omega), List.take_succ_eq_append_getElem (by omega)]
    rw [← inth_eq (show 2 * m < l.length by omega), ← inth_eq (show 2 * m + 1 < l.length by omega)]
    simp
theorem flat_congr {α β : Type} (f g : α → List β) (l : List α) (h : ∀ a ∈ l, f a = g a) : l.flatMap f = l.flatMap g := by
  induction l with
  | nil => rfl
  | cons a l ih => rw [List.flatMap_cons, List.flatMap_cons, h a (by simp), ih fun b hb => h b (by simp [hb])]
theorem back_steps {l : List Int} {step : Int} (h : stOk l step = true) : stepsOf (fromSt l step) step = some l := by
  have h' := h
  unfold stOk at h
  simp only [Bool.and_eq_true, decide_eq_true_eq] at h
  obtain ⟨⟨⟨h1, h2⟩, h3⟩, _⟩ := h
  obtain ⟨s1, s2⟩ := inB_iff.1 h1
  have hz : ∀ i, i < l.length / 2 → tho (milli (inth l (2 * i) * step) (inth l (2 * i + 1) * step)) = some (inth l (2 * i) * step, inth l (2 * i + 1) * step) := fun i hi => by
    obtain ⟨a1, a2⟩ := step_bd h' (i := 2 * i) (by omega)
    obtain ⟨b1, b2⟩ := step_bd h' (i := 2 * i + 1) (by omega)
    exact tho_milli a1 a2 b1 b2
  rw [stepsOf_yes]
  · congr 1
    unfold stepsL fromSt
    rw [List.flatMap_map]
    rw [flat_congr _ (fun i => [inth l (2 * i), inth l (2 * i + 1)]) _ fun i hi => ?_, pairs_take l _ (by omega), List.take_of_length_le (by omega)]
    have hi := List.mem_range.1 hi
    show pairS _ _ = _
    rw [pairS_eq (hz i hi), stp_mul s1, stp_mul s1]
  · unfold stepsOk
    have hf : (fromSt l step).all finB = true := List.all_eq_true.2 fun z hz => by
      unfold fromSt at hz
      obtain ⟨i, _, rfl⟩ := List.mem_map.1 hz
      exact milli_fin _ _
    have ht : ((fromSt l step).all fun z => (tho z).isSome) = true := List.all_eq_true.2 fun z hz' => by
      unfold fromSt at hz'
      obtain ⟨i, hi, rfl⟩ := List.mem_map.1 hz'
      rw [hz i (List.mem_range.1 hi)]; rfl
    unfold sigB
    rw [hf, ht, h1, fromSt_len]
    simp; omega
theorem from_sig {l : List Int} {step : Int} (h : stOk l step = true) : sigB (fromSt l step) = true := by
  have := back_steps h
  by_cases hs : stepsOk (fromSt l step) step = true
  · unfold stepsOk at hs
    simp only [Bool.and_eq_true] at hs
    exact hs.1.1
  · rw [stepsOf_no (by simpa using hs)] at this; cases this
end Go.Proofs.YtemcdeopehdggaaDoor
