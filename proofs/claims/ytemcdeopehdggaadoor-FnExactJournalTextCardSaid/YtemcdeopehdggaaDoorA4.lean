/- Signals out of numbers of steps. -/
import Derived.Test.YtemcdeopehdggaaDoorA3
namespace Go.Proofs.YtemcdeopehdggaaDoor
open Go.RowKit

def stOk (l : List Int) (step : Int) : Bool := inB step 1 10000 && decide (l.length ≤ 32) && decide (l.length % 2 = 0) && l.all fun x => inB x (-(9999999 / step)) (9999999 / step)
def fromSt (l : List Int) (step : Int) : List C := (List.range (l.length / 2)).map fun i => milli (inth l (2 * i) * step) (inth l (2 * i + 1) * step)
def fromSteps (l : List Int) (step : Int) : Option (List C) := if stOk l step then some (fromSt l step) else none
theorem fromSt_len (l : List Int) (step : Int) : (fromSt l step).length = l.length / 2 := by simp [fromSt]
theorem fromSt_get {l : List Int} {step : Int} {i : Nat} (h : i < l.length / 2) : ((fromSt l step).map cv)[i]? = some (cv (milli (inth l (2 * i) * step) (inth l (2 * i + 1) * step))) := by
  simp [fromSt, h]
theorem most_bd {step : Int} (h1 : 1 ≤ step) : 0 ≤ 9999999 / step ∧ 9999999 / step ≤ 9999999 :=
  ⟨Int.ediv_nonneg (by omega) (by omega), Int.ediv_le_self _ (by omega)⟩
theorem step_bd {l : List Int} {step : Int} (h : stOk l step = true) {i : Nat} (hi : i < l.length) : -9999999 ≤ inth l i * step ∧ inth l i * step ≤ 9999999 := by
  unfold stOk at h
  simp only [Bool.and_eq_true] at h
  obtain ⟨⟨⟨h1, _⟩, _⟩, h2⟩ := h
  obtain ⟨h3, h4⟩ := inB_iff.1 h1
  have h5 := List.all_eq_true.1 h2 _ (List.getElem_mem hi)
  rw [← inth_eq hi] at h5
  obtain ⟨h6, h7⟩ := inB_iff.1 h5
  generalize inth l i = x at *
  have h8 : 9999999 / step * step ≤ 9999999 := Int.ediv_mul_le _ (by omega)
  have h9 := Int.mul_le_mul_of_nonneg_right h7 (show 0 ≤ step by omega)
  have h10 := Int.mul_le_mul_of_nonneg_right h6 (show 0 ≤ step by omega)
  rw [Int.neg_mul] at h10
  omega
theorem fromSteps_no {l : List Int} {step : Int} (h : stOk l step = false) : fromSteps l step = none := by unfold fromSteps; rw [h]; rfl
theorem fromSteps_yes {l : List Int} {step : Int} (h : stOk l step = true) : fromSteps l step = some (fromSt l step) := by unfold fromSteps; rw [h]; rfl

end Go.Proofs.YtemcdeopehdggaaDoor
