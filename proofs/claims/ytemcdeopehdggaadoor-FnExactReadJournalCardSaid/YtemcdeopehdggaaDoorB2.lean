/- Numbers of steps: the program's function and the reference's. -/
import Derived.Test.YtemcdeopehdggaaDoorB1
import Derived.Test.YtemcdeopehdggaaDoorD1
import Derived.Deep.RegionLaw
namespace Go.Proofs.YtemcdeopehdggaaDoor
open Go.RowKit

noncomputable def pairS (z : C) (step : Int) : List Int := [stp ((tho z).getD (0, 0)).1 step, stp ((tho z).getD (0, 0)).2 step]
noncomputable def stepsL (xs : List C) (step : Int) : List Int := xs.flatMap fun z => pairS z step
noncomputable def stepsOk (xs : List C) (step : Int) : Bool := sigB xs && inB step 1 10000 && xs.all fun z => (tho z).isSome
noncomputable def stepsOf (xs : List C) (step : Int) : Option (List Int) := if stepsOk xs step then some (stepsL xs step) else none
theorem stepsOf_no {xs : List C} {step : Int} (h : stepsOk xs step = false) : stepsOf xs step = none := by unfold stepsOf; rw [h]; rfl
theorem stepsOf_yes {xs : List C} {step : Int} (h : stepsOk xs step = true) : stepsOf xs step = some (stepsL xs step) := by unfold stepsOf; rw [h]; rfl
theorem stepsL_len (xs : List C) (step : Int) : (stepsL xs step).length = 2 * xs.length := by
  induction xs with
  | nil => rfl
  | cons z xs ih => unfold stepsL at ih ⊢; rw [List.flatMap_cons, List.length_append, ih]; simp [pairS]; omega
theorem stepsL_take {xs : List C} {k : Nat} (hk : k < xs.length) (step : Int) : stepsL (xs.take (k + 1)) step = stepsL (xs.take k) step ++ pairS (nth xs k) step := by
  unfold stepsL
  rw [List.take_succ_eq_append_getElem hk, List.flatMap_append, nth_eq hk]
  simp
theorem tho_some {z : C} {a b : Int} (h : tho z = some (a, b)) : thou z.1 = some a ∧ thou z.2 = some b := by
  unfold tho at h
  cases h1 : thou z.1 with
  | none => rw [h1] at h; simp at h
  | some x =>
    cases h2 : thou z.2 with
    | none => rw [h1, h2] at h; simp at h
    | some y => rw [h1, h2] at h; simp at h; rw [h.1, h.2]; exact ⟨rfl, rfl⟩
theorem tho_bd {z : C} {a b : Int} (h : tho z = some (a, b)) : -9999999 ≤ a ∧ a ≤ 9999999 ∧ -9999999 ≤ b ∧ b ≤ 9999999 := by
  obtain ⟨h1, h2⟩ := tho_some h
  obtain ⟨_, a1, a2, _⟩ := thou_is h1
  obtain ⟨_, b1, b2, _⟩ := thou_is h2
  exact ⟨a1, a2, b1, b2⟩
theorem pairS_eq {z : C} {a b : Int} (h : tho z = some (a, b)) (step : Int) : pairS z step = [stp a step, stp b step] := by unfold pairS; rw [h]; rfl
theorem all_c_take {xs : List C} {k : Nat} {p : C → Bool} (hk : k < xs.length) (h : p (nth xs k) = false) : xs.all p = false := all_false_of hk h

/-- A new slice of whole numbers, and whether there is one. -/
def RetI (w : World) (o : Option (List Int)) (e : Ending) (w' : World) : Prop :=
  ∃ A m c, e = .returned (.tuple #[.slice A m c, .bool o.isSome]) ∧ Ow w' w.heap.size 3 (.slice A m c) m ((o.getD []).map iv) ∧ Below w.heap.size w w'
theorem RetI.nil_ {w w' : World} (h : Below w.heap.size w w') : RetI w none (.returned (.tuple #[.slice none 0 0, .bool false])) w' := ⟨_, _, _, rfl, Ow.nil_ _ _ _, h⟩

end Go.Proofs.YtemcdeopehdggaaDoor
