/- Signals out of numbers of steps: the reference. -/
import Derived.Test.YtemcdeopehdggaaDoorA4
import Derived.Deep.RegionLaw
namespace Go.Proofs.YtemcdeopehdggaaDoor
open Go.RowKit

theorem RetC.empty {w w' : World} {c : Nat} {g : Nat} (ho : Ow w' w.heap.size 35 (.slice (some ⟨g, 0, none⟩) 0 c) 0 []) (h : Below w.heap.size w w') : RetC w [] false (.returned (.tuple #[.slice (some ⟨g, 0, none⟩) 0 c, .bool false])) w' := ⟨_, _, _, rfl, ho, h⟩
theorem take_snoc' {vs : List Value} {k : Nat} {u : Value} (h : vs[k]? = some u) : vs.take k ++ [u] = vs.take (k + 1) := by
  have hk : k < vs.length := (List.getElem?_eq_some_iff.1 h).1
  rw [List.getElem?_eq_getElem hk] at h
  injection h with h
  rw [List.take_succ_eq_append_getElem hk, h]

end Go.Proofs.YtemcdeopehdggaaDoor
