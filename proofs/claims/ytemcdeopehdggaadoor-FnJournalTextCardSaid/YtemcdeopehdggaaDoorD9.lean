/- Draws of one signal. -/
import Derived.Test.YtemcdeopehdggaaDoorD6
namespace Go.Proofs.YtemcdeopehdggaaDoor
open Go.RowKit

def RetDL (w : World) (e : Ending) (w' : World) : Prop :=
  ∃ (A : Option Addr) (m c : Nat) (xs : List C), e = .returned (.slice A m c) ∧ Ow w' w.heap.size 35 (.slice A m c) m (xs.map cv) ∧ m ≤ 17 ∧ DrawnL xs ∧ Below w.heap.size w w'
end Go.Proofs.YtemcdeopehdggaaDoor
