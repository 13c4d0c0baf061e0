/- Two tones laid over each other: what is checked. -/
import Derived.Test.YtficlmnjbbpicaaX9
import Derived.Test.YtficlmnjbbpicaaY1
namespace Go.Proofs.Ytficlmnjbbpicaa
open Go.RowKit

def layOk (p k j : Nat) : Bool :=
  (List.range p).all (fun i => finB (neg2 (nth (tonL p (16 / (p : Int) * (j : Int))) i)) && finB (mulC (nth (tonL p (16 / (p : Int) * (k : Int))) i) (neg2 (nth (tonL p (16 / (p : Int) * (j : Int))) i)))) &&
  (List.range (p + 1)).all (fun i => match layT (tonL p (16 / (p : Int) * (k : Int))) (tonL p (16 / (p : Int) * (j : Int))) i with | none => false | some s => finB s) &&
  decide (EqV ((layT (tonL p (16 / (p : Int) * (k : Int))) (tonL p (16 / (p : Int) * (j : Int))) p).getD (0, 0)) (wantZ p k j))
end Go.Proofs.Ytficlmnjbbpicaa
