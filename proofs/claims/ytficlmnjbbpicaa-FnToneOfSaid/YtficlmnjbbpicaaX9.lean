/- Spectra of tones: checked one by one. -/
import Derived.Test.YtficlmnjbbpicaaR1
import Derived.Test.YtficlmnjbbpicaaN2
import Derived.Test.YtficlmnjbbpicaaB4
namespace Go.Proofs.Ytficlmnjbbpicaa
open Go.RowKit

instance (b : Nat) (x y : C) : Decidable (NearV b x y) := inferInstanceAs (Decidable (_ ∧ _))
instance (x y : C) : Decidable (EqV x y) := inferInstanceAs (Decidable (_ ∧ _))
/-- What the spectrum of a tone is near to. -/
def wantZ (p k i : Nat) : C := if i = k then (floatOfInt .f32 p, 0) else (0, 0)
def tonOk (p k : Nat) : Bool := match transF (tonL p (16 / (p : Int) * (k : Int))) with
  | none => false
  | some l => (List.range p).all fun i => decide (NearV 4562254508917369340 (nth l i) (wantZ p k i)) && (decide (4 < p) || decide (EqV (nth l i) (wantZ p k i)))
theorem tonOk_4 : (tonOk 1 0 && (List.range 2).all (tonOk 2) && (List.range 4).all (tonOk 4)) = true := by decide +kernel
theorem tonOk_8 : (List.range 8).all (tonOk 8) = true := by decide +kernel
end Go.Proofs.Ytficlmnjbbpicaa
