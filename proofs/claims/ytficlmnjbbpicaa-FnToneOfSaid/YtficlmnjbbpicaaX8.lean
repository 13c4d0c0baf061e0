/- Spectra of tones of 16 points: checked one by one. -/
import Derived.Test.YtficlmnjbbpicaaX9
namespace Go.Proofs.Ytficlmnjbbpicaa
open Go.RowKit

theorem tonOk_16_0 : tonOk 16 0 = true := by decide +kernel
theorem tonOk_16_1 : tonOk 16 1 = true := by decide +kernel
theorem tonOk_16_2 : tonOk 16 2 = true := by decide +kernel
theorem tonOk_16_3 : tonOk 16 3 = true := by decide +kernel
end Go.Proofs.Ytficlmnjbbpicaa
