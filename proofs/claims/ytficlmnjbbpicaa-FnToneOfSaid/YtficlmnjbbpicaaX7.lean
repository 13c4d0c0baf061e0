/- Spectra of tones of 16 points: checked one by one. -/
import Derived.Test.YtficlmnjbbpicaaX9
namespace Go.Proofs.Ytficlmnjbbpicaa
open Go.RowKit

theorem tonOk_16_4 : tonOk 16 4 = true := by decide +kernel
theorem tonOk_16_5 : tonOk 16 5 = true := by decide +kernel
theorem tonOk_16_6 : tonOk 16 6 = true := by decide +kernel
theorem tonOk_16_7 : tonOk 16 7 = true := by decide +kernel
end Go.Proofs.Ytficlmnjbbpicaa
