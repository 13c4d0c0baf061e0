/- Spectra of tones of 16 points: checked one by one. -/
import Derived.Test.YtficlmnjbbpicaaX9
namespace Go.Proofs.Ytficlmnjbbpicaa
open Go.RowKit

theorem tonOk_16_12 : tonOk 16 12 = true := by decide +kernel
theorem tonOk_16_13 : tonOk 16 13 = true := by decide +kernel
theorem tonOk_16_14 : tonOk 16 14 = true := by decide +kernel
theorem tonOk_16_15 : tonOk 16 15 = true := by decide +kernel
end Go.Proofs.Ytficlmnjbbpicaa
