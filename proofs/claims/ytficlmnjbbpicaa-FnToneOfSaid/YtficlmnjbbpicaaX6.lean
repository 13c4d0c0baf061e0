/- Spectra of tones of 16 points: checked one by one. -/
import Derived.Test.YtficlmnjbbpicaaX9
namespace Go.Proofs.Ytficlmnjbbpicaa
open Go.RowKit

theorem tonOk_16_8 : tonOk 16 8 = true := by decide +kernel
theorem tonOk_16_9 : tonOk 16 9 = true := by decide +kernel
theorem tonOk_16_10 : tonOk 16 10 = true := by decide +kernel
theorem tonOk_16_11 : tonOk 16 11 = true := by decide +kernel
end Go.Proofs.Ytficlmnjbbpicaa
