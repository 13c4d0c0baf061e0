/-
  No cell of these rows narrows 'for every input' (looked for: loops, veiled, ifaces, maps, wideKeys, modest, calm, conditions, laid).
  DERIVED. THE GIVEN ROWS OF THIS SEAT. 12 by the template 'for every input the law returns true; each argument reads behind the call as it read before'; 0 by the template 'total and deterministic' (their statements: YtficlmnjbbpicaaTotals.lean).
  GIVEN WITH THE SEED: the statements are not yours to turn. If you find one false, say at which input.
  Laid BY PROGRAM, IN A SANDBOX (cutbox-rows.mjs): the forced cells as the released guide's own fill.sh prints them over the translation 6e0d309b4e2805d4… (all of the seat's roots in one cut). By AI agents, Wed Nov 11 2026. No macro, syntax, notation, axiom, sorry.
-/
import Derived.Test.YtficlmnjbbpicaaChecked
import GoSem.Claim
import GoSem.ClaimJoined
import GoSem.ClaimMapViews
import Derived.JoinedTies
import Derived.KernelRfl
namespace Go.Proofs.Ytficlmnjbbpicaa
/- THE CELL 'sum', in the pinned program and in every row, IS THE sha256 OF THE DUMP (.gsa) THAT YtficlmnjbbpicaaProg.lean LOADS. Nothing in Lean hashes anything: it is a label: what it is worth is what the hold of that sum in a sandbox is worth. -/
noncomputable def Try.pinned : Pinned := { name := "ytficlmnjbbpicaa", sum := "6e0d309b4e2805d46ff7a667495b5e941f92d4f13aa164196b3c9810d50b6e93", checked := Try.checked }
namespace Rows
def none {H : Type} : Left H := { results := [], args := [] }

/-- 'laws.FnExactFromSteps': WHATEVER THE INPUT: true; the input reads as it did. -/
def fnExactFromStepsSpec : ChangeSpec := { name := "fnExactFromSteps", fn := fun _ => fun
  | [d1, d2] => { results := [.lit (.bool true)], args := [d1, d2] }
  | _ => none }
def fnExactFromStepsRow : OpenClaim := { program := "ytficlmnjbbpicaa", sum := "6e0d309b4e2805d46ff7a667495b5e941f92d4f13aa164196b3c9810d50b6e93", func := "loop.example/shortspectra/laws.FnExactFromSteps", spec := "fnExactFromSteps", apart := false }
def FnExactFromStepsSaid : Prop := fnExactFromStepsRow.holds Try.pinned (OpenSpec.ofChange fnExactFromStepsSpec)

/-- ITS FALSE NEIGHBOUR: 'it returns false'. Refute it at one input. -/
def fnExactFromStepsWrong : ChangeSpec := { name := "fnExactFromSteps", fn := fun _ => fun
  | [d1, d2] => { results := [.lit (.bool false)], args := [d1, d2] }
  | _ => none }
def FnExactFromStepsWrongFalsely : Prop := fnExactFromStepsRow.holds Try.pinned (OpenSpec.ofChange fnExactFromStepsWrong)

/-- 'laws.FnExactToneOf': WHATEVER THE INPUT: true; the input reads as it did. -/
def fnExactToneOfSpec : ChangeSpec := { name := "fnExactToneOf", fn := fun _ => fun
  | [d1, d2] => { results := [.lit (.bool true)], args := [d1, d2] }
  | _ => none }
def fnExactToneOfRow : OpenClaim := { program := "ytficlmnjbbpicaa", sum := "6e0d309b4e2805d46ff7a667495b5e941f92d4f13aa164196b3c9810d50b6e93", func := "loop.example/shortspectra/laws.FnExactToneOf", spec := "fnExactToneOf", unfollowed := true, recurses := true, apart := false }
def FnExactToneOfSaid : Prop := fnExactToneOfRow.holds Try.pinned (OpenSpec.ofChange fnExactToneOfSpec)

/-- ITS FALSE NEIGHBOUR: 'it returns false'. Refute it at one input. -/
def fnExactToneOfWrong : ChangeSpec := { name := "fnExactToneOf", fn := fun _ => fun
  | [d1, d2] => { results := [.lit (.bool false)], args := [d1, d2] }
  | _ => none }
def FnExactToneOfWrongFalsely : Prop := fnExactToneOfRow.holds Try.pinned (OpenSpec.ofChange fnExactToneOfWrong)

/-- 'laws.FnFromSteps': WHATEVER THE INPUT: true; the input reads as it did. -/
def fnFromStepsSpec : ChangeSpec := { name := "fnFromSteps", fn := fun _ => fun
  | [d] => { results := [.lit (.bool true)], args := [d] }
  | _ => none }
def fnFromStepsRow : OpenClaim := { program := "ytficlmnjbbpicaa", sum := "6e0d309b4e2805d46ff7a667495b5e941f92d4f13aa164196b3c9810d50b6e93", func := "loop.example/shortspectra/laws.FnFromSteps", spec := "fnFromSteps", apart := false }
def FnFromStepsSaid : Prop := fnFromStepsRow.holds Try.pinned (OpenSpec.ofChange fnFromStepsSpec)

/-- ITS FALSE NEIGHBOUR: 'it returns false'. Refute it at one input. -/
def fnFromStepsWrong : ChangeSpec := { name := "fnFromSteps", fn := fun _ => fun
  | [d] => { results := [.lit (.bool false)], args := [d] }
  | _ => none }
def FnFromStepsWrongFalsely : Prop := fnFromStepsRow.holds Try.pinned (OpenSpec.ofChange fnFromStepsWrong)

/-- 'laws.FnToneOf': WHATEVER THE INPUT: true; the input reads as it did. -/
def fnToneOfSpec : ChangeSpec := { name := "fnToneOf", fn := fun _ => fun
  | [d] => { results := [.lit (.bool true)], args := [d] }
  | _ => none }
def fnToneOfRow : OpenClaim := { program := "ytficlmnjbbpicaa", sum := "6e0d309b4e2805d46ff7a667495b5e941f92d4f13aa164196b3c9810d50b6e93", func := "loop.example/shortspectra/laws.FnToneOf", spec := "fnToneOf", unfollowed := true, recurses := true, apart := false }
def FnToneOfSaid : Prop := fnToneOfRow.holds Try.pinned (OpenSpec.ofChange fnToneOfSpec)

/-- ITS FALSE NEIGHBOUR: 'it returns false'. Refute it at one input. -/
def fnToneOfWrong : ChangeSpec := { name := "fnToneOf", fn := fun _ => fun
  | [d] => { results := [.lit (.bool false)], args := [d] }
  | _ => none }
def FnToneOfWrongFalsely : Prop := fnToneOfRow.holds Try.pinned (OpenSpec.ofChange fnToneOfWrong)

/-- 'laws.FnHalvesOf': WHATEVER THE INPUT: true; the input reads as it did. -/
def fnHalvesOfSpec : ChangeSpec := { name := "fnHalvesOf", fn := fun _ => fun
  | [d] => { results := [.lit (.bool true)], args := [d] }
  | _ => none }
def fnHalvesOfRow : OpenClaim := { program := "ytficlmnjbbpicaa", sum := "6e0d309b4e2805d46ff7a667495b5e941f92d4f13aa164196b3c9810d50b6e93", func := "loop.example/shortspectra/laws.FnHalvesOf", spec := "fnHalvesOf", apart := false }
def FnHalvesOfSaid : Prop := fnHalvesOfRow.holds Try.pinned (OpenSpec.ofChange fnHalvesOfSpec)

/-- ITS FALSE NEIGHBOUR: 'it returns false'. Refute it at one input. -/
def fnHalvesOfWrong : ChangeSpec := { name := "fnHalvesOf", fn := fun _ => fun
  | [d] => { results := [.lit (.bool false)], args := [d] }
  | _ => none }
def FnHalvesOfWrongFalsely : Prop := fnHalvesOfRow.holds Try.pinned (OpenSpec.ofChange fnHalvesOfWrong)

/-- 'laws.FnStepsOf': WHATEVER THE INPUT: true; the input reads as it did. -/
def fnStepsOfSpec : ChangeSpec := { name := "fnStepsOf", fn := fun _ => fun
  | [d] => { results := [.lit (.bool true)], args := [d] }
  | _ => none }
def fnStepsOfRow : OpenClaim := { program := "ytficlmnjbbpicaa", sum := "6e0d309b4e2805d46ff7a667495b5e941f92d4f13aa164196b3c9810d50b6e93", func := "loop.example/shortspectra/laws.FnStepsOf", spec := "fnStepsOf", recurses := true, apart := false }
def FnStepsOfSaid : Prop := fnStepsOfRow.holds Try.pinned (OpenSpec.ofChange fnStepsOfSpec)

/-- ITS FALSE NEIGHBOUR: 'it returns false'. Refute it at one input. -/
def fnStepsOfWrong : ChangeSpec := { name := "fnStepsOf", fn := fun _ => fun
  | [d] => { results := [.lit (.bool false)], args := [d] }
  | _ => none }
def FnStepsOfWrongFalsely : Prop := fnStepsOfRow.holds Try.pinned (OpenSpec.ofChange fnStepsOfWrong)

/-- 'laws.FnWithZeros': WHATEVER THE INPUT: true; the input reads as it did. -/
def fnWithZerosSpec : ChangeSpec := { name := "fnWithZeros", fn := fun _ => fun
  | [d] => { results := [.lit (.bool true)], args := [d] }
  | _ => none }
def fnWithZerosRow : OpenClaim := { program := "ytficlmnjbbpicaa", sum := "6e0d309b4e2805d46ff7a667495b5e941f92d4f13aa164196b3c9810d50b6e93", func := "loop.example/shortspectra/laws.FnWithZeros", spec := "fnWithZeros", apart := false }
def FnWithZerosSaid : Prop := fnWithZerosRow.holds Try.pinned (OpenSpec.ofChange fnWithZerosSpec)

/-- ITS FALSE NEIGHBOUR: 'it returns false'. Refute it at one input. -/
def fnWithZerosWrong : ChangeSpec := { name := "fnWithZeros", fn := fun _ => fun
  | [d] => { results := [.lit (.bool false)], args := [d] }
  | _ => none }
def FnWithZerosWrongFalsely : Prop := fnWithZerosRow.holds Try.pinned (OpenSpec.ofChange fnWithZerosWrong)

/-- 'laws.FnEverySecond': WHATEVER THE INPUT: true; the input reads as it did. -/
def fnEverySecondSpec : ChangeSpec := { name := "fnEverySecond", fn := fun _ => fun
  | [d] => { results := [.lit (.bool true)], args := [d] }
  | _ => none }
def fnEverySecondRow : OpenClaim := { program := "ytficlmnjbbpicaa", sum := "6e0d309b4e2805d46ff7a667495b5e941f92d4f13aa164196b3c9810d50b6e93", func := "loop.example/shortspectra/laws.FnEverySecond", spec := "fnEverySecond", apart := false }
def FnEverySecondSaid : Prop := fnEverySecondRow.holds Try.pinned (OpenSpec.ofChange fnEverySecondSpec)

/-- ITS FALSE NEIGHBOUR: 'it returns false'. Refute it at one input. -/
def fnEverySecondWrong : ChangeSpec := { name := "fnEverySecond", fn := fun _ => fun
  | [d] => { results := [.lit (.bool false)], args := [d] }
  | _ => none }
def FnEverySecondWrongFalsely : Prop := fnEverySecondRow.holds Try.pinned (OpenSpec.ofChange fnEverySecondWrong)

/-- 'laws.FnWithoutTone': WHATEVER THE INPUT: true; the input reads as it did. -/
def fnWithoutToneSpec : ChangeSpec := { name := "fnWithoutTone", fn := fun _ => fun
  | [d] => { results := [.lit (.bool true)], args := [d] }
  | _ => none }
def fnWithoutToneRow : OpenClaim := { program := "ytficlmnjbbpicaa", sum := "6e0d309b4e2805d46ff7a667495b5e941f92d4f13aa164196b3c9810d50b6e93", func := "loop.example/shortspectra/laws.FnWithoutTone", spec := "fnWithoutTone", apart := false }
def FnWithoutToneSaid : Prop := fnWithoutToneRow.holds Try.pinned (OpenSpec.ofChange fnWithoutToneSpec)

/-- ITS FALSE NEIGHBOUR: 'it returns false'. Refute it at one input. -/
def fnWithoutToneWrong : ChangeSpec := { name := "fnWithoutTone", fn := fun _ => fun
  | [d] => { results := [.lit (.bool false)], args := [d] }
  | _ => none }
def FnWithoutToneWrongFalsely : Prop := fnWithoutToneRow.holds Try.pinned (OpenSpec.ofChange fnWithoutToneWrong)

/-- 'laws.FnShiftedBy': WHATEVER THE INPUT: true; the input reads as it did. -/
def fnShiftedBySpec : ChangeSpec := { name := "fnShiftedBy", fn := fun _ => fun
  | [d] => { results := [.lit (.bool true)], args := [d] }
  | _ => none }
def fnShiftedByRow : OpenClaim := { program := "ytficlmnjbbpicaa", sum := "6e0d309b4e2805d46ff7a667495b5e941f92d4f13aa164196b3c9810d50b6e93", func := "loop.example/shortspectra/laws.FnShiftedBy", spec := "fnShiftedBy", unfollowed := true, recurses := true, apart := false }
def FnShiftedBySaid : Prop := fnShiftedByRow.holds Try.pinned (OpenSpec.ofChange fnShiftedBySpec)

/-- ITS FALSE NEIGHBOUR: 'it returns false'. Refute it at one input. -/
def fnShiftedByWrong : ChangeSpec := { name := "fnShiftedBy", fn := fun _ => fun
  | [d] => { results := [.lit (.bool false)], args := [d] }
  | _ => none }
def FnShiftedByWrongFalsely : Prop := fnShiftedByRow.holds Try.pinned (OpenSpec.ofChange fnShiftedByWrong)

/-- 'laws.FnTonesOf': WHATEVER THE INPUT: true; the input reads as it did. -/
def fnTonesOfSpec : ChangeSpec := { name := "fnTonesOf", fn := fun _ => fun
  | [d] => { results := [.lit (.bool true)], args := [d] }
  | _ => none }
def fnTonesOfRow : OpenClaim := { program := "ytficlmnjbbpicaa", sum := "6e0d309b4e2805d46ff7a667495b5e941f92d4f13aa164196b3c9810d50b6e93", func := "loop.example/shortspectra/laws.FnTonesOf", spec := "fnTonesOf", unfollowed := true, recurses := true, apart := false }
def FnTonesOfSaid : Prop := fnTonesOfRow.holds Try.pinned (OpenSpec.ofChange fnTonesOfSpec)

/-- ITS FALSE NEIGHBOUR: 'it returns false'. Refute it at one input. -/
def fnTonesOfWrong : ChangeSpec := { name := "fnTonesOf", fn := fun _ => fun
  | [d] => { results := [.lit (.bool false)], args := [d] }
  | _ => none }
def FnTonesOfWrongFalsely : Prop := fnTonesOfRow.holds Try.pinned (OpenSpec.ofChange fnTonesOfWrong)

/-- 'laws.FnOnlyNumbers': WHATEVER THE INPUT: true; the input reads as it did. -/
def fnOnlyNumbersSpec : ChangeSpec := { name := "fnOnlyNumbers", fn := fun _ => fun
  | [d] => { results := [.lit (.bool true)], args := [d] }
  | _ => none }
def fnOnlyNumbersRow : OpenClaim := { program := "ytficlmnjbbpicaa", sum := "6e0d309b4e2805d46ff7a667495b5e941f92d4f13aa164196b3c9810d50b6e93", func := "loop.example/shortspectra/laws.FnOnlyNumbers", spec := "fnOnlyNumbers", apart := false }
def FnOnlyNumbersSaid : Prop := fnOnlyNumbersRow.holds Try.pinned (OpenSpec.ofChange fnOnlyNumbersSpec)

/-- ITS FALSE NEIGHBOUR: 'it returns false'. Refute it at one input. -/
def fnOnlyNumbersWrong : ChangeSpec := { name := "fnOnlyNumbers", fn := fun _ => fun
  | [d] => { results := [.lit (.bool false)], args := [d] }
  | _ => none }
def FnOnlyNumbersWrongFalsely : Prop := fnOnlyNumbersRow.holds Try.pinned (OpenSpec.ofChange fnOnlyNumbersWrong)

/- THE SECOND FORM. 'bulk': how many values and letters a reading holds, each counted each time it is reached (what is shared counts as often as it is met; a slice's spare places count too). A statement '..UptoSaid' is the law's where the arguments, and the package variables that the reading takes, are together of bulk at most 1048576: NARROWER than '..Said'. Prove '..Said' where nothing that the law and all that it calls make is longer than what came in: it says more and counts as full. Else prove '..UptoSaid'. A law counts once. -/
mutual
def uptoBulk {H : Type} : DataW H → Nat
  | .lit (.string bytes) => bytes.length + 1
  | .lit _ => 1
  | .nil => 1
  | .ptr d => uptoBulk d + 1
  | .slice elems spare => uptoBulkAll elems + uptoBulkAll spare + 1
  | .agg parts => uptoBulkAll parts + 1
  | .iface _ d => uptoBulk d + 1
  | .map entries => uptoBulkEntries entries + 1
  | .held _ => 1
def uptoBulkAll {H : Type} : List (DataW H) → Nat
  | [] => 0
  | d :: r => uptoBulk d + uptoBulkAll r
def uptoBulkEntries {H : Type} : List (Lit × DataW H) → Nat
  | [] => 0
  | x :: r => uptoBulkEntry x + uptoBulkEntries r
def uptoBulkEntry {H : Type} : Lit × DataW H → Nat
  | (.string bytes, d) => bytes.length + uptoBulk d + 1
  | (_, d) => uptoBulk d + 1
 end
def uptoSmall : (H : Type) → List (DataW H) → Bool := fun _ ds => decide (uptoBulkAll ds ≤ 1048576)
def OpenSpec.upto (s : _root_.Go.ChangeSpec) : _root_.Go.OpenSpec := { _root_.Go.OpenSpec.ofChange s with cond := some uptoSmall }

/-- 'laws.FnExactFromSteps', WHERE WHAT IT READS IS OF BULK AT MOST 1048576: true; the input reads as it did. -/
def fnExactFromStepsUptoRow : OpenClaim := { program := "ytficlmnjbbpicaa", sum := "6e0d309b4e2805d46ff7a667495b5e941f92d4f13aa164196b3c9810d50b6e93", func := "loop.example/shortspectra/laws.FnExactFromSteps", spec := "fnExactFromSteps", apart := false, narrowed := true }
def FnExactFromStepsUptoSaid : Prop := fnExactFromStepsUptoRow.holds Try.pinned (OpenSpec.upto fnExactFromStepsSpec)

/-- 'laws.FnExactToneOf', WHERE WHAT IT READS IS OF BULK AT MOST 1048576: true; the input reads as it did. -/
def fnExactToneOfUptoRow : OpenClaim := { program := "ytficlmnjbbpicaa", sum := "6e0d309b4e2805d46ff7a667495b5e941f92d4f13aa164196b3c9810d50b6e93", func := "loop.example/shortspectra/laws.FnExactToneOf", spec := "fnExactToneOf", unfollowed := true, recurses := true, apart := false, narrowed := true }
def FnExactToneOfUptoSaid : Prop := fnExactToneOfUptoRow.holds Try.pinned (OpenSpec.upto fnExactToneOfSpec)

/-- 'laws.FnFromSteps', WHERE WHAT IT READS IS OF BULK AT MOST 1048576: true; the input reads as it did. -/
def fnFromStepsUptoRow : OpenClaim := { program := "ytficlmnjbbpicaa", sum := "6e0d309b4e2805d46ff7a667495b5e941f92d4f13aa164196b3c9810d50b6e93", func := "loop.example/shortspectra/laws.FnFromSteps", spec := "fnFromSteps", apart := false, narrowed := true }
def FnFromStepsUptoSaid : Prop := fnFromStepsUptoRow.holds Try.pinned (OpenSpec.upto fnFromStepsSpec)

/-- 'laws.FnToneOf', WHERE WHAT IT READS IS OF BULK AT MOST 1048576: true; the input reads as it did. -/
def fnToneOfUptoRow : OpenClaim := { program := "ytficlmnjbbpicaa", sum := "6e0d309b4e2805d46ff7a667495b5e941f92d4f13aa164196b3c9810d50b6e93", func := "loop.example/shortspectra/laws.FnToneOf", spec := "fnToneOf", unfollowed := true, recurses := true, apart := false, narrowed := true }
def FnToneOfUptoSaid : Prop := fnToneOfUptoRow.holds Try.pinned (OpenSpec.upto fnToneOfSpec)

/-- 'laws.FnHalvesOf', WHERE WHAT IT READS IS OF BULK AT MOST 1048576: true; the input reads as it did. -/
def fnHalvesOfUptoRow : OpenClaim := { program := "ytficlmnjbbpicaa", sum := "6e0d309b4e2805d46ff7a667495b5e941f92d4f13aa164196b3c9810d50b6e93", func := "loop.example/shortspectra/laws.FnHalvesOf", spec := "fnHalvesOf", apart := false, narrowed := true }
def FnHalvesOfUptoSaid : Prop := fnHalvesOfUptoRow.holds Try.pinned (OpenSpec.upto fnHalvesOfSpec)

/-- 'laws.FnStepsOf', WHERE WHAT IT READS IS OF BULK AT MOST 1048576: true; the input reads as it did. -/
def fnStepsOfUptoRow : OpenClaim := { program := "ytficlmnjbbpicaa", sum := "6e0d309b4e2805d46ff7a667495b5e941f92d4f13aa164196b3c9810d50b6e93", func := "loop.example/shortspectra/laws.FnStepsOf", spec := "fnStepsOf", recurses := true, apart := false, narrowed := true }
def FnStepsOfUptoSaid : Prop := fnStepsOfUptoRow.holds Try.pinned (OpenSpec.upto fnStepsOfSpec)

/-- 'laws.FnWithZeros', WHERE WHAT IT READS IS OF BULK AT MOST 1048576: true; the input reads as it did. -/
def fnWithZerosUptoRow : OpenClaim := { program := "ytficlmnjbbpicaa", sum := "6e0d309b4e2805d46ff7a667495b5e941f92d4f13aa164196b3c9810d50b6e93", func := "loop.example/shortspectra/laws.FnWithZeros", spec := "fnWithZeros", apart := false, narrowed := true }
def FnWithZerosUptoSaid : Prop := fnWithZerosUptoRow.holds Try.pinned (OpenSpec.upto fnWithZerosSpec)

/-- 'laws.FnEverySecond', WHERE WHAT IT READS IS OF BULK AT MOST 1048576: true; the input reads as it did. -/
def fnEverySecondUptoRow : OpenClaim := { program := "ytficlmnjbbpicaa", sum := "6e0d309b4e2805d46ff7a667495b5e941f92d4f13aa164196b3c9810d50b6e93", func := "loop.example/shortspectra/laws.FnEverySecond", spec := "fnEverySecond", apart := false, narrowed := true }
def FnEverySecondUptoSaid : Prop := fnEverySecondUptoRow.holds Try.pinned (OpenSpec.upto fnEverySecondSpec)

/-- 'laws.FnWithoutTone', WHERE WHAT IT READS IS OF BULK AT MOST 1048576: true; the input reads as it did. -/
def fnWithoutToneUptoRow : OpenClaim := { program := "ytficlmnjbbpicaa", sum := "6e0d309b4e2805d46ff7a667495b5e941f92d4f13aa164196b3c9810d50b6e93", func := "loop.example/shortspectra/laws.FnWithoutTone", spec := "fnWithoutTone", apart := false, narrowed := true }
def FnWithoutToneUptoSaid : Prop := fnWithoutToneUptoRow.holds Try.pinned (OpenSpec.upto fnWithoutToneSpec)

/-- 'laws.FnShiftedBy', WHERE WHAT IT READS IS OF BULK AT MOST 1048576: true; the input reads as it did. -/
def fnShiftedByUptoRow : OpenClaim := { program := "ytficlmnjbbpicaa", sum := "6e0d309b4e2805d46ff7a667495b5e941f92d4f13aa164196b3c9810d50b6e93", func := "loop.example/shortspectra/laws.FnShiftedBy", spec := "fnShiftedBy", unfollowed := true, recurses := true, apart := false, narrowed := true }
def FnShiftedByUptoSaid : Prop := fnShiftedByUptoRow.holds Try.pinned (OpenSpec.upto fnShiftedBySpec)

/-- 'laws.FnTonesOf', WHERE WHAT IT READS IS OF BULK AT MOST 1048576: true; the input reads as it did. -/
def fnTonesOfUptoRow : OpenClaim := { program := "ytficlmnjbbpicaa", sum := "6e0d309b4e2805d46ff7a667495b5e941f92d4f13aa164196b3c9810d50b6e93", func := "loop.example/shortspectra/laws.FnTonesOf", spec := "fnTonesOf", unfollowed := true, recurses := true, apart := false, narrowed := true }
def FnTonesOfUptoSaid : Prop := fnTonesOfUptoRow.holds Try.pinned (OpenSpec.upto fnTonesOfSpec)

/-- 'laws.FnOnlyNumbers', WHERE WHAT IT READS IS OF BULK AT MOST 1048576: true; the input reads as it did. -/
def fnOnlyNumbersUptoRow : OpenClaim := { program := "ytficlmnjbbpicaa", sum := "6e0d309b4e2805d46ff7a667495b5e941f92d4f13aa164196b3c9810d50b6e93", func := "loop.example/shortspectra/laws.FnOnlyNumbers", spec := "fnOnlyNumbers", apart := false, narrowed := true }
def FnOnlyNumbersUptoSaid : Prop := fnOnlyNumbersUptoRow.holds Try.pinned (OpenSpec.upto fnOnlyNumbersSpec)

end Rows
end Go.Proofs.Ytficlmnjbbpicaa
