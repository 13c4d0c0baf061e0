/- What the rows' listed variables give a walk; a start in which they are laid. -/
import Derived.Test.YtemcdeopehdggaaDoorU3
import Derived.Test.YtemcdeopehdggaaDoorCards
import Derived.Test.YtemcdeopehdggaaDoorTie
import Derived.Stop.LaidErr
import Derived.LaidMore
import Derived.MakeChecks
import Derived.LaidHandle
namespace Go.Proofs.YtemcdeopehdggaaDoor
open Go.RowKit
open Go.Lib hiding intOf

theorem own : ownKnob Tryd.prog.godebug = none := by kernel_rfl
theorem gTabT : (Tryd.prog.globals[3]?).map (·.type) = some 136 := by kernel_rfl
theorem gSynT : (Tryd.prog.globals[1]?).map (·.type) = some 95 := by kernel_rfl
theorem gRngT : (Tryd.prog.globals[2]?).map (·.type) = some 95 := by kernel_rfl
theorem tabC : Tryd.prog.cellsOf 136 = 20 := by kernel_rfl
theorem u64C : Tryd.prog.cellsOf 122 = 1 := by kernel_rfl
theorem errC : Tryd.prog.cellsOf 145 = 1 := by kernel_rfl
theorem strC : Tryd.prog.cellsOf 9 = 1 := by kernel_rfl
theorem starErr : "*" ++ "errors.errorString" = "*errors.errorString" := by decide
theorem rowErr (u : TypeId) (h : Tryd.prog.typeName? 3 u = some "*errors.errorString") : u = 143 :=
  typeName_ptr_named (nm := "errors.errorString") (by rw [starErr]; kernel_rfl) (by kernel_rfl) (by decide) u (by rw [starErr]; exact h)
/-- The three tables alone. -/
def laid3 : List (String × DataW Unit) := Rows.fnExactDeedTextRow.laid
/-- The tables and the errors. -/
def laid5 : List (String × DataW Unit) := Rows.fnExactReadSignalRow.laid
theorem envT_of {W : World} {d32 d64 : String × DataW Unit} {rest : List (String × DataW Unit)} (h : laidMet Tryd.prog (d32 :: d64 :: (Tryd.tabName, tabData .u64 pow10Tab) :: rest) W) : EnvT W :=
  ⟨tabIs_of_head gTab gTabT Tryd.underlying136 Tryd.underlying122 u64C tabC h.tail.tail⟩
theorem envT_laid3 {W : World} (h : laidMetH Tryd.prog laid3 W) : EnvT W := by
  rw [MakeChecks.laidMetH_plain _ _ _ (by kernel_rfl)] at h
  exact envT_of h
theorem envA_laid5 {W : World} (h : laidMetH Tryd.prog laid5 W) : EnvA W := by
  rw [MakeChecks.laidMetH_plain _ _ _ (by kernel_rfl)] at h
  obtain ⟨a0, s0, hv0, -, -, -⟩ := laid_sentinel (h.tail.tail.tail : laidMet Tryd.prog (("strconv.ErrRange", Rows.laid_strconv_ErrRange) :: _) W) gRng gRngT Tryd.underlying95 rowErr Tryd.underlying143 Tryd.underlying145 rfl rfl Tryd.underlying9 errC strC
  obtain ⟨a1, s1, hv1, -, -, -⟩ := laid_sentinel (h.tail.tail.tail.tail : laidMet Tryd.prog (("strconv.ErrSyntax", Rows.laid_strconv_ErrSyntax) :: _) W) gSyn gSynT Tryd.underlying95 rowErr Tryd.underlying143 Tryd.underlying145 rfl rfl Tryd.underlying9 errC strC
  exact ⟨envT_of h, ⟨_, _, hv1⟩, ⟨_, _, hv0⟩⟩
theorem door_met5 (os : Os) (args : Array Value) : laidMetH Tryd.prog laid5 ((World.doorLaid Tryd.prog 62 os).forCall (fun _ _ => 0) ⟨#[], args, []⟩).memory :=
  laidMetH_of_parts3 (fuel := 8) (laidMet_of_run' 8 (by kernel_rfl) (by kernel_rfl)) (by kernel_rfl) (by kernel_rfl)
theorem door_met3 (os : Os) (args : Array Value) : laidMetH Tryd.prog laid3 ((World.doorLaid Tryd.prog 62 os).forCall (fun _ _ => 0) ⟨#[], args, []⟩).memory :=
  laidMetH_of_parts3 (fuel := 8) (laidMet_of_run' 8 (by kernel_rfl) (by kernel_rfl)) (by kernel_rfl) (by kernel_rfl)
end Go.Proofs.YtemcdeopehdggaaDoor
