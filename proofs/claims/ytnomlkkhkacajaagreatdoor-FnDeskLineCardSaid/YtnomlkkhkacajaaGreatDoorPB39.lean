/- Texts on the way to a law (Q4), each with its own remark. -/
import Derived.Test.YtnomlkkhkacajaaGreatDoorPB23
import Derived.Test.YtnomlkkhkacajaaGreatDoorCards
import Derived.Test.YtnomlkkhkacajaaGreatDoorTie
import Derived.Stop.LaidErr
import Derived.LaidMore
import Derived.MakeChecks
import Derived.LaidHandle
import Derived.Test.YtnomlkkhkacajaaGreatDoorPB38
import Derived.Shelf.Vars
import Derived.Lib.SmallJoins
import Derived.Deep.Slices
import Derived.Deep.Fields
import Derived.ChangeSame
namespace Go.Proofs.YtnomlkkhkacajaaGreatDoor
open Go.RowKit
open Go.Lib hiding intOf

theorem own : ownKnob Tryz.prog.godebug = none := by kernel_rfl
theorem gTabT : (Tryz.prog.globals[1]?).map (·.type) = some 179 := by kernel_rfl
theorem gSynT : (Tryz.prog.globals[2]?).map (·.type) = some 103 := by kernel_rfl
theorem gRngT : (Tryz.prog.globals[3]?).map (·.type) = some 103 := by kernel_rfl
theorem tabC : Tryz.prog.cellsOf 179 = 20 := by kernel_rfl
theorem u64C : Tryz.prog.cellsOf 160 = 1 := by kernel_rfl
theorem errC : Tryz.prog.cellsOf 193 = 1 := by kernel_rfl
theorem strC : Tryz.prog.cellsOf 9 = 1 := by kernel_rfl
theorem starErr : "*" ++ "errors.errorString" = "*errors.errorString" := by decide
theorem rowErr (u : TypeId) (h : Tryz.prog.typeName? 3 u = some "*errors.errorString") : u = 191 :=
  typeName_ptr_named (nm := "errors.errorString") (by rw [starErr]; kernel_rfl) (by kernel_rfl) (by decide) u (by rw [starErr]; exact h)
/-- The tables and the errors. -/
def laid5 : List (String × DataW Unit) := Rows.fnDeskDoRow.laid
theorem envT_of {W : World} {d32 d64 : String × DataW Unit} {rest : List (String × DataW Unit)} (h : laidMet Tryz.prog (d32 :: d64 :: (Tryz.tabName, tabData .u64 pow10Tab) :: rest) W) : EnvT W :=
  ⟨tabIs_of_head gTab gTabT Tryz.underlying179 Tryz.underlying160 u64C tabC h.tail.tail⟩
theorem envA_laid5 {W : World} (h : laidMetH Tryz.prog laid5 W) : EnvA W := by
  rw [MakeChecks.laidMetH_plain _ _ _ (by kernel_rfl)] at h
  obtain ⟨a0, s0, hv0, -, -, -⟩ := laid_sentinel (h.tail.tail.tail : laidMet Tryz.prog (("strconv.ErrRange", Rows.laid_strconv_ErrRange) :: _) W) gRng gRngT Tryz.underlying103 rowErr Tryz.underlying191 Tryz.underlying193 rfl rfl Tryz.underlying9 errC strC
  obtain ⟨a1, s1, hv1, -, -, -⟩ := laid_sentinel (h.tail.tail.tail.tail : laidMet Tryz.prog (("strconv.ErrSyntax", Rows.laid_strconv_ErrSyntax) :: _) W) gSyn gSynT Tryz.underlying103 rowErr Tryz.underlying191 Tryz.underlying193 rfl rfl Tryz.underlying9 errC strC
  exact ⟨envT_of h, ⟨_, _, hv1⟩, ⟨_, _, hv0⟩⟩
theorem door_met5 (os : Os) (args : Array Value) : laidMetH Tryz.prog laid5 ((World.doorLaid Tryz.prog 62 os).forCall (fun _ _ => 0) ⟨#[], args, []⟩).memory :=
  laidMetH_of_parts3 (fuel := 8) (laidMet_of_run' 8 (by kernel_rfl) (by kernel_rfl)) (by kernel_rfl) (by kernel_rfl)
theorem envX_laid5 {W : World} (hL : laidMetH Tryz.prog laid5 W) (hsh : W.ShapedOpen Tryz.prog) : EnvX W :=
  ⟨envA_laid5 hL, cell_of_shapedOpen_int (P := Tryz.prog) (g := 0) (t := 3) (zero := #[.int .i64 0]) hsh (of_decide_eq_true (by kernel_rfl)) (by kernel_rfl) rfl (by kernel_rfl) (by kernel_rfl) Tryz.underlying3⟩
end Go.Proofs.YtnomlkkhkacajaaGreatDoor
