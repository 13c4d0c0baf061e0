/- All listed variables, and a variable of the library's own that is not listed; how deeds read as arguments. -/
import Derived.Test.YtemcdeopehdggaaDoorQ1
import Derived.Test.YtemcdeopehdggaaDoorJ3
import Derived.Shelf.Vars
import Derived.Lib.SmallJoins
import Derived.Deep.Slices
import Derived.Deep.Fields
import Derived.ChangeSame
namespace Go.Proofs.YtemcdeopehdggaaDoor
open Go.RowKit Go.Joins Go.ChangeShapes Go.WideShapes Go.Deep
open Go.Lib hiding intOf

theorem envX_laid5 {W : World} (hL : laidMetH Tryd.prog laid5 W) (hsh : W.ShapedOpen Tryd.prog) : EnvX W :=
  ⟨envA_laid5 hL, cell_of_shapedOpen_int (P := Tryd.prog) (g := 0) (t := 3) (zero := #[.int .i64 0]) hsh (of_decide_eq_true (by kernel_rfl)) (by kernel_rfl) rfl (by kernel_rfl) (by kernel_rfl) Tryd.underlying3⟩
section
variable {H : Type} {enc : TypeId × Value → H} {w : World} {base : Nat} {spare : Nat → Bool} {held : Bool}
set_option maxRecDepth 100000 in
/-- A deed that came in. -/
theorem open_deed {r : Reach} {b0 : Nat} {v : Value} {d : DataW H} {p : List MemPlace} (hv : Value.okWide Tryd.prog w r b0 41 v) (h : DataW.Trod enc Tryd.prog w base spare held 41 v d p) :
    ∃ a : Dd, v = dv a ∧ a.text.length ≤ 9223372036854775807 := by
  obtain ⟨c0, c1, c2, y0, y1, y2, m, rfl, _, _, e0, e1, e2⟩ := open_agg3 Tryd.underlying41 (by kernel_rfl) (by kernel_rfl) hv h
  obtain ⟨k, q0, _, _⟩ := DataW.trod_int Tryd.underlying3 e0
  obtain ⟨n, q1, _, _⟩ := DataW.trod_int Tryd.underlying3 e1
  obtain ⟨s, q2, _, hs⟩ := DataW.trod_string Tryd.underlying9 e2
  simp only [List.cons.injEq, and_true] at q0 q1 q2
  subst q0; subst q1; subst q2
  refine ⟨⟨k, n, s.data.toList⟩, ?_, ?_⟩
  · unfold dv
    rw [bs_of]
  · unfold maxLen at hs
    have := size_eq s
    show s.data.toList.length ≤ _
    omega
end
end Go.Proofs.YtemcdeopehdggaaDoor
