/- Complex numbers in single precision: the words of sums and products, and what they are worth. -/
import Derived.Test.YtficlmnjbbpicaaN2
namespace Go.Proofs.Ytficlmnjbbpicaa
open Go.RowKit

/-- The words of a sum. -/
def addC (a b : C) : C := ((Ieee.single.add a.1 b.1).getD 0, (Ieee.single.add a.2 b.2).getD 0)
def subC (a b : C) : C := ((Ieee.single.sub a.1 b.1).getD 0, (Ieee.single.sub a.2 b.2).getD 0)
/-- The words of a product in double precision, and of the product. -/
def m64 (x y : Nat) : Nat := (Ieee.double.mul (wide x) (wide y)).getD 0
def re64 (a b : C) : Nat := (Ieee.double.sub (m64 a.1 b.1) (m64 a.2 b.2)).getD 0
def im64 (a b : C) : Nat := (Ieee.double.add (m64 a.1 b.2) (m64 a.2 b.1)).getD 0
def mulC (a b : C) : C := (narrow (re64 a b), narrow (im64 a b))
theorem getD_some {α : Type} {o : Option α} {r d : α} (h : o = some r) : o.getD d = r := by rw [h]; rfl
theorem absR_mul (x y : Rat) : absR (x * y) = absR x * absR y := by
  unfold absR
  by_cases hx : x < 0 <;> by_cases hy : y < 0
  · have : ¬ x * y < 0 := by have := Rat.mul_nonneg (show 0 ≤ -x by grind) (show 0 ≤ -y by grind); grind
    rw [if_neg this, if_pos hx, if_pos hy]; grind
  · by_cases h0 : x * y < 0
    · rw [if_pos h0, if_pos hx, if_neg hy]; grind
    · have h1 := Rat.mul_nonneg (show 0 ≤ -x by grind) (show 0 ≤ y by grind)
      rw [if_neg h0, if_pos hx, if_neg hy]; grind
  · by_cases h0 : x * y < 0
    · rw [if_pos h0, if_neg hx, if_pos hy]; grind
    · have h1 := Rat.mul_nonneg (show 0 ≤ x by grind) (show 0 ≤ -y by grind)
      rw [if_neg h0, if_neg hx, if_pos hy]; grind
  · have h1 := Rat.mul_nonneg (show 0 ≤ x by grind) (show 0 ≤ y by grind)
    rw [if_neg (by grind), if_neg hx, if_neg hy]
theorem rmul_le {a b c d : Rat} (ha : 0 ≤ a) (hb : 0 ≤ b) (h1 : a ≤ c) (h2 : b ≤ d) : a * b ≤ c * d :=
  Rat.le_trans (Rat.mul_le_mul_of_nonneg_right h1 hb) (Rat.mul_le_mul_of_nonneg_left h2 (Rat.le_trans ha h1))
theorem le_absR (x : Rat) : x ≤ absR x := by unfold absR; split <;> grind
theorem neg_le_absR (x : Rat) : -absR x ≤ x := by unfold absR; split <;> grind
section
variable {a b : C}
theorem addC_spec (ha : finB a = true) (hb : finB b = true) :
    cSumBits .add .f32 a.1 a.2 b.1 b.2 = some ((addC a b).1, (addC a b).2) ∧ Rnd Ieee.single (val Ieee.single a.1 + val Ieee.single b.1) (addC a b).1 ∧ Rnd Ieee.single (val Ieee.single a.2 + val Ieee.single b.2) (addC a b).2 := by
  obtain ⟨a1, a2⟩ := finB_iff.1 ha
  obtain ⟨b1, b2⟩ := finB_iff.1 hb
  obtain ⟨r, e1, h1⟩ := add_spec a1 b1
  obtain ⟨s, e2, h2⟩ := add_spec a2 b2
  have f1 : (addC a b).1 = r := getD_some e1
  have f2 : (addC a b).2 = s := getD_some e2
  rw [f1, f2]
  refine ⟨?_, h1, h2⟩
  have e1' : floatBits .add .f32 a.1 b.1 = some r := e1
  have e2' : floatBits .add .f32 a.2 b.2 = some s := e2
  unfold cSumBits
  rw [e1', e2']; rfl
theorem p2_128 : absR (0 : Rat) = 0 := by unfold absR; split <;> grind
/-- The product of two words of single precision, in double precision: exact. -/
theorem m64_spec {x y : Nat} (hx : Fin Ieee.single x) (hy : Fin Ieee.single y) :
    floatBits .mul .f64 (wide x) (wide y) = some (m64 x y) ∧ Rnd Ieee.double (val Ieee.single x * val Ieee.single y) (m64 x y) ∧ Fin Ieee.double (m64 x y) := by
  have wx := wide_spec hx
  have wy := wide_spec hy
  obtain ⟨r, e, h⟩ := mul_spec wx.1 wy.1
  rw [wx.2, wy.2] at h
  have f : m64 x y = r := getD_some e
  rw [f]
  refine ⟨e, h, ?_⟩
  have v1 := val32_lt hx
  have v2 := val32_lt hy
  obtain ⟨z, hz, hvz⟩ := repr_ex Ieee.double (n := 1) (e := 256) (by decide) (by decide) (by
    have c1 : ((1 : Nat) : Rat) = 1 := rfl
    rw [inf64, c1, Rat.one_mul]
    have := p2_lt (show (256 : Int) < 1024 by decide)
    have := p2_pos 256
    grind)
  have c1 : ((1 : Nat) : Rat) = 1 := rfl
  rw [c1, Rat.one_mul] at hvz
  have e256 : p2 256 = p2 128 * p2 128 := by rw [← p2_add]; rfl
  have hp := p2_pos 128
  have key : absR (val Ieee.single x * val Ieee.single y) ≤ p2 128 * p2 128 := by
    rw [absR_mul]
    exact rmul_le (absR_nonneg _) (absR_nonneg _) (Rat.le_of_lt v1) (Rat.le_of_lt v2)
  exact (h.le hz (by rw [hvz, e256]; exact Rat.le_trans (le_absR _) key) (by rw [hvz, e256]; have := neg_le_absR (val Ieee.single x * val Ieee.single y); grind)).1
theorem le257 {q : Rat} {r : Nat} (h : Rnd Ieee.double q r) (h1 : absR q ≤ p2 257) : Fin Ieee.double r := by
  obtain ⟨z, hz, hvz⟩ := repr_ex Ieee.double (n := 1) (e := 257) (by decide) (by decide) (by
    have c1 : ((1 : Nat) : Rat) = 1 := rfl
    rw [inf64, c1, Rat.one_mul]
    have := p2_lt (show (257 : Int) < 1024 by decide)
    have := p2_pos 257
    grind)
  have c1 : ((1 : Nat) : Rat) = 1 := rfl
  rw [c1, Rat.one_mul] at hvz
  exact (h.le hz (by rw [hvz]; exact Rat.le_trans (le_absR _) h1) (by rw [hvz]; have := neg_le_absR q; grind)).1
theorem m64_le {x y : Nat} (hx : Fin Ieee.single x) (hy : Fin Ieee.single y) : absR (val Ieee.double (m64 x y)) ≤ p2 256 := by
  obtain ⟨_, h, _⟩ := m64_spec hx hy
  have v1 := val32_lt hx
  have v2 := val32_lt hy
  obtain ⟨z, hz, hvz⟩ := repr_ex Ieee.double (n := 1) (e := 256) (by decide) (by decide) (by
    have c1 : ((1 : Nat) : Rat) = 1 := rfl
    rw [inf64, c1, Rat.one_mul]
    have := p2_lt (show (256 : Int) < 1024 by decide)
    have := p2_pos 256
    grind)
  have c1 : ((1 : Nat) : Rat) = 1 := rfl
  rw [c1, Rat.one_mul] at hvz
  have e256 : p2 256 = p2 128 * p2 128 := by rw [← p2_add]; rfl
  have key : absR (val Ieee.single x * val Ieee.single y) ≤ p2 128 * p2 128 := by
    rw [absR_mul]
    exact rmul_le (absR_nonneg _) (absR_nonneg _) (Rat.le_of_lt v1) (Rat.le_of_lt v2)
  obtain ⟨_, l1, l2⟩ := h.le hz (by rw [hvz, e256]; exact Rat.le_trans (le_absR _) key) (by rw [hvz, e256]; have := neg_le_absR (val Ieee.single x * val Ieee.single y); grind)
  rw [hvz] at l1 l2
  exact absR_le l1 l2
theorem absR_add (x y : Rat) : absR (x + y) ≤ absR x + absR y := by unfold absR; split <;> split <;> split <;> grind
theorem absR_sub (x y : Rat) : absR (x - y) ≤ absR x + absR y := by unfold absR; split <;> split <;> split <;> grind
theorem p2_257 : p2 257 = p2 256 + p2 256 := by rw [show (257 : Int) = 256 + 1 from rfl, p2_succ]; grind
theorem re64_spec (ha : finB a = true) (hb : finB b = true) :
    floatBits .sub .f64 (m64 a.1 b.1) (m64 a.2 b.2) = some (re64 a b) ∧ Rnd Ieee.double (val Ieee.double (m64 a.1 b.1) - val Ieee.double (m64 a.2 b.2)) (re64 a b) ∧ Fin Ieee.double (re64 a b) := by
  obtain ⟨a1, a2⟩ := finB_iff.1 ha
  obtain ⟨b1, b2⟩ := finB_iff.1 hb
  obtain ⟨r, e, h⟩ := sub_spec (m64_spec a1 b1).2.2 (m64_spec a2 b2).2.2
  have f : re64 a b = r := getD_some e
  rw [f]
  refine ⟨e, h, le257 h ?_⟩
  have l1 := m64_le a1 b1
  have l2 := m64_le a2 b2
  have := absR_sub (val Ieee.double (m64 a.1 b.1)) (val Ieee.double (m64 a.2 b.2))
  rw [p2_257]; grind
theorem im64_spec (ha : finB a = true) (hb : finB b = true) :
    floatBits .add .f64 (m64 a.1 b.2) (m64 a.2 b.1) = some (im64 a b) ∧ Rnd Ieee.double (val Ieee.double (m64 a.1 b.2) + val Ieee.double (m64 a.2 b.1)) (im64 a b) ∧ Fin Ieee.double (im64 a b) := by
  obtain ⟨a1, a2⟩ := finB_iff.1 ha
  obtain ⟨b1, b2⟩ := finB_iff.1 hb
  obtain ⟨r, e, h⟩ := add_spec (m64_spec a1 b2).2.2 (m64_spec a2 b1).2.2
  have f : im64 a b = r := getD_some e
  rw [f]
  refine ⟨e, h, le257 h ?_⟩
  have l1 := m64_le a1 b2
  have l2 := m64_le a2 b1
  have := absR_add (val Ieee.double (m64 a.1 b.2)) (val Ieee.double (m64 a.2 b.1))
  rw [p2_257]; grind
theorem mulC_rnd (ha : finB a = true) (hb : finB b = true) : Rnd Ieee.single (val Ieee.double (re64 a b)) (mulC a b).1 ∧ Rnd Ieee.single (val Ieee.double (im64 a b)) (mulC a b).2 :=
  ⟨narrow_spec (re64_spec ha hb).2.2, narrow_spec (im64_spec ha hb).2.2⟩
theorem run_cconv (P : Program) (w : World) {s k : FloatKind} {x r : Nat} (hne : s ≠ k) (h : floatToFloatBits s x k = some r) : (Op.Complex.conv s x k).run P w = .ok r w := by
  simp [Op.Complex.conv, hne, run_floatToFloat w h]
/-- The product, run. -/
theorem mulC_run (P : Program) (t : TypeId) (ha : finB a = true) (hb : finB b = true) (hm : finB (mulC a b) = true) (w : World) :
    (binOp .mul t (.complex .f32 a.1 a.2) (.complex .f32 b.1 b.2)).run P w = .ok (.complex .f32 (mulC a b).1 (mulC a b).2) w := by
  obtain ⟨a1, a2⟩ := finB_iff.1 ha
  obtain ⟨b1, b2⟩ := finB_iff.1 hb
  obtain ⟨m1, m2⟩ := finB_iff.1 hm
  have n1 : floatToFloatBits .f64 (re64 a b) .f32 = some (mulC a b).1 := conv_narrow (re64_spec ha hb).2.2 m1
  have n2 : floatToFloatBits .f64 (im64 a b) .f32 = some (mulC a b).2 := conv_narrow (im64_spec ha hb).2.2 m2
  have x1 := (m64_spec a1 b1).1
  have x2 := (m64_spec a2 b2).1
  have x3 := (m64_spec a1 b2).1
  have x4 := (m64_spec a2 b1).1
  have x5 := (re64_spec ha hb).1
  have x6 := (im64_spec ha hb).1
  simp [binOp, Op.complexOp, Op.Complex.product, Op.Complex.mul, Op.Complex.sub, Op.Complex.add, run_cconv P w (by decide) (conv_wide a1), run_cconv P w (by decide) (conv_wide a2), run_cconv P w (by decide) (conv_wide b1), run_cconv P w (by decide) (conv_wide b2), run_carith w x1, run_carith w x2, run_carith w x3, run_carith w x4, run_carith w x5, run_carith w x6, run_cconv P w (by decide) n1, run_cconv P w (by decide) n2]
theorem addC_run (P : Program) (t : TypeId) (ha : finB a = true) (hb : finB b = true) (w : World) :
    (binOp .add t (.complex .f32 a.1 a.2) (.complex .f32 b.1 b.2)).run P w = .ok (.complex .f32 (addC a b).1 (addC a b).2) w :=
  run_complex_sum w .add (.inl rfl) t .f32 a.1 a.2 b.1 b.2 _ _ (addC_spec ha hb).1
end
end Go.Proofs.Ytficlmnjbbpicaa
