/- Texts on the way to a law (N2, M1, V1, T1), each with its own remark. -/
import Derived.Test.YtnomlkkhkacajaaGreatDoorPC04
namespace Go.Proofs.YtnomlkkhkacajaaGreatDoor
open Go.RowKit

end Go.Proofs.YtnomlkkhkacajaaGreatDoor
namespace Go.Proofs.YtnomlkkhkacajaaGreatDoor
open Go.RowKit

/-- The words of a sum. -/
def addC (a b : C) : C := ((Ieee.single.add a.1 b.1).getD 0, (Ieee.single.add a.2 b.2).getD 0)
/-- The words of a product in double precision, and of the product. -/
def m64 (x y : Nat) : Nat := (Ieee.double.mul (wide x) (wide y)).getD 0
def re64 (a b : C) : Nat := (Ieee.double.sub (m64 a.1 b.1) (m64 a.2 b.2)).getD 0
def im64 (a b : C) : Nat := (Ieee.double.add (m64 a.1 b.2) (m64 a.2 b.1)).getD 0
def mulC (a b : C) : C := (narrow (re64 a b), narrow (im64 a b))
theorem getD_some {α : Type} {o : Option α} {r d : α} (h : o = some r) : o.getD d = r := by rw [h]; rfl
theorem absR_mul (x y : Rat) : absR (x * y) = absR x * absR y := by
  unfold absR
  by_cases hx : x < 0 <;> by_cases hy : y < 0
  · have : ¬ x * y < 0 := by have := Rat.mul_nonneg (show 0 ≤ -x by grind) (show 0 ≤ -y by grind); grind
    rw [if_neg this, if_pos hx, if_pos hy]; grind
  · by_cases h0 : x * y < 0
    · rw [if_pos h0, if_pos hx, if_neg hy]; grind
    · have h1 := Rat.mul_nonneg (show 0 ≤ -x by grind) (show 0 ≤ y by grind)
      rw [if_neg h0, if_pos hx, if_neg hy]; grind
  · by_cases h0 : x * y < 0
    · rw [if_pos h0, if_neg hx, if_pos hy]; grind
    · have h1 := Rat.mul_nonneg (show 0 ≤ x by grind) (show 0 ≤ -y by grind)
      rw [if_neg h0, if_neg hx, if_pos hy]; grind
  · have h1 := Rat.mul_nonneg (show 0 ≤ x by grind) (show 0 ≤ y by grind)
    rw [if_neg (by grind), if_neg hx, if_neg hy]
theorem rmul_le {a b c d : Rat} (ha : 0 ≤ a) (hb : 0 ≤ b) (h1 : a ≤ c) (h2 : b ≤ d) : a * b ≤ c * d :=
  Rat.le_trans (Rat.mul_le_mul_of_nonneg_right h1 hb) (Rat.mul_le_mul_of_nonneg_left h2 (Rat.le_trans ha h1))
theorem le_absR (x : Rat) : x ≤ absR x := by unfold absR; split <;> grind
theorem neg_le_absR (x : Rat) : -absR x ≤ x := by unfold absR; split <;> grind
section
variable {a b : C}
theorem addC_spec (ha : finB a = true) (hb : finB b = true) :
    cSumBits .add .f32 a.1 a.2 b.1 b.2 = some ((addC a b).1, (addC a b).2) ∧ Rnd Ieee.single (val Ieee.single a.1 + val Ieee.single b.1) (addC a b).1 ∧ Rnd Ieee.single (val Ieee.single a.2 + val Ieee.single b.2) (addC a b).2 := by
  obtain ⟨a1, a2⟩ := finB_iff.1 ha
  obtain ⟨b1, b2⟩ := finB_iff.1 hb
  obtain ⟨r, e1, h1⟩ := add_spec a1 b1
  obtain ⟨s, e2, h2⟩ := add_spec a2 b2
  have f1 : (addC a b).1 = r := getD_some e1
  have f2 : (addC a b).2 = s := getD_some e2
  rw [f1, f2]
  refine ⟨?_, h1, h2⟩
  have e1' : floatBits .add .f32 a.1 b.1 = some r := e1
  have e2' : floatBits .add .f32 a.2 b.2 = some s := e2
  unfold cSumBits
  rw [e1', e2']; rfl
/-- The product of two words of single precision, in double precision: exact. -/
theorem m64_spec {x y : Nat} (hx : Fin Ieee.single x) (hy : Fin Ieee.single y) :
    floatBits .mul .f64 (wide x) (wide y) = some (m64 x y) ∧ Rnd Ieee.double (val Ieee.single x * val Ieee.single y) (m64 x y) ∧ Fin Ieee.double (m64 x y) := by
  have wx := wide_spec hx
  have wy := wide_spec hy
  obtain ⟨r, e, h⟩ := mul_spec wx.1 wy.1
  rw [wx.2, wy.2] at h
  have f : m64 x y = r := getD_some e
  rw [f]
  refine ⟨e, h, ?_⟩
  have v1 := val32_lt hx
  have v2 := val32_lt hy
  obtain ⟨z, hz, hvz⟩ := repr_ex Ieee.double (n := 1) (e := 256) (by decide) (by decide) (by
    have c1 : ((1 : Nat) : Rat) = 1 := rfl
    rw [inf64, c1, Rat.one_mul]
    have := p2_lt (show (256 : Int) < 1024 by decide)
    have := p2_pos 256
    grind)
  have c1 : ((1 : Nat) : Rat) = 1 := rfl
  rw [c1, Rat.one_mul] at hvz
  have e256 : p2 256 = p2 128 * p2 128 := by rw [← p2_add]; rfl
  have hp := p2_pos 128
  have key : absR (val Ieee.single x * val Ieee.single y) ≤ p2 128 * p2 128 := by
    rw [absR_mul]
    exact rmul_le (absR_nonneg _) (absR_nonneg _) (Rat.le_of_lt v1) (Rat.le_of_lt v2)
  exact (h.le hz (by rw [hvz, e256]; exact Rat.le_trans (le_absR _) key) (by rw [hvz, e256]; have := neg_le_absR (val Ieee.single x * val Ieee.single y); grind)).1
theorem le257 {q : Rat} {r : Nat} (h : Rnd Ieee.double q r) (h1 : absR q ≤ p2 257) : Fin Ieee.double r := by
  obtain ⟨z, hz, hvz⟩ := repr_ex Ieee.double (n := 1) (e := 257) (by decide) (by decide) (by
    have c1 : ((1 : Nat) : Rat) = 1 := rfl
    rw [inf64, c1, Rat.one_mul]
    have := p2_lt (show (257 : Int) < 1024 by decide)
    have := p2_pos 257
    grind)
  have c1 : ((1 : Nat) : Rat) = 1 := rfl
  rw [c1, Rat.one_mul] at hvz
  exact (h.le hz (by rw [hvz]; exact Rat.le_trans (le_absR _) h1) (by rw [hvz]; have := neg_le_absR q; grind)).1
theorem m64_le {x y : Nat} (hx : Fin Ieee.single x) (hy : Fin Ieee.single y) : absR (val Ieee.double (m64 x y)) ≤ p2 256 := by
  obtain ⟨_, h, _⟩ := m64_spec hx hy
  have v1 := val32_lt hx
  have v2 := val32_lt hy
  obtain ⟨z, hz, hvz⟩ := repr_ex Ieee.double (n := 1) (e := 256) (by decide) (by decide) (by
    have c1 : ((1 : Nat) : Rat) = 1 := rfl
    rw [inf64, c1, Rat.one_mul]
    have := p2_lt (show (256 : Int) < 1024 by decide)
    have := p2_pos 256
    grind)
  have c1 : ((1 : Nat) : Rat) = 1 := rfl
  rw [c1, Rat.one_mul] at hvz
  have e256 : p2 256 = p2 128 * p2 128 := by rw [← p2_add]; rfl
  have key : absR (val Ieee.single x * val Ieee.single y) ≤ p2 128 * p2 128 := by
    rw [absR_mul]
    exact rmul_le (absR_nonneg _) (absR_nonneg _) (Rat.le_of_lt v1) (Rat.le_of_lt v2)
  obtain ⟨_, l1, l2⟩ := h.le hz (by rw [hvz, e256]; exact Rat.le_trans (le_absR _) key) (by rw [hvz, e256]; have := neg_le_absR (val Ieee.single x * val Ieee.single y); grind)
  rw [hvz] at l1 l2
  exact absR_le l1 l2
theorem absR_add (x y : Rat) : absR (x + y) ≤ absR x + absR y := by unfold absR; split <;> split <;> split <;> grind
theorem absR_sub (x y : Rat) : absR (x - y) ≤ absR x + absR y := by unfold absR; split <;> split <;> split <;> grind
theorem p2_257 : p2 257 = p2 256 + p2 256 := by rw [show (257 : Int) = 256 + 1 from rfl, p2_succ]; grind
theorem re64_spec (ha : finB a = true) (hb : finB b = true) :
    floatBits .sub .f64 (m64 a.1 b.1) (m64 a.2 b.2) = some (re64 a b) ∧ Rnd Ieee.double (val Ieee.double (m64 a.1 b.1) - val Ieee.double (m64 a.2 b.2)) (re64 a b) ∧ Fin Ieee.double (re64 a b) := by
  obtain ⟨a1, a2⟩ := finB_iff.1 ha
  obtain ⟨b1, b2⟩ := finB_iff.1 hb
  obtain ⟨r, e, h⟩ := sub_spec (m64_spec a1 b1).2.2 (m64_spec a2 b2).2.2
  have f : re64 a b = r := getD_some e
  rw [f]
  refine ⟨e, h, le257 h ?_⟩
  have l1 := m64_le a1 b1
  have l2 := m64_le a2 b2
  have := absR_sub (val Ieee.double (m64 a.1 b.1)) (val Ieee.double (m64 a.2 b.2))
  rw [p2_257]; grind
theorem im64_spec (ha : finB a = true) (hb : finB b = true) :
    floatBits .add .f64 (m64 a.1 b.2) (m64 a.2 b.1) = some (im64 a b) ∧ Rnd Ieee.double (val Ieee.double (m64 a.1 b.2) + val Ieee.double (m64 a.2 b.1)) (im64 a b) ∧ Fin Ieee.double (im64 a b) := by
  obtain ⟨a1, a2⟩ := finB_iff.1 ha
  obtain ⟨b1, b2⟩ := finB_iff.1 hb
  obtain ⟨r, e, h⟩ := add_spec (m64_spec a1 b2).2.2 (m64_spec a2 b1).2.2
  have f : im64 a b = r := getD_some e
  rw [f]
  refine ⟨e, h, le257 h ?_⟩
  have l1 := m64_le a1 b2
  have l2 := m64_le a2 b1
  have := absR_add (val Ieee.double (m64 a.1 b.2)) (val Ieee.double (m64 a.2 b.1))
  rw [p2_257]; grind
theorem mulC_rnd (ha : finB a = true) (hb : finB b = true) : Rnd Ieee.single (val Ieee.double (re64 a b)) (mulC a b).1 ∧ Rnd Ieee.single (val Ieee.double (im64 a b)) (mulC a b).2 :=
  ⟨narrow_spec (re64_spec ha hb).2.2, narrow_spec (im64_spec ha hb).2.2⟩
theorem run_cconv (P : Program) (w : World) {s k : FloatKind} {x r : Nat} (hne : s ≠ k) (h : floatToFloatBits s x k = some r) : (Op.Complex.conv s x k).run P w = .ok r w := by
  simp [Op.Complex.conv, hne, run_floatToFloat w h]
/-- The product, run. -/
theorem mulC_run (P : Program) (t : TypeId) (ha : finB a = true) (hb : finB b = true) (hm : finB (mulC a b) = true) (w : World) :
    (binOp .mul t (.complex .f32 a.1 a.2) (.complex .f32 b.1 b.2)).run P w = .ok (.complex .f32 (mulC a b).1 (mulC a b).2) w := by
  obtain ⟨a1, a2⟩ := finB_iff.1 ha
  obtain ⟨b1, b2⟩ := finB_iff.1 hb
  obtain ⟨m1, m2⟩ := finB_iff.1 hm
  have n1 : floatToFloatBits .f64 (re64 a b) .f32 = some (mulC a b).1 := conv_narrow (re64_spec ha hb).2.2 m1
  have n2 : floatToFloatBits .f64 (im64 a b) .f32 = some (mulC a b).2 := conv_narrow (im64_spec ha hb).2.2 m2
  have x1 := (m64_spec a1 b1).1
  have x2 := (m64_spec a2 b2).1
  have x3 := (m64_spec a1 b2).1
  have x4 := (m64_spec a2 b1).1
  have x5 := (re64_spec ha hb).1
  have x6 := (im64_spec ha hb).1
  simp [binOp, Op.complexOp, Op.Complex.product, Op.Complex.mul, Op.Complex.sub, Op.Complex.add, run_cconv P w (by decide) (conv_wide a1), run_cconv P w (by decide) (conv_wide a2), run_cconv P w (by decide) (conv_wide b1), run_cconv P w (by decide) (conv_wide b2), run_carith w x1, run_carith w x2, run_carith w x3, run_carith w x4, run_carith w x5, run_carith w x6, run_cconv P w (by decide) n1, run_cconv P w (by decide) n2]
theorem addC_run (P : Program) (t : TypeId) (ha : finB a = true) (hb : finB b = true) (w : World) :
    (binOp .add t (.complex .f32 a.1 a.2) (.complex .f32 b.1 b.2)).run P w = .ok (.complex .f32 (addC a b).1 (addC a b).2) w :=
  run_complex_sum w .add (.inl rfl) t .f32 a.1 a.2 b.1 b.2 _ _ (addC_spec ha hb).1
end
end Go.Proofs.YtnomlkkhkacajaaGreatDoor
namespace Go.Proofs.YtnomlkkhkacajaaGreatDoor
open Go.RowKit

theorem rnd_pow {q : Rat} {r : Nat} {E : Int} (h : Rnd Ieee.double q r) (h1 : q ≤ p2 E) (h2 : -p2 E ≤ q) (h3 : E < 1024) (h4 : -1074 ≤ E) : Fin Ieee.double r ∧ val Ieee.double r ≤ p2 E ∧ -p2 E ≤ val Ieee.double r := by
  obtain ⟨z, hz, hvz⟩ := repr_ex Ieee.double (n := 1) (e := E) (by decide) (by show (-1074 : Int) ≤ E; exact h4) (by
    have c1 : ((1 : Nat) : Rat) = 1 := rfl
    rw [inf64, c1, Rat.one_mul]
    have := p2_lt h3
    have := p2_pos E
    grind)
  have c1 : ((1 : Nat) : Rat) = 1 := rfl
  rw [c1, Rat.one_mul] at hvz
  have := h.le hz (by rw [hvz]; exact h1) (by rw [hvz]; exact h2)
  rw [hvz] at this
  exact this
theorem rnd_ex {f : Ieee.Format} {x : Nat} (h : Fin f x) : ∃ r, Rnd f (val f x) r ∧ val f r = val f x := by
  obtain ⟨m, p, _, e⟩ := read_fin f h
  have hr : Rnd f (val f x) (f.nearest (sg f x) m p) := ⟨sg f x, m, p, rfl, by rw [e]; rfl⟩
  exact ⟨_, hr, (hr.exact (t := sg f x) (z := rg f x) h rfl).2⟩
theorem Rnd.ge {f : Ieee.Format} {q : Rat} {r x : Nat} (h : Rnd f q r) (hx : Fin f x) (hq : val f x ≤ q) : val f x ≤ val f r := by
  obtain ⟨y, hy, e⟩ := rnd_ex hx
  rw [← e]
  exact hy.mono h hq
/-- A power: finite, and at least 0. -/
def PwOk (x : Nat) : Prop := Fin Ieee.double x ∧ 0 ≤ val Ieee.double x ∧ val Ieee.double x ≤ p2 258
theorem m64_sq {x : Nat} (h : Fin Ieee.single x) : Fin Ieee.double (m64 x x) ∧ 0 ≤ val Ieee.double (m64 x x) ∧ val Ieee.double (m64 x x) ≤ p2 256 := by
  obtain ⟨_, r, f⟩ := m64_spec h h
  have l := m64_le h h
  have g := r.ge (x := 0) (fin_zero Ieee.double (by decide)).1 (by
    rw [zero64.2]
    rcases (Rat.le_total : 0 ≤ val Ieee.single x ∨ val Ieee.single x ≤ 0) with h0 | h0
    · exact Rat.mul_nonneg h0 h0
    · have := Rat.mul_nonneg (show 0 ≤ -val Ieee.single x by grind) (show 0 ≤ -val Ieee.single x by grind); grind)
  rw [zero64.2] at g
  exact ⟨f, g, Rat.le_trans (le_absR _) l⟩
def pwI (z : C) : Nat := (Ieee.double.add (m64 z.1 z.1) (m64 z.2 z.2)).getD 0
def pwA (z : C) : Nat := (Ieee.double.add 0 (m64 z.1 z.1)).getD 0
def pwS (z : C) : Nat := (Ieee.double.add (pwA z) (m64 z.2 z.2)).getD 0
theorem pwI_spec {z : C} (h : finB z = true) : floatBits .add .f64 (m64 z.1 z.1) (m64 z.2 z.2) = some (pwI z) ∧ PwOk (pwI z) ∧ Rnd Ieee.double (val Ieee.double (m64 z.1 z.1) + val Ieee.double (m64 z.2 z.2)) (pwI z) := by
  obtain ⟨f1, f2⟩ := finB_iff.1 h
  obtain ⟨a1, a2, a3⟩ := m64_sq f1
  obtain ⟨b1, b2, b3⟩ := m64_sq f2
  obtain ⟨r, e, hr⟩ := add_spec a1 b1
  have hf : pwI z = r := getD_some e
  have e258 : p2 258 = 4 * p2 256 := by rw [show (258 : Int) = 256 + 1 + 1 from rfl, p2_succ, p2_succ]; grind
  have hp := p2_pos 256
  obtain ⟨g1, g2, _⟩ := rnd_pow (E := 258) hr (by grind) (by grind) (by decide) (by decide)
  have g := hr.ge (x := 0) (fin_zero Ieee.double (by decide)).1 (by rw [zero64.2]; grind)
  rw [zero64.2] at g
  rw [hf]
  exact ⟨e, ⟨g1, g, g2⟩, hr⟩
theorem pwS_spec {z : C} (h : finB z = true) : floatBits .add .f64 0 (m64 z.1 z.1) = some (pwA z) ∧ floatBits .add .f64 (pwA z) (m64 z.2 z.2) = some (pwS z) ∧ PwOk (pwS z) ∧ val Ieee.double (pwS z) = val Ieee.double (pwI z) := by
  obtain ⟨f1, f2⟩ := finB_iff.1 h
  obtain ⟨a1, a2, a3⟩ := m64_sq f1
  obtain ⟨b1, b2, b3⟩ := m64_sq f2
  obtain ⟨r0, e0, hr0⟩ := add_spec zero64.1 a1
  have hf0 : pwA z = r0 := getD_some e0
  rw [zero64.2, show (0 : Rat) + val Ieee.double (m64 z.1 z.1) = val Ieee.double (m64 z.1 z.1) by grind] at hr0
  obtain ⟨d1, d2⟩ := hr0.exact (t := sg Ieee.double (m64 z.1 z.1)) (z := rg Ieee.double (m64 z.1 z.1)) a1 rfl
  obtain ⟨r, e, hr⟩ := add_spec d1 b1
  have hf : pwS z = r := by unfold pwS; rw [hf0]; exact getD_some e
  rw [d2] at hr
  obtain ⟨_, ⟨i1, i2, i3⟩, hi⟩ := pwI_spec h
  have hv := hr.uniq hi
  have e258 : p2 258 = 4 * p2 256 := by rw [show (258 : Int) = 256 + 1 + 1 from rfl, p2_succ, p2_succ]; grind
  have hp := p2_pos 256
  obtain ⟨g1, g2, _⟩ := rnd_pow (E := 258) hr (by grind) (by grind) (by decide) (by decide)
  rw [hf, hf0]
  exact ⟨e0, e, ⟨g1, by rw [hv]; exact i2, g2⟩, hv⟩
/-- The sum of the first powers. -/
def smT (ps : Nat → Nat) : Nat → Nat
  | 0 => 0
  | i + 1 => (Ieee.double.add (smT ps i) (ps i)).getD 0
theorem smT_step {ps : Nat → Nat} {i : Nat} (hs : Fin Ieee.double (smT ps i)) (hp : Fin Ieee.double (ps i)) : floatBits .add .f64 (smT ps i) (ps i) = some (smT ps (i + 1)) ∧ Rnd Ieee.double (val Ieee.double (smT ps i) + val Ieee.double (ps i)) (smT ps (i + 1)) := by
  obtain ⟨r, e, hr⟩ := add_spec hs hp
  have hf : smT ps (i + 1) = r := getD_some e
  rw [hf]; exact ⟨e, hr⟩
theorem smT_ok {ps : Nat → Nat} {n : Nat} (hn : n ≤ 16) (h : ∀ i, i < n → PwOk (ps i)) : ∀ i, i ≤ n → Fin Ieee.double (smT ps i) ∧ 0 ≤ val Ieee.double (smT ps i) ∧ val Ieee.double (smT ps i) ≤ p2 (258 + i)
  | 0, _ => ⟨zero64.1, by show 0 ≤ val Ieee.double 0; rw [zero64.2]; exact Rat.le_refl, by show val Ieee.double 0 ≤ _; rw [zero64.2]; exact Rat.le_of_lt (p2_pos _)⟩
  | i + 1, hi => by
    obtain ⟨s1, s2, s3⟩ := smT_ok hn h i (by omega)
    obtain ⟨q1, q2, q3⟩ := h i (by omega)
    obtain ⟨_, hr⟩ := smT_step s1 q1
    have e1 : p2 (258 + ((i + 1 : Nat) : Int)) = 2 * p2 (258 + (i : Int)) := by rw [← p2_succ]; congr 1
    have e2 : p2 258 ≤ p2 (258 + (i : Int)) := p2_mono (by omega)
    have hpp := p2_pos (258 + (i : Int))
    obtain ⟨g1, g2, _⟩ := rnd_pow (E := 258 + ((i + 1 : Nat) : Int)) hr (by rw [e1]; grind) (by rw [e1]; grind) (by omega) (by omega)
    have g := hr.ge (x := 0) zero64.1 (by rw [zero64.2]; grind)
    rw [zero64.2] at g
    exact ⟨g1, g, g2⟩
/-- What is compared. -/
def mw (p : Nat) : Nat := (Ieee.double.mul p 4652007308841189376).getD 0
def tw (s : Nat) (m : Int) : Nat := (Ieee.double.mul s (floatOfInt .f64 m)).getD 0
theorem p2_10 : p2 10 = 1024 := by rw [show (10 : Int) = ((10 : Nat) : Int) from rfl, p2_nat]; rfl
theorem mw_spec {p : Nat} (h : PwOk p) : floatBits .mul .f64 p 4652007308841189376 = some (mw p) ∧ Fin Ieee.double (mw p) ∧ Rnd Ieee.double (val Ieee.double p * 1000) (mw p) := by
  obtain ⟨h1, h2, h3⟩ := h
  obtain ⟨r, e, hr⟩ := mul_spec h1 k1000.1
  have hf : mw p = r := getD_some e
  rw [k1000.2] at hr
  have c : ((1000 : Int) : Rat) = 1000 := rfl
  rw [c] at hr
  have e268 : p2 268 = 1024 * p2 258 := by rw [← p2_10, ← p2_add]; rfl
  have hp := p2_pos 258
  have := rnd_pow (E := 268) hr (by rw [e268]; grind) (by rw [e268]; grind) (by decide) (by decide)
  rw [hf]; exact ⟨e, this.1, hr⟩
theorem tw_spec {s : Nat} {m : Int} (h1 : Fin Ieee.double s) (h2 : 0 ≤ val Ieee.double s) (h3 : val Ieee.double s ≤ p2 274) (m0 : 0 ≤ m) (m1 : m ≤ 1000) : floatBits .mul .f64 s (floatOfInt .f64 m) = some (tw s m) ∧ Fin Ieee.double (tw s m) ∧ Rnd Ieee.double (val Ieee.double s * (m : Rat)) (tw s m) := by
  have hw := int_whl (n := m) (by omega)
  obtain ⟨r, e, hr⟩ := mul_spec h1 hw.1
  have hf : tw s m = r := getD_some e
  rw [hw.2] at hr
  have c1 : ((0 : Int) : Rat) ≤ (m : Rat) := Rat.intCast_le_intCast.2 m0
  have c2 : (m : Rat) ≤ ((1000 : Int) : Rat) := Rat.intCast_le_intCast.2 m1
  have c3 : ((0 : Int) : Rat) = 0 := rfl
  have c4 : ((1000 : Int) : Rat) = 1000 := rfl
  rw [c3] at c1
  rw [c4] at c2
  have e284 : p2 284 = 1024 * p2 274 := by rw [← p2_10, ← p2_add]; rfl
  have hp := p2_pos 274
  have k1 := Rat.mul_nonneg h2 c1
  have k2 := rmul_le h2 c1 h3 c2
  have := rnd_pow (E := 284) hr (by rw [e284]; grind) (by rw [e284]; grind) (by decide) (by decide)
  rw [hf]; exact ⟨e, this.1, hr⟩
def tonI (ps : Nat → Nat) (n : Nat) (m : Int) (k : Nat) : Bool := FloatKind.f64.format.order (mw (ps k)) (tw (smT ps n) m) == some .gt
theorem sm_274 {ps : Nat → Nat} {n : Nat} (hn : n ≤ 16) (h : ∀ i, i < n → PwOk (ps i)) : Fin Ieee.double (smT ps n) ∧ 0 ≤ val Ieee.double (smT ps n) ∧ val Ieee.double (smT ps n) ≤ p2 274 := by
  obtain ⟨a, b, c⟩ := smT_ok hn h n (Nat.le_refl _)
  exact ⟨a, b, Rat.le_trans c (p2_mono (by omega))⟩
theorem tonI_iff {ps : Nat → Nat} {n k : Nat} {m : Int} (hn : n ≤ 16) (h : ∀ i, i < n → PwOk (ps i)) (hk : k < n) (m0 : 0 ≤ m) (m1 : m ≤ 1000) : tonI ps n m k = decide (val Ieee.double (tw (smT ps n) m) < val Ieee.double (mw (ps k))) := by
  obtain ⟨a, b, c⟩ := sm_274 hn h
  exact gt_iff (f := Ieee.double) (mw_spec (h k hk)).2.1 (tw_spec a b c m0 m1).2.1
theorem sm_same {ps qs : Nat → Nat} {n : Nat} (hn : n ≤ 16) (h : ∀ i, i < n → PwOk (ps i)) (h' : ∀ i, i < n → PwOk (qs i)) (he : ∀ i, i < n → val Ieee.double (ps i) = val Ieee.double (qs i)) : ∀ i, i ≤ n → val Ieee.double (smT ps i) = val Ieee.double (smT qs i)
  | 0, _ => rfl
  | i + 1, hi => by
    have ih := sm_same hn h h' he i (by omega)
    obtain ⟨_, r1⟩ := smT_step (smT_ok hn h i (by omega)).1 (h i (by omega)).1
    obtain ⟨_, r2⟩ := smT_step (smT_ok hn h' i (by omega)).1 (h' i (by omega)).1
    rw [ih, he i (by omega)] at r1
    exact r1.uniq r2
theorem tonI_same {ps qs : Nat → Nat} {n k : Nat} {m : Int} (hn : n ≤ 16) (h : ∀ i, i < n → PwOk (ps i)) (h' : ∀ i, i < n → PwOk (qs i)) (he : ∀ i, i < n → val Ieee.double (ps i) = val Ieee.double (qs i)) (hk : k < n) (m0 : 0 ≤ m) (m1 : m ≤ 1000) : tonI ps n m k = tonI qs n m k := by
  rw [tonI_iff hn h hk m0 m1, tonI_iff hn h' hk m0 m1]
  obtain ⟨a, b, c⟩ := sm_274 hn h
  obtain ⟨a', b', c'⟩ := sm_274 hn h'
  have r1 := (mw_spec (h k hk)).2.2
  have r2 := (mw_spec (h' k hk)).2.2
  rw [he k hk] at r1
  have r3 := (tw_spec a b c m0 m1).2.2
  have r4 := (tw_spec a' b' c' m0 m1).2.2
  rw [sm_same hn h h' he n (Nat.le_refl _)] at r3
  rw [r1.uniq r2, r3.uniq r4]
def b2i (b : Bool) : Int := if b then 1 else 0
/-- How many are great. -/
def cnt (f : Nat → Bool) : Nat → Int
  | 0 => 0
  | i + 1 => cnt f i + b2i (f i)
end Go.Proofs.YtnomlkkhkacajaaGreatDoor
namespace Go.Proofs.YtnomlkkhkacajaaGreatDoor
open Go.RowKit

def turnA : Array Value := #[.complex .f32 1065353216 0, .complex .f32 1064076126 1053028117, .complex .f32 1060439283 1060439283, .complex .f32 1053028117 1064076126, .complex .f32 0 1065353216, .complex .f32 3200511765 1064076126, .complex .f32 3207922931 1060439283, .complex .f32 3211559774 1053028117, .complex .f32 3212836864 0, .complex .f32 3211559774 3200511765, .complex .f32 3207922931 3207922931, .complex .f32 3200511765 3211559774, .complex .f32 0 3212836864, .complex .f32 1053028117 3211559774, .complex .f32 1060439283 3207922931, .complex .f32 1064076126 3200511765]
def turnL : List C := [(1065353216, 0), (1064076126, 1053028117), (1060439283, 1060439283), (1053028117, 1064076126), (0, 1065353216), (3200511765, 1064076126), (3207922931, 1060439283), (3211559774, 1053028117), (3212836864, 0), (3211559774, 3200511765), (3207922931, 3207922931), (3200511765, 3211559774), (0, 3212836864), (1053028117, 3211559774), (1060439283, 3207922931), (1064076126, 3200511765)]
theorem turnA_get (j : Nat) (h : j < 16) : turnA[j]? = some (.complex .f32 (nth turnL j).1 (nth turnL j).2) := by
  have : j = 0 ∨ j = 1 ∨ j = 2 ∨ j = 3 ∨ j = 4 ∨ j = 5 ∨ j = 6 ∨ j = 7 ∨ j = 8 ∨ j = 9 ∨ j = 10 ∨ j = 11 ∨ j = 12 ∨ j = 13 ∨ j = 14 ∨ j = 15 := by omega
  rcases this with rfl | rfl | rfl | rfl | rfl | rfl | rfl | rfl | rfl | rfl | rfl | rfl | rfl | rfl | rfl | rfl <;> rfl
/-- The turn by so many sixteenths. -/
def turnC (k : Int) : C := if inB k (-9999) 9999 then nth turnL (k % 16).toNat else (0, 0)
theorem tmod_neg {n : Int} (h : n < 0) : n.tmod 16 = -((-n) % 16) := by
  obtain ⟨m, rfl⟩ : ∃ m : Int, n = -m := ⟨-n, by omega⟩
  rw [Int.neg_tmod, Int.tmod_eq_emod_of_nonneg (by omega), Int.neg_neg]
theorem rem_any (n : Int) (w : World) (h1 : -9999 ≤ n) (h2 : n ≤ 9999) : Calls Tryz.prog 137 #[.int .i64 n, .int .i64 16] w fun e w' => e = .returned (.int .i64 (n % 16)) ∧ w' = w := by
  by_cases hn : 0 ≤ n
  · have h0 := Int.emod_nonneg n (show (16 : Int) ≠ 0 by decide)
    go_enter Tryz.func137, Tryz.ntmps137
    go_wp2_with fail
    go_ret
    exact ⟨rfl, rfl⟩
  · obtain ⟨t, ht⟩ : ∃ t, t = n.tmod 16 := ⟨_, rfl⟩
    have et : n.tmod 16 = t := ht.symm
    rw [tmod_neg (by omega)] at ht
    by_cases h0 : t < 0
    · have e1 : IntKind.i64.wrap (t + 16) = t + 16 := IntWalk.i64_in _ (by omega)
      have HE : Hid (t + 16 = n % 16) := by show _ = _; omega
      clear ht
      go_enter Tryz.func137, Tryz.ntmps137
      go_wp2_with fail
      go_ret
      exact ⟨ret_int HE.out, rfl⟩
    · have HE : Hid (t = n % 16) := by show _ = _; omega
      clear ht
      go_enter Tryz.func137, Tryz.ntmps137
      go_wp2_with fail
      go_ret
      exact ⟨ret_int HE.out, rfl⟩
/-- A number, in memory of the call's own or not: what lies below stays. -/
def RetQ (w : World) (z : C) (e : Ending) (w' : World) : Prop := e = .returned (cv z) ∧ Below w.heap.size w w'
theorem turnA_cell {w w2 : World} (E : TypeId) (h : Below (w.heap.size + 1) (w.alloc (.cells turnA E)) w2) {j : Nat} (hj : j < 16) :
    w2.cell? ⟨w.heap.size, j, none⟩ = some (.complex .f32 (nth turnL j).1 (nth turnL j).2) := by
  rw [h.cell (p := ⟨w.heap.size, j, none⟩) (by simp), World.cell?_alloc_at _ _ _ _ rfl]
  exact turnA_get j hj
theorem table_any (w : World) : Calls Tryz.prog 150 #[] w fun e w' => e = .returned (.slice (some ⟨w.heap.size, 0, none⟩) 16 16) ∧ w' = w.alloc (.cells turnA 73) := by
  go_enter Tryz.func150, Tryz.ntmps150
  go_wp2_with fail
  go_ret
  exact ⟨rfl, rfl⟩
set_option maxHeartbeats 1000000 in
theorem sTurn (k : Int) (w : World) : Calls Tryz.prog 130 #[.int .i64 k] w (RetQ w (turnC k)) := by
  by_cases hb : inB k (-9999) 9999 = true
  · obtain ⟨b1, b2⟩ := inB_iff.1 hb
    obtain ⟨t, ht⟩ : ∃ t, t = k.tmod 16 := ⟨_, rfl⟩
    have et : k.tmod 16 = t := ht.symm
    have ht2 : t = k % 16 ∨ t = k % 16 - 16 := by
      by_cases hn : 0 ≤ k
      · rw [Int.tmod_eq_emod_of_nonneg hn] at ht; omega
      · rw [tmod_neg (by omega)] at ht; omega
    have m1 := Int.emod_nonneg k (show (16 : Int) ≠ 0 by decide)
    have m2 := Int.emod_lt_of_pos k (show (0 : Int) < 16 by decide)
    obtain ⟨j, hj⟩ := Int.eq_ofNat_of_zero_le m1
    have hj16 : j < 16 := by omega
    have e1 : IntKind.i64.wrap (t + 16) = t + 16 := IntWalk.i64_in _ (by omega)
    have e2 : (t + 16) % 16 = (j : Int) := by omega
    have e3 : 0 ≤ t + 16 := by omega
    have e4 : (j : Int) < 16 := by omega
    have hc := turnA_cell 73 (Below.refl _ (w.alloc (.cells turnA 73))) hj16
    have HT : Hid (turnC k = nth turnL j) := by show _ = _; unfold turnC; rw [hb, hj]; rfl
    clear ht ht2 m1 m2 hj
    generalize nth turnL j = z at *
    go_enter Tryz.func130, Tryz.ntmps130
    go_wp2_with fail
    refine (l1In_any _ _ _ _).mono ?_
    rw [hb]
    rintro e w' ⟨rfl, rfl⟩
    go_wp2_with fail
    refine (table_any _).mono ?_
    rintro e w1 ⟨rfl, hw⟩
    rw [← hw] at hc
    have HW := Lib.hid hw
    clear hw
    go_wp2_with fail
    go_ret
    unfold RetQ
    rw [HT.out]
    exact ⟨rfl, by rw [HW.out]; exact below_alloc _ _⟩
  · have hb' : inB k (-9999) 9999 = false := by simpa using hb
    have HT : Hid (turnC k = (0, 0)) := by show _ = _; unfold turnC; rw [hb']; rfl
    clear hb
    go_enter Tryz.func130, Tryz.ntmps130
    go_wp2_with fail
    refine (l1In_any _ _ _ _).mono ?_
    rw [hb']
    rintro e w' ⟨rfl, rfl⟩
    go_wp2_with fail
    go_ret
    unfold RetQ
    rw [HT.out]
    exact ⟨rfl, Below.refl _ _⟩
set_option maxHeartbeats 1000000 in
theorem iTurn (k : Int) (w : World) : Calls Tryz.prog 148 #[.int .i64 k] w (RetQ w (turnC k)) := by
  by_cases hb : inB k (-9999) 9999 = true
  · obtain ⟨b1, b2⟩ := inB_iff.1 hb
    have m1 := Int.emod_nonneg k (show (16 : Int) ≠ 0 by decide)
    have m2 := Int.emod_lt_of_pos k (show (0 : Int) < 16 by decide)
    obtain ⟨j, hj⟩ := Int.eq_ofNat_of_zero_le m1
    have hj16 : j < 16 := by omega
    have e4 : (j : Int) < 16 := by omega
    have HT : Hid (turnC k = nth turnL j) := by show _ = _; unfold turnC; rw [hb, hj]; rfl
    have HJ := Lib.hid hj
    clear m1 m2 hj hb
    go_enter Tryz.func148, Tryz.ntmps148
    go_wp2_with fail
    refine (rem_any k _ b1 b2).mono ?_
    rw [HJ.out]
    rintro e w1 ⟨rfl, hw⟩
    have hw' : w1 = w.alloc (.cells turnA 174) := hw
    have hc := turnA_cell 174 (Below.refl _ (w.alloc (.cells turnA 174))) hj16
    rw [← hw'] at hc
    have HW := Lib.hid hw'
    clear hw hw'
    generalize nth turnL j = z at *
    go_wp2_with fail
    go_ret
    unfold RetQ
    rw [HT.out]
    exact ⟨rfl, by rw [HW.out]; exact below_alloc _ _⟩
  · have hb' : inB k (-9999) 9999 = false := by simpa using hb
    have HT : Hid (turnC k = (0, 0)) := by show _ = _; unfold turnC; rw [hb']; rfl
    clear hb
    rcases inB_false_iff.1 hb' with h | h
    all_goals
      clear hb'
      go_enter Tryz.func148, Tryz.ntmps148
      go_wp2_with fail
      go_ret
      unfold RetQ
      rw [HT.out]
      exact ⟨rfl, Below.refl _ _⟩
end Go.Proofs.YtnomlkkhkacajaaGreatDoor
