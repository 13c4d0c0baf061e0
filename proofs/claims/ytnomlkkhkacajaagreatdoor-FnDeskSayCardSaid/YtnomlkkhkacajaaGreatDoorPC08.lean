/- Texts on the way to a law (M3, W1, W2, E1, E2, G1, G2), each with its own remark. -/
import Derived.Test.YtnomlkkhkacajaaGreatDoorPC07
import Derived.Laws.ComplexQuo
import Derived.Test.YtnomlkkhkacajaaGreatDoorPC04
namespace Go.Proofs.YtnomlkkhkacajaaGreatDoor
open Go.RowKit

/-- The words of a power of two, and what the quotient asks of them. -/
structure P2W (c32 c : Nat) (n : Int) : Prop where
  fin : Fin Ieee.single c32
  wid : floatToFloatBits .f32 c32 .f64 = some c
  whl : Whl Ieee.double c n
  pos : 1 ≤ n
  rd : ∃ t j, Ieee.double.read c = .number t 4503599627370496 j
  rat : floatBits .quo .f64 0 c = some 0
  den : floatBits .add .f64 c 0 = some c
  ge : (FloatKind.f64.format.order (Op.Complex.abs c) (Op.Complex.abs 0) == some .gt || FloatKind.f64.format.order (Op.Complex.abs c) (Op.Complex.abs 0) == some .eq) = true
  ne : (FloatKind.f64.format.order c 0 == some .eq) = false
theorem p2w_1 : P2W 1065353216 4607182418800017408 1 := ⟨by unfold Fin; decide, by kernel_rfl, by have h := int_whl (n := 1) (by decide); rwa [show floatOfInt .f64 1 = 4607182418800017408 by decide] at h, by decide, ⟨false, -52, by kernel_rfl⟩, by kernel_rfl, by kernel_rfl, by kernel_rfl, by kernel_rfl⟩
theorem p2w_2 : P2W 1073741824 4611686018427387904 2 := ⟨by unfold Fin; decide, by kernel_rfl, by have h := int_whl (n := 2) (by decide); rwa [show floatOfInt .f64 2 = 4611686018427387904 by decide] at h, by decide, ⟨false, -51, by kernel_rfl⟩, by kernel_rfl, by kernel_rfl, by kernel_rfl, by kernel_rfl⟩
theorem p2w_4 : P2W 1082130432 4616189618054758400 4 := ⟨by unfold Fin; decide, by kernel_rfl, by have h := int_whl (n := 4) (by decide); rwa [show floatOfInt .f64 4 = 4616189618054758400 by decide] at h, by decide, ⟨false, -50, by kernel_rfl⟩, by kernel_rfl, by kernel_rfl, by kernel_rfl, by kernel_rfl⟩
theorem p2w_8 : P2W 1090519040 4620693217682128896 8 := ⟨by unfold Fin; decide, by kernel_rfl, by have h := int_whl (n := 8) (by decide); rwa [show floatOfInt .f64 8 = 4620693217682128896 by decide] at h, by decide, ⟨false, -49, by kernel_rfl⟩, by kernel_rfl, by kernel_rfl, by kernel_rfl, by kernel_rfl⟩
theorem p2w_16 : P2W 1098907648 4625196817309499392 16 := ⟨by unfold Fin; decide, by kernel_rfl, by have h := int_whl (n := 16) (by decide); rwa [show floatOfInt .f64 16 = 4625196817309499392 by decide] at h, by decide, ⟨false, -48, by kernel_rfl⟩, by kernel_rfl, by kernel_rfl, by kernel_rfl, by kernel_rfl⟩

theorem mul_zero64 {x : Nat} (h : Fin Ieee.double x) : ∃ r, floatBits .mul .f64 x 0 = some r ∧ Fin Ieee.double r ∧ val Ieee.double r = 0 := by
  obtain ⟨r, e, hr⟩ := mul_spec h zero64.1
  have h0 : val Ieee.double x * val Ieee.double 0 = 0 := by rw [zero64.2]; grind
  have := hr.exact (t := false) (z := 0) (by decide) (by rw [rv_zero, h0]; rfl)
  exact ⟨r, e, this.1, by rw [this.2]; exact h0⟩
theorem rnd_self {f : Ieee.Format} {x r : Nat} (h : Fin f x) (hr : Rnd f (val f x) r) : Fin f r ∧ val f r = val f x :=
  hr.exact (t := sg f x) (z := rg f x) h rfl
/-- One part of the quotient. -/
theorem part_quot {x y c : Nat} {n : Int} {c32 : Nat} (hc : P2W c32 c n) (hx : Fin Ieee.single x) (hy : Fin Ieee.single y) :
    ∃ z a b e f, floatBits .mul .f64 (wide y) 0 = some z ∧ floatBits .add .f64 (wide x) z = some a ∧ floatBits .sub .f64 (wide x) z = some b ∧ floatBits .quo .f64 a c = some e ∧ floatBits .quo .f64 b c = some f ∧
      Rnd Ieee.double (val Ieee.single x / (n : Rat)) e ∧ Rnd Ieee.double (val Ieee.single x / (n : Rat)) f := by
  have wx := wide_spec hx
  have wy := wide_spec hy
  obtain ⟨z, ez, fz, vz⟩ := mul_zero64 wy.1
  obtain ⟨a, ea, ha⟩ := add_spec wx.1 fz
  obtain ⟨b, eb, hb⟩ := sub_spec wx.1 fz
  rw [vz, show val Ieee.double (Ieee.double.write (Ieee.single.read x)) + 0 = val Ieee.double (Ieee.double.write (Ieee.single.read x)) by grind] at ha
  rw [vz, show val Ieee.double (Ieee.double.write (Ieee.single.read x)) - 0 = val Ieee.double (Ieee.double.write (Ieee.single.read x)) by grind] at hb
  obtain ⟨fa, va⟩ := rnd_self wx.1 ha
  obtain ⟨fb, vb⟩ := rnd_self wx.1 hb
  obtain ⟨t, j, hr⟩ := hc.rd
  obtain ⟨e, ee, he⟩ := quot_pow fa hc.whl.1 t j hr
  obtain ⟨f, ef, hf⟩ := quot_pow fb hc.whl.1 t j hr
  rw [va, wx.2, hc.whl.2] at he
  rw [vb, wx.2, hc.whl.2] at hf
  exact ⟨z, a, b, e, f, ez, ea, eb, ee, ef, he, hf⟩
theorem div_absR {v : Rat} {n : Int} (hn : 1 ≤ n) : absR (v / (n : Rat)) ≤ absR v := by
  have h1 : ((1 : Int) : Rat) ≤ (n : Rat) := Rat.intCast_le_intCast.2 hn
  have c1 : ((1 : Int) : Rat) = 1 := rfl
  rw [c1] at h1
  obtain ⟨q, hq⟩ : ∃ q, q = v / (n : Rat) := ⟨_, rfl⟩
  have hv : q * (n : Rat) = v := by rw [hq]; exact Rat.div_mul_cancel (by grind)
  rw [← hq, ← hv, absR_mul]
  have h2 := absR_nonneg q
  have h3 : (1 : Rat) ≤ absR (n : Rat) := by unfold absR; split <;> grind
  have := Rat.mul_le_mul_of_nonneg_left h3 h2
  grind
/-- No quotient is farther off than the number. -/
theorem quot_fin {x e : Nat} {n : Int} (hn : 1 ≤ n) (hx : Fin Ieee.single x) (he : Rnd Ieee.double (val Ieee.single x / (n : Rat)) e) : Fin Ieee.double e ∧ Fin Ieee.single (narrow e) := by
  have wx := wide_spec hx
  have hv := div_absR (v := val Ieee.single x) hn
  have hvd : absR (val Ieee.single x) = rv Ieee.double (rg Ieee.double (Ieee.double.write (Ieee.single.read x))) := by
    rw [← wx.2]
    have hn := rv_nonneg Ieee.double (rg Ieee.double (Ieee.double.write (Ieee.single.read x)))
    unfold val
    cases sg Ieee.double (Ieee.double.write (Ieee.single.read x))
    · rw [sr_false]; unfold absR; rw [if_neg (by grind)]
    · rw [sr_true]; unfold absR; split <;> grind
  have hvs : absR (val Ieee.single x) = rv Ieee.single (rg Ieee.single x) := by
    have hn := rv_nonneg Ieee.single (rg Ieee.single x)
    unfold val
    cases sg Ieee.single x
    · rw [sr_false]; unfold absR; rw [if_neg (by grind)]
    · rw [sr_true]; unfold absR; split <;> grind
  obtain ⟨fe, l1, l2⟩ := he.le wx.1 (by rw [← hvd]; exact Rat.le_trans (le_absR _) hv) (by rw [← hvd]; have := neg_le_absR (val Ieee.single x / (n : Rat)); grind)
  rw [← hvd, hvs] at l1 l2
  exact ⟨fe, ((narrow_spec fe).le hx l1 l2).1⟩
def qe64 (a : C) (c : Nat) : Nat := (Ieee.double.div ((Ieee.double.add (wide a.1) ((Ieee.double.mul (wide a.2) 0).getD 0)).getD 0) c).getD 0
def qf64 (a : C) (c : Nat) : Nat := (Ieee.double.div ((Ieee.double.sub (wide a.2) ((Ieee.double.mul (wide a.1) 0).getD 0)).getD 0) c).getD 0
def quoC (a : C) (c : Nat) : C := (narrow (qe64 a c), narrow (qf64 a c))
theorem quoC_rnd {a : C} {c32 c : Nat} {n : Int} (hc : P2W c32 c n) (ha : finB a = true) :
    finB (quoC a c) = true ∧ Rnd Ieee.double (val Ieee.single a.1 / (n : Rat)) (qe64 a c) ∧ Rnd Ieee.double (val Ieee.single a.2 / (n : Rat)) (qf64 a c) ∧ Rnd Ieee.single (val Ieee.double (qe64 a c)) (quoC a c).1 ∧ Rnd Ieee.single (val Ieee.double (qf64 a c)) (quoC a c).2 := by
  obtain ⟨a1, a2⟩ := finB_iff.1 ha
  obtain ⟨z, p, _, e, _, e1, e2, _, e3, _, he, _⟩ := part_quot hc a1 a2
  obtain ⟨z', _, q, _, f, f1, _, f2, _, f3, _, hf⟩ := part_quot hc a2 a1
  have ee : qe64 a c = e := by
    unfold qe64
    rw [getD_some (show Ieee.double.mul (wide a.2) 0 = some z from e1), getD_some (show Ieee.double.add (wide a.1) z = some p from e2)]
    exact getD_some e3
  have ef : qf64 a c = f := by
    unfold qf64
    rw [getD_some (show Ieee.double.mul (wide a.1) 0 = some z' from f1), getD_some (show Ieee.double.sub (wide a.2) z' = some q from f2)]
    exact getD_some f3
  obtain ⟨g1, g2⟩ := quot_fin hc.pos a1 he
  obtain ⟨h1, h2⟩ := quot_fin hc.pos a2 hf
  unfold quoC
  rw [ee, ef]
  exact ⟨finB_iff.2 ⟨g2, h2⟩, he, hf, narrow_spec g1, narrow_spec h1⟩
theorem fin_nan {x : Nat} (h : Fin Ieee.double x) : Op.Complex.isNaN x = false := by
  obtain ⟨m, p, e, _⟩ := read_fin Ieee.double h
  have e' : FloatKind.f64.decode x = .number (sg Ieee.double x) m p := e
  unfold Op.Complex.isNaN
  rw [e']; rfl
theorem run_complex_quo32 (P : Program) (t : TypeId) (w : World) {a b c d A B C D e f r s : Nat} (h1 : floatToFloatBits .f32 a .f64 = some A) (h2 : floatToFloatBits .f32 b .f64 = some B) (h3 : floatToFloatBits .f32 c .f64 = some C) (h4 : floatToFloatBits .f32 d .f64 = some D)
    (hq : (Op.Complex.quotient A B C D).run P w = .ok (e, f) w) (n1 : floatToFloatBits .f64 e .f32 = some r) (n2 : floatToFloatBits .f64 f .f32 = some s) :
    (binOp .quo t (.complex .f32 a b) (.complex .f32 c d)).run P w = .ok (.complex .f32 r s) w := by
  simp [binOp, Op.complexOp, run_cconv P w (by decide) h1, run_cconv P w (by decide) h2, run_cconv P w (by decide) h3, run_cconv P w (by decide) h4, hq, run_cconv P w (by decide) n1, run_cconv P w (by decide) n2]
theorem quoC_run {a : C} {c32 c : Nat} {n : Int} (hc : P2W c32 c n) (ha : finB a = true) (P : Program) (t : TypeId) (w : World) :
    (binOp .quo t (.complex .f32 a.1 a.2) (.complex .f32 c32 0)).run P w = .ok (.complex .f32 (quoC a c).1 (quoC a c).2) w := by
  obtain ⟨a1, a2⟩ := finB_iff.1 ha
  obtain ⟨z, p, _, e, _, e1, e2, _, e3, _, he, _⟩ := part_quot hc a1 a2
  obtain ⟨z', _, q, _, f, f1, _, f2, _, f3, _, hf⟩ := part_quot hc a2 a1
  have ee : qe64 a c = e := by
    unfold qe64
    rw [getD_some (show Ieee.double.mul (wide a.2) 0 = some z from e1), getD_some (show Ieee.double.add (wide a.1) z = some p from e2)]
    exact getD_some e3
  have ef : qf64 a c = f := by
    unfold qf64
    rw [getD_some (show Ieee.double.mul (wide a.1) 0 = some z' from f1), getD_some (show Ieee.double.sub (wide a.2) z' = some q from f2)]
    exact getD_some f3
  obtain ⟨g1, g2⟩ := quot_fin hc.pos a1 he
  obtain ⟨h1, h2⟩ := quot_fin hc.pos a2 hf
  have n1 : floatToFloatBits .f64 e .f32 = some (quoC a c).1 := by unfold quoC; rw [ee]; exact conv_narrow g1 g2
  have n2 : floatToFloatBits .f64 f .f32 = some (quoC a c).2 := by unfold quoC; rw [ef]; exact conv_narrow h1 h2
  have k0 : floatToFloatBits .f32 0 .f64 = some 0 := by kernel_rfl
  have m00 : floatBits .mul .f64 0 0 = some 0 := by kernel_rfl
  have nn := fin_nan g1
  have hge := hc.ge
  have hge' : absGe c 0 = true := hge
  exact run_complex_quo32 P t w (conv_wide a1) (conv_wide a2) hc.wid k0 (run_quotient_ge (P := P) w hge' hc.rat m00 hc.den e1 e2 e3 f1 f2 f3 (by rw [nn]; rfl)) n1 n2
end Go.Proofs.YtnomlkkhkacajaaGreatDoor
namespace Go.Proofs.YtnomlkkhkacajaaGreatDoor
open Go.RowKit

/-- Both parts are whole. -/
def WhlC (z : C) (p q : Int) : Prop := Whl Ieee.single z.1 p ∧ Whl Ieee.single z.2 q
def Wh (z : C) (most : Int) : Prop := ∃ p q : Int, WhlC z p q ∧ -most ≤ p ∧ p ≤ most ∧ -most ≤ q ∧ q ≤ most
end Go.Proofs.YtnomlkkhkacajaaGreatDoor
namespace Go.Proofs.YtnomlkkhkacajaaGreatDoor
open Go.RowKit

end Go.Proofs.YtnomlkkhkacajaaGreatDoor
namespace Go.Proofs.YtnomlkkhkacajaaGreatDoor
open Go.RowKit

theorem RetS.empty {w w' : World} {c : Nat} {g : Nat} (ho : Ow w' w.heap.size 73 (.slice (some ⟨g, 0, none⟩) 0 c) 0 []) (h : Below w.heap.size w w') : RetS w [] (.returned (.slice (some ⟨g, 0, none⟩) 0 c)) w' := ⟨_, _, _, rfl, ho, h⟩

end Go.Proofs.YtnomlkkhkacajaaGreatDoor
namespace Go.Proofs.YtnomlkkhkacajaaGreatDoor
open Go.RowKit

end Go.Proofs.YtnomlkkhkacajaaGreatDoor
namespace Go.Proofs.YtnomlkkhkacajaaGreatDoor
open Go.RowKit

theorem whl1 : Whl Ieee.single 1065353216 1 := by
  have h := narrow_whl (int_whl (n := 1) (by decide)) (by decide)
  rwa [show narrow (floatOfInt .f64 1) = 1065353216 by decide] at h
theorem whlm1 : Whl Ieee.single 3212836864 (-1) := by
  have h := narrow_whl (int_whl (n := -1) (by decide)) (by decide)
  rwa [show narrow (floatOfInt .f64 (-1)) = 3212836864 by decide] at h
theorem whl0 : Whl Ieee.single 0 0 := ⟨zero32.1, by rw [zero32.2]; rfl⟩
/-- A quarter turn, so many times. -/
def rot (t : Int) : Int × Int := if t % 4 = 0 then (1, 0) else if t % 4 = 1 then (0, 1) else if t % 4 = 2 then (-1, 0) else (0, -1)
theorem rot_bd (t : Int) : (rot t = (1, 0) ∨ rot t = (0, 1) ∨ rot t = (-1, 0) ∨ rot t = (0, -1)) := by
  unfold rot; split
  · simp
  · split
    · simp
    · split <;> simp
theorem turn_whl {t : Int} (h1 : -2000 ≤ t) (h2 : t ≤ 2000) : WhlC (turnC (4 * t)) (rot t).1 (rot t).2 := by
  have hb : inB (4 * t) (-9999) 9999 = true := inB_true (by omega) (by omega)
  have e : turnC (4 * t) = nth turnL ((4 * t) % 16).toNat := by unfold turnC; rw [hb]; rfl
  rw [e]
  have m : t % 4 = 0 ∨ t % 4 = 1 ∨ t % 4 = 2 ∨ t % 4 = 3 := by omega
  unfold rot
  rcases m with h | h | h | h
  · rw [show (4 * t % 16).toNat = 0 by omega, h]; exact ⟨whl1, whl0⟩
  · rw [show (4 * t % 16).toNat = 4 by omega, h]; exact ⟨whl0, whl1⟩
  · rw [show (4 * t % 16).toNat = 8 by omega, h]; exact ⟨whlm1, whl0⟩
  · rw [show (4 * t % 16).toNat = 12 by omega, h]; exact ⟨whl0, whlm1⟩
theorem whlC_fin {z : C} {p q : Int} (h : WhlC z p q) : finB z = true := finB_iff.2 ⟨h.1.1, h.2.1⟩
theorem addC_whl {a b : C} {p q r s : Int} (ha : WhlC a p q) (hb : WhlC b r s) (h1 : (p + r).natAbs < 16777216) (h2 : (q + s).natAbs < 16777216) : WhlC (addC a b) (p + r) (q + s) := by
  obtain ⟨_, e1, e2⟩ := addC_spec (whlC_fin ha) (whlC_fin hb)
  rw [ha.1.2, hb.1.2, ← Rat.intCast_add] at e1
  rw [ha.2.2, hb.2.2, ← Rat.intCast_add] at e2
  exact ⟨rnd_int32 e1 h1, rnd_int32 e2 h2⟩
theorem m64_whl {x y : Nat} {p r : Int} (hx : Whl Ieee.single x p) (hy : Whl Ieee.single y r) (h : (p * r).natAbs < 9007199254740992) : Whl Ieee.double (m64 x y) (p * r) := by
  have := (m64_spec hx.1 hy.1).2.1
  rw [hx.2, hy.2, ← Rat.intCast_mul] at this
  exact rnd_int64 this h
theorem mulC_whl {a b : C} {p q r s : Int} (ha : WhlC a p q) (hb : WhlC b r s) (h1 : (p * r).natAbs < 4000000) (h2 : (q * s).natAbs < 4000000) (h3 : (p * s).natAbs < 4000000) (h4 : (q * r).natAbs < 4000000) :
    WhlC (mulC a b) (p * r - q * s) (p * s + q * r) := by
  have fa := whlC_fin ha
  have fb := whlC_fin hb
  have n1 := m64_whl ha.1 hb.1 (by omega)
  have n2 := m64_whl ha.2 hb.2 (by omega)
  have n3 := m64_whl ha.1 hb.2 (by omega)
  have n4 := m64_whl ha.2 hb.1 (by omega)
  have r1 := (re64_spec fa fb).2.1
  have r2 := (im64_spec fa fb).2.1
  rw [n1.2, n2.2, ← Rat.intCast_sub] at r1
  rw [n3.2, n4.2, ← Rat.intCast_add] at r2
  have w1 := rnd_int64 r1 (by omega)
  have w2 := rnd_int64 r2 (by omega)
  obtain ⟨s1, s2⟩ := mulC_rnd fa fb
  rw [w1.2] at s1
  rw [w2.2] at s2
  exact ⟨rnd_int32 s1 (by omega), rnd_int32 s2 (by omega)⟩
/-- A whole number, turned. -/
def gmul (p : Int × Int) (t : Int) : Int × Int := (p.1 * (rot t).1 - p.2 * (rot t).2, p.1 * (rot t).2 + p.2 * (rot t).1)
theorem gmul_bd {p : Int × Int} {M t : Int} (h1 : -M ≤ p.1) (h2 : p.1 ≤ M) (h3 : -M ≤ p.2) (h4 : p.2 ≤ M) : -M ≤ (gmul p t).1 ∧ (gmul p t).1 ≤ M ∧ -M ≤ (gmul p t).2 ∧ (gmul p t).2 ≤ M := by
  unfold gmul
  rcases rot_bd t with h | h | h | h <;> rw [h] <;> simp <;> omega
theorem mul_turn {z : C} {p : Int × Int} {t : Int} (hz : WhlC z p.1 p.2) (h1 : -1000000 ≤ p.1) (h2 : p.1 ≤ 1000000) (h3 : -1000000 ≤ p.2) (h4 : p.2 ≤ 1000000) (t1 : -2000 ≤ t) (t2 : t ≤ 2000) : WhlC (mulC z (turnC (4 * t))) (gmul p t).1 (gmul p t).2 := by
  refine mulC_whl hz (turn_whl t1 t2) ?_ ?_ ?_ ?_ <;> rcases rot_bd t with h | h | h | h <;> rw [h] <;> simp <;> omega
/-- The sum of the first whole numbers, turned. -/
def gs (p : Nat → Int × Int) (t : Int) : Nat → Int × Int
  | 0 => (0, 0)
  | i + 1 => ((gs p t i).1 + (gmul (p i) (t * i)).1, (gs p t i).2 + (gmul (p i) (t * i)).2)
theorem gs_bd {p : Nat → Int × Int} {t M : Int} {n : Nat} (hp : ∀ i, i < n → -M ≤ (p i).1 ∧ (p i).1 ≤ M ∧ -M ≤ (p i).2 ∧ (p i).2 ≤ M) :
    ∀ i, i ≤ n → -(M * i) ≤ (gs p t i).1 ∧ (gs p t i).1 ≤ M * i ∧ -(M * i) ≤ (gs p t i).2 ∧ (gs p t i).2 ≤ M * i
  | 0, _ => by simp [gs]
  | i + 1, h => by
    obtain ⟨a1, a2, a3, a4⟩ := gs_bd (t := t) hp i (by omega)
    obtain ⟨b1, b2, b3, b4⟩ := hp i (by omega)
    obtain ⟨c1, c2, c3, c4⟩ := gmul_bd (t := t * i) b1 b2 b3 b4
    have e : M * ((i + 1 : Nat) : Int) = M * i + M := by push_cast; rw [Int.mul_add, Int.mul_one]
    rw [e]
    unfold gs
    generalize M * (i : Int) = MI at *
    simp only
    omega
theorem sum_whl {xs : List C} {p : Nat → Int × Int} {t : Int} {n : Nat} (hn : n ≤ 4) (t1 : -16 ≤ t) (t2 : t ≤ 16) (hx : ∀ i, i < n → WhlC (nth xs i) (p i).1 (p i).2)
    (hp : ∀ i, i < n → -8000 ≤ (p i).1 ∧ (p i).1 ≤ 8000 ∧ -8000 ≤ (p i).2 ∧ (p i).2 ≤ 8000) :
    ∀ i, i ≤ n → ∃ s, sumT xs (4 * t) i = some s ∧ WhlC s (gs p t i).1 (gs p t i).2
  | 0, _ => ⟨(0, 0), rfl, whl0, whl0⟩
  | i + 1, h => by
    obtain ⟨s, e, hs⟩ := sum_whl hn t1 t2 hx hp i (by omega)
    obtain ⟨b1, b2, b3, b4⟩ := hp i (by omega)
    have hti : -64 ≤ t * (i : Int) ∧ t * (i : Int) ≤ 64 := by
      have : i = 0 ∨ i = 1 ∨ i = 2 ∨ i = 3 := by omega
      rcases this with rfl | rfl | rfl | rfl <;> constructor <;> omega
    have hm : WhlC (prodT xs (4 * t) i) (gmul (p i) (t * i)).1 (gmul (p i) (t * i)).2 := by
      unfold prodT
      rw [Int.mul_assoc]
      exact mul_turn (hx i (by omega)) (by omega) (by omega) (by omega) (by omega) (by omega) (by omega)
    obtain ⟨a1, a2, a3, a4⟩ := gs_bd (t := t) hp i (by omega)
    obtain ⟨c1, c2, c3, c4⟩ := gmul_bd (t := t * i) b1 b2 b3 b4
    have hi : (i : Int) ≤ 3 := by omega
    have hadd := addC_whl hs hm (by omega) (by omega)
    refine ⟨addC s (prodT xs (4 * t) i), ?_, hadd⟩
    show sumStep (sumT xs (4 * t) i) _ = _
    rw [e]
    unfold sumStep
    rw [Option.bind_some, whlC_fin hm, whlC_fin hadd]; rfl
end Go.Proofs.YtnomlkkhkacajaaGreatDoor
namespace Go.Proofs.YtnomlkkhkacajaaGreatDoor
open Go.RowKit

theorem allT_all {f : Nat → Option C} {Q : Nat → C → Prop} : ∀ n, (∀ k, k < n → ∃ z, f k = some z ∧ Q k z) → ∃ l, allT f n = some l ∧ l.length = n ∧ ∀ k, k < n → Q k (nth l k)
  | 0, _ => ⟨[], rfl, rfl, fun k hk => absurd hk (Nat.not_lt_zero _)⟩
  | n + 1, h => by
    obtain ⟨l, e, hl, hq⟩ := allT_all n fun k hk => h k (by omega)
    obtain ⟨z, ez, hz⟩ := h n (by omega)
    refine ⟨l ++ [z], allT_step e ez, by rw [List.length_append, hl]; rfl, fun k hk => ?_⟩
    by_cases hkn : k < n
    · have : nth (l ++ [z]) k = nth l k := by rw [nth_eq (by rw [List.length_append]; simp; omega), nth_eq (by omega), List.getElem_append_left (by omega)]
      rw [this]; exact hq k hkn
    · have hke : k = n := by omega
      subst hke
      have : nth (l ++ [z]) k = z := by rw [nth_eq (by rw [List.length_append]; simp; omega), List.getElem_append_right (by omega)]; simp [hl]
      rw [this]; exact hz
/-- Quarter turns for each point. -/
def tk (n : Nat) (k : Int) : Int := 4 / (n : Int) * k
theorem bk_tk {n : Nat} (h : n = 1 ∨ n = 2 ∨ n = 4) (k : Int) : bk n k = 4 * tk n k := by
  unfold bk tk
  rcases h with rfl | rfl | rfl <;> omega
theorem tk_bd {n : Nat} (h : n = 1 ∨ n = 2 ∨ n = 4) {k : Int} (h1 : -(n : Int) ≤ k) (h2 : k ≤ n) : -16 ≤ tk n k ∧ tk n k ≤ 16 := by
  unfold tk
  rcases h with rfl | rfl | rfl <;> constructor <;> omega
/-- A whole signal, with its numbers. -/
structure WSig (xs : List C) (n : Nat) (p : Nat → Int × Int) (M : Int) : Prop where
  len : xs.length = n
  whl : ∀ i, i < n → WhlC (nth xs i) (p i).1 (p i).2
  bd : ∀ i, i < n → -M ≤ (p i).1 ∧ (p i).1 ≤ M ∧ -M ≤ (p i).2 ∧ (p i).2 ≤ M
theorem WSig.fin {xs : List C} {n : Nat} {p : Nat → Int × Int} {M : Int} (h : WSig xs n p M) : xs.all finB = true := List.all_eq_true.2 fun z hz => by
  obtain ⟨i, hi, rfl⟩ := List.getElem_of_mem hz
  have := h.whl i (by rw [← h.len]; exact hi)
  rw [nth_eq hi] at this
  exact whlC_fin this
theorem WSig.siz {xs : List C} {n : Nat} {p : Nat → Int × Int} {M : Int} (h : WSig xs n p M) (hn : n = 1 ∨ n = 2 ∨ n = 4) : sizB xs = true := by
  unfold sizB sigB
  rw [h.fin, h.len]
  rcases hn with rfl | rfl | rfl <;> rfl
theorem WSig.of {xs : List C} {M : Int} (h : ∀ i, i < xs.length → Wh (nth xs i) M) : ∃ p, WSig xs xs.length p M := by
  have : ∀ i, ∃ q : Int × Int, i < xs.length → WhlC (nth xs i) q.1 q.2 ∧ -M ≤ q.1 ∧ q.1 ≤ M ∧ -M ≤ q.2 ∧ q.2 ≤ M := fun i => by
    by_cases hi : i < xs.length
    · obtain ⟨a, b, h1, h2⟩ := h i hi
      exact ⟨(a, b), fun _ => ⟨h1, h2⟩⟩
    · exact ⟨(0, 0), fun h => absurd h hi⟩
  exact ⟨fun i => (this i).choose, rfl, fun i hi => ((this i).choose_spec hi).1, fun i hi => ((this i).choose_spec hi).2⟩
theorem WSig.prod {xs : List C} {n : Nat} {p : Nat → Int × Int} {M : Int} (h : WSig xs n p M) (hn : n = 1 ∨ n = 2 ∨ n = 4) (hM : M ≤ 8000) {s : Int} (hs : s = 1 ∨ s = -1) : ProdOk xs s := by
  intro k i hk hi
  rw [h.len] at hk hi ⊢
  have hsk : -(n : Int) ≤ s * (k : Int) ∧ s * (k : Int) ≤ n := by rcases hs with rfl | rfl <;> constructor <;> omega
  obtain ⟨t1, t2⟩ := tk_bd hn hsk.1 hsk.2
  rw [bk_tk hn]
  obtain ⟨b1, b2, b3, b4⟩ := h.bd i hi
  have hti : -64 ≤ tk n (s * (k : Int)) * (i : Int) ∧ tk n (s * (k : Int)) * (i : Int) ≤ 64 := by
    have : i = 0 ∨ i = 1 ∨ i = 2 ∨ i = 3 := by omega
    rcases this with rfl | rfl | rfl | rfl <;> constructor <;> omega
  unfold prodT
  rw [Int.mul_assoc]
  exact whlC_fin (mul_turn (h.whl i hi) (by omega) (by omega) (by omega) (by omega) (by omega) (by omega))
/-- The spectrum of a whole signal is whole. -/
theorem WSig.trans {xs : List C} {n : Nat} {p : Nat → Int × Int} {M : Int} (h : WSig xs n p M) (hn : n = 1 ∨ n = 2 ∨ n = 4) (hM : M ≤ 8000) :
    ∃ l, transF xs = some l ∧ WSig l n (fun k => gs p (tk n (-(k : Int))) n) (4 * M) := by
  have hM0 : 0 ≤ M := by obtain ⟨b1, b2, _⟩ := h.bd 0 (by omega); omega
  have hp : ∀ i, i < n → -8000 ≤ (p i).1 ∧ (p i).1 ≤ 8000 ∧ -8000 ≤ (p i).2 ∧ (p i).2 ≤ 8000 := fun i hi => by
    obtain ⟨b1, b2, b3, b4⟩ := h.bd i hi
    omega
  obtain ⟨l, e, hl, hq⟩ := allT_all (f := fun k => sumT xs (bk n (-(k : Int))) n) (Q := fun k z => WhlC z (gs p (tk n (-(k : Int))) n).1 (gs p (tk n (-(k : Int))) n).2) n fun k hk => by
    obtain ⟨t1, t2⟩ := tk_bd hn (k := -(k : Int)) (by omega) (by omega)
    obtain ⟨s, e, hs⟩ := sum_whl (xs := xs) (p := p) (t := tk n (-(k : Int))) (n := n) (by omega) t1 t2 h.whl hp n (Nat.le_refl _)
    exact ⟨s, by show sumT xs (bk n _) n = _; rw [bk_tk hn]; exact e, hs⟩
  refine ⟨l, by rw [transF_yes (h.siz hn) h.len]; exact e, hl, hq, fun k hk => ?_⟩
  obtain ⟨a1, a2, a3, a4⟩ := gs_bd (p := p) (t := tk n (-(k : Int))) (M := M) (n := n) h.bd n (Nat.le_refl _)
  have e4 : M * (n : Int) ≤ 4 * M := by rcases hn with rfl | rfl | rfl <;> omega
  show -(4 * M) ≤ (gs p (tk n (-(k : Int))) n).1 ∧ _
  generalize M * (n : Int) = Mn at *
  omega
end Go.Proofs.YtnomlkkhkacajaaGreatDoor
