/- Texts on the way to a law (N1, N2), each with its own remark. -/
import Derived.Test.YtnomlkkhkacajaaPA08
namespace Go.Proofs.Ytnomlkkhkacajaa
open Go.RowKit

theorem p2_m30 : p2 (-30) * 1073741824 = 1 := by
  have : (1073741824 : Rat) = p2 30 := by rw [show (30 : Int) = ((30 : Nat) : Int) from rfl, p2_nat]; rfl
  rw [this, ← p2_add]; exact p2_zero
theorem p2_24 : p2 24 = 16777216 := by rw [show (24 : Int) = ((24 : Nat) : Int) from rfl, p2_nat]; rfl
theorem r24 : Rnd Ieee.double 16777215 (floatOfInt .f64 16777215) ∧ val Ieee.double (floatOfInt .f64 16777215) = 16777215 := by
  have k := int_whl (n := 16777215) (by decide)
  have kv : ((16777215 : Int) : Rat) = 16777215 := rfl
  exact ⟨⟨decide ((16777215 : Int) < 0), 16777215, 0, rfl, by rw [← kv]; exact sr_int 16777215⟩, by rw [k.2, kv]⟩
theorem cast_absR (t : Int) : ((t.natAbs : Nat) : Rat) = absR (t : Rat) := by
  have h0 : ((0 : Int) : Rat) = 0 := rfl
  unfold absR
  by_cases h : t < 0
  · have h3 : (t : Rat) < 0 := by rw [← h0]; exact Rat.intCast_lt_intCast.2 h
    rw [if_pos h3, ← Rat.intCast_natCast, ← Rat.intCast_neg]
    congr 1; omega
  · have h3 : (0 : Rat) ≤ (t : Rat) := by rw [← h0]; exact Rat.intCast_le_intCast.2 (by omega)
    rw [if_neg (by grind), ← Rat.intCast_natCast]
    congr 1; omega
/-- A number lies by its thousandths. -/
theorem thou_near {x : Nat} {t : Int} (h : IsThou x t) : 1000 * val Ieee.single x - (t : Rat) ≤ 51 / 100 ∧ (t : Rat) - 1000 * val Ieee.single x ≤ 51 / 100 := by
  obtain ⟨_, t1, t2, g1, g2, c, s, hc, fc, hs, fs, b1, b2⟩ := h
  obtain ⟨v, hv⟩ : ∃ v, v = val Ieee.single x := ⟨_, rfl⟩
  rw [← hv] at g1 g2 hc ⊢
  have h30 := p2_m30
  have hP := p2_pos (-30)
  have a0 := absR_nonneg v
  have na : ((t.natAbs : Nat) : Rat) ≤ 9999999 := by
    have : ((t.natAbs : Nat) : Rat) ≤ ((9999999 : Nat) : Rat) := Rat.natCast_le_natCast.2 (by omega)
    have k : ((9999999 : Nat) : Rat) = 9999999 := rfl
    rwa [k] at this
  -- nothing is as great as 2 to the 24
  have s1 : val Ieee.double s < 16777215 := by grind
  have c1 : val Ieee.double c + 1 / 2 < 16777215 := by
    by_cases h : val Ieee.double c + 1 / 2 < 16777215
    · exact h
    · have := r24.1.mono hs (by grind)
      rw [r24.2] at this; grind
  have q1 : 1000 * absR v < 16777215 := by
    by_cases h : 1000 * absR v < 16777215
    · exact h
    · have := r24.1.mono hc (by grind)
      rw [r24.2] at this; grind
  have c0 : 0 ≤ val Ieee.double c := by
    have hz : Rnd Ieee.double 0 (Ieee.double.write (.number false 0 0)) := ⟨false, 0, 0, rfl, by simp [sr]⟩
    have hz2 := hz.mono hc (by grind)
    have hz3 := hz.exact (t := false) (z := 0) (by decide) (by rw [rv_zero]; rfl)
    rw [hz3.2] at hz2; exact hz2
  have e28 : p2 (24 - (Ieee.double.fractionBits : Int) - 2) = p2 (-30) := rfl
  have ec := hc.err_lt (E := 24) (by rw [p2_24]; grind) (by rw [p2_24]; grind) (by decide) fc
  have es := hs.err_lt (E := 24) (by rw [p2_24]; grind) (by rw [p2_24]; grind) (by decide) fs
  rw [e28] at ec es
  rw [cast_absR] at b1 b2
  have h0 : ((0 : Int) : Rat) = 0 := rfl
  have key : 1000 * absR v - absR (t : Rat) ≤ 51 / 100 ∧ absR (t : Rat) - 1000 * absR v ≤ 51 / 100 := by constructor <;> grind
  by_cases hneg : v < 0
  · have h3 : (t : Rat) ≤ 0 := by rw [← h0]; exact Rat.intCast_le_intCast.2 (g1 hneg)
    have e1 : absR v = -v := by unfold absR; rw [if_pos hneg]
    have e2 : absR (t : Rat) = -(t : Rat) := by unfold absR; split <;> grind
    rw [e1, e2] at key
    constructor <;> grind
  · have h3 : (0 : Rat) ≤ (t : Rat) := by rw [← h0]; exact Rat.intCast_le_intCast.2 (g2 (by grind))
    have e1 : absR v = v := by unfold absR; rw [if_neg hneg]
    have e2 : absR (t : Rat) = (t : Rat) := by unfold absR; rw [if_neg (by grind)]
    rw [e1, e2] at key
    exact key
theorem stp_near (t : Int) {step : Int} (h1 : 1 ≤ step) : 2 * (stp t step * step - t) ≤ step ∧ 2 * (t - stp t step * step) ≤ step := by
  have key : ∀ u : Int, 0 ≤ u → 2 * ((u + step / 2) / step * step - u) ≤ step ∧ 2 * (u - (u + step / 2) / step * step) ≤ step := by
    intro u hu
    have e := Int.emod_add_mul_ediv (u + step / 2) step
    have m1 := Int.emod_nonneg (u + step / 2) (show step ≠ 0 by omega)
    have m2 := Int.emod_lt_of_pos (u + step / 2) (show 0 < step by omega)
    rw [Int.mul_comm step] at e
    generalize (u + step / 2) / step * step = Q at *
    omega
  unfold stp
  split
  · have := key (-t) (by omega)
    rw [Int.neg_mul]
    omega
  · exact key t (by omega)
end Go.Proofs.Ytnomlkkhkacajaa
namespace Go.Proofs.Ytnomlkkhkacajaa
open Go.RowKit

theorem k2000 : Whl Ieee.double 4656510908468559872 2000 := by
  have h := int_whl (n := 2000) (by decide)
  rw [show floatOfInt .f64 2000 = 4656510908468559872 by decide] at h
  exact h
theorem mq_2 : mq 2 = 4566758108544739836 := by decide +kernel
theorem p2_4 : p2 4 = 16 := by rw [show (4 : Int) = ((4 : Nat) : Int) from rfl, p2_nat]; rfl
theorem p2_m38 : p2 (-38) ≤ 1 / 100000 := by
  have : (17179869184 : Rat) = p2 34 := by rw [show (34 : Int) = ((34 : Nat) : Int) from rfl, p2_nat]; rfl
  have h4 : p2 (-38) * 17179869184 = p2 (-4) := by rw [this, ← p2_add]; rfl
  have h5 : p2 (-4) ≤ p2 0 := p2_mono (by decide)
  rw [p2_zero] at h5
  grind
theorem p2_m50 : p2 (-50) ≤ 1 / 100000 := by
  have := p2_mono (show (-50 : Int) ≤ -38 by decide)
  have := p2_m38
  grind
theorem p2_m53 : p2 (-53) ≤ 1 / 1000000 := by
  have h1 : p2 (-38) = 32768 * p2 (-53) := by
    have : (32768 : Rat) = p2 15 := by rw [show (15 : Int) = ((15 : Nat) : Int) from rfl, p2_nat]; rfl
    rw [this, ← p2_add]; rfl
  have := p2_m38
  have := p2_pos (-53)
  grind
theorem le16 {q : Rat} {r : Nat} (h : Rnd Ieee.double q r) (h1 : q < 16) (h2 : -16 < q) : Fin Ieee.double r ∧ val Ieee.double r - q ≤ p2 (-50) ∧ q - val Ieee.double r ≤ p2 (-50) := by
  obtain ⟨z, hz, hvz⟩ := repr_ex Ieee.double (n := 1) (e := 4) (by decide) (by decide) (by
    have c1 : ((1 : Nat) : Rat) = 1 := rfl
    rw [inf64, c1, Rat.one_mul]
    have := p2_lt (show (4 : Int) < 1024 by decide)
    have := p2_pos 4
    grind)
  have c1 : ((1 : Nat) : Rat) = 1 := rfl
  rw [c1, Rat.one_mul, p2_4] at hvz
  have hb := h.le hz (by rw [hvz]; grind) (by rw [hvz]; grind)
  have her := h.err_lt (E := 4) (by rw [p2_4]; exact h1) (by rw [p2_4]; exact h2) (by decide) hb.1
  exact ⟨hb.1, her⟩
theorem beta_spec {step : Int} (h1 : 1 ≤ step) (h2 : step ≤ 10000) :
    ∃ r b, floatBits .quo .f64 (floatOfInt .f64 step) 4656510908468559872 = some r ∧ floatBits .add .f64 r 4566758108544739836 = some b ∧ Fin Ieee.double b ∧ (step : Rat) + 3 ≤ 2000 * val Ieee.double b := by
  have hw := int_whl (n := step) (by omega)
  have h0 : val Ieee.double 4656510908468559872 ≠ 0 := by rw [k2000.2]; decide
  obtain ⟨r, q, e, hr, he1, he2⟩ := quot_spec hw.1 k2000.1 h0
  have c3 : ((2000 : Int) : Rat) = 2000 := rfl
  rw [hw.2, k2000.2, c3] at he1 he2
  have e53 : p2 (-((Ieee.double.fractionBits : Int) + 1)) = p2 (-53) := rfl
  rw [e53] at he1 he2
  have hn1 : ((1 : Int) : Rat) ≤ (step : Rat) := Rat.intCast_le_intCast.2 h1
  have hn2 : (step : Rat) ≤ ((10000 : Int) : Rat) := Rat.intCast_le_intCast.2 h2
  have d1 : ((1 : Int) : Rat) = 1 := rfl
  have d2 : ((10000 : Int) : Rat) = 10000 := rfl
  rw [d1] at hn1
  rw [d2] at hn2
  obtain ⟨y, hy⟩ : ∃ y, y = (step : Rat) / 2000 := ⟨_, rfl⟩
  have hy2 : 2000 * y = (step : Rat) := by rw [hy]; grind
  rw [← hy] at he1 he2
  have hpos := p2_pos (-53)
  have hm : (if y < 0 then -y else y) ≤ 5 := by split <;> grind
  have hm2 := Rat.mul_le_mul_of_nonneg_right hm (Rat.le_of_lt hpos)
  have s53 := p2_m53
  obtain ⟨fr, r1, r2⟩ := le16 hr (by grind) (by grind)
  have s50 := p2_m50
  obtain ⟨_, fk, m1, m2, _⟩ := mq_spec (n := 2) (by decide) (by decide)
  rw [mq_2] at fk m1 m2
  have s38 := p2_m38
  have k2 : ((2 : Int) : Rat) = 2 := rfl
  rw [k2] at m1 m2
  obtain ⟨s, es, hs⟩ := add_spec fr fk
  obtain ⟨fs, u1, u2⟩ := le16 hs (by grind) (by grind)
  exact ⟨r, s, e, es, fs, by grind⟩
theorem sub_near {x y b : Nat} (hx : Fin Ieee.single x) (hy : Fin Ieee.single y) (hb : Fin Ieee.double b) (h1 : val Ieee.single x - val Ieee.single y ≤ val Ieee.double b) (h2 : val Ieee.single y - val Ieee.single x ≤ val Ieee.double b) :
    ∃ d, floatBits .sub .f64 (wide x) (wide y) = some d ∧ ∃ n, (FloatKind.f64.format.order d 0 == some .lt) = n ∧
      (FloatKind.f64.format.order (if n then Op.negFloat .f64 d else d) b == some .lt || FloatKind.f64.format.order (if n then Op.negFloat .f64 d else d) b == some .eq) = true := by
  have wx := wide_spec hx
  have wy := wide_spec hy
  obtain ⟨d, e, hd⟩ := sub_spec wx.1 wy.1
  rw [wx.2, wy.2] at hd
  have b0 : 0 ≤ val Ieee.double b := by grind
  -- the bound as a rung
  have hbz : rg Ieee.double b < Ieee.double.infRung := hb
  have hbv : val Ieee.double b = rv Ieee.double (rg Ieee.double b) := by
    have hn := rv_nonneg Ieee.double (rg Ieee.double b)
    unfold val at b0 ⊢
    cases hs : sg Ieee.double b
    · rw [sr_false]
    · rw [hs, sr_true] at b0; rw [sr_true]; grind
  obtain ⟨fd, l1, l2⟩ := hd.le hbz (by rw [← hbv]; exact h1) (by rw [← hbv]; grind)
  rw [← hbv] at l1 l2
  have hn := neg_rnd (k := .f64) hd
  refine ⟨d, e, _, rfl, ?_⟩
  have o := lt_iff fd zero64.1
  rw [zero64.2] at o
  have o' : (FloatKind.f64.format.order d 0 == some .lt) = decide (val Ieee.double d < 0) := o
  rw [o']
  have fin : ∀ u, Fin Ieee.double u → val Ieee.double u ≤ val Ieee.double b → (FloatKind.f64.format.order u b == some .lt || FloatKind.f64.format.order u b == some .eq) = true := by
    intro u hu hle
    have a1 := lt_iff hu hb
    have a2 := eq_iff hu hb
    show (Ieee.double.order _ _ == _ || Ieee.double.order _ _ == _) = _
    rw [a1, a2]
    simp
    grind
  by_cases hneg : val Ieee.double d < 0
  · rw [decide_eq_true hneg]
    simp only [if_true]
    exact fin _ (hn.2.2 fd) (by have : val Ieee.double (Op.negFloat .f64 d) = _ := hn.2.1; rw [this]; show -val Ieee.double d ≤ _; grind)
  · rw [decide_eq_false hneg]
    exact fin _ fd l1
/-- Two numbers that are near. -/
def NearV (b : Nat) (x y : C) : Prop := Fin Ieee.single x.1 ∧ Fin Ieee.single x.2 ∧ Fin Ieee.single y.1 ∧ Fin Ieee.single y.2 ∧
  val Ieee.single x.1 - val Ieee.single y.1 ≤ val Ieee.double b ∧ val Ieee.single y.1 - val Ieee.single x.1 ≤ val Ieee.double b ∧
  val Ieee.single x.2 - val Ieee.single y.2 ≤ val Ieee.double b ∧ val Ieee.single y.2 - val Ieee.single x.2 ≤ val Ieee.double b
end Go.Proofs.Ytnomlkkhkacajaa
