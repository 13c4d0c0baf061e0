/- How near the steps lie: plain facts. -/
import Derived.Test.YtficlmnjbbpicaaP1
namespace Go.Proofs.Ytficlmnjbbpicaa
open Go.RowKit

theorem p2_m30 : p2 (-30) * 1073741824 = 1 := by
  have : (1073741824 : Rat) = p2 30 := by rw [show (30 : Int) = ((30 : Nat) : Int) from rfl, p2_nat]; rfl
  rw [this, ← p2_add]; exact p2_zero
theorem p2_24 : p2 24 = 16777216 := by rw [show (24 : Int) = ((24 : Nat) : Int) from rfl, p2_nat]; rfl
theorem r24 : Rnd Ieee.double 16777215 (floatOfInt .f64 16777215) ∧ val Ieee.double (floatOfInt .f64 16777215) = 16777215 := by
  have k := int_whl (n := 16777215) (by decide)
  have kv : ((16777215 : Int) : Rat) = 16777215 := rfl
  exact ⟨⟨decide ((16777215 : Int) < 0), 16777215, 0, rfl, by rw [← kv]; exact sr_int 16777215⟩, by rw [k.2, kv]⟩
theorem cast_absR (t : Int) : ((t.natAbs : Nat) : Rat) = absR (t : Rat) := by
  have h0 : ((0 : Int) : Rat) = 0 := rfl
  unfold absR
  by_cases h : t < 0
  · have h3 : (t : Rat) < 0 := by rw [← h0]; exact Rat.intCast_lt_intCast.2 h
    rw [if_pos h3, ← Rat.intCast_natCast, ← Rat.intCast_neg]
    congr 1; omega
  · have h3 : (0 : Rat) ≤ (t : Rat) := by rw [← h0]; exact Rat.intCast_le_intCast.2 (by omega)
    rw [if_neg (by grind), ← Rat.intCast_natCast]
    congr 1; omega
/-- A number lies by its thousandths. -/
theorem thou_near {x : Nat} {t : Int} (h : IsThou x t) : 1000 * val Ieee.single x - (t : Rat) ≤ 51 / 100 ∧ (t : Rat) - 1000 * val Ieee.single x ≤ 51 / 100 := by
  obtain ⟨_, t1, t2, g1, g2, c, s, hc, fc, hs, fs, b1, b2⟩ := h
  obtain ⟨v, hv⟩ : ∃ v, v = val Ieee.single x := ⟨_, rfl⟩
  rw [← hv] at g1 g2 hc ⊢
  have h30 := p2_m30
  have hP := p2_pos (-30)
  have a0 := absR_nonneg v
  have na : ((t.natAbs : Nat) : Rat) ≤ 9999999 := by
    have : ((t.natAbs : Nat) : Rat) ≤ ((9999999 : Nat) : Rat) := Rat.natCast_le_natCast.2 (by omega)
    have k : ((9999999 : Nat) : Rat) = 9999999 := rfl
    rwa [k] at this
  -- nothing is as great as 2 to the 24
  have s1 : val Ieee.double s < 16777215 := by grind
  have c1 : val Ieee.double c + 1 / 2 < 16777215 := by
    by_cases h : val Ieee.double c + 1 / 2 < 16777215
    · exact h
    · have := r24.1.mono hs (by grind)
      rw [r24.2] at this; grind
  have q1 : 1000 * absR v < 16777215 := by
    by_cases h : 1000 * absR v < 16777215
    · exact h
    · have := r24.1.mono hc (by grind)
      rw [r24.2] at this; grind
  have c0 : 0 ≤ val Ieee.double c := by
    have hz : Rnd Ieee.double 0 (Ieee.double.write (.number false 0 0)) := ⟨false, 0, 0, rfl, by simp [sr]⟩
    have hz2 := hz.mono hc (by grind)
    have hz3 := hz.exact (t := false) (z := 0) (by decide) (by rw [rv_zero]; rfl)
    rw [hz3.2] at hz2; exact hz2
  have e28 : p2 (24 - (Ieee.double.fractionBits : Int) - 2) = p2 (-30) := rfl
  have ec := hc.err_lt (E := 24) (by rw [p2_24]; grind) (by rw [p2_24]; grind) (by decide) fc
  have es := hs.err_lt (E := 24) (by rw [p2_24]; grind) (by rw [p2_24]; grind) (by decide) fs
  rw [e28] at ec es
  rw [cast_absR] at b1 b2
  have h0 : ((0 : Int) : Rat) = 0 := rfl
  have key : 1000 * absR v - absR (t : Rat) ≤ 51 / 100 ∧ absR (t : Rat) - 1000 * absR v ≤ 51 / 100 := by constructor <;> grind
  by_cases hneg : v < 0
  · have h3 : (t : Rat) ≤ 0 := by rw [← h0]; exact Rat.intCast_le_intCast.2 (g1 hneg)
    have e1 : absR v = -v := by unfold absR; rw [if_pos hneg]
    have e2 : absR (t : Rat) = -(t : Rat) := by unfold absR; split <;> grind
    rw [e1, e2] at key
    constructor <;> grind
  · have h3 : (0 : Rat) ≤ (t : Rat) := by rw [← h0]; exact Rat.intCast_le_intCast.2 (g2 (by grind))
    have e1 : absR v = v := by unfold absR; rw [if_neg hneg]
    have e2 : absR (t : Rat) = (t : Rat) := by unfold absR; rw [if_neg (by grind)]
    rw [e1, e2] at key
    exact key
theorem stp_near (t : Int) {step : Int} (h1 : 1 ≤ step) : 2 * (stp t step * step - t) ≤ step ∧ 2 * (t - stp t step * step) ≤ step := by
  have key : ∀ u : Int, 0 ≤ u → 2 * ((u + step / 2) / step * step - u) ≤ step ∧ 2 * (u - (u + step / 2) / step * step) ≤ step := by
    intro u hu
    have e := Int.emod_add_mul_ediv (u + step / 2) step
    have m1 := Int.emod_nonneg (u + step / 2) (show step ≠ 0 by omega)
    have m2 := Int.emod_lt_of_pos (u + step / 2) (show 0 < step by omega)
    rw [Int.mul_comm step] at e
    generalize (u + step / 2) / step * step = Q at *
    omega
  unfold stp
  split
  · have := key (-t) (by omega)
    rw [Int.neg_mul]
    omega
  · exact key t (by omega)
end Go.Proofs.Ytficlmnjbbpicaa
