/- Texts on the way to a law (Num), each with its own remark. -/
import Derived.Test.YtnomlkkhkacajaaGreatDoorPB01
import Derived.Laws.ComplexQuo
namespace Go.Proofs.YtnomlkkhkacajaaGreatDoor

/-- A NaN. -/
def NaN (k : FloatKind) (b : Nat) : Prop := k.format.infRung < rg k.format b
theorem NaN.not_fin {k : FloatKind} {b : Nat} (h : NaN k b) : ¬ Fin k.format b := by unfold NaN at h; unfold Fin; omega
theorem read_nan {k : FloatKind} {x : Nat} (h : NaN k x) : ∃ s n, k.format.read x = .nan s n := by
  unfold NaN at h
  have e : k.format.read x = if rg k.format x < k.format.binade then .number (sg k.format x) (rg k.format x) k.format.leastPlace
      else if rg k.format x < k.format.infRung then .number (sg k.format x) (k.format.binade + rg k.format x % k.format.binade) (k.format.leastPlace + (rg k.format x / k.format.binade - 1 : Nat))
      else if rg k.format x = k.format.infRung then .infinity (sg k.format x) else .nan (sg k.format x) (rg k.format x - k.format.infRung) := rfl
  have hb : k.format.binade ≤ k.format.infRung := by cases k <;> decide
  rw [e, if_neg (by omega), if_neg (by omega), if_neg (by omega)]
  exact ⟨_, _, rfl⟩
theorem order_nan_l {k : FloatKind} {x : Nat} (h : NaN k x) (y : Nat) : k.format.order x y = none := by
  obtain ⟨s, n, e⟩ := read_nan h
  unfold Ieee.Format.order
  rw [e]; rfl
theorem order_nan_r {k : FloatKind} {x : Nat} (h : NaN k x) (y : Nat) : k.format.order y x = none := by
  obtain ⟨s, n, e⟩ := read_nan h
  unfold Ieee.Format.order
  rw [e]; cases k.format.read y <;> rfl
theorem nan_cut32 (t : Nat) : NaN .f32 ((t % 2) * 2 ^ 31 + 0x7f800000 + 1 + (t / 2) % (2 ^ 23 - 1)) := by
  show (2139095040 : Nat) < (_ % 2147483648)
  have := Nat.mod_lt (t / 2) (show 0 < 2 ^ 23 - 1 by decide)
  generalize t / 2 % (2 ^ 23 - 1) = r at *
  rcases Nat.mod_two_eq_zero_or_one t with h | h <;> rw [h] <;> omega
theorem nan_cut64 (t : Nat) : NaN .f64 ((t % 2) * 2 ^ 63 + 0x7ff0000000000000 + 1 + (t / 2) % (2 ^ 52 - 1)) := by
  show (9218868437227405312 : Nat) < (_ % 9223372036854775808)
  have := Nat.mod_lt (t / 2) (show 0 < 2 ^ 52 - 1 by decide)
  generalize t / 2 % (2 ^ 52 - 1) = r at *
  rcases Nat.mod_two_eq_zero_or_one t with h | h <;> rw [h] <;> omega

/-- The difference of a word and itself. -/
theorem sub_self_fin {k : FloatKind} {x : Nat} (h : Fin k.format x) : ∃ r, floatBits .sub k x x = some r ∧ k.format.order r 0 = some .eq := by
  obtain ⟨r, e, hr⟩ := sub_spec h h
  have hz : (0 : Nat) < k.format.infRung := by cases k <;> decide
  obtain ⟨h1, h2⟩ := hr.exact (t := false) (z := 0) hz (by rw [rv_zero]; show val k.format x - val k.format x = 0; grind)
  have h0 : Fin k.format 0 := by unfold Fin rg; rw [Nat.zero_mod]; exact hz
  have v0 : val k.format 0 = 0 := by
    unfold val rg; rw [Nat.zero_mod, rv_zero, sr_zero]
  obtain ⟨c, e2, _, hc, _⟩ := order_spec h1 h0
  refine ⟨r, e, ?_⟩
  rw [e2, hc.2 (by rw [h2, v0]; grind)]
theorem sub_self_not {k : FloatKind} {x : Nat} (h : ¬ Fin k.format x) : floatBits .sub k x x = none := by
  have e : k.format.read x = if rg k.format x < k.format.binade then .number (sg k.format x) (rg k.format x) k.format.leastPlace
      else if rg k.format x < k.format.infRung then .number (sg k.format x) (k.format.binade + rg k.format x % k.format.binade) (k.format.leastPlace + (rg k.format x / k.format.binade - 1 : Nat))
      else if rg k.format x = k.format.infRung then .infinity (sg k.format x) else .nan (sg k.format x) (rg k.format x - k.format.infRung) := rfl
  have hb : k.format.binade ≤ k.format.infRung := by cases k <;> decide
  unfold Fin at h
  rw [if_neg (by omega), if_neg (by omega)] at e
  show Option.map _ (Ieee.Datum.sum (k.format.read x) (k.format.read x).opposite) = none
  rw [e]
  split
  · simp only [Ieee.Datum.opposite, Ieee.Datum.sum]
    cases sg k.format x <;> rfl
  · rfl

/- Conversions of finite words. -/
def wide (x : Nat) : Nat := Ieee.double.write (Ieee.single.read x)
def narrow (x : Nat) : Nat := Ieee.single.write (Ieee.double.read x)
theorem fin_not_inf {f : Ieee.Format} {x : Nat} (h : Fin f x) : (f.read x).isInfinity = false := by
  obtain ⟨m, p, e, _⟩ := read_fin f h
  rw [e]; rfl
theorem conv_wide {x : Nat} (h : Fin Ieee.single x) : floatToFloatBits .f32 x .f64 = some (wide x) := by
  have h2 := fin_not_inf (wide_spec h).1
  obtain ⟨m, p, e, _⟩ := read_fin Ieee.single h
  have e' : FloatKind.f32.decode x = .number (sg Ieee.single x) m p := e
  unfold floatToFloatBits wide
  rw [if_neg (by decide), e']
  rw [e] at h2 ⊢
  show (if (Ieee.double.read (Ieee.double.write (.number _ m p))).isInfinity = true then none else some (Ieee.double.write (.number _ m p))) = _
  rw [if_neg (by rw [h2]; decide)]
theorem conv_narrow {x : Nat} (h : Fin Ieee.double x) (hf : Fin Ieee.single (narrow x)) : floatToFloatBits .f64 x .f32 = some (narrow x) := by
  have h2 := fin_not_inf hf
  unfold narrow at h2 ⊢
  obtain ⟨m, p, e, _⟩ := read_fin Ieee.double h
  have e' : FloatKind.f64.decode x = .number (sg Ieee.double x) m p := e
  unfold floatToFloatBits
  rw [if_neg (by decide), e']
  rw [e] at h2 ⊢
  show (if (Ieee.single.read (Ieee.single.write (.number _ m p))).isInfinity = true then none else some (Ieee.single.write (.number _ m p))) = _
  rw [if_neg (by rw [h2]; decide)]
theorem cconv_wide {x y : Nat} (hx : Fin Ieee.single x) (hy : Fin Ieee.single y) : cConvBits .f32 x y .f64 = some (wide x, wide y) := by
  unfold cConvBits; rw [conv_wide hx, conv_wide hy]; rfl
theorem cconv_narrow {x y : Nat} (hx : Fin Ieee.double x) (hx' : Fin Ieee.single (narrow x)) (hy : Fin Ieee.double y) (hy' : Fin Ieee.single (narrow y)) : cConvBits .f64 x y .f32 = some (narrow x, narrow y) := by
  unfold cConvBits; rw [conv_narrow hx hx', conv_narrow hy hy']; rfl
theorem int_whl {n : Int} (h : n.natAbs < 9007199254740992) : Whl Ieee.double (floatOfInt .f64 n) n := by
  refine rnd_int64 ⟨decide (n < 0), n.natAbs, 0, rfl, sr_int n⟩ h
theorem narrow_whl {x : Nat} {n : Int} (h : Whl Ieee.double x n) (hn : n.natAbs < 16777216) : Whl Ieee.single (narrow x) n := by
  have := narrow_spec h.1
  rw [h.2] at this
  exact rnd_int32 this hn
theorem order_self {f : Ieee.Format} {x : Nat} (h : Fin f x) : f.order x x = some .eq := by
  obtain ⟨c, e, _, hc, _⟩ := order_spec h h
  rw [e, hc.2 rfl]


/- Thousandths: float64(n) / 1000, and the float32 of it. -/
def mq (n : Int) : Nat := (Ieee.double.div (floatOfInt .f64 n) 4652007308841189376).getD 0
def mp (n : Int) : Nat := narrow (mq n)
theorem k1000 : Whl Ieee.double 4652007308841189376 1000 := by
  have h := int_whl (n := 1000) (by decide)
  rw [show floatOfInt .f64 1000 = 4652007308841189376 by decide] at h
  exact h
theorem p2_14 : p2 14 = 16384 := by rw [show (14 : Int) = ((14 : Nat) : Int) from rfl, p2_nat]; rfl
theorem mq_spec {n : Int} (h1 : -9999999 ≤ n) (h2 : n ≤ 9999999) :
    Ieee.double.div (floatOfInt .f64 n) 4652007308841189376 = some (mq n) ∧ Fin Ieee.double (mq n) ∧ val Ieee.double (mq n) - (n : Rat) / 1000 ≤ p2 (-38) ∧ (n : Rat) / 1000 - val Ieee.double (mq n) ≤ p2 (-38) ∧
      val Ieee.double (mq n) ≤ 10000 ∧ -10000 ≤ val Ieee.double (mq n) := by
  have hw := int_whl (n := n) (by omega)
  have hk := k1000
  have h0 : val Ieee.double 4652007308841189376 ≠ 0 := by rw [hk.2]; decide
  obtain ⟨r, q, e, hr, he1, he2⟩ := quot_spec hw.1 hk.1 h0
  rw [hw.2, hk.2] at he1 he2
  have hq : mq n = r := by unfold mq; rw [e]; rfl
  rw [hq]
  have hn1 : ((-9999999 : Int) : Rat) ≤ (n : Rat) := Rat.intCast_le_intCast.2 h1
  have hn2 : (n : Rat) ≤ ((9999999 : Int) : Rat) := Rat.intCast_le_intCast.2 h2
  have c1 : ((-9999999 : Int) : Rat) = -9999999 := rfl
  have c2 : ((9999999 : Int) : Rat) = 9999999 := rfl
  have c3 : ((1000 : Int) : Rat) = 1000 := rfl
  rw [c1] at hn1
  rw [c2] at hn2
  rw [c3] at he1 he2
  have e53 : p2 (-((Ieee.double.fractionBits : Int) + 1)) = p2 (-53) := rfl
  rw [e53] at he1 he2
  have hp : p2 (-39) = 16384 * p2 (-53) := by rw [← p2_14, ← p2_add]; rfl
  have hp2 : p2 (-38) = 2 * p2 (-39) := by rw [← p2_succ]; rfl
  have hpos := p2_pos (-53)
  obtain ⟨y, hy⟩ : ∃ y, y = (n : Rat) / 1000 := ⟨_, rfl⟩
  have hy2 : 1000 * y = (n : Rat) := by rw [hy]; grind
  rw [← hy] at he1 he2 ⊢
  have hm : (if y < 0 then -y else y) ≤ 10000 := by split <;> grind
  have hm2 := Rat.mul_le_mul_of_nonneg_right hm (Rat.le_of_lt hpos)
  have hq1 : q - y ≤ p2 (-39) := by grind
  have hq2 : y - q ≤ p2 (-39) := by grind
  have hsm : p2 (-39) ≤ 1 / 2048 := by
    have h3 : p2 (-39) * 2048 = p2 (-28) := by
      have : (2048 : Rat) = p2 11 := by rw [show (11 : Int) = ((11 : Nat) : Int) from rfl, p2_nat]; rfl
      rw [this, ← p2_add]; rfl
    have h4 : p2 (-28) ≤ p2 0 := p2_mono (by decide)
    rw [p2_zero] at h4
    grind
  have c10 : ((10000 : Nat) : Rat) = 10000 := rfl
  obtain ⟨z, hz, hv⟩ := repr_ex Ieee.double (n := 10000) (e := 0) (by decide) (by decide) (by rw [inf64]; exact rlt_of_le (b := p2 14) (by rw [p2_zero, p2_14, c10]; grind) (p2_mono (by decide)))
  have hv' : rv Ieee.double z = 10000 := by rw [hv, p2_zero, c10]; grind
  have hb := hr.le hz (by rw [hv']; grind) (by rw [hv']; grind)
  rw [hv'] at hb
  have her := hr.err_lt (E := 14) (by rw [p2_14]; grind) (by rw [p2_14]; grind) (by decide) hb.1
  have e40 : p2 (14 - (Ieee.double.fractionBits : Int) - 2) = p2 (-40) := rfl
  rw [e40] at her
  have hp3 : p2 (-39) = 2 * p2 (-40) := by rw [← p2_succ]; rfl
  refine ⟨e, hb.1, by grind, by grind, hb.2.1, hb.2.2⟩

/-- The float32 of so many thousandths: finite, and not farther than half a unit, and a little, from them. -/
theorem mp_spec {n : Int} (h1 : -9999999 ≤ n) (h2 : n ≤ 9999999) :
    Fin Ieee.single (mp n) ∧ 1000 * val Ieee.single (mp n) - (n : Rat) ≤ 49 / 100 ∧ (n : Rat) - 1000 * val Ieee.single (mp n) ≤ 49 / 100 ∧ val Ieee.single (mp n) ≤ 10000 ∧ -10000 ≤ val Ieee.single (mp n) := by
  obtain ⟨_, hf, he1, he2, hl1, hl2⟩ := mq_spec h1 h2
  have hr := narrow_spec hf
  have c10 : ((10000 : Nat) : Rat) = 10000 := rfl
  obtain ⟨z, hz, hv⟩ := repr_ex Ieee.single (n := 10000) (e := 0) (by decide) (by decide) (by rw [inf32]; exact rlt_of_le (b := p2 14) (by rw [p2_zero, p2_14, c10]; grind) (p2_mono (by decide)))
  have hv' : rv Ieee.single z = 10000 := by rw [hv, p2_zero, c10]; grind
  have hb := hr.le hz (by rw [hv']; exact hl1) (by rw [hv']; exact hl2)
  rw [hv'] at hb
  have her := hr.err_lt (E := 14) (by rw [p2_14]; grind) (by rw [p2_14]; grind) (by decide) hb.1
  have e11 : p2 (14 - (Ieee.single.fractionBits : Int) - 2) = p2 (-11) := rfl
  rw [e11] at her
  have h11 : p2 (-11) * 2048 = 1 := by
    have : (2048 : Rat) = p2 11 := by rw [show (11 : Int) = ((11 : Nat) : Int) from rfl, p2_nat]; rfl
    rw [this, ← p2_add]; exact p2_zero
  have h38 : p2 (-38) * 134217728 = p2 (-11) := by
    have : (134217728 : Rat) = p2 27 := by rw [show (27 : Int) = ((27 : Nat) : Int) from rfl, p2_nat]; rfl
    rw [this, ← p2_add]; rfl
  change Fin Ieee.single (mp n) ∧ val Ieee.single (mp n) ≤ _ ∧ _ ≤ val Ieee.single (mp n) at hb
  change val Ieee.single (mp n) - _ ≤ _ ∧ _ - val Ieee.single (mp n) ≤ _ at her
  generalize val Ieee.single (mp n) = v at *
  generalize val Ieee.double (mq n) = u at *
  obtain ⟨y, hy⟩ : ∃ y, y = (n : Rat) / 1000 := ⟨_, rfl⟩
  have hy2 : 1000 * y = (n : Rat) := by rw [hy]; grind
  rw [← hy] at he1 he2
  rw [← hy2]
  have hpos := p2_pos (-11)
  generalize p2 (-11) = e at *
  generalize p2 (-38) = d at *
  refine ⟨hb.1, ?_, ?_, hb.2.1, hb.2.2⟩ <;> grind
end Go.Proofs.YtnomlkkhkacajaaGreatDoor
