/- Texts on the way to a law (A3, A4, Tho, Tho2), each with its own remark. -/
import Derived.Test.YtnomlkkhkacajaaGreatDoorPC02
import Derived.StillTailTactics
namespace Go.Proofs.YtnomlkkhkacajaaGreatDoor
open Go.RowKit

/-- From low on and at most high. -/
def inB (n lo hi : Int) : Bool := decide (lo ≤ n) && decide (n ≤ hi)
theorem inB_true {n lo hi : Int} (h1 : lo ≤ n) (h2 : n ≤ hi) : inB n lo hi = true := by simp [inB, h1, h2]
theorem inB_lo {n lo hi : Int} (h1 : n < lo) : inB n lo hi = false := by simp [inB]; omega
theorem inB_hi {n lo hi : Int} (h1 : hi < n) : inB n lo hi = false := by simp [inB]; omega
theorem inB_iff {n lo hi : Int} : inB n lo hi = true ↔ lo ≤ n ∧ n ≤ hi := by simp [inB]
theorem inB_false_iff {n lo hi : Int} : inB n lo hi = false ↔ n < lo ∨ hi < n := by
  rw [← Bool.not_eq_true, inB_iff]; omega

theorem l1In_any (n lo hi : Int) (w : World) : Calls Tryz.prog 58 #[.int .i64 n, .int .i64 lo, .int .i64 hi] w fun e w' => e = .returned (.bool (inB n lo hi)) ∧ w' = w := by
  by_cases h1 : lo ≤ n
  · by_cases h2 : n ≤ hi
    · rw [inB_true h1 h2]
      go_enter Tryz.func58, Tryz.ntmps58
      go_wp2_with fail
      go_ret
      exact ⟨rfl, rfl⟩
    · rw [inB_hi (by omega)]
      go_enter Tryz.func58, Tryz.ntmps58
      go_wp2_with fail
      go_ret
      exact ⟨rfl, rfl⟩
  · rw [inB_lo (by omega)]
    go_enter Tryz.func58, Tryz.ntmps58
    go_wp2_with fail
    go_ret
    exact ⟨rfl, rfl⟩

def milB (n : Int) : Bool := inB n (-9999999) 9999999
/-- So many thousandths. -/
def milli (a b : Int) : C := if milB a && milB b then (mp a, mp b) else (0, 0)
theorem milli_conv {a b : Int} (ha : milB a = true) (hb : milB b = true) : cConvBits .f64 (mq a) (mq b) .f32 = some (mp a, mp b) := by
  obtain ⟨a1, a2⟩ := inB_iff.1 ha
  obtain ⟨b1, b2⟩ := inB_iff.1 hb
  exact cconv_narrow (mq_spec a1 a2).2.1 (mp_spec a1 a2).1 (mq_spec b1 b2).2.1 (mp_spec b1 b2).1
theorem milli_yes {a b : Int} (ha : milB a = true) (hb : milB b = true) : cv (milli a b) = .complex .f32 (mp a) (mp b) := by simp [milli, ha, hb, cv]
theorem milli_no {a b : Int} (h : milB a = false ∨ milB b = false) : cv (milli a b) = .complex .f32 0 0 := by
  rcases h with h | h <;> simp [milli, h, cv]
theorem milli_fin (a b : Int) : finB (milli a b) = true := by
  unfold milli
  by_cases h : (milB a && milB b) = true
  · rw [if_pos h]
    simp only [Bool.and_eq_true] at h
    obtain ⟨a1, a2⟩ := inB_iff.1 h.1
    obtain ⟨b1, b2⟩ := inB_iff.1 h.2
    exact finB_iff.2 ⟨(mp_spec a1 a2).1, (mp_spec b1 b2).1⟩
  · rw [if_neg h]; decide
set_option maxHeartbeats 400000 in
theorem sMilli (a b : Int) (w : World) : Calls Tryz.prog 107 #[.int .i64 a, .int .i64 b] w fun e w' => e = .returned (cv (milli a b)) ∧ w' = w := by
  by_cases ha : milB a = true
  · by_cases hb : milB b = true
    · have ha1 : Ieee.double.div (floatOfInt .f64 a) 4652007308841189376 = some (mq a) := (mq_spec (inB_iff.1 ha).1 (inB_iff.1 ha).2).1
      have hb1 : Ieee.double.div (floatOfInt .f64 b) 4652007308841189376 = some (mq b) := (mq_spec (inB_iff.1 hb).1 (inB_iff.1 hb).2).1
      have q1 := fun w => run_float_arith (P := Tryz.prog) w .quo 120 .f64 (floatOfInt .f64 a) 4652007308841189376 (mq a) ha1
      have q2 := fun w => run_float_arith (P := Tryz.prog) w .quo 120 .f64 (floatOfInt .f64 b) 4652007308841189376 (mq b) hb1
      have q3 := fun w => run_convert_complex (P := Tryz.prog) w 119 73 .f64 .f32 (mq a) (mq b) (mp a) (mp b) (by kernel_rfl) Tryz.underlying73 (milli_conv ha hb)
      rw [milli_yes ha hb]
      unfold milB at ha hb
      clear ha1 hb1
      go_enter Tryz.func107, Tryz.ntmps107
      go_wp2_with fail
      refine (l1In_any _ _ _ _).mono ?_
      rintro e w' ⟨rfl, rfl⟩
      go_wp2_with fail
      refine (l1In_any _ _ _ _).mono ?_
      rintro e w' ⟨rfl, rfl⟩
      go_wp2_with fail
      go_ret
      exact ⟨rfl, rfl⟩
    · have hb' : milB b = false := by simpa using hb
      rw [milli_no (.inr hb')]
      unfold milB at ha hb'
      clear hb
      go_enter Tryz.func107, Tryz.ntmps107
      go_wp2_with fail
      refine (l1In_any _ _ _ _).mono ?_
      rintro e w' ⟨rfl, rfl⟩
      go_wp2_with fail
      refine (l1In_any _ _ _ _).mono ?_
      rintro e w' ⟨rfl, rfl⟩
      go_wp2_with fail
      go_ret
      exact ⟨rfl, rfl⟩
  · have ha' : milB a = false := by simpa using ha
    rw [milli_no (.inl ha')]
    unfold milB at ha'
    clear ha
    go_enter Tryz.func107, Tryz.ntmps107
    go_wp2_with fail
    refine (l1In_any _ _ _ _).mono ?_
    rintro e w' ⟨rfl, rfl⟩
    go_wp2_with fail
    go_ret
    exact ⟨rfl, rfl⟩

set_option maxHeartbeats 800000 in
theorem iMilli (a b : Int) (w : World) : Calls Tryz.prog 44 #[.int .i64 a, .int .i64 b] w fun e w' => e = .returned (cv (milli a b)) ∧ w' = w := by
  by_cases h1 : a < -9999999
  · rw [milli_no (.inl (inB_lo h1))]
    go_enter Tryz.func44, Tryz.ntmps44
    go_wp2_with fail
    go_ret
    exact ⟨rfl, rfl⟩
  by_cases h2 : 9999999 < a
  · rw [milli_no (.inl (inB_hi h2))]
    go_enter Tryz.func44, Tryz.ntmps44
    go_wp2_with fail
    go_ret
    exact ⟨rfl, rfl⟩
  by_cases h3 : b < -9999999
  · rw [milli_no (.inr (inB_lo h3))]
    go_enter Tryz.func44, Tryz.ntmps44
    go_wp2_with fail
    go_ret
    exact ⟨rfl, rfl⟩
  by_cases h4 : 9999999 < b
  · rw [milli_no (.inr (inB_hi h4))]
    go_enter Tryz.func44, Tryz.ntmps44
    go_wp2_with fail
    go_ret
    exact ⟨rfl, rfl⟩
  have ha : milB a = true := inB_true (by omega) (by omega)
  have hb : milB b = true := inB_true (by omega) (by omega)
  have ha1 : Ieee.double.div (floatOfInt .f64 a) 4652007308841189376 = some (mq a) := (mq_spec (inB_iff.1 ha).1 (inB_iff.1 ha).2).1
  have hb1 : Ieee.double.div (floatOfInt .f64 b) 4652007308841189376 = some (mq b) := (mq_spec (inB_iff.1 hb).1 (inB_iff.1 hb).2).1
  have q1 := fun w => run_float_arith (P := Tryz.prog) w .quo 120 .f64 (floatOfInt .f64 a) 4652007308841189376 (mq a) ha1
  have q2 := fun w => run_float_arith (P := Tryz.prog) w .quo 120 .f64 (floatOfInt .f64 b) 4652007308841189376 (mq b) hb1
  have q3 := fun w => run_convert_complex (P := Tryz.prog) w 119 73 .f64 .f32 (mq a) (mq b) (mp a) (mp b) (by kernel_rfl) Tryz.underlying73 (milli_conv ha hb)
  rw [milli_yes ha hb]
  clear ha1 hb1 ha hb
  go_enter Tryz.func44, Tryz.ntmps44
  go_wp2_with fail
  go_ret
  exact ⟨rfl, rfl⟩
end Go.Proofs.YtnomlkkhkacajaaGreatDoor
namespace Go.Proofs.YtnomlkkhkacajaaGreatDoor
open Go.RowKit

end Go.Proofs.YtnomlkkhkacajaaGreatDoor
namespace Go.Proofs.YtnomlkkhkacajaaGreatDoor

/- The whole part of a number that is not negative. -/
theorem cut_zero (neg : Bool) (n drop : Nat) : Ieee.Toward.zero.cut neg n drop = n / 2 ^ drop := by
  have hk : Ieee.Toward.zero.cut neg n drop = n / (1 <<< min drop (n.log2 + 2)) + 0 := rfl
  rw [hk, Nat.one_shiftLeft, Nat.add_zero]
  rcases Nat.le_total drop (n.log2 + 2) with hd | hd
  · rw [Nat.min_eq_left hd]
  · rw [Nat.min_eq_right hd]
    have hn : n < 2 ^ (n.log2 + 1) := Nat.lt_log2_self
    have hp : 2 ^ (n.log2 + 2) = 2 * 2 ^ (n.log2 + 1) := by rw [Nat.pow_succ 2 (n.log2 + 1), Nat.mul_comm]
    have hle : 2 ^ (n.log2 + 2) ≤ 2 ^ drop := Nat.pow_le_pow_right (by decide) hd
    rw [Nat.div_eq_of_lt (by omega), Nat.div_eq_of_lt (by omega)]
theorem trunc_spec {s : Nat} (h : Fin Ieee.double s) (h0 : 0 ≤ val Ieee.double s) (h1 : val Ieee.double s < p2 62) :
    ∃ t : Int, floatToIntVal .f64 s .i64 = some t ∧ (t : Rat) ≤ val Ieee.double s ∧ val Ieee.double s < (t : Rat) + 1 := by
  obtain ⟨m, p, e1, e2⟩ := read_fin Ieee.double h
  -- the magnitude's whole part
  obtain ⟨k, hk⟩ : ∃ k, k = (m <<< p.toNat) / 2 ^ (-p).toNat := ⟨_, rfl⟩
  have hpow : (0 : Rat) < ((2 ^ (-p).toNat : Nat) : Rat) := Rat.natCast_pos.2 (Nat.two_pow_pos _)
  have hval : (m : Rat) * p2 p * ((2 ^ (-p).toNat : Nat) : Rat) = ((m <<< p.toNat : Nat) : Rat) := by
    rw [Nat.shiftLeft_eq, Rat.natCast_mul, ← p2_nat, ← p2_nat, Rat.mul_assoc, ← p2_add]
    congr 2; omega
  have hdm := Nat.div_add_mod (m <<< p.toNat) (2 ^ (-p).toNat)
  have hml := Nat.mod_lt (m <<< p.toNat) (Nat.two_pow_pos (-p).toNat)
  rw [← hk] at hdm
  have hA : (k : Rat) ≤ (m : Rat) * p2 p := by
    refine Rat.le_of_mul_le_mul_right ?_ hpow
    rw [hval, ← Rat.natCast_mul]
    exact Rat.natCast_le_natCast.2 (by rw [Nat.mul_comm]; omega)
  have hB : (m : Rat) * p2 p < (k : Rat) + 1 := by
    refine Rat.lt_of_mul_lt_mul_right ?_ (Rat.le_of_lt hpow)
    have h1' : ((1 : Nat) : Rat) = 1 := rfl
    rw [hval, ← h1', ← Rat.natCast_add, ← Rat.natCast_mul]
    refine Rat.natCast_lt_natCast.2 ?_
    rw [Nat.add_mul, Nat.one_mul, Nat.mul_comm]; omega
  have hvs : val Ieee.double s = sr (sg Ieee.double s) ((m : Rat) * p2 p) := by unfold val; rw [e2]
  have hn0 := mag_nonneg m p
  -- the sign
  have hm : val Ieee.double s = (m : Rat) * p2 p := by
    rw [hvs] at h0 ⊢
    generalize sg Ieee.double s = b at h0 ⊢
    cases b
    · rfl
    · rw [sr_true] at h0 ⊢
      generalize (m : Rat) * p2 p = q at *
      grind
  have hkb : k < 2 ^ 62 := by
    have h3 : (k : Rat) < ((2 ^ 62 : Nat) : Rat) := by rw [← p2_nat]; exact rlt_of_le' hA (by rw [← hm]; exact h1)
    exact Rat.natCast_lt_natCast.1 h3
  obtain ⟨t, ht, hts⟩ : ∃ t : Int, t = Ieee.signed (sg Ieee.double s) k 0 ∧ t = (k : Int) := by
    refine ⟨_, rfl, ?_⟩
    unfold Ieee.signed
    rw [Nat.shiftLeft_zero]
    cases hsg : sg Ieee.double s
    · rfl
    · rw [hsg, sr_true] at hvs
      have : (k : Rat) ≤ 0 := by grind
      have h4 : k ≤ 0 := Rat.natCast_le_natCast.1 this
      have : k = 0 := by omega
      subst this; rfl
  refine ⟨(k : Int), ?_, ?_, ?_⟩
  · unfold floatToIntVal
    have e3 : (FloatKind.f64.decode s).toInt .zero = some t := by
      show (Ieee.double.read s).toInt .zero = some t
      rw [e1]
      show some (Ieee.signed _ (Ieee.Toward.zero.cut _ (m <<< p.toNat) (-p).toNat) 0) = _
      rw [cut_zero, ← hk, ht]
    rw [e3]
    show (if _ then some t else none) = _
    have hmin : IntKind.i64.min = -9223372036854775808 := by decide
    have hmax : IntKind.i64.max = 9223372036854775807 := by decide
    have h62 : (2 : Nat) ^ 62 = 4611686018427387904 := by decide
    rw [if_pos (by rw [hmin, hmax, hts]; omega), hts]
  · rw [Rat.intCast_natCast, hm]; exact hA
  · rw [Rat.intCast_natCast, hm]; exact hB

/- A number rounded has one value. -/
theorem Rnd.uniq {f : Ieee.Format} {q : Rat} {r r' : Nat} (h : Rnd f q r) (h' : Rnd f q r') : val f r = val f r' := Rat.le_antisymm (h.mono h' Rat.le_refl) (h'.mono h Rat.le_refl)

def absR (q : Rat) : Rat := if q < 0 then -q else q
theorem absR_nonneg (q : Rat) : 0 ≤ absR q := by unfold absR; split <;> grind

/-- So many thousandths, rounded: in double precision times 1000, a half more, without what is behind the point. -/
def IsThou (x : Nat) (t : Int) : Prop :=
  Fin Ieee.single x ∧ -9999999 ≤ t ∧ t ≤ 9999999 ∧ (val Ieee.single x < 0 → t ≤ 0) ∧ (0 ≤ val Ieee.single x → 0 ≤ t) ∧
    ∃ c s, Rnd Ieee.double (1000 * absR (val Ieee.single x)) c ∧ Fin Ieee.double c ∧ Rnd Ieee.double (val Ieee.double c + 1 / 2) s ∧ Fin Ieee.double s ∧
      ((t.natAbs : Nat) : Rat) ≤ val Ieee.double s ∧ val Ieee.double s < ((t.natAbs : Nat) : Rat) + 1
theorem IsThou.uniq {x : Nat} {t t' : Int} (h : IsThou x t) (h' : IsThou x t') : t = t' := by
  obtain ⟨_, _, _, h1, h2, c, s, hc, _, hs, _, h3, h4⟩ := h
  obtain ⟨_, _, _, h1', h2', c', s', hc', _, hs', _, h3', h4'⟩ := h'
  have e1 := hc.uniq hc'
  rw [e1] at hs
  have e2 := hs.uniq hs'
  rw [e2] at h3 h4
  have a1 : ((t.natAbs : Nat) : Rat) < ((t'.natAbs + 1 : Nat) : Rat) := by rw [Rat.natCast_add]; exact rlt_of_le' h3 h4'
  have a2 : ((t'.natAbs : Nat) : Rat) < ((t.natAbs + 1 : Nat) : Rat) := by rw [Rat.natCast_add]; exact rlt_of_le' h3' h4
  have b1 := Rat.natCast_lt_natCast.1 a1
  have b2 := Rat.natCast_lt_natCast.1 a2
  by_cases hv : val Ieee.single x < 0
  · have := h1 hv; have := h1' hv; omega
  · have := h2 (by grind); have := h2' (by grind); omega

open Classical in
/-- The thousandths of a part; none, if it has none. -/
noncomputable def thou (x : Nat) : Option Int := if h : ∃ t, IsThou x t then some h.choose else none
theorem thou_some {x : Nat} {t : Int} (h : IsThou x t) : thou x = some t := by
  unfold thou
  have he : ∃ t, IsThou x t := ⟨t, h⟩
  rw [dif_pos he, he.choose_spec.uniq h]
theorem thou_none {x : Nat} (h : ∀ t, ¬ IsThou x t) : thou x = none := by
  unfold thou
  rw [dif_neg (fun ⟨t, ht⟩ => h t ht)]
theorem thou_is {x : Nat} {t : Int} (h : thou x = some t) : IsThou x t := by
  unfold thou at h
  split at h
  · rename_i he; injection h with h; rw [← h]; exact he.choose_spec
  · cases h

/- Words: the absolute value, and one half. -/
theorem rg_lt (f : Ieee.Format) (y : Nat) : rg f y < f.signWeight := Nat.mod_lt _ (sw_pos f)
theorem abs_word {f : Ieee.Format} {y : Nat} (h : Fin f y) : Fin f (rg f y) ∧ val f (rg f y) = absR (val f y) := by
  have h1 : rg f (rg f y) = rg f y := Nat.mod_eq_of_lt (rg_lt f y)
  have h2 : sg f (rg f y) = false := by
    have := sg_word f false (rg_lt f y)
    exact this
  refine ⟨by unfold Fin; rw [h1]; exact h, ?_⟩
  unfold val
  rw [h1, h2, sr_false]
  have := rv_nonneg f (rg f y)
  generalize rv f (rg f y) = q at *
  unfold absR
  cases sg f y
  · rw [sr_false, if_neg (by grind)]
  · rw [sr_true]; split <;> grind
theorem khalf : Fin Ieee.double 4602678819172646912 ∧ val Ieee.double 4602678819172646912 = 1 / 2 := by
  refine ⟨by decide, ?_⟩
  have h1 : rg Ieee.double 4602678819172646912 = 1021 * Ieee.double.binade + Ieee.double.binade := by decide
  have h2 : sg Ieee.double 4602678819172646912 = false := by decide
  unfold val
  rw [h1, h2, sr_false, rv_form Ieee.double (by omega) (.inr (Nat.le_refl _)), binade_rat]
  unfold un
  rw [← p2_add]
  have h3 : (Ieee.double.fractionBits : Int) + (Ieee.double.leastPlace + ((1021 : Nat) : Int)) = -1 := by decide
  rw [h3]
  have h4 : p2 (-1) * 2 = 1 := by
    have := p2_add (-1) 1
    rw [p2_one] at this
    rw [← this]; exact p2_zero
  grind
theorem c1000 : val Ieee.double 4652007308841189376 = 1000 := by
  have := k1000.2
  rw [this]; rfl

/- Thousandths are there again. -/
theorem absR_le {q b : Rat} (h1 : q ≤ b) (h2 : -b ≤ q) : absR q ≤ b := by unfold absR; split <;> grind
theorem mp_thou {n : Int} (h1 : -9999999 ≤ n) (h2 : n ≤ 9999999) : IsThou (mp n) n := by
  obtain ⟨hf, e1, e2, l1, l2⟩ := mp_spec h1 h2
  obtain ⟨v, hv⟩ : ∃ v, v = val Ieee.single (mp n) := ⟨_, rfl⟩
  rw [← hv] at e1 e2 l1 l2
  have a0 := absR_nonneg v
  have a1 : absR v ≤ 10000 := absR_le l1 l2
  have hP := p2_pos (-30)
  have h24 : p2 24 = 16777216 := by rw [show (24 : Int) = ((24 : Nat) : Int) from rfl, p2_nat]; rfl
  have h30 : p2 (-30) * 1073741824 = 1 := by
    have : (1073741824 : Rat) = p2 30 := by rw [show (30 : Int) = ((30 : Nat) : Int) from rfl, p2_nat]; rfl
    rw [this, ← p2_add]; exact p2_zero
  -- a number of double precision that nothing here passes
  have c24 : ((16777215 : Nat) : Rat) = 16777215 := rfl
  obtain ⟨z, hz, hvz⟩ := repr_ex Ieee.double (n := 16777215) (e := 0) (by decide) (by decide) (by rw [inf64]; exact rlt_of_le (b := p2 24) (by rw [p2_zero, h24, c24]; grind) (p2_mono (by decide)))
  have hz' : rv Ieee.double z = 16777215 := by rw [hvz, p2_zero, c24]; grind
  have e28 : p2 (24 - (Ieee.double.fractionBits : Int) - 2) = p2 (-30) := rfl
  -- the product
  obtain ⟨fw, ew⟩ := wide_spec hf
  obtain ⟨fa, ea⟩ := abs_word fw
  rw [ew, ← hv] at ea
  obtain ⟨c, _, hc⟩ := mul_spec fa k1000.1
  rw [ea, c1000, Rat.mul_comm] at hc
  obtain ⟨fc, lc, lc'⟩ := hc.le hz (by rw [hz']; grind) (by rw [hz']; grind)
  have ec := hc.err_lt (E := 24) (by rw [h24]; grind) (by rw [h24]; grind) (by decide) fc
  rw [e28] at ec
  obtain ⟨s, _, hs⟩ := add_spec fc khalf.1
  rw [khalf.2] at hs
  obtain ⟨fs, ls, ls'⟩ := hs.le hz (by rw [hz']; grind) (by rw [hz']; grind)
  have es := hs.err_lt (E := 24) (by rw [h24]; grind) (by rw [h24]; grind) (by decide) fs
  rw [e28] at es
  have hn : ((n.natAbs : Nat) : Rat) = absR (n : Rat) := by
    have h0 : ((0 : Int) : Rat) = 0 := rfl
    unfold absR
    by_cases h : n < 0
    · have h3 : (n : Rat) < 0 := by rw [← h0]; exact Rat.intCast_lt_intCast.2 h
      rw [if_pos h3, ← Rat.intCast_natCast, ← Rat.intCast_neg]
      congr 1; omega
    · have h3 : (0 : Rat) ≤ (n : Rat) := by rw [← h0]; exact Rat.intCast_le_intCast.2 (by omega)
      rw [if_neg (by grind), ← Rat.intCast_natCast]
      congr 1; omega
  -- of what sign the number is
  have sgn : (n < 0 → v < 0) ∧ (0 < n → 0 < v) := by
    have h1' : ((1 : Int) : Rat) = 1 := rfl
    have hm1 : ((-1 : Int) : Rat) = -1 := rfl
    constructor
    · intro h
      have : (n : Rat) ≤ ((-1 : Int) : Rat) := Rat.intCast_le_intCast.2 (by omega)
      rw [hm1] at this
      grind
    · intro h
      have : ((1 : Int) : Rat) ≤ (n : Rat) := Rat.intCast_le_intCast.2 (by omega)
      rw [h1'] at this
      grind
  have d1 : 1000 * absR v - absR (n : Rat) ≤ 49 / 100 := by unfold absR; split <;> split <;> grind
  have d2 : absR (n : Rat) - 1000 * absR v ≤ 49 / 100 := by unfold absR; split <;> split <;> grind
  refine ⟨hf, h1, h2, ?_, ?_, c, s, by rw [← hv]; exact hc, fc, hs, fs, ?_, ?_⟩
  · rw [← hv]; intro h
    rcases (show n < 0 ∨ n = 0 ∨ 0 < n by omega) with h3 | h3 | h3
    · omega
    · omega
    · have := sgn.2 h3; grind
  · rw [← hv]; intro h
    rcases (show n < 0 ∨ n = 0 ∨ 0 < n by omega) with h3 | h3 | h3
    · have := sgn.1 h3; grind
    · omega
    · omega
  · rw [hn]
    generalize val Ieee.double s = S at *
    generalize val Ieee.double c = T at *
    generalize 1000 * absR v = U at *
    generalize absR (n : Rat) = V at *
    generalize p2 (-30) = d at *
    clear hc hs hn hz' hvz h24 c24 e28
    grind
  · rw [hn]
    generalize val Ieee.double s = S at *
    generalize val Ieee.double c = T at *
    generalize 1000 * absR v = U at *
    generalize absR (n : Rat) = V at *
    generalize p2 (-30) = d at *
    clear hc hs hn hz' hvz h24 c24 e28
    grind
end Go.Proofs.YtnomlkkhkacajaaGreatDoor
namespace Go.Proofs.YtnomlkkhkacajaaGreatDoor

/- The sign turned. -/
theorem xor_sw {k r : Nat} (h : r < 2 ^ k) : r ^^^ 2 ^ k = 2 ^ k + r := by
  apply Nat.eq_of_testBit_eq
  intro i
  rw [Nat.testBit_xor, Nat.testBit_two_pow]
  rcases Nat.lt_trichotomy i k with h1 | h1 | h1
  · have : k ≠ i := by omega
    rw [Nat.testBit_two_pow_add_gt h1]; simp [this]
  · subst h1
    rw [Nat.testBit_two_pow_add_eq]
    simp
  · have h2 : r.testBit i = false := Nat.testBit_lt_two_pow (Nat.lt_of_lt_of_le h (Nat.pow_le_pow_right (by decide) (by omega)))
    have h3 : (2 ^ k + r).testBit i = false := Nat.testBit_lt_two_pow (Nat.lt_of_lt_of_le (show 2 ^ k + r < 2 ^ (k + 1) by rw [Nat.pow_succ]; omega) (Nat.pow_le_pow_right (by decide) (by omega)))
    rw [h2, h3]
    have : k ≠ i := by omega
    simp [this]
theorem neg_word (k : FloatKind) (s : Bool) {r : Nat} (h : r < k.format.signWeight) : Op.negFloat k (k.format.word s r) = k.format.word (!s) r := by
  unfold Op.negFloat
  show _ ^^^ 2 ^ (k.format.exponentBits + k.format.fractionBits) = _
  have h' : r < 2 ^ (k.format.exponentBits + k.format.fractionBits) := h
  cases s
  · exact xor_sw h'
  · show (k.format.signWeight + r) ^^^ _ = r
    have : k.format.signWeight + r = r ^^^ 2 ^ (k.format.exponentBits + k.format.fractionBits) := (xor_sw h').symm
    rw [this, Nat.xor_assoc, Nat.xor_self, Nat.xor_zero]
theorem neg_rnd {k : FloatKind} {q : Rat} {r : Nat} (h : Rnd k.format q r) : Rnd k.format (-q) (Op.negFloat k r) ∧ val k.format (Op.negFloat k r) = -val k.format r ∧ (Fin k.format r → Fin k.format (Op.negFloat k r)) := by
  obtain ⟨s, m, p, rfl, rfl⟩ := h
  have hlt : rung k.format m p < k.format.signWeight := Nat.lt_of_le_of_lt (rung_le_inf k.format m p) k.format.infRung_lt
  have e : Op.negFloat k (k.format.nearest s m p) = k.format.nearest (!s) m p := by rw [nearest_eq, nearest_eq, neg_word k s hlt]
  rw [e]
  refine ⟨⟨!s, m, p, rfl, (sr_not s _).symm⟩, ?_, ?_⟩
  · unfold val; rw [nearest_rg, nearest_sg, nearest_rg, nearest_sg, sr_not]
  · unfold Fin; rw [nearest_rg, nearest_rg]; exact fun h => h
theorem wide_rnd {x : Nat} (h : Fin Ieee.single x) : Rnd Ieee.double (val Ieee.single x) (wide x) := by
  obtain ⟨m, p, e, e2⟩ := read_fin Ieee.single h
  unfold wide
  rw [e]
  exact ⟨_, m, p, rfl, by unfold val; rw [e2]⟩
theorem neg_wide {x : Nat} (h : Fin Ieee.single x) : Fin Ieee.double (Op.negFloat .f64 (wide x)) ∧ val Ieee.double (Op.negFloat .f64 (wide x)) = -val Ieee.single x := by
  have h1 := neg_rnd (k := .f64) (wide_rnd h)
  have h2 := wide_spec h
  exact ⟨h1.2.2 h2.1, h1.2.1.trans (congrArg (fun q : Rat => -q) h2.2)⟩

/- How numbers stand to nought, and to 10000000. -/
theorem fin_zero (f : Ieee.Format) (h : 0 < f.infRung) : Fin f 0 ∧ val f 0 = 0 := by
  have e : rg f 0 = 0 := Nat.zero_mod _
  refine ⟨by unfold Fin; rw [e]; exact h, ?_⟩
  unfold val; rw [e, rv_zero, sr_zero]
theorem zero32 : Fin Ieee.single 0 ∧ val Ieee.single 0 = 0 := fin_zero _ (by decide)
theorem zero64 : Fin Ieee.double 0 ∧ val Ieee.double 0 = 0 := fin_zero _ (by decide)
theorem lt_iff {f : Ieee.Format} {x y : Nat} (hx : Fin f x) (hy : Fin f y) : (f.order x y == some .lt) = decide (val f x < val f y) := by
  obtain ⟨c, e, h1, h2, h3⟩ := order_spec hx hy
  rw [e]
  by_cases h : val f x < val f y
  · rw [h1.2 h]; simp [h]
  · simp only [h, decide_false]
    cases c <;> simp_all
theorem gt_iff {f : Ieee.Format} {x y : Nat} (hx : Fin f x) (hy : Fin f y) : (f.order x y == some .gt) = decide (val f y < val f x) := by
  obtain ⟨c, e, h1, h2, h3⟩ := order_spec hx hy
  rw [e]
  by_cases h : val f y < val f x
  · rw [h3.2 h]; simp [h]
  · simp only [h, decide_false]
    cases c <;> simp_all
theorem eq_iff {f : Ieee.Format} {x y : Nat} (hx : Fin f x) (hy : Fin f y) : (f.order x y == some .eq) = decide (val f x = val f y) := by
  obtain ⟨c, e, h1, h2, h3⟩ := order_spec hx hy
  rw [e]
  by_cases h : val f x = val f y
  · rw [h2.2 h]; simp [h]
  · simp only [h, decide_false]
    cases c <;> simp_all
theorem k10m : Whl Ieee.double 4711630319722168320 10000000 := by
  have h := int_whl (n := 10000000) (by decide)
  rw [show floatOfInt .f64 10000000 = 4711630319722168320 by decide] at h
  exact h

/- The roundings at hand: nothing leaves the doubles. -/
theorem big64 {q : Rat} {r : Nat} (h : Rnd Ieee.double q r) (h1 : q ≤ p2 200) (h2 : -p2 200 ≤ q) : Fin Ieee.double r ∧ val Ieee.double r ≤ p2 200 ∧ -p2 200 ≤ val Ieee.double r := by
  obtain ⟨z, hz, hv⟩ := repr_ex Ieee.double (n := 1) (e := 200) (by decide) (by decide) (by
    have c1 : ((1 : Nat) : Rat) = 1 := rfl
    rw [inf64, c1, Rat.one_mul]
    have := p2_lt (show (200 : Int) < 1024 by decide)
    have := p2_pos 200
    grind)
  have c1 : ((1 : Nat) : Rat) = 1 := rfl
  rw [c1, Rat.one_mul] at hv
  have := h.le hz (by rw [hv]; exact h1) (by rw [hv]; exact h2)
  rwa [hv] at this
theorem val32_lt {x : Nat} (h : Fin Ieee.single x) : absR (val Ieee.single x) < p2 128 := by
  have h1 : rv Ieee.single (rg Ieee.single x) < p2 128 := by rw [← inf32]; exact rv_lt_inf h
  have h0 := rv_nonneg Ieee.single (rg Ieee.single x)
  unfold val absR
  cases sg Ieee.single x
  · rw [sr_false]; split <;> grind
  · rw [sr_true]; split <;> grind
theorem p2_138 : 1000 * p2 128 ≤ p2 138 := by
  have h : p2 138 = p2 10 * p2 128 := by rw [← p2_add]; rfl
  have h10 : p2 10 = 1024 := by rw [show (10 : Int) = ((10 : Nat) : Int) from rfl, p2_nat]; rfl
  have := p2_pos 128
  rw [h, h10]; grind

/-- The words of the program's way: the absolute value first. -/
theorem thou_impl {x y : Nat} (h : Fin Ieee.single x) (hy : Fin Ieee.double y) (hv : val Ieee.double y = absR (val Ieee.single x)) :
    ∃ c s, floatBits .mul .f64 y 4652007308841189376 = some c ∧ floatBits .add .f64 c 4602678819172646912 = some s ∧
      (((FloatKind.f64.format.order s 4711630319722168320 == some .gt) = false ∧ (FloatKind.f64.format.order s 4711630319722168320 == some .eq) = false ∧
          ∃ t : Int, 0 ≤ t ∧ t ≤ 9999999 ∧ floatToIntVal .f64 s .i64 = some t ∧ thou x = some (if val Ieee.single x < 0 then -t else t)) ∨
        ((FloatKind.f64.format.order s 4711630319722168320 == some .gt || FloatKind.f64.format.order s 4711630319722168320 == some .eq) = true ∧ thou x = none)) := by
  have a0 := absR_nonneg (val Ieee.single x)
  have a1 := val32_lt h
  have b1 := p2_138
  have b2 : 2 * p2 138 ≤ p2 200 := p2_lt (by decide)
  have b3 : (1 : Rat) ≤ p2 138 := by have := p2_mono (show (0 : Int) ≤ 138 by decide); rwa [p2_zero] at this
  obtain ⟨c, ec, hc⟩ := mul_spec hy k1000.1
  rw [hv, c1000, Rat.mul_comm] at hc
  obtain ⟨fc, lc, lc'⟩ := big64 hc (by grind) (by grind)
  have c0 : 0 ≤ val Ieee.double c := by
    have := (zero64.1)
    have hz : Rnd Ieee.double 0 (Ieee.double.write (.number false 0 0)) := ⟨false, 0, 0, rfl, by simp [sr]⟩
    have hz2 := hz.mono hc (by grind)
    have hz3 := hz.exact (t := false) (z := 0) (by decide) (by rw [rv_zero]; rfl)
    rw [hz3.2] at hz2; exact hz2
  have lc2 : val Ieee.double c ≤ p2 138 := by
    obtain ⟨z, hz, hvz⟩ := repr_ex Ieee.double (n := 1) (e := 138) (by decide) (by decide) (by
      have c1 : ((1 : Nat) : Rat) = 1 := rfl
      rw [inf64, c1, Rat.one_mul]
      have := p2_lt (show (138 : Int) < 1024 by decide)
      have := p2_pos 138
      grind)
    have c1 : ((1 : Nat) : Rat) = 1 := rfl
    rw [c1, Rat.one_mul] at hvz
    have := (hc.le hz (by rw [hvz]; grind) (by rw [hvz]; grind)).2.1
    rwa [hvz] at this
  obtain ⟨s, es, hs⟩ := add_spec fc khalf.1
  rw [khalf.2] at hs
  obtain ⟨fs, ls, ls'⟩ := big64 hs (by grind) (by grind)
  have s0 : 0 ≤ val Ieee.double s := by
    have hz : Rnd Ieee.double 0 (Ieee.double.write (.number false 0 0)) := ⟨false, 0, 0, rfl, by simp [sr]⟩
    have hz2 := hz.mono hs (by grind)
    have hz3 := hz.exact (t := false) (z := 0) (by decide) (by rw [rv_zero]; rfl)
    rw [hz3.2] at hz2; exact hz2
  have kc : ((10000000 : Int) : Rat) = 10000000 := rfl
  have kv : val Ieee.double 4711630319722168320 = 10000000 := by rw [k10m.2, kc]
  have og := gt_iff fs k10m.1
  have oe := eq_iff fs k10m.1
  rw [kv] at og oe
  refine ⟨c, s, ec, es, ?_⟩
  by_cases hlt : val Ieee.double s < 10000000
  · left
    have h62 : p2 62 = 4611686018427387904 := by rw [show (62 : Int) = ((62 : Nat) : Int) from rfl, p2_nat]; rfl
    obtain ⟨t, et, t1, t2⟩ := trunc_spec fs s0 (by rw [h62]; grind)
    have z0 : ((0 : Int) : Rat) = 0 := rfl
    have t0 : 0 ≤ t := by
      have h3 : ((0 : Int) : Rat) < ((t + 1 : Int) : Rat) := by rw [Rat.intCast_add, z0]; show 0 < (t : Rat) + 1; grind
      have := Rat.intCast_lt_intCast.1 h3
      omega
    have t9 : t ≤ 9999999 := by
      have h3 : (t : Rat) < ((10000000 : Int) : Rat) := by rw [kc]; exact rlt_of_le' t1 hlt
      have := Rat.intCast_lt_intCast.1 h3
      omega
    have hna : ((t.natAbs : Nat) : Rat) = (t : Rat) := by rw [← Rat.intCast_natCast]; congr 1; omega
    refine ⟨by show (Ieee.double.order _ _ == _) = _; rw [og]; simp; grind, by show (Ieee.double.order _ _ == _) = _; rw [oe]; simp; grind, t, t0, t9, et, thou_some ?_⟩
    by_cases hneg : val Ieee.single x < 0
    · rw [if_pos hneg]
      exact ⟨h, by omega, by omega, fun _ => by omega, fun h => by grind, c, s, hc, fc, hs, fs, by rw [Int.natAbs_neg, hna]; exact t1, by rw [Int.natAbs_neg, hna]; exact t2⟩
    · rw [if_neg hneg]
      exact ⟨h, by omega, by omega, fun h => absurd h hneg, fun _ => t0, c, s, hc, fc, hs, fs, by rw [hna]; exact t1, by rw [hna]; exact t2⟩
  · right
    refine ⟨?_, thou_none ?_⟩
    · show (Ieee.double.order _ _ == _ || Ieee.double.order _ _ == _) = _
      rw [og, oe]
      simp
      grind
    · rintro t ⟨_, u1, u2, _, _, c', s', hc', _, hs', _, _, u4⟩
      rw [← hc.uniq hc'] at hs'
      rw [← hs.uniq hs'] at u4
      have h3 : ((t.natAbs + 1 : Nat) : Rat) ≤ ((10000000 : Nat) : Rat) := Rat.natCast_le_natCast.2 (by omega)
      rw [Rat.natCast_add] at h3
      have c1 : ((1 : Nat) : Rat) = 1 := rfl
      have c2 : ((10000000 : Nat) : Rat) = 10000000 := rfl
      rw [c1, c2] at h3
      grind

/-- What a number of thousandths that was reckoned says. -/
def Says (x : Nat) (r : Int) : Prop := (-9999999 ≤ r ∧ r ≤ 9999999 → thou x = some r) ∧ (r < -9999999 ∨ 9999999 < r → thou x = none)
theorem says_of {x c s : Nat} {t r : Int} (h : Fin Ieee.single x) (hc : Rnd Ieee.double (1000 * absR (val Ieee.single x)) c) (fc : Fin Ieee.double c) (hs : Rnd Ieee.double (val Ieee.double c + 1 / 2) s) (fs : Fin Ieee.double s)
    (t0 : 0 ≤ t) (t1 : (t : Rat) ≤ val Ieee.double s) (t2 : val Ieee.double s < (t : Rat) + 1) (hr : r.natAbs = t.natAbs) (h1 : val Ieee.single x < 0 → r ≤ 0) (h2 : 0 ≤ val Ieee.single x → 0 ≤ r) : Says x r := by
  have hna : ((r.natAbs : Nat) : Rat) = (t : Rat) := by rw [hr, ← Rat.intCast_natCast]; congr 1; omega
  constructor
  · rintro ⟨h3, h4⟩
    exact thou_some ⟨h, h3, h4, h1, h2, c, s, hc, fc, hs, fs, by rw [hna]; exact t1, by rw [hna]; exact t2⟩
  · intro h3
    refine thou_none ?_
    rintro t' ⟨_, u1, u2, _, _, c', s', hc', _, hs', _, _, u4⟩
    rw [← hc.uniq hc'] at hs'
    rw [← hs.uniq hs'] at u4
    have h5 : (t : Rat) < ((t'.natAbs + 1 : Nat) : Rat) := by rw [Rat.natCast_add]; exact rlt_of_le' t1 u4
    rw [← hna] at h5
    have := Rat.natCast_lt_natCast.1 h5
    omega

/-- The words of the reference's way: the product first. -/
theorem thou_spec {x : Nat} (h : Fin Ieee.single x) (hs : absR (val Ieee.single x) < 20000) :
    ∃ c, floatBits .mul .f64 (wide x) 4652007308841189376 = some c ∧
      (((FloatKind.f64.format.order c 0 == some .lt) = true ∧ ∃ s t, floatBits .add .f64 (Op.negFloat .f64 c) 4602678819172646912 = some s ∧ floatToIntVal .f64 s .i64 = some t ∧ 0 ≤ t ∧ t ≤ 30000000 ∧ Says x (-t)) ∨
       ((FloatKind.f64.format.order c 0 == some .lt) = false ∧ ∃ s t, floatBits .add .f64 c 4602678819172646912 = some s ∧ floatToIntVal .f64 s .i64 = some t ∧ 0 ≤ t ∧ t ≤ 30000000 ∧ Says x t)) := by
  have hw := wide_spec h
  obtain ⟨v, hv⟩ : ∃ v, v = val Ieee.single x := ⟨_, rfl⟩
  have hvw : val Ieee.double (wide x) = v := hw.2.trans hv.symm
  obtain ⟨c, ec, hc⟩ := mul_spec (f := Ieee.double) (x := wide x) hw.1 k1000.1
  rw [hvw, c1000] at hc
  rw [← hv] at hs
  have b1 : -20000 < v ∧ v < 20000 := by unfold absR at hs; split at hs <;> constructor <;> grind
  have h25 : p2 25 = 33554432 := by rw [show (25 : Int) = ((25 : Nat) : Int) from rfl, p2_nat]; rfl
  obtain ⟨z, hz, hvz⟩ := repr_ex Ieee.double (n := 20000000) (e := 0) (by decide) (by decide) (by
    have c1 : ((20000000 : Nat) : Rat) = 20000000 := rfl
    rw [inf64]; exact rlt_of_le (b := p2 25) (by rw [p2_zero, h25, c1]; grind) (p2_mono (by decide)))
  have hz' : rv Ieee.double z = 20000000 := by
    have c1 : ((20000000 : Nat) : Rat) = 20000000 := rfl
    rw [hvz, p2_zero, c1]; grind
  obtain ⟨z2, hz2, hvz2⟩ := repr_ex Ieee.double (n := 30000000) (e := 0) (by decide) (by decide) (by
    have c1 : ((30000000 : Nat) : Rat) = 30000000 := rfl
    rw [inf64]; exact rlt_of_le (b := p2 25) (by rw [p2_zero, h25, c1]; grind) (p2_mono (by decide)))
  have hz2' : rv Ieee.double z2 = 30000000 := by
    have c1 : ((30000000 : Nat) : Rat) = 30000000 := rfl
    rw [hvz2, p2_zero, c1]; grind
  obtain ⟨fc, lc, lc'⟩ := hc.le hz (by rw [hz']; grind) (by rw [hz']; grind)
  rw [hz'] at lc lc'
  have hzero : Rnd Ieee.double 0 (Ieee.double.write (.number false 0 0)) := ⟨false, 0, 0, rfl, by simp [sr]⟩
  have vzero : val Ieee.double (Ieee.double.write (.number false 0 0)) = 0 := (hzero.exact (t := false) (z := 0) (by decide) (by rw [rv_zero]; rfl)).2
  have ol := lt_iff fc zero64.1
  rw [zero64.2] at ol
  -- behind the sum with a half
  have step : ∀ c', Fin Ieee.double c' → 0 ≤ val Ieee.double c' → val Ieee.double c' ≤ 20000000 → ∃ s t, floatBits .add .f64 c' 4602678819172646912 = some s ∧ floatToIntVal .f64 s .i64 = some t ∧ 0 ≤ t ∧ t ≤ 30000000 ∧
      Rnd Ieee.double (val Ieee.double c' + 1 / 2) s ∧ Fin Ieee.double s ∧ (t : Rat) ≤ val Ieee.double s ∧ val Ieee.double s < (t : Rat) + 1 := by
    intro c' f1 g1 g2
    obtain ⟨s, es, hs⟩ := add_spec f1 khalf.1
    rw [khalf.2] at hs
    obtain ⟨fs, ls, ls'⟩ := hs.le hz2 (by rw [hz2']; grind) (by rw [hz2']; grind)
    rw [hz2'] at ls
    have s0 : 0 ≤ val Ieee.double s := by
      have := hzero.mono hs (by grind)
      rwa [vzero] at this
    have h62 : p2 62 = 4611686018427387904 := by rw [show (62 : Int) = ((62 : Nat) : Int) from rfl, p2_nat]; rfl
    obtain ⟨t, et, t1, t2⟩ := trunc_spec fs s0 (by rw [h62]; grind)
    have z0 : ((0 : Int) : Rat) = 0 := rfl
    have k3 : ((30000000 : Int) : Rat) = 30000000 := rfl
    have t0 : 0 ≤ t := by
      have h3 : ((0 : Int) : Rat) < ((t + 1 : Int) : Rat) := by rw [Rat.intCast_add, z0]; show 0 < (t : Rat) + 1; grind
      have := Rat.intCast_lt_intCast.1 h3
      omega
    have t3 : t ≤ 30000000 := by
      have h3 : (t : Rat) ≤ ((30000000 : Int) : Rat) := by rw [k3]; grind
      exact Rat.intCast_le_intCast.1 h3
    exact ⟨s, t, es, et, t0, t3, hs, fs, t1, t2⟩
  refine ⟨c, ec, ?_⟩
  have hne := neg_rnd (k := .f64) hc
  by_cases hlt : val Ieee.double c < 0
  · left
    refine ⟨by show (Ieee.double.order _ _ == _) = _; rw [ol]; simpa using hlt, ?_⟩
    have vneg : v < 0 := by
      by_cases h0 : v < 0
      · exact h0
      · have := hzero.mono hc (by grind)
        rw [vzero] at this; grind
    have fn : Fin Ieee.double (Op.negFloat .f64 c) := hne.2.2 fc
    have en : val Ieee.double (Op.negFloat .f64 c) = -val Ieee.double c := hne.2.1
    have hn : Rnd Ieee.double (1000 * absR (val Ieee.single x)) (Op.negFloat .f64 c) := by
      have := hne.1
      rw [← hv]
      have e : 1000 * absR v = -(v * 1000) := by unfold absR; rw [if_pos vneg]; grind
      rw [e]; exact this
    obtain ⟨s, t, es, et, t0, t3, hs', fs, t1, t2⟩ := step _ fn (by rw [en]; grind) (by rw [en]; grind)
    exact ⟨s, t, es, et, t0, t3, says_of h hn fn hs' fs t0 t1 t2 (by omega) (fun _ => by omega) (fun h => by rw [← hv] at h; grind)⟩
  · right
    refine ⟨by show (Ieee.double.order _ _ == _) = _; rw [ol]; simpa using hlt, ?_⟩
    obtain ⟨s, t, es, et, t0, t3, hs', fs, t1, t2⟩ := step c fc (by grind) (by grind)
    by_cases vneg : v < 0
    · -- too small for its sign: nought
      have hz0 : val Ieee.double c = 0 := by
        have := hc.mono hzero (by grind)
        rw [vzero] at this; grind
      have fn : Fin Ieee.double (Op.negFloat .f64 c) := hne.2.2 fc
      have en : val Ieee.double (Op.negFloat .f64 c) = val Ieee.double c := by
        have : val Ieee.double (Op.negFloat .f64 c) = -val Ieee.double c := hne.2.1
        rw [this, hz0]; grind
      have hn : Rnd Ieee.double (1000 * absR (val Ieee.single x)) (Op.negFloat .f64 c) := by
        have := hne.1
        rw [← hv]
        have e : 1000 * absR v = -(v * 1000) := by unfold absR; rw [if_pos vneg]; grind
        rw [e]; exact this
      have t00 : t = 0 := by
        have kh := khalf.2
        unfold val at kh
        rw [show sg Ieee.double 4602678819172646912 = false by decide, sr_false] at kh
        have hh := (hs'.exact (t := false) (z := rg Ieee.double 4602678819172646912) (by decide) (by rw [sr_false, kh, hz0]; grind)).2
        rw [hz0] at hh
        have k1 : ((1 : Int) : Rat) = 1 := rfl
        have h3 : (t : Rat) < ((1 : Int) : Rat) := by rw [k1]; grind
        have := Rat.intCast_lt_intCast.1 h3
        omega
      subst t00
      exact ⟨s, 0, es, et, t0, t3, says_of h hn fn (by rw [en]; exact hs') fs t0 t1 t2 rfl (fun _ => by omega) (fun _ => by omega)⟩
    · have hn : Rnd Ieee.double (1000 * absR (val Ieee.single x)) c := by
        rw [← hv]
        have e : 1000 * absR v = v * 1000 := by unfold absR; rw [if_neg vneg]; grind
        rw [e]; exact hc
      exact ⟨s, t, es, et, t0, t3, says_of h hn fc hs' fs t0 t1 t2 rfl (fun h => by rw [← hv] at h; exact absurd h vneg) (fun _ => t0)⟩
/-- A part that is far beyond has none. -/
theorem thou_far {x : Nat} (hs : 20000 ≤ absR (val Ieee.single x)) : thou x = none := by
  refine thou_none ?_
  rintro t ⟨h, u1, u2, _, _, c, s, hc, fc, hs', fs, _, u4⟩
  have k20 := int_whl (n := 20000000) (by decide)
  have k20v : ((20000000 : Int) : Rat) = 20000000 := rfl
  have r20 : Rnd Ieee.double 20000000 (floatOfInt .f64 20000000) := ⟨decide ((20000000 : Int) < 0), 20000000, 0, rfl, by rw [← k20v]; exact sr_int 20000000⟩
  have m1 := r20.mono hc (by grind)
  rw [k20.2, k20v] at m1
  have m2 := r20.mono hs' (by grind)
  rw [k20.2, k20v] at m2
  have h3 : ((t.natAbs + 1 : Nat) : Rat) ≤ ((10000000 : Nat) : Rat) := Rat.natCast_le_natCast.2 (by omega)
  rw [Rat.natCast_add] at h3
  have c1 : ((1 : Nat) : Rat) = 1 := rfl
  have c2 : ((10000000 : Nat) : Rat) = 10000000 := rfl
  rw [c1, c2] at h3
  grind
end Go.Proofs.YtnomlkkhkacajaaGreatDoor
