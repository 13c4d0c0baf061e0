/- Texts on the way to a law (A3, A4, Tho), each with its own remark. -/
import Derived.Test.YtnomlkkhkacajaaGreatDoorPB03
import Derived.StillTailTactics
import Derived.Test.YtnomlkkhkacajaaGreatDoorPB02
namespace Go.Proofs.YtnomlkkhkacajaaGreatDoor
open Go.RowKit

/-- From low on and at most high. -/
def inB (n lo hi : Int) : Bool := decide (lo ≤ n) && decide (n ≤ hi)
theorem inB_true {n lo hi : Int} (h1 : lo ≤ n) (h2 : n ≤ hi) : inB n lo hi = true := by simp [inB, h1, h2]
theorem inB_lo {n lo hi : Int} (h1 : n < lo) : inB n lo hi = false := by simp [inB]; omega
theorem inB_hi {n lo hi : Int} (h1 : hi < n) : inB n lo hi = false := by simp [inB]; omega
theorem inB_iff {n lo hi : Int} : inB n lo hi = true ↔ lo ≤ n ∧ n ≤ hi := by simp [inB]
theorem inB_false_iff {n lo hi : Int} : inB n lo hi = false ↔ n < lo ∨ hi < n := by
  rw [← Bool.not_eq_true, inB_iff]; omega

theorem l1In_any (n lo hi : Int) (w : World) : Calls Tryz.prog 58 #[.int .i64 n, .int .i64 lo, .int .i64 hi] w fun e w' => e = .returned (.bool (inB n lo hi)) ∧ w' = w := by
  by_cases h1 : lo ≤ n
  · by_cases h2 : n ≤ hi
    · rw [inB_true h1 h2]
      go_enter Tryz.func58, Tryz.ntmps58
      go_wp2_with fail
      go_ret
      exact ⟨rfl, rfl⟩
    · rw [inB_hi (by omega)]
      go_enter Tryz.func58, Tryz.ntmps58
      go_wp2_with fail
      go_ret
      exact ⟨rfl, rfl⟩
  · rw [inB_lo (by omega)]
    go_enter Tryz.func58, Tryz.ntmps58
    go_wp2_with fail
    go_ret
    exact ⟨rfl, rfl⟩

def milB (n : Int) : Bool := inB n (-9999999) 9999999
/-- So many thousandths. -/
def milli (a b : Int) : C := if milB a && milB b then (mp a, mp b) else (0, 0)
theorem milli_conv {a b : Int} (ha : milB a = true) (hb : milB b = true) : cConvBits .f64 (mq a) (mq b) .f32 = some (mp a, mp b) := by
  obtain ⟨a1, a2⟩ := inB_iff.1 ha
  obtain ⟨b1, b2⟩ := inB_iff.1 hb
  exact cconv_narrow (mq_spec a1 a2).2.1 (mp_spec a1 a2).1 (mq_spec b1 b2).2.1 (mp_spec b1 b2).1
theorem milli_yes {a b : Int} (ha : milB a = true) (hb : milB b = true) : cv (milli a b) = .complex .f32 (mp a) (mp b) := by simp [milli, ha, hb, cv]
theorem milli_no {a b : Int} (h : milB a = false ∨ milB b = false) : cv (milli a b) = .complex .f32 0 0 := by
  rcases h with h | h <;> simp [milli, h, cv]
theorem milli_fin (a b : Int) : finB (milli a b) = true := by
  unfold milli
  by_cases h : (milB a && milB b) = true
  · rw [if_pos h]
    simp only [Bool.and_eq_true] at h
    obtain ⟨a1, a2⟩ := inB_iff.1 h.1
    obtain ⟨b1, b2⟩ := inB_iff.1 h.2
    exact finB_iff.2 ⟨(mp_spec a1 a2).1, (mp_spec b1 b2).1⟩
  · rw [if_neg h]; decide
theorem ret_cv {a b : Value} (h : b = a) : Ending.returned a = .returned b := by rw [h]

set_option maxHeartbeats 400000 in
theorem sMilli (a b : Int) (w : World) : Calls Tryz.prog 107 #[.int .i64 a, .int .i64 b] w fun e w' => e = .returned (cv (milli a b)) ∧ w' = w := by
  by_cases ha : milB a = true
  · by_cases hb : milB b = true
    · have ha1 : Ieee.double.div (floatOfInt .f64 a) 4652007308841189376 = some (mq a) := (mq_spec (inB_iff.1 ha).1 (inB_iff.1 ha).2).1
      have hb1 : Ieee.double.div (floatOfInt .f64 b) 4652007308841189376 = some (mq b) := (mq_spec (inB_iff.1 hb).1 (inB_iff.1 hb).2).1
      have q1 := fun w => run_float_arith (P := Tryz.prog) w .quo 120 .f64 (floatOfInt .f64 a) 4652007308841189376 (mq a) ha1
      have q2 := fun w => run_float_arith (P := Tryz.prog) w .quo 120 .f64 (floatOfInt .f64 b) 4652007308841189376 (mq b) hb1
      have q3 := fun w => run_convert_complex (P := Tryz.prog) w 119 73 .f64 .f32 (mq a) (mq b) (mp a) (mp b) (by kernel_rfl) Tryz.underlying73 (milli_conv ha hb)
      rw [milli_yes ha hb]
      unfold milB at ha hb
      clear ha1 hb1
      go_enter Tryz.func107, Tryz.ntmps107
      go_wp2_with fail
      refine (l1In_any _ _ _ _).mono ?_
      rintro e w' ⟨rfl, rfl⟩
      go_wp2_with fail
      refine (l1In_any _ _ _ _).mono ?_
      rintro e w' ⟨rfl, rfl⟩
      go_wp2_with fail
      go_ret
      exact ⟨rfl, rfl⟩
    · have hb' : milB b = false := by simpa using hb
      rw [milli_no (.inr hb')]
      unfold milB at ha hb'
      clear hb
      go_enter Tryz.func107, Tryz.ntmps107
      go_wp2_with fail
      refine (l1In_any _ _ _ _).mono ?_
      rintro e w' ⟨rfl, rfl⟩
      go_wp2_with fail
      refine (l1In_any _ _ _ _).mono ?_
      rintro e w' ⟨rfl, rfl⟩
      go_wp2_with fail
      go_ret
      exact ⟨rfl, rfl⟩
  · have ha' : milB a = false := by simpa using ha
    rw [milli_no (.inl ha')]
    unfold milB at ha'
    clear ha
    go_enter Tryz.func107, Tryz.ntmps107
    go_wp2_with fail
    refine (l1In_any _ _ _ _).mono ?_
    rintro e w' ⟨rfl, rfl⟩
    go_wp2_with fail
    go_ret
    exact ⟨rfl, rfl⟩

set_option maxHeartbeats 800000 in
theorem iMilli (a b : Int) (w : World) : Calls Tryz.prog 44 #[.int .i64 a, .int .i64 b] w fun e w' => e = .returned (cv (milli a b)) ∧ w' = w := by
  by_cases h1 : a < -9999999
  · rw [milli_no (.inl (inB_lo h1))]
    go_enter Tryz.func44, Tryz.ntmps44
    go_wp2_with fail
    go_ret
    exact ⟨rfl, rfl⟩
  by_cases h2 : 9999999 < a
  · rw [milli_no (.inl (inB_hi h2))]
    go_enter Tryz.func44, Tryz.ntmps44
    go_wp2_with fail
    go_ret
    exact ⟨rfl, rfl⟩
  by_cases h3 : b < -9999999
  · rw [milli_no (.inr (inB_lo h3))]
    go_enter Tryz.func44, Tryz.ntmps44
    go_wp2_with fail
    go_ret
    exact ⟨rfl, rfl⟩
  by_cases h4 : 9999999 < b
  · rw [milli_no (.inr (inB_hi h4))]
    go_enter Tryz.func44, Tryz.ntmps44
    go_wp2_with fail
    go_ret
    exact ⟨rfl, rfl⟩
  have ha : milB a = true := inB_true (by omega) (by omega)
  have hb : milB b = true := inB_true (by omega) (by omega)
  have ha1 : Ieee.double.div (floatOfInt .f64 a) 4652007308841189376 = some (mq a) := (mq_spec (inB_iff.1 ha).1 (inB_iff.1 ha).2).1
  have hb1 : Ieee.double.div (floatOfInt .f64 b) 4652007308841189376 = some (mq b) := (mq_spec (inB_iff.1 hb).1 (inB_iff.1 hb).2).1
  have q1 := fun w => run_float_arith (P := Tryz.prog) w .quo 120 .f64 (floatOfInt .f64 a) 4652007308841189376 (mq a) ha1
  have q2 := fun w => run_float_arith (P := Tryz.prog) w .quo 120 .f64 (floatOfInt .f64 b) 4652007308841189376 (mq b) hb1
  have q3 := fun w => run_convert_complex (P := Tryz.prog) w 119 73 .f64 .f32 (mq a) (mq b) (mp a) (mp b) (by kernel_rfl) Tryz.underlying73 (milli_conv ha hb)
  rw [milli_yes ha hb]
  clear ha1 hb1 ha hb
  go_enter Tryz.func44, Tryz.ntmps44
  go_wp2_with fail
  go_ret
  exact ⟨rfl, rfl⟩
end Go.Proofs.YtnomlkkhkacajaaGreatDoor
namespace Go.Proofs.YtnomlkkhkacajaaGreatDoor
open Go.RowKit

def stOk (l : List Int) (step : Int) : Bool := inB step 1 10000 && decide (l.length ≤ 32) && decide (l.length % 2 = 0) && l.all fun x => inB x (-(9999999 / step)) (9999999 / step)
def fromSt (l : List Int) (step : Int) : List C := (List.range (l.length / 2)).map fun i => milli (inth l (2 * i) * step) (inth l (2 * i + 1) * step)
def fromSteps (l : List Int) (step : Int) : Option (List C) := if stOk l step then some (fromSt l step) else none
theorem fromSt_len (l : List Int) (step : Int) : (fromSt l step).length = l.length / 2 := by simp [fromSt]
theorem fromSt_get {l : List Int} {step : Int} {i : Nat} (h : i < l.length / 2) : ((fromSt l step).map cv)[i]? = some (cv (milli (inth l (2 * i) * step) (inth l (2 * i + 1) * step))) := by
  simp [fromSt, h]
theorem most_bd {step : Int} (h1 : 1 ≤ step) : 0 ≤ 9999999 / step ∧ 9999999 / step ≤ 9999999 :=
  ⟨Int.ediv_nonneg (by omega) (by omega), Int.ediv_le_self _ (by omega)⟩
theorem step_bd {l : List Int} {step : Int} (h : stOk l step = true) {i : Nat} (hi : i < l.length) : -9999999 ≤ inth l i * step ∧ inth l i * step ≤ 9999999 := by
  unfold stOk at h
  simp only [Bool.and_eq_true] at h
  obtain ⟨⟨⟨h1, _⟩, _⟩, h2⟩ := h
  obtain ⟨h3, h4⟩ := inB_iff.1 h1
  have h5 := List.all_eq_true.1 h2 _ (List.getElem_mem hi)
  rw [← inth_eq hi] at h5
  obtain ⟨h6, h7⟩ := inB_iff.1 h5
  generalize inth l i = x at *
  have h8 : 9999999 / step * step ≤ 9999999 := Int.ediv_mul_le _ (by omega)
  have h9 := Int.mul_le_mul_of_nonneg_right h7 (show 0 ≤ step by omega)
  have h10 := Int.mul_le_mul_of_nonneg_right h6 (show 0 ≤ step by omega)
  rw [Int.neg_mul] at h10
  omega
theorem fromSteps_no {l : List Int} {step : Int} (h : stOk l step = false) : fromSteps l step = none := by unfold fromSteps; rw [h]; rfl
theorem fromSteps_yes {l : List Int} {step : Int} (h : stOk l step = true) : fromSteps l step = some (fromSt l step) := by unfold fromSteps; rw [h]; rfl

end Go.Proofs.YtnomlkkhkacajaaGreatDoor
namespace Go.Proofs.YtnomlkkhkacajaaGreatDoor

/- The whole part of a number that is not negative. -/
theorem cut_zero (neg : Bool) (n drop : Nat) : Ieee.Toward.zero.cut neg n drop = n / 2 ^ drop := by
  have hk : Ieee.Toward.zero.cut neg n drop = n / (1 <<< min drop (n.log2 + 2)) + 0 := rfl
  rw [hk, Nat.one_shiftLeft, Nat.add_zero]
  rcases Nat.le_total drop (n.log2 + 2) with hd | hd
  · rw [Nat.min_eq_left hd]
  · rw [Nat.min_eq_right hd]
    have hn : n < 2 ^ (n.log2 + 1) := Nat.lt_log2_self
    have hp : 2 ^ (n.log2 + 2) = 2 * 2 ^ (n.log2 + 1) := by rw [Nat.pow_succ 2 (n.log2 + 1), Nat.mul_comm]
    have hle : 2 ^ (n.log2 + 2) ≤ 2 ^ drop := Nat.pow_le_pow_right (by decide) hd
    rw [Nat.div_eq_of_lt (by omega), Nat.div_eq_of_lt (by omega)]
theorem trunc_spec {s : Nat} (h : Fin Ieee.double s) (h0 : 0 ≤ val Ieee.double s) (h1 : val Ieee.double s < p2 62) :
    ∃ t : Int, floatToIntVal .f64 s .i64 = some t ∧ (t : Rat) ≤ val Ieee.double s ∧ val Ieee.double s < (t : Rat) + 1 := by
  obtain ⟨m, p, e1, e2⟩ := read_fin Ieee.double h
  -- the magnitude's whole part
  obtain ⟨k, hk⟩ : ∃ k, k = (m <<< p.toNat) / 2 ^ (-p).toNat := ⟨_, rfl⟩
  have hpow : (0 : Rat) < ((2 ^ (-p).toNat : Nat) : Rat) := Rat.natCast_pos.2 (Nat.two_pow_pos _)
  have hval : (m : Rat) * p2 p * ((2 ^ (-p).toNat : Nat) : Rat) = ((m <<< p.toNat : Nat) : Rat) := by
    rw [Nat.shiftLeft_eq, Rat.natCast_mul, ← p2_nat, ← p2_nat, Rat.mul_assoc, ← p2_add]
    congr 2; omega
  have hdm := Nat.div_add_mod (m <<< p.toNat) (2 ^ (-p).toNat)
  have hml := Nat.mod_lt (m <<< p.toNat) (Nat.two_pow_pos (-p).toNat)
  rw [← hk] at hdm
  have hA : (k : Rat) ≤ (m : Rat) * p2 p := by
    refine Rat.le_of_mul_le_mul_right ?_ hpow
    rw [hval, ← Rat.natCast_mul]
    exact Rat.natCast_le_natCast.2 (by rw [Nat.mul_comm]; omega)
  have hB : (m : Rat) * p2 p < (k : Rat) + 1 := by
    refine Rat.lt_of_mul_lt_mul_right ?_ (Rat.le_of_lt hpow)
    have h1' : ((1 : Nat) : Rat) = 1 := rfl
    rw [hval, ← h1', ← Rat.natCast_add, ← Rat.natCast_mul]
    refine Rat.natCast_lt_natCast.2 ?_
    rw [Nat.add_mul, Nat.one_mul, Nat.mul_comm]; omega
  have hvs : val Ieee.double s = sr (sg Ieee.double s) ((m : Rat) * p2 p) := by unfold val; rw [e2]
  have hn0 := mag_nonneg m p
  -- the sign
  have hm : val Ieee.double s = (m : Rat) * p2 p := by
    rw [hvs] at h0 ⊢
    generalize sg Ieee.double s = b at h0 ⊢
    cases b
    · rfl
    · rw [sr_true] at h0 ⊢
      generalize (m : Rat) * p2 p = q at *
      grind
  have hkb : k < 2 ^ 62 := by
    have h3 : (k : Rat) < ((2 ^ 62 : Nat) : Rat) := by rw [← p2_nat]; exact rlt_of_le' hA (by rw [← hm]; exact h1)
    exact Rat.natCast_lt_natCast.1 h3
  obtain ⟨t, ht, hts⟩ : ∃ t : Int, t = Ieee.signed (sg Ieee.double s) k 0 ∧ t = (k : Int) := by
    refine ⟨_, rfl, ?_⟩
    unfold Ieee.signed
    rw [Nat.shiftLeft_zero]
    cases hsg : sg Ieee.double s
    · rfl
    · rw [hsg, sr_true] at hvs
      have : (k : Rat) ≤ 0 := by grind
      have h4 : k ≤ 0 := Rat.natCast_le_natCast.1 this
      have : k = 0 := by omega
      subst this; rfl
  refine ⟨(k : Int), ?_, ?_, ?_⟩
  · unfold floatToIntVal
    have e3 : (FloatKind.f64.decode s).toInt .zero = some t := by
      show (Ieee.double.read s).toInt .zero = some t
      rw [e1]
      show some (Ieee.signed _ (Ieee.Toward.zero.cut _ (m <<< p.toNat) (-p).toNat) 0) = _
      rw [cut_zero, ← hk, ht]
    rw [e3]
    show (if _ then some t else none) = _
    have hmin : IntKind.i64.min = -9223372036854775808 := by decide
    have hmax : IntKind.i64.max = 9223372036854775807 := by decide
    have h62 : (2 : Nat) ^ 62 = 4611686018427387904 := by decide
    rw [if_pos (by rw [hmin, hmax, hts]; omega), hts]
  · rw [Rat.intCast_natCast, hm]; exact hA
  · rw [Rat.intCast_natCast, hm]; exact hB

/- A number rounded has one value. -/
theorem Rnd.uniq {f : Ieee.Format} {q : Rat} {r r' : Nat} (h : Rnd f q r) (h' : Rnd f q r') : val f r = val f r' := Rat.le_antisymm (h.mono h' Rat.le_refl) (h'.mono h Rat.le_refl)

def absR (q : Rat) : Rat := if q < 0 then -q else q
theorem absR_nonneg (q : Rat) : 0 ≤ absR q := by unfold absR; split <;> grind

/-- So many thousandths, rounded: in double precision times 1000, a half more, without what is behind the point. -/
def IsThou (x : Nat) (t : Int) : Prop :=
  Fin Ieee.single x ∧ -9999999 ≤ t ∧ t ≤ 9999999 ∧ (val Ieee.single x < 0 → t ≤ 0) ∧ (0 ≤ val Ieee.single x → 0 ≤ t) ∧
    ∃ c s, Rnd Ieee.double (1000 * absR (val Ieee.single x)) c ∧ Fin Ieee.double c ∧ Rnd Ieee.double (val Ieee.double c + 1 / 2) s ∧ Fin Ieee.double s ∧
      ((t.natAbs : Nat) : Rat) ≤ val Ieee.double s ∧ val Ieee.double s < ((t.natAbs : Nat) : Rat) + 1
theorem IsThou.uniq {x : Nat} {t t' : Int} (h : IsThou x t) (h' : IsThou x t') : t = t' := by
  obtain ⟨_, _, _, h1, h2, c, s, hc, _, hs, _, h3, h4⟩ := h
  obtain ⟨_, _, _, h1', h2', c', s', hc', _, hs', _, h3', h4'⟩ := h'
  have e1 := hc.uniq hc'
  rw [e1] at hs
  have e2 := hs.uniq hs'
  rw [e2] at h3 h4
  have a1 : ((t.natAbs : Nat) : Rat) < ((t'.natAbs + 1 : Nat) : Rat) := by rw [Rat.natCast_add]; exact rlt_of_le' h3 h4'
  have a2 : ((t'.natAbs : Nat) : Rat) < ((t.natAbs + 1 : Nat) : Rat) := by rw [Rat.natCast_add]; exact rlt_of_le' h3' h4
  have b1 := Rat.natCast_lt_natCast.1 a1
  have b2 := Rat.natCast_lt_natCast.1 a2
  by_cases hv : val Ieee.single x < 0
  · have := h1 hv; have := h1' hv; omega
  · have := h2 (by grind); have := h2' (by grind); omega

open Classical in
/-- The thousandths of a part; none, if it has none. -/
noncomputable def thou (x : Nat) : Option Int := if h : ∃ t, IsThou x t then some h.choose else none
theorem thou_some {x : Nat} {t : Int} (h : IsThou x t) : thou x = some t := by
  unfold thou
  have he : ∃ t, IsThou x t := ⟨t, h⟩
  rw [dif_pos he, he.choose_spec.uniq h]
theorem thou_none {x : Nat} (h : ∀ t, ¬ IsThou x t) : thou x = none := by
  unfold thou
  rw [dif_neg (fun ⟨t, ht⟩ => h t ht)]
theorem thou_is {x : Nat} {t : Int} (h : thou x = some t) : IsThou x t := by
  unfold thou at h
  split at h
  · rename_i he; injection h with h; rw [← h]; exact he.choose_spec
  · cases h

/- Words: the absolute value, and one half. -/
theorem rg_lt (f : Ieee.Format) (y : Nat) : rg f y < f.signWeight := Nat.mod_lt _ (sw_pos f)
theorem abs_word {f : Ieee.Format} {y : Nat} (h : Fin f y) : Fin f (rg f y) ∧ val f (rg f y) = absR (val f y) := by
  have h1 : rg f (rg f y) = rg f y := Nat.mod_eq_of_lt (rg_lt f y)
  have h2 : sg f (rg f y) = false := by
    have := sg_word f false (rg_lt f y)
    exact this
  refine ⟨by unfold Fin; rw [h1]; exact h, ?_⟩
  unfold val
  rw [h1, h2, sr_false]
  have := rv_nonneg f (rg f y)
  generalize rv f (rg f y) = q at *
  unfold absR
  cases sg f y
  · rw [sr_false, if_neg (by grind)]
  · rw [sr_true]; split <;> grind
theorem khalf : Fin Ieee.double 4602678819172646912 ∧ val Ieee.double 4602678819172646912 = 1 / 2 := by
  refine ⟨by decide, ?_⟩
  have h1 : rg Ieee.double 4602678819172646912 = 1021 * Ieee.double.binade + Ieee.double.binade := by decide
  have h2 : sg Ieee.double 4602678819172646912 = false := by decide
  unfold val
  rw [h1, h2, sr_false, rv_form Ieee.double (by omega) (.inr (Nat.le_refl _)), binade_rat]
  unfold un
  rw [← p2_add]
  have h3 : (Ieee.double.fractionBits : Int) + (Ieee.double.leastPlace + ((1021 : Nat) : Int)) = -1 := by decide
  rw [h3]
  have h4 : p2 (-1) * 2 = 1 := by
    have := p2_add (-1) 1
    rw [p2_one] at this
    rw [← this]; exact p2_zero
  grind
theorem c1000 : val Ieee.double 4652007308841189376 = 1000 := by
  have := k1000.2
  rw [this]; rfl

/- Thousandths are there again. -/
theorem absR_le {q b : Rat} (h1 : q ≤ b) (h2 : -b ≤ q) : absR q ≤ b := by unfold absR; split <;> grind
theorem mp_thou {n : Int} (h1 : -9999999 ≤ n) (h2 : n ≤ 9999999) : IsThou (mp n) n := by
  obtain ⟨hf, e1, e2, l1, l2⟩ := mp_spec h1 h2
  obtain ⟨v, hv⟩ : ∃ v, v = val Ieee.single (mp n) := ⟨_, rfl⟩
  rw [← hv] at e1 e2 l1 l2
  have a0 := absR_nonneg v
  have a1 : absR v ≤ 10000 := absR_le l1 l2
  have hP := p2_pos (-30)
  have h24 : p2 24 = 16777216 := by rw [show (24 : Int) = ((24 : Nat) : Int) from rfl, p2_nat]; rfl
  have h30 : p2 (-30) * 1073741824 = 1 := by
    have : (1073741824 : Rat) = p2 30 := by rw [show (30 : Int) = ((30 : Nat) : Int) from rfl, p2_nat]; rfl
    rw [this, ← p2_add]; exact p2_zero
  -- a number of double precision that nothing here passes
  have c24 : ((16777215 : Nat) : Rat) = 16777215 := rfl
  obtain ⟨z, hz, hvz⟩ := repr_ex Ieee.double (n := 16777215) (e := 0) (by decide) (by decide) (by rw [inf64]; exact rlt_of_le (b := p2 24) (by rw [p2_zero, h24, c24]; grind) (p2_mono (by decide)))
  have hz' : rv Ieee.double z = 16777215 := by rw [hvz, p2_zero, c24]; grind
  have e28 : p2 (24 - (Ieee.double.fractionBits : Int) - 2) = p2 (-30) := rfl
  -- the product
  obtain ⟨fw, ew⟩ := wide_spec hf
  obtain ⟨fa, ea⟩ := abs_word fw
  rw [ew, ← hv] at ea
  obtain ⟨c, _, hc⟩ := mul_spec fa k1000.1
  rw [ea, c1000, Rat.mul_comm] at hc
  obtain ⟨fc, lc, lc'⟩ := hc.le hz (by rw [hz']; grind) (by rw [hz']; grind)
  have ec := hc.err_lt (E := 24) (by rw [h24]; grind) (by rw [h24]; grind) (by decide) fc
  rw [e28] at ec
  obtain ⟨s, _, hs⟩ := add_spec fc khalf.1
  rw [khalf.2] at hs
  obtain ⟨fs, ls, ls'⟩ := hs.le hz (by rw [hz']; grind) (by rw [hz']; grind)
  have es := hs.err_lt (E := 24) (by rw [h24]; grind) (by rw [h24]; grind) (by decide) fs
  rw [e28] at es
  have hn : ((n.natAbs : Nat) : Rat) = absR (n : Rat) := by
    have h0 : ((0 : Int) : Rat) = 0 := rfl
    unfold absR
    by_cases h : n < 0
    · have h3 : (n : Rat) < 0 := by rw [← h0]; exact Rat.intCast_lt_intCast.2 h
      rw [if_pos h3, ← Rat.intCast_natCast, ← Rat.intCast_neg]
      congr 1; omega
    · have h3 : (0 : Rat) ≤ (n : Rat) := by rw [← h0]; exact Rat.intCast_le_intCast.2 (by omega)
      rw [if_neg (by grind), ← Rat.intCast_natCast]
      congr 1; omega
  -- of what sign the number is
  have sgn : (n < 0 → v < 0) ∧ (0 < n → 0 < v) := by
    have h1' : ((1 : Int) : Rat) = 1 := rfl
    have hm1 : ((-1 : Int) : Rat) = -1 := rfl
    constructor
    · intro h
      have : (n : Rat) ≤ ((-1 : Int) : Rat) := Rat.intCast_le_intCast.2 (by omega)
      rw [hm1] at this
      grind
    · intro h
      have : ((1 : Int) : Rat) ≤ (n : Rat) := Rat.intCast_le_intCast.2 (by omega)
      rw [h1'] at this
      grind
  have d1 : 1000 * absR v - absR (n : Rat) ≤ 49 / 100 := by unfold absR; split <;> split <;> grind
  have d2 : absR (n : Rat) - 1000 * absR v ≤ 49 / 100 := by unfold absR; split <;> split <;> grind
  refine ⟨hf, h1, h2, ?_, ?_, c, s, by rw [← hv]; exact hc, fc, hs, fs, ?_, ?_⟩
  · rw [← hv]; intro h
    rcases (show n < 0 ∨ n = 0 ∨ 0 < n by omega) with h3 | h3 | h3
    · omega
    · omega
    · have := sgn.2 h3; grind
  · rw [← hv]; intro h
    rcases (show n < 0 ∨ n = 0 ∨ 0 < n by omega) with h3 | h3 | h3
    · have := sgn.1 h3; grind
    · omega
    · omega
  · rw [hn]
    generalize val Ieee.double s = S at *
    generalize val Ieee.double c = T at *
    generalize 1000 * absR v = U at *
    generalize absR (n : Rat) = V at *
    generalize p2 (-30) = d at *
    clear hc hs hn hz' hvz h24 c24 e28
    grind
  · rw [hn]
    generalize val Ieee.double s = S at *
    generalize val Ieee.double c = T at *
    generalize 1000 * absR v = U at *
    generalize absR (n : Rat) = V at *
    generalize p2 (-30) = d at *
    clear hc hs hn hz' hvz h24 c24 e28
    grind
end Go.Proofs.YtnomlkkhkacajaaGreatDoor
