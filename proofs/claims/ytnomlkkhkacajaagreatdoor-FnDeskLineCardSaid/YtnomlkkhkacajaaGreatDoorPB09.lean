/- Texts on the way to a law (P1, N1, N2, M1, T2), each with its own remark. -/
import Derived.Test.YtnomlkkhkacajaaGreatDoorPB08
namespace Go.Proofs.YtnomlkkhkacajaaGreatDoor
open Go.RowKit

theorem fromSteps_fin' (l : List Int) (step : Int) : ((fromSteps l step).getD []).all finB = true := by
  unfold fromSteps
  split
  · simp only [Option.getD_some]
    refine List.all_eq_true.2 fun z hz => ?_
    unfold fromSt at hz
    obtain ⟨i, _, rfl⟩ := List.mem_map.1 hz
    exact milli_fin _ _
  · rfl
theorem fromSteps_short' (l : List Int) (step : Int) : ((fromSteps l step).getD []).length ≤ 16 := by
  unfold fromSteps
  split
  · rename_i h
    simp only [Option.getD_some, fromSt_len]
    unfold stOk at h
    simp at h
    omega
  · simp
theorem stp_mul {x step : Int} (h1 : 1 ≤ step) : stp (x * step) step = x := by
  have h0 : step / 2 / step = 0 := Int.ediv_eq_zero_of_lt (by omega) (by omega)
  unfold stp
  split
  · rw [show -(x * step) + step / 2 = step / 2 + (-x) * step by rw [Int.neg_mul]; omega, Int.add_mul_ediv_right _ _ (by omega), h0]; omega
  · rw [show x * step + step / 2 = step / 2 + x * step by omega, Int.add_mul_ediv_right _ _ (by omega), h0]; omega
theorem tho_milli {a b : Int} (a1 : -9999999 ≤ a) (a2 : a ≤ 9999999) (b1 : -9999999 ≤ b) (b2 : b ≤ 9999999) : tho (milli a b) = some (a, b) := by
  have e : milli a b = (mp a, mp b) := by unfold milli; rw [show milB a = true from inB_true a1 a2, show milB b = true from inB_true b1 b2]; rfl
  rw [e]
  exact tho_ab (thou_some (mp_thou a1 a2)) (thou_some (mp_thou b1 b2))
theorem pairs_take (l : List Int) : ∀ m, 2 * m ≤ l.length → ((List.range m).flatMap fun i => [inth l (2 * i), inth l (2 * i + 1)]) = l.take (2 * m)
  | 0, _ => rfl
  | m + 1, h => by
    rw [List.range_succ, List.flatMap_append, pairs_take l m (by omega)]
    rw [show 2 * (m + 1) = (2 * m + 1) + 1 by omega, List.take_succ_eq_append_getElem (by omega), List.take_succ_eq_append_getElem (by omega)]
    rw [← inth_eq (show 2 * m < l.length by omega), ← inth_eq (show 2 * m + 1 < l.length by omega)]
    simp
theorem flat_congr {α β : Type} (f g : α → List β) (l : List α) (h : ∀ a ∈ l, f a = g a) : l.flatMap f = l.flatMap g := by
  induction l with
  | nil => rfl
  | cons a l ih => rw [List.flatMap_cons, List.flatMap_cons, h a (by simp), ih fun b hb => h b (by simp [hb])]
theorem back_steps {l : List Int} {step : Int} (h : stOk l step = true) : stepsOf (fromSt l step) step = some l := by
  have h' := h
  unfold stOk at h
  simp only [Bool.and_eq_true, decide_eq_true_eq] at h
  obtain ⟨⟨⟨h1, h2⟩, h3⟩, _⟩ := h
  obtain ⟨s1, s2⟩ := inB_iff.1 h1
  have hz : ∀ i, i < l.length / 2 → tho (milli (inth l (2 * i) * step) (inth l (2 * i + 1) * step)) = some (inth l (2 * i) * step, inth l (2 * i + 1) * step) := fun i hi => by
    obtain ⟨a1, a2⟩ := step_bd h' (i := 2 * i) (by omega)
    obtain ⟨b1, b2⟩ := step_bd h' (i := 2 * i + 1) (by omega)
    exact tho_milli a1 a2 b1 b2
  rw [stepsOf_yes]
  · congr 1
    unfold stepsL fromSt
    rw [List.flatMap_map]
    rw [flat_congr _ (fun i => [inth l (2 * i), inth l (2 * i + 1)]) _ fun i hi => ?_, pairs_take l _ (by omega), List.take_of_length_le (by omega)]
    have hi := List.mem_range.1 hi
    show pairS _ _ = _
    rw [pairS_eq (hz i hi), stp_mul s1, stp_mul s1]
  · unfold stepsOk
    have hf : (fromSt l step).all finB = true := List.all_eq_true.2 fun z hz => by
      unfold fromSt at hz
      obtain ⟨i, _, rfl⟩ := List.mem_map.1 hz
      exact milli_fin _ _
    have ht : ((fromSt l step).all fun z => (tho z).isSome) = true := List.all_eq_true.2 fun z hz' => by
      unfold fromSt at hz'
      obtain ⟨i, hi, rfl⟩ := List.mem_map.1 hz'
      rw [hz i (List.mem_range.1 hi)]; rfl
    unfold sigB
    rw [hf, ht, h1, fromSt_len]
    simp; omega
theorem from_sig {l : List Int} {step : Int} (h : stOk l step = true) : sigB (fromSt l step) = true := by
  have := back_steps h
  by_cases hs : stepsOk (fromSt l step) step = true
  · unfold stepsOk at hs
    simp only [Bool.and_eq_true] at hs
    exact hs.1.1
  · rw [stepsOf_no (by simpa using hs)] at this; cases this
end Go.Proofs.YtnomlkkhkacajaaGreatDoor
namespace Go.Proofs.YtnomlkkhkacajaaGreatDoor
open Go.RowKit

theorem p2_m30 : p2 (-30) * 1073741824 = 1 := by
  have : (1073741824 : Rat) = p2 30 := by rw [show (30 : Int) = ((30 : Nat) : Int) from rfl, p2_nat]; rfl
  rw [this, ← p2_add]; exact p2_zero
theorem p2_24 : p2 24 = 16777216 := by rw [show (24 : Int) = ((24 : Nat) : Int) from rfl, p2_nat]; rfl
theorem r24 : Rnd Ieee.double 16777215 (floatOfInt .f64 16777215) ∧ val Ieee.double (floatOfInt .f64 16777215) = 16777215 := by
  have k := int_whl (n := 16777215) (by decide)
  have kv : ((16777215 : Int) : Rat) = 16777215 := rfl
  exact ⟨⟨decide ((16777215 : Int) < 0), 16777215, 0, rfl, by rw [← kv]; exact sr_int 16777215⟩, by rw [k.2, kv]⟩
theorem cast_absR (t : Int) : ((t.natAbs : Nat) : Rat) = absR (t : Rat) := by
  have h0 : ((0 : Int) : Rat) = 0 := rfl
  unfold absR
  by_cases h : t < 0
  · have h3 : (t : Rat) < 0 := by rw [← h0]; exact Rat.intCast_lt_intCast.2 h
    rw [if_pos h3, ← Rat.intCast_natCast, ← Rat.intCast_neg]
    congr 1; omega
  · have h3 : (0 : Rat) ≤ (t : Rat) := by rw [← h0]; exact Rat.intCast_le_intCast.2 (by omega)
    rw [if_neg (by grind), ← Rat.intCast_natCast]
    congr 1; omega
/-- A number lies by its thousandths. -/
theorem thou_near {x : Nat} {t : Int} (h : IsThou x t) : 1000 * val Ieee.single x - (t : Rat) ≤ 51 / 100 ∧ (t : Rat) - 1000 * val Ieee.single x ≤ 51 / 100 := by
  obtain ⟨_, t1, t2, g1, g2, c, s, hc, fc, hs, fs, b1, b2⟩ := h
  obtain ⟨v, hv⟩ : ∃ v, v = val Ieee.single x := ⟨_, rfl⟩
  rw [← hv] at g1 g2 hc ⊢
  have h30 := p2_m30
  have hP := p2_pos (-30)
  have a0 := absR_nonneg v
  have na : ((t.natAbs : Nat) : Rat) ≤ 9999999 := by
    have : ((t.natAbs : Nat) : Rat) ≤ ((9999999 : Nat) : Rat) := Rat.natCast_le_natCast.2 (by omega)
    have k : ((9999999 : Nat) : Rat) = 9999999 := rfl
    rwa [k] at this
  -- nothing is as great as 2 to the 24
  have s1 : val Ieee.double s < 16777215 := by grind
  have c1 : val Ieee.double c + 1 / 2 < 16777215 := by
    by_cases h : val Ieee.double c + 1 / 2 < 16777215
    · exact h
    · have := r24.1.mono hs (by grind)
      rw [r24.2] at this; grind
  have q1 : 1000 * absR v < 16777215 := by
    by_cases h : 1000 * absR v < 16777215
    · exact h
    · have := r24.1.mono hc (by grind)
      rw [r24.2] at this; grind
  have c0 : 0 ≤ val Ieee.double c := by
    have hz : Rnd Ieee.double 0 (Ieee.double.write (.number false 0 0)) := ⟨false, 0, 0, rfl, by simp [sr]⟩
    have hz2 := hz.mono hc (by grind)
    have hz3 := hz.exact (t := false) (z := 0) (by decide) (by rw [rv_zero]; rfl)
    rw [hz3.2] at hz2; exact hz2
  have e28 : p2 (24 - (Ieee.double.fractionBits : Int) - 2) = p2 (-30) := rfl
  have ec := hc.err_lt (E := 24) (by rw [p2_24]; grind) (by rw [p2_24]; grind) (by decide) fc
  have es := hs.err_lt (E := 24) (by rw [p2_24]; grind) (by rw [p2_24]; grind) (by decide) fs
  rw [e28] at ec es
  rw [cast_absR] at b1 b2
  have h0 : ((0 : Int) : Rat) = 0 := rfl
  have key : 1000 * absR v - absR (t : Rat) ≤ 51 / 100 ∧ absR (t : Rat) - 1000 * absR v ≤ 51 / 100 := by constructor <;> grind
  by_cases hneg : v < 0
  · have h3 : (t : Rat) ≤ 0 := by rw [← h0]; exact Rat.intCast_le_intCast.2 (g1 hneg)
    have e1 : absR v = -v := by unfold absR; rw [if_pos hneg]
    have e2 : absR (t : Rat) = -(t : Rat) := by unfold absR; split <;> grind
    rw [e1, e2] at key
    constructor <;> grind
  · have h3 : (0 : Rat) ≤ (t : Rat) := by rw [← h0]; exact Rat.intCast_le_intCast.2 (g2 (by grind))
    have e1 : absR v = v := by unfold absR; rw [if_neg hneg]
    have e2 : absR (t : Rat) = (t : Rat) := by unfold absR; rw [if_neg (by grind)]
    rw [e1, e2] at key
    exact key
theorem stp_near (t : Int) {step : Int} (h1 : 1 ≤ step) : 2 * (stp t step * step - t) ≤ step ∧ 2 * (t - stp t step * step) ≤ step := by
  have key : ∀ u : Int, 0 ≤ u → 2 * ((u + step / 2) / step * step - u) ≤ step ∧ 2 * (u - (u + step / 2) / step * step) ≤ step := by
    intro u hu
    have e := Int.emod_add_mul_ediv (u + step / 2) step
    have m1 := Int.emod_nonneg (u + step / 2) (show step ≠ 0 by omega)
    have m2 := Int.emod_lt_of_pos (u + step / 2) (show 0 < step by omega)
    rw [Int.mul_comm step] at e
    generalize (u + step / 2) / step * step = Q at *
    omega
  unfold stp
  split
  · have := key (-t) (by omega)
    rw [Int.neg_mul]
    omega
  · exact key t (by omega)
end Go.Proofs.YtnomlkkhkacajaaGreatDoor
namespace Go.Proofs.YtnomlkkhkacajaaGreatDoor
open Go.RowKit

theorem k2000 : Whl Ieee.double 4656510908468559872 2000 := by
  have h := int_whl (n := 2000) (by decide)
  rw [show floatOfInt .f64 2000 = 4656510908468559872 by decide] at h
  exact h
theorem mq_2 : mq 2 = 4566758108544739836 := by decide +kernel
theorem p2_4 : p2 4 = 16 := by rw [show (4 : Int) = ((4 : Nat) : Int) from rfl, p2_nat]; rfl
theorem p2_m38 : p2 (-38) ≤ 1 / 100000 := by
  have : (17179869184 : Rat) = p2 34 := by rw [show (34 : Int) = ((34 : Nat) : Int) from rfl, p2_nat]; rfl
  have h4 : p2 (-38) * 17179869184 = p2 (-4) := by rw [this, ← p2_add]; rfl
  have h5 : p2 (-4) ≤ p2 0 := p2_mono (by decide)
  rw [p2_zero] at h5
  grind
theorem p2_m50 : p2 (-50) ≤ 1 / 100000 := by
  have := p2_mono (show (-50 : Int) ≤ -38 by decide)
  have := p2_m38
  grind
theorem p2_m53 : p2 (-53) ≤ 1 / 1000000 := by
  have h1 : p2 (-38) = 32768 * p2 (-53) := by
    have : (32768 : Rat) = p2 15 := by rw [show (15 : Int) = ((15 : Nat) : Int) from rfl, p2_nat]; rfl
    rw [this, ← p2_add]; rfl
  have := p2_m38
  have := p2_pos (-53)
  grind
theorem le16 {q : Rat} {r : Nat} (h : Rnd Ieee.double q r) (h1 : q < 16) (h2 : -16 < q) : Fin Ieee.double r ∧ val Ieee.double r - q ≤ p2 (-50) ∧ q - val Ieee.double r ≤ p2 (-50) := by
  obtain ⟨z, hz, hvz⟩ := repr_ex Ieee.double (n := 1) (e := 4) (by decide) (by decide) (by
    have c1 : ((1 : Nat) : Rat) = 1 := rfl
    rw [inf64, c1, Rat.one_mul]
    have := p2_lt (show (4 : Int) < 1024 by decide)
    have := p2_pos 4
    grind)
  have c1 : ((1 : Nat) : Rat) = 1 := rfl
  rw [c1, Rat.one_mul, p2_4] at hvz
  have hb := h.le hz (by rw [hvz]; grind) (by rw [hvz]; grind)
  have her := h.err_lt (E := 4) (by rw [p2_4]; exact h1) (by rw [p2_4]; exact h2) (by decide) hb.1
  exact ⟨hb.1, her⟩
theorem beta_spec {step : Int} (h1 : 1 ≤ step) (h2 : step ≤ 10000) :
    ∃ r b, floatBits .quo .f64 (floatOfInt .f64 step) 4656510908468559872 = some r ∧ floatBits .add .f64 r 4566758108544739836 = some b ∧ Fin Ieee.double b ∧ (step : Rat) + 3 ≤ 2000 * val Ieee.double b := by
  have hw := int_whl (n := step) (by omega)
  have h0 : val Ieee.double 4656510908468559872 ≠ 0 := by rw [k2000.2]; decide
  obtain ⟨r, q, e, hr, he1, he2⟩ := quot_spec hw.1 k2000.1 h0
  have c3 : ((2000 : Int) : Rat) = 2000 := rfl
  rw [hw.2, k2000.2, c3] at he1 he2
  have e53 : p2 (-((Ieee.double.fractionBits : Int) + 1)) = p2 (-53) := rfl
  rw [e53] at he1 he2
  have hn1 : ((1 : Int) : Rat) ≤ (step : Rat) := Rat.intCast_le_intCast.2 h1
  have hn2 : (step : Rat) ≤ ((10000 : Int) : Rat) := Rat.intCast_le_intCast.2 h2
  have d1 : ((1 : Int) : Rat) = 1 := rfl
  have d2 : ((10000 : Int) : Rat) = 10000 := rfl
  rw [d1] at hn1
  rw [d2] at hn2
  obtain ⟨y, hy⟩ : ∃ y, y = (step : Rat) / 2000 := ⟨_, rfl⟩
  have hy2 : 2000 * y = (step : Rat) := by rw [hy]; grind
  rw [← hy] at he1 he2
  have hpos := p2_pos (-53)
  have hm : (if y < 0 then -y else y) ≤ 5 := by split <;> grind
  have hm2 := Rat.mul_le_mul_of_nonneg_right hm (Rat.le_of_lt hpos)
  have s53 := p2_m53
  obtain ⟨fr, r1, r2⟩ := le16 hr (by grind) (by grind)
  have s50 := p2_m50
  obtain ⟨_, fk, m1, m2, _⟩ := mq_spec (n := 2) (by decide) (by decide)
  rw [mq_2] at fk m1 m2
  have s38 := p2_m38
  have k2 : ((2 : Int) : Rat) = 2 := rfl
  rw [k2] at m1 m2
  obtain ⟨s, es, hs⟩ := add_spec fr fk
  obtain ⟨fs, u1, u2⟩ := le16 hs (by grind) (by grind)
  exact ⟨r, s, e, es, fs, by grind⟩
theorem sub_near {x y b : Nat} (hx : Fin Ieee.single x) (hy : Fin Ieee.single y) (hb : Fin Ieee.double b) (h1 : val Ieee.single x - val Ieee.single y ≤ val Ieee.double b) (h2 : val Ieee.single y - val Ieee.single x ≤ val Ieee.double b) :
    ∃ d, floatBits .sub .f64 (wide x) (wide y) = some d ∧ ∃ n, (FloatKind.f64.format.order d 0 == some .lt) = n ∧
      (FloatKind.f64.format.order (if n then Op.negFloat .f64 d else d) b == some .lt || FloatKind.f64.format.order (if n then Op.negFloat .f64 d else d) b == some .eq) = true := by
  have wx := wide_spec hx
  have wy := wide_spec hy
  obtain ⟨d, e, hd⟩ := sub_spec wx.1 wy.1
  rw [wx.2, wy.2] at hd
  have b0 : 0 ≤ val Ieee.double b := by grind
  -- the bound as a rung
  have hbz : rg Ieee.double b < Ieee.double.infRung := hb
  have hbv : val Ieee.double b = rv Ieee.double (rg Ieee.double b) := by
    have hn := rv_nonneg Ieee.double (rg Ieee.double b)
    unfold val at b0 ⊢
    cases hs : sg Ieee.double b
    · rw [sr_false]
    · rw [hs, sr_true] at b0; rw [sr_true]; grind
  obtain ⟨fd, l1, l2⟩ := hd.le hbz (by rw [← hbv]; exact h1) (by rw [← hbv]; grind)
  rw [← hbv] at l1 l2
  have hn := neg_rnd (k := .f64) hd
  refine ⟨d, e, _, rfl, ?_⟩
  have o := lt_iff fd zero64.1
  rw [zero64.2] at o
  have o' : (FloatKind.f64.format.order d 0 == some .lt) = decide (val Ieee.double d < 0) := o
  rw [o']
  have fin : ∀ u, Fin Ieee.double u → val Ieee.double u ≤ val Ieee.double b → (FloatKind.f64.format.order u b == some .lt || FloatKind.f64.format.order u b == some .eq) = true := by
    intro u hu hle
    have a1 := lt_iff hu hb
    have a2 := eq_iff hu hb
    show (Ieee.double.order _ _ == _ || Ieee.double.order _ _ == _) = _
    rw [a1, a2]
    simp
    grind
  by_cases hneg : val Ieee.double d < 0
  · rw [decide_eq_true hneg]
    simp only [if_true]
    exact fin _ (hn.2.2 fd) (by have : val Ieee.double (Op.negFloat .f64 d) = _ := hn.2.1; rw [this]; show -val Ieee.double d ≤ _; grind)
  · rw [decide_eq_false hneg]
    exact fin _ fd l1
/-- Two numbers that are near. -/
def NearV (b : Nat) (x y : C) : Prop := Fin Ieee.single x.1 ∧ Fin Ieee.single x.2 ∧ Fin Ieee.single y.1 ∧ Fin Ieee.single y.2 ∧
  val Ieee.single x.1 - val Ieee.single y.1 ≤ val Ieee.double b ∧ val Ieee.single y.1 - val Ieee.single x.1 ≤ val Ieee.double b ∧
  val Ieee.single x.2 - val Ieee.single y.2 ≤ val Ieee.double b ∧ val Ieee.single y.2 - val Ieee.single x.2 ≤ val Ieee.double b
end Go.Proofs.YtnomlkkhkacajaaGreatDoor
namespace Go.Proofs.YtnomlkkhkacajaaGreatDoor
open Go.RowKit

/-- The words of a sum. -/
def addC (a b : C) : C := ((Ieee.single.add a.1 b.1).getD 0, (Ieee.single.add a.2 b.2).getD 0)
def subC (a b : C) : C := ((Ieee.single.sub a.1 b.1).getD 0, (Ieee.single.sub a.2 b.2).getD 0)
/-- The words of a product in double precision, and of the product. -/
def m64 (x y : Nat) : Nat := (Ieee.double.mul (wide x) (wide y)).getD 0
def re64 (a b : C) : Nat := (Ieee.double.sub (m64 a.1 b.1) (m64 a.2 b.2)).getD 0
def im64 (a b : C) : Nat := (Ieee.double.add (m64 a.1 b.2) (m64 a.2 b.1)).getD 0
def mulC (a b : C) : C := (narrow (re64 a b), narrow (im64 a b))
theorem getD_some {α : Type} {o : Option α} {r d : α} (h : o = some r) : o.getD d = r := by rw [h]; rfl
theorem absR_mul (x y : Rat) : absR (x * y) = absR x * absR y := by
  unfold absR
  by_cases hx : x < 0 <;> by_cases hy : y < 0
  · have : ¬ x * y < 0 := by have := Rat.mul_nonneg (show 0 ≤ -x by grind) (show 0 ≤ -y by grind); grind
    rw [if_neg this, if_pos hx, if_pos hy]; grind
  · by_cases h0 : x * y < 0
    · rw [if_pos h0, if_pos hx, if_neg hy]; grind
    · have h1 := Rat.mul_nonneg (show 0 ≤ -x by grind) (show 0 ≤ y by grind)
      rw [if_neg h0, if_pos hx, if_neg hy]; grind
  · by_cases h0 : x * y < 0
    · rw [if_pos h0, if_neg hx, if_pos hy]; grind
    · have h1 := Rat.mul_nonneg (show 0 ≤ x by grind) (show 0 ≤ -y by grind)
      rw [if_neg h0, if_neg hx, if_pos hy]; grind
  · have h1 := Rat.mul_nonneg (show 0 ≤ x by grind) (show 0 ≤ y by grind)
    rw [if_neg (by grind), if_neg hx, if_neg hy]
theorem rmul_le {a b c d : Rat} (ha : 0 ≤ a) (hb : 0 ≤ b) (h1 : a ≤ c) (h2 : b ≤ d) : a * b ≤ c * d :=
  Rat.le_trans (Rat.mul_le_mul_of_nonneg_right h1 hb) (Rat.mul_le_mul_of_nonneg_left h2 (Rat.le_trans ha h1))
theorem le_absR (x : Rat) : x ≤ absR x := by unfold absR; split <;> grind
theorem neg_le_absR (x : Rat) : -absR x ≤ x := by unfold absR; split <;> grind
section
variable {a b : C}
theorem addC_spec (ha : finB a = true) (hb : finB b = true) :
    cSumBits .add .f32 a.1 a.2 b.1 b.2 = some ((addC a b).1, (addC a b).2) ∧ Rnd Ieee.single (val Ieee.single a.1 + val Ieee.single b.1) (addC a b).1 ∧ Rnd Ieee.single (val Ieee.single a.2 + val Ieee.single b.2) (addC a b).2 := by
  obtain ⟨a1, a2⟩ := finB_iff.1 ha
  obtain ⟨b1, b2⟩ := finB_iff.1 hb
  obtain ⟨r, e1, h1⟩ := add_spec a1 b1
  obtain ⟨s, e2, h2⟩ := add_spec a2 b2
  have f1 : (addC a b).1 = r := getD_some e1
  have f2 : (addC a b).2 = s := getD_some e2
  rw [f1, f2]
  refine ⟨?_, h1, h2⟩
  have e1' : floatBits .add .f32 a.1 b.1 = some r := e1
  have e2' : floatBits .add .f32 a.2 b.2 = some s := e2
  unfold cSumBits
  rw [e1', e2']; rfl
theorem p2_128 : absR (0 : Rat) = 0 := by unfold absR; split <;> grind
/-- The product of two words of single precision, in double precision: exact. -/
theorem m64_spec {x y : Nat} (hx : Fin Ieee.single x) (hy : Fin Ieee.single y) :
    floatBits .mul .f64 (wide x) (wide y) = some (m64 x y) ∧ Rnd Ieee.double (val Ieee.single x * val Ieee.single y) (m64 x y) ∧ Fin Ieee.double (m64 x y) := by
  have wx := wide_spec hx
  have wy := wide_spec hy
  obtain ⟨r, e, h⟩ := mul_spec wx.1 wy.1
  rw [wx.2, wy.2] at h
  have f : m64 x y = r := getD_some e
  rw [f]
  refine ⟨e, h, ?_⟩
  have v1 := val32_lt hx
  have v2 := val32_lt hy
  obtain ⟨z, hz, hvz⟩ := repr_ex Ieee.double (n := 1) (e := 256) (by decide) (by decide) (by
    have c1 : ((1 : Nat) : Rat) = 1 := rfl
    rw [inf64, c1, Rat.one_mul]
    have := p2_lt (show (256 : Int) < 1024 by decide)
    have := p2_pos 256
    grind)
  have c1 : ((1 : Nat) : Rat) = 1 := rfl
  rw [c1, Rat.one_mul] at hvz
  have e256 : p2 256 = p2 128 * p2 128 := by rw [← p2_add]; rfl
  have hp := p2_pos 128
  have key : absR (val Ieee.single x * val Ieee.single y) ≤ p2 128 * p2 128 := by
    rw [absR_mul]
    exact rmul_le (absR_nonneg _) (absR_nonneg _) (Rat.le_of_lt v1) (Rat.le_of_lt v2)
  exact (h.le hz (by rw [hvz, e256]; exact Rat.le_trans (le_absR _) key) (by rw [hvz, e256]; have := neg_le_absR (val Ieee.single x * val Ieee.single y); grind)).1
theorem le257 {q : Rat} {r : Nat} (h : Rnd Ieee.double q r) (h1 : absR q ≤ p2 257) : Fin Ieee.double r := by
  obtain ⟨z, hz, hvz⟩ := repr_ex Ieee.double (n := 1) (e := 257) (by decide) (by decide) (by
    have c1 : ((1 : Nat) : Rat) = 1 := rfl
    rw [inf64, c1, Rat.one_mul]
    have := p2_lt (show (257 : Int) < 1024 by decide)
    have := p2_pos 257
    grind)
  have c1 : ((1 : Nat) : Rat) = 1 := rfl
  rw [c1, Rat.one_mul] at hvz
  exact (h.le hz (by rw [hvz]; exact Rat.le_trans (le_absR _) h1) (by rw [hvz]; have := neg_le_absR q; grind)).1
theorem m64_le {x y : Nat} (hx : Fin Ieee.single x) (hy : Fin Ieee.single y) : absR (val Ieee.double (m64 x y)) ≤ p2 256 := by
  obtain ⟨_, h, _⟩ := m64_spec hx hy
  have v1 := val32_lt hx
  have v2 := val32_lt hy
  obtain ⟨z, hz, hvz⟩ := repr_ex Ieee.double (n := 1) (e := 256) (by decide) (by decide) (by
    have c1 : ((1 : Nat) : Rat) = 1 := rfl
    rw [inf64, c1, Rat.one_mul]
    have := p2_lt (show (256 : Int) < 1024 by decide)
    have := p2_pos 256
    grind)
  have c1 : ((1 : Nat) : Rat) = 1 := rfl
  rw [c1, Rat.one_mul] at hvz
  have e256 : p2 256 = p2 128 * p2 128 := by rw [← p2_add]; rfl
  have key : absR (val Ieee.single x * val Ieee.single y) ≤ p2 128 * p2 128 := by
    rw [absR_mul]
    exact rmul_le (absR_nonneg _) (absR_nonneg _) (Rat.le_of_lt v1) (Rat.le_of_lt v2)
  obtain ⟨_, l1, l2⟩ := h.le hz (by rw [hvz, e256]; exact Rat.le_trans (le_absR _) key) (by rw [hvz, e256]; have := neg_le_absR (val Ieee.single x * val Ieee.single y); grind)
  rw [hvz] at l1 l2
  exact absR_le l1 l2
theorem absR_add (x y : Rat) : absR (x + y) ≤ absR x + absR y := by unfold absR; split <;> split <;> split <;> grind
theorem absR_sub (x y : Rat) : absR (x - y) ≤ absR x + absR y := by unfold absR; split <;> split <;> split <;> grind
theorem p2_257 : p2 257 = p2 256 + p2 256 := by rw [show (257 : Int) = 256 + 1 from rfl, p2_succ]; grind
theorem re64_spec (ha : finB a = true) (hb : finB b = true) :
    floatBits .sub .f64 (m64 a.1 b.1) (m64 a.2 b.2) = some (re64 a b) ∧ Rnd Ieee.double (val Ieee.double (m64 a.1 b.1) - val Ieee.double (m64 a.2 b.2)) (re64 a b) ∧ Fin Ieee.double (re64 a b) := by
  obtain ⟨a1, a2⟩ := finB_iff.1 ha
  obtain ⟨b1, b2⟩ := finB_iff.1 hb
  obtain ⟨r, e, h⟩ := sub_spec (m64_spec a1 b1).2.2 (m64_spec a2 b2).2.2
  have f : re64 a b = r := getD_some e
  rw [f]
  refine ⟨e, h, le257 h ?_⟩
  have l1 := m64_le a1 b1
  have l2 := m64_le a2 b2
  have := absR_sub (val Ieee.double (m64 a.1 b.1)) (val Ieee.double (m64 a.2 b.2))
  rw [p2_257]; grind
theorem im64_spec (ha : finB a = true) (hb : finB b = true) :
    floatBits .add .f64 (m64 a.1 b.2) (m64 a.2 b.1) = some (im64 a b) ∧ Rnd Ieee.double (val Ieee.double (m64 a.1 b.2) + val Ieee.double (m64 a.2 b.1)) (im64 a b) ∧ Fin Ieee.double (im64 a b) := by
  obtain ⟨a1, a2⟩ := finB_iff.1 ha
  obtain ⟨b1, b2⟩ := finB_iff.1 hb
  obtain ⟨r, e, h⟩ := add_spec (m64_spec a1 b2).2.2 (m64_spec a2 b1).2.2
  have f : im64 a b = r := getD_some e
  rw [f]
  refine ⟨e, h, le257 h ?_⟩
  have l1 := m64_le a1 b2
  have l2 := m64_le a2 b1
  have := absR_add (val Ieee.double (m64 a.1 b.2)) (val Ieee.double (m64 a.2 b.1))
  rw [p2_257]; grind
theorem mulC_rnd (ha : finB a = true) (hb : finB b = true) : Rnd Ieee.single (val Ieee.double (re64 a b)) (mulC a b).1 ∧ Rnd Ieee.single (val Ieee.double (im64 a b)) (mulC a b).2 :=
  ⟨narrow_spec (re64_spec ha hb).2.2, narrow_spec (im64_spec ha hb).2.2⟩
theorem run_cconv (P : Program) (w : World) {s k : FloatKind} {x r : Nat} (hne : s ≠ k) (h : floatToFloatBits s x k = some r) : (Op.Complex.conv s x k).run P w = .ok r w := by
  simp [Op.Complex.conv, hne, run_floatToFloat w h]
/-- The product, run. -/
theorem mulC_run (P : Program) (t : TypeId) (ha : finB a = true) (hb : finB b = true) (hm : finB (mulC a b) = true) (w : World) :
    (binOp .mul t (.complex .f32 a.1 a.2) (.complex .f32 b.1 b.2)).run P w = .ok (.complex .f32 (mulC a b).1 (mulC a b).2) w := by
  obtain ⟨a1, a2⟩ := finB_iff.1 ha
  obtain ⟨b1, b2⟩ := finB_iff.1 hb
  obtain ⟨m1, m2⟩ := finB_iff.1 hm
  have n1 : floatToFloatBits .f64 (re64 a b) .f32 = some (mulC a b).1 := conv_narrow (re64_spec ha hb).2.2 m1
  have n2 : floatToFloatBits .f64 (im64 a b) .f32 = some (mulC a b).2 := conv_narrow (im64_spec ha hb).2.2 m2
  have x1 := (m64_spec a1 b1).1
  have x2 := (m64_spec a2 b2).1
  have x3 := (m64_spec a1 b2).1
  have x4 := (m64_spec a2 b1).1
  have x5 := (re64_spec ha hb).1
  have x6 := (im64_spec ha hb).1
  simp [binOp, Op.complexOp, Op.Complex.product, Op.Complex.mul, Op.Complex.sub, Op.Complex.add, run_cconv P w (by decide) (conv_wide a1), run_cconv P w (by decide) (conv_wide a2), run_cconv P w (by decide) (conv_wide b1), run_cconv P w (by decide) (conv_wide b2), run_carith w x1, run_carith w x2, run_carith w x3, run_carith w x4, run_carith w x5, run_carith w x6, run_cconv P w (by decide) n1, run_cconv P w (by decide) n2]
theorem addC_run (P : Program) (t : TypeId) (ha : finB a = true) (hb : finB b = true) (w : World) :
    (binOp .add t (.complex .f32 a.1 a.2) (.complex .f32 b.1 b.2)).run P w = .ok (.complex .f32 (addC a b).1 (addC a b).2) w :=
  run_complex_sum w .add (.inl rfl) t .f32 a.1 a.2 b.1 b.2 _ _ (addC_spec ha hb).1
end
end Go.Proofs.YtnomlkkhkacajaaGreatDoor
namespace Go.Proofs.YtnomlkkhkacajaaGreatDoor
open Go.RowKit

theorem turnL_fin (j : Nat) (h : j < 16) : finB (nth turnL j) = true := by
  have : j = 0 ∨ j = 1 ∨ j = 2 ∨ j = 3 ∨ j = 4 ∨ j = 5 ∨ j = 6 ∨ j = 7 ∨ j = 8 ∨ j = 9 ∨ j = 10 ∨ j = 11 ∨ j = 12 ∨ j = 13 ∨ j = 14 ∨ j = 15 := by omega
  rcases this with rfl | rfl | rfl | rfl | rfl | rfl | rfl | rfl | rfl | rfl | rfl | rfl | rfl | rfl | rfl | rfl <;> decide
theorem turnC_fin (k : Int) : finB (turnC k) = true := by
  unfold turnC
  split
  · exact turnL_fin _ (by have := Int.emod_lt_of_pos k (show (0 : Int) < 16 by decide); have := Int.emod_nonneg k (show (16 : Int) ≠ 0 by decide); omega)
  · decide
/-- One product more. -/
def sumStep (s : Option C) (p : C) : Option C := s.bind fun s => if finB p && finB (addC s p) then some (addC s p) else none
def prodT (xs : List C) (b : Int) (i : Nat) : C := mulC (nth xs i) (turnC (b * i))
/-- The sum of the first i products. -/
def sumT (xs : List C) (b : Int) : Nat → Option C
  | 0 => some (0, 0)
  | i + 1 => sumStep (sumT xs b i) (prodT xs b i)
theorem sumT_none {xs : List C} {b : Int} {i : Nat} (h : sumT xs b i = none) : ∀ j, i ≤ j → sumT xs b j = none := by
  intro j hj
  obtain ⟨d, rfl⟩ : ∃ d, j = i + d := ⟨j - i, by omega⟩
  clear hj
  induction d with
  | zero => exact h
  | succ d ih => show sumStep (sumT xs b (i + d)) _ = none; rw [ih]; rfl
theorem sumT_fin {xs : List C} {b : Int} : ∀ {i : Nat} {s : C}, sumT xs b i = some s → finB s = true
  | 0, s, h => by injection h with h; rw [← h]; decide
  | i + 1, s, h => by
    unfold sumT sumStep at h
    cases hs : sumT xs b i with
    | none => rw [hs] at h; cases h
    | some t =>
      rw [hs] at h
      simp only [Option.bind_some] at h
      split at h
      · rename_i hc
        injection h with h
        rw [Bool.and_eq_true] at hc
        rw [← h]; exact hc.2
      · cases h
/-- A number, and whether there is one. -/
def RetQ2 (w : World) (o : Option C) (e : Ending) (w' : World) : Prop := e = .returned (.tuple #[cv (o.getD (0, 0)), .bool o.isSome]) ∧ Below w.heap.size w w'
theorem mul_bd {b : Int} {i : Nat} (h1 : -256 ≤ b) (h2 : b ≤ 256) (hi : i ≤ 16) : -4096 ≤ b * (i : Int) ∧ b * (i : Int) ≤ 4096 := by
  have : i = 0 ∨ i = 1 ∨ i = 2 ∨ i = 3 ∨ i = 4 ∨ i = 5 ∨ i = 6 ∨ i = 7 ∨ i = 8 ∨ i = 9 ∨ i = 10 ∨ i = 11 ∨ i = 12 ∨ i = 13 ∨ i = 14 ∨ i = 15 ∨ i = 16 := by omega
  rcases this with rfl | rfl | rfl | rfl | rfl | rfl | rfl | rfl | rfl | rfl | rfl | rfl | rfl | rfl | rfl | rfl | rfl <;> omega

set_option maxHeartbeats 1000000 in
theorem plus_any (s a b : C) (hs : finB s = true) (ha : finB a = true) (hb : finB b = true) (hm : finB (mulC a b) = true) (w : World) :
    Calls Tryz.prog 147 #[cv s, cv a, cv b] w fun e w' => e = .returned (.tuple #[cv ((sumStep (some s) (mulC a b)).getD (0, 0)), .bool (sumStep (some s) (mulC a b)).isSome]) ∧ Dr w w' := by
  have q1 := mulC_run Tryz.prog 73 ha hb hm
  have q2 := addC_run Tryz.prog 73 (a := s) (b := mulC a b) hs hm
  have C1 : Hid (∀ w, Calls Tryz.prog 88 #[.complex .f32 (mulC a b).1 (mulC a b).2] w fun e w' => e = .returned (.bool true) ∧ Dr w w') := fun w => by have := iFinite (mulC a b) w; rw [hm] at this; exact this
  have C2 : Hid (∀ w, Calls Tryz.prog 88 #[.complex .f32 (addC s (mulC a b)).1 (addC s (mulC a b)).2] w fun e w' => e = .returned (.bool (finB (addC s (mulC a b)))) ∧ Dr w w') := fun w => iFinite (addC s (mulC a b)) w
  have HN : Hid (sumStep (some s) (mulC a b) = if finB (addC s (mulC a b)) then some (addC s (mulC a b)) else none) := by
    show _ = _
    unfold sumStep; rw [hm]; simp
  clear hs ha hb hm
  generalize addC s (mulC a b) = t at *
  generalize mulC a b = p at *
  rw [HN.out]
  obtain ⟨s1, s2⟩ := s
  obtain ⟨a1, a2⟩ := a
  obtain ⟨b1, b2⟩ := b
  unfold cv
  cases hf : finB t
  all_goals
    rw [hf] at C2
    go_enter Tryz.func147, Tryz.ntmps147
    go_wp2_with fail
    refine (C1.out _).mono ?_
    rintro e w' ⟨rfl, m, rfl⟩
    go_wp2_with fail
    refine (C2.out _).mono ?_
    rintro e w' ⟨rfl, m', rfl⟩
    go_wp2_with fail
    go_ret2
    exact ⟨rfl, _, rfl⟩

set_option maxHeartbeats 2000000 in
set_option maxRecDepth 100000 in
theorem iTurned (A : Option Addr) (n c : Nat) (xs : List C) (k b : Int) (w : World) (hn : 1 ≤ n) (hn2 : n ≤ 16) (hx : Cs w A n xs) (hf : xs.all finB = true) (hb : 16 / (n : Int) * k = b) (hb1 : -256 ≤ b) (hb2 : b ≤ 256)
    (hp : ∀ i, i < n → finB (prodT xs b i) = true) :
    Calls Tryz.prog 126 #[.slice A n c, .int .i64 k] w (RetQ2 w (sumT xs b n)) := by
  have HL := Lib.hid hx.len
  have e1 : IntKind.i64.wrap (16 / (n : Int) * k) = b := by rw [hb]; exact IntWalk.i64_in _ (by omega)
  have HF := Lib.hid hf
  have HPR := Lib.hid hp
  clear hf hp hb
  go_enter Tryz.func126, Tryz.ntmps126
  go_wp2_with fail
  go_loopw [7, 17] (fun v i wr => ∃ (j : Nat) (s : C), j ≤ n ∧ i = .int .i64 j ∧ v = .complex .f32 s.1 s.2 ∧ sumT xs b j = some s ∧ Below w.heap.size w wr) (fun _ i _ => n - (intOf i).toNat)
  case atStart => exact ⟨0, (0, 0), by omega, rfl, rfl, rfl, Below.refl _ _⟩
  case round =>
    obtain ⟨j, s, hj, rfl, rfl, hs, hbw⟩ := hrel
    have HS := Lib.hid hs
    have HB := Lib.hid hbw
    clear hs
    by_cases hlt : j < n
    · obtain ⟨bl, o, rfl, hbl, hc⟩ := hx.at_ hlt
      have hck : wr.cell? ⟨bl, o + j, none⟩ = some (cv (nth xs j)) := (hbw.cell (p := ⟨bl, o + j, none⟩) hbl).trans (hc j hlt)
      have hz := all_fin_nth HF.out (by rw [HL.out]; exact hlt : j < xs.length)
      have HZ := Lib.hid (finB_iff.2 hz)
      have HM : Hid (finB (mulC (nth xs j) (turnC (b * j))) = true) := HPR.out j hlt
      have HNX : Hid (sumT xs b (j + 1) = sumStep (some s) (mulC (nth xs j) (turnC (b * j)))) := by show sumStep (sumT xs b j) _ = _; rw [HS.out]; rfl
      obtain ⟨d1, d2⟩ := mul_bd (i := j) hb1 hb2 (by omega)
      have e2 : IntKind.i64.wrap (b * (j : Int)) = b * (j : Int) := IntWalk.i64_in _ (by omega)
      clear hc hx hz hbw d1 d2
      generalize nth xs j = z at *
      obtain ⟨t, ht⟩ : ∃ t, t = turnC (b * (j : Int)) := ⟨_, rfl⟩
      have HT := Lib.hid (turnC_fin (b * (j : Int)))
      have HTC : Hid (∀ w, Calls Tryz.prog 148 #[.int .i64 (b * (j : Int))] w (RetQ w t)) := fun w => by rw [ht]; exact iTurn _ w
      rw [← ht] at HM HNX HT
      clear ht
      go_wp2_with fail
      refine (HTC.out _).mono ?_
      rintro e w1 ⟨rfl, hb1w⟩
      have HB1 : Hid (Below w.heap.size w w1) := HB.out.trans (hb1w.mono HB.out.size)
      clear hb1w
      go_wp2_with fail
      refine (plus_any s z t (sumT_fin HS.out) HZ.out HT.out HM.out w1).mono ?_
      rintro e w2 ⟨rfl, m, rfl⟩
      rw [← HNX.out]
      cases hnx : sumT xs b (j + 1) with
      | none =>
        have HNN := Lib.hid (sumT_none hnx n (by omega))
        clear hnx
        simp only [Option.getD_none, Option.isSome_none]
        go_wp2_with fail
        go_ret2
        rw [HNN.out]
        exact ⟨rfl, below_drewN HB1.out m⟩
      | some s2 =>
        have HN2 := Lib.hid hnx
        clear hnx
        simp only [Option.getD_some, Option.isSome_some]
        unfold cv
        go_wp2_with fail
        go_roundw
        case rel => exact ⟨j + 1, s2, by omega, by go_num, rfl, HN2.out, below_drewN HB1.out m⟩
        case measure => simp [intOf]; omega
    · obtain rfl : j = n := by omega
      clear hx hbw
      go_wp2_with fail
      go_ret2
      rw [HS.out]
      exact ⟨rfl, HB.out⟩
end Go.Proofs.YtnomlkkhkacajaaGreatDoor
