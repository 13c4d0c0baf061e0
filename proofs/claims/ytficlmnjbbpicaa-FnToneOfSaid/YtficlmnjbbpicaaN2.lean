/- Nearness: the bound of the law on steps, the program's Near, and nearSignal. -/
import Derived.Test.YtficlmnjbbpicaaN1
namespace Go.Proofs.Ytficlmnjbbpicaa
open Go.RowKit

theorem k2000 : Whl Ieee.double 4656510908468559872 2000 := by
  have h := int_whl (n := 2000) (by decide)
  rw [show floatOfInt .f64 2000 = 4656510908468559872 by decide] at h
  exact h
theorem mq_2 : mq 2 = 4566758108544739836 := by decide +kernel
theorem p2_4 : p2 4 = 16 := by rw [show (4 : Int) = ((4 : Nat) : Int) from rfl, p2_nat]; rfl
theorem p2_m38 : p2 (-38) ≤ 1 / 100000 := by
  have : (17179869184 : Rat) = p2 34 := by rw [show (34 : Int) = ((34 : Nat) : Int) from rfl, p2_nat]; rfl
  have h4 : p2 (-38) * 17179869184 = p2 (-4) := by rw [this, ← p2_add]; rfl
  have h5 : p2 (-4) ≤ p2 0 := p2_mono (by decide)
  rw [p2_zero] at h5
  grind
theorem p2_m50 : p2 (-50) ≤ 1 / 100000 := by
  have := p2_mono (show (-50 : Int) ≤ -38 by decide)
  have := p2_m38
  grind
theorem p2_m53 : p2 (-53) ≤ 1 / 1000000 := by
  have h1 : p2 (-38) = 32768 * p2 (-53) := by
    have : (32768 : Rat) = p2 15 := by rw [show (15 : Int) = ((15 : Nat) : Int) from rfl, p2_nat]; rfl
    rw [this, ← p2_add]; rfl
  have := p2_m38
  have := p2_pos (-53)
  grind
theorem le16 {q : Rat} {r : Nat} (h : Rnd Ieee.double q r) (h1 : q < 16) (h2 : -16 < q) : Fin Ieee.double r ∧ val Ieee.double r - q ≤ p2 (-50) ∧ q - val Ieee.double r ≤ p2 (-50) := by
  obtain ⟨z, hz, hvz⟩ := repr_ex Ieee.double (n := 1) (e := 4) (by decide) (by decide) (by
    have c1 : ((1 : Nat) : Rat) = 1 := rfl
    rw [inf64, c1, Rat.one_mul]
    have := p2_lt (show (4 : Int) < 1024 by decide)
    have := p2_pos 4
    grind)
  have c1 : ((1 : Nat) : Rat) = 1 := rfl
  rw [c1, Rat.one_mul, p2_4] at hvz
  have hb := h.le hz (by rw [hvz]; grind) (by rw [hvz]; grind)
  have her := h.err_lt (E := 4) (by rw [p2_4]; exact h1) (by rw [p2_4]; exact h2) (by decide) hb.1
  exact ⟨hb.1, her⟩
theorem beta_spec {step : Int} (h1 : 1 ≤ step) (h2 : step ≤ 10000) :
    ∃ r b, floatBits .quo .f64 (floatOfInt .f64 step) 4656510908468559872 = some r ∧ floatBits .add .f64 r 4566758108544739836 = some b ∧ Fin Ieee.double b ∧ (step : Rat) + 3 ≤ 2000 * val Ieee.double b := by
  have hw := int_whl (n := step) (by omega)
  have h0 : val Ieee.double 4656510908468559872 ≠ 0 := by rw [k2000.2]; decide
  obtain ⟨r, q, e, hr, he1, he2⟩ := quot_spec hw.1 k2000.1 h0
  have c3 : ((2000 : Int) : Rat) = 2000 := rfl
  rw [hw.2, k2000.2, c3] at he1 he2
  have e53 : p2 (-((Ieee.double.fractionBits : Int) + 1)) = p2 (-53) := rfl
  rw [e53] at he1 he2
  have hn1 : ((1 : Int) : Rat) ≤ (step : Rat) := Rat.intCast_le_intCast.2 h1
  have hn2 : (step : Rat) ≤ ((10000 : Int) : Rat) := Rat.intCast_le_intCast.2 h2
  have d1 : ((1 : Int) : Rat) = 1 := rfl
  have d2 : ((10000 : Int) : Rat) = 10000 := rfl
  rw [d1] at hn1
  rw [d2] at hn2
  obtain ⟨y, hy⟩ : ∃ y, y = (step : Rat) / 2000 := ⟨_, rfl⟩
  have hy2 : 2000 * y = (step : Rat) := by rw [hy]; grind
  rw [← hy] at he1 he2
  have hpos := p2_pos (-53)
  have hm : (if y < 0 then -y else y) ≤ 5 := by split <;> grind
  have hm2 := Rat.mul_le_mul_of_nonneg_right hm (Rat.le_of_lt hpos)
  have s53 := p2_m53
  obtain ⟨fr, r1, r2⟩ := le16 hr (by grind) (by grind)
  have s50 := p2_m50
  obtain ⟨_, fk, m1, m2, _⟩ := mq_spec (n := 2) (by decide) (by decide)
  rw [mq_2] at fk m1 m2
  have s38 := p2_m38
  have k2 : ((2 : Int) : Rat) = 2 := rfl
  rw [k2] at m1 m2
  obtain ⟨s, es, hs⟩ := add_spec fr fk
  obtain ⟨fs, u1, u2⟩ := le16 hs (by grind) (by grind)
  exact ⟨r, s, e, es, fs, by grind⟩
theorem sub_near {x y b : Nat} (hx : Fin Ieee.single x) (hy : Fin Ieee.single y) (hb : Fin Ieee.double b) (h1 : val Ieee.single x - val Ieee.single y ≤ val Ieee.double b) (h2 : val Ieee.single y - val Ieee.single x ≤ val Ieee.double b) :
    ∃ d, floatBits .sub .f64 (wide x) (wide y) = some d ∧ ∃ n, (FloatKind.f64.format.order d 0 == some .lt) = n ∧
      (FloatKind.f64.format.order (if n then Op.negFloat .f64 d else d) b == some .lt || FloatKind.f64.format.order (if n then Op.negFloat .f64 d else d) b == some .eq) = true := by
  have wx := wide_spec hx
  have wy := wide_spec hy
  obtain ⟨d, e, hd⟩ := sub_spec wx.1 wy.1
  rw [wx.2, wy.2] at hd
  have b0 : 0 ≤ val Ieee.double b := by grind
  -- the bound as a rung
  have hbz : rg Ieee.double b < Ieee.double.infRung := hb
  have hbv : val Ieee.double b = rv Ieee.double (rg Ieee.double b) := by
    have hn := rv_nonneg Ieee.double (rg Ieee.double b)
    unfold val at b0 ⊢
    cases hs : sg Ieee.double b
    · rw [sr_false]
    · rw [hs, sr_true] at b0; rw [sr_true]; grind
  obtain ⟨fd, l1, l2⟩ := hd.le hbz (by rw [← hbv]; exact h1) (by rw [← hbv]; grind)
  rw [← hbv] at l1 l2
  have hn := neg_rnd (k := .f64) hd
  refine ⟨d, e, _, rfl, ?_⟩
  have o := lt_iff fd zero64.1
  rw [zero64.2] at o
  have o' : (FloatKind.f64.format.order d 0 == some .lt) = decide (val Ieee.double d < 0) := o
  rw [o']
  have fin : ∀ u, Fin Ieee.double u → val Ieee.double u ≤ val Ieee.double b → (FloatKind.f64.format.order u b == some .lt || FloatKind.f64.format.order u b == some .eq) = true := by
    intro u hu hle
    have a1 := lt_iff hu hb
    have a2 := eq_iff hu hb
    show (Ieee.double.order _ _ == _ || Ieee.double.order _ _ == _) = _
    rw [a1, a2]
    simp
    grind
  by_cases hneg : val Ieee.double d < 0
  · rw [decide_eq_true hneg]
    simp only [if_true]
    exact fin _ (hn.2.2 fd) (by have : val Ieee.double (Op.negFloat .f64 d) = _ := hn.2.1; rw [this]; show -val Ieee.double d ≤ _; grind)
  · rw [decide_eq_false hneg]
    exact fin _ fd l1
/-- Two numbers that are near. -/
def NearV (b : Nat) (x y : C) : Prop := Fin Ieee.single x.1 ∧ Fin Ieee.single x.2 ∧ Fin Ieee.single y.1 ∧ Fin Ieee.single y.2 ∧
  val Ieee.single x.1 - val Ieee.single y.1 ≤ val Ieee.double b ∧ val Ieee.single y.1 - val Ieee.single x.1 ≤ val Ieee.double b ∧
  val Ieee.single x.2 - val Ieee.single y.2 ≤ val Ieee.double b ∧ val Ieee.single y.2 - val Ieee.single x.2 ≤ val Ieee.double b
set_option maxHeartbeats 1000000 in
theorem near_true {x y : C} {b : Nat} (hb : Fin Ieee.double b) (h : NearV b x y) (w : World) :
    Calls Try.prog 79 #[cv x, cv y, .float .f64 b] w fun e w' => e = .returned (.bool true) ∧ Dr w w' := by
  obtain ⟨h1, h2, h3, h4, h5, h6, h7, h8⟩ := h
  obtain ⟨d1, e1, n1, o1, p1⟩ := sub_near h1 h3 hb h5 h6
  obtain ⟨d2, e2, n2, o2, p2⟩ := sub_near h2 h4 hb h7 h8
  have q1 := fun w => run_convert_complex (P := Try.prog) w 45 67 .f32 .f64 x.1 x.2 (wide x.1) (wide x.2) (by kernel_rfl) Try.underlying67 (cconv_wide h1 h2)
  have q2 := fun w => run_convert_complex (P := Try.prog) w 45 67 .f32 .f64 y.1 y.2 (wide y.1) (wide y.2) (by kernel_rfl) Try.underlying67 (cconv_wide h3 h4)
  have q3 := fun w => run_complex_sum (P := Try.prog) w .sub (.inr rfl) 67 .f64 (wide x.1) (wide x.2) (wide y.1) (wide y.2) d1 d2 (by unfold cSumBits; rw [e1, e2]; rfl)
  have f1 := (finB_iff (z := x)).2 ⟨h1, h2⟩
  have f2 := (finB_iff (z := y)).2 ⟨h3, h4⟩
  have C1 : Hid (∀ w, Calls Try.prog 76 #[.complex .f32 x.1 x.2] w fun e w' => e = .returned (.bool true) ∧ Dr w w') := fun w => by have := iFinite x w; rw [f1] at this; exact this
  have C2 : Hid (∀ w, Calls Try.prog 76 #[.complex .f32 y.1 y.2] w fun e w' => e = .returned (.bool true) ∧ Dr w w') := fun w => by have := iFinite y w; rw [f2] at this; exact this
  clear h1 h2 h3 h4 h5 h6 h7 h8 f1 f2 e1 e2 hb
  obtain ⟨x1, x2⟩ := x
  obtain ⟨y1, y2⟩ := y
  unfold cv
  cases n1 <;> cases n2
  all_goals
    simp only [Bool.false_eq_true, if_true, if_false] at p1 p2
    go_enter Try.func79, Try.ntmps79
    go_wp2_with fail
    refine (C1.out _).mono ?_
    rintro e w' ⟨rfl, m, rfl⟩
    go_wp2_with fail
    refine (C2.out _).mono ?_
    rintro e w' ⟨rfl, m', rfl⟩
    go_wp2_with fail
    go_ret
    exact ⟨rfl, _, rfl⟩
set_option maxHeartbeats 400000 in
theorem nearSignal_true (A A' : Option Addr) (n c c' : Nat) (xs ys : List C) (b : Nat) (w : World) (hn : n ≤ 1048576) (hb : Fin Ieee.double b) (hx : Cs w A n xs) (hy : Cs w A' n ys) (he : ∀ i, i < n → NearV b (nth xs i) (nth ys i)) :
    Calls Try.prog 33 #[.slice A n c, .slice A' n c', .float .f64 b] w fun e w' => e = .returned (.bool true) ∧ Dr w w' := by
  have HE := Lib.hid he
  have HBF := Lib.hid hb
  clear he hb
  go_enter Try.func33, Try.ntmps33
  go_wp2_with fail
  go_loopw [7] (fun i wr => ∃ k : Nat, k ≤ n ∧ i = .int .i64 k ∧ ∃ m, wr = w.drewN m) (fun i _ => n - (intOf i).toNat)
  case atStart => exact ⟨0, by omega, rfl, 0, rfl⟩
  case round =>
    obtain ⟨k, hk, rfl, m, rfl⟩ := hrel
    by_cases hlt : k < n
    · obtain ⟨b', o, rfl, hbl, hc⟩ := hx.at_ hlt
      obtain ⟨b2, o', rfl, hb2, hc'⟩ := hy.at_ hlt
      have h1 : (w.drewN m).cell? ⟨b', o + k, none⟩ = some (cv (nth xs k)) := hc k hlt
      have h2 : (w.drewN m).cell? ⟨b2, o' + k, none⟩ = some (cv (nth ys k)) := hc' k hlt
      have HV := Lib.hid (HE.out k hlt)
      generalize nth xs k = z at *
      generalize nth ys k = z' at *
      clear hc hc' hx hy
      obtain ⟨wr, hwr⟩ : ∃ wr, wr = w.drewN m := ⟨_, rfl⟩
      rw [← hwr] at h1 h2 ⊢
      have HW := Lib.hid hwr
      clear hwr
      go_wp2_with fail
      go_quiet ((go_at_call 79; exact Calls.quiet_of (near_true HBF.out HV.out _)))
      go_wp2_with fail
      go_roundw
      case rel => exact ⟨k + 1, by omega, by go_num, m + nq, by rw [HW.out, World.drewN_drewN]⟩
      case measure => simp [intOf]; omega
    · go_wp2_with fail
      go_ret
      exact ⟨rfl, m, rfl⟩
end Go.Proofs.Ytficlmnjbbpicaa
