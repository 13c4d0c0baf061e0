/- Thousandths to numbers, and numbers of steps to signals: the program's functions and the reference's. -/
import Derived.Test.YtemcdeopehdggaaDoorA2
import Derived.StillTailTactics
namespace Go.Proofs.YtemcdeopehdggaaDoor
open Go.RowKit

/-- From low on and at most high. -/
def inB (n lo hi : Int) : Bool := decide (lo ≤ n) && decide (n ≤ hi)
theorem inB_true {n lo hi : Int} (h1 : lo ≤ n) (h2 : n ≤ hi) : inB n lo hi = true := by simp [inB, h1, h2]
theorem inB_lo {n lo hi : Int} (h1 : n < lo) : inB n lo hi = false := by simp [inB]; omega
theorem inB_hi {n lo hi : Int} (h1 : hi < n) : inB n lo hi = false := by simp [inB]; omega
theorem inB_iff {n lo hi : Int} : inB n lo hi = true ↔ lo ≤ n ∧ n ≤ hi := by simp [inB]
theorem inB_false_iff {n lo hi : Int} : inB n lo hi = false ↔ n < lo ∨ hi < n := by
  rw [← Bool.not_eq_true, inB_iff]; omega

theorem l1In_any (n lo hi : Int) (w : World) : Calls Tryd.prog 62 #[.int .i64 n, .int .i64 lo, .int .i64 hi] w fun e w' => e = .returned (.bool (inB n lo hi)) ∧ w' = w := by
  by_cases h1 : lo ≤ n
  · by_cases h2 : n ≤ hi
    · rw [inB_true h1 h2]
      go_enter Tryd.func62, Tryd.ntmps62
      go_wp2_with fail
      go_ret
      exact ⟨rfl, rfl⟩
    · rw [inB_hi (by omega)]
      go_enter Tryd.func62, Tryd.ntmps62
      go_wp2_with fail
      go_ret
      exact ⟨rfl, rfl⟩
  · rw [inB_lo (by omega)]
    go_enter Tryd.func62, Tryd.ntmps62
    go_wp2_with fail
    go_ret
    exact ⟨rfl, rfl⟩

def milB (n : Int) : Bool := inB n (-9999999) 9999999
/-- So many thousandths. -/
def milli (a b : Int) : C := if milB a && milB b then (mp a, mp b) else (0, 0)
theorem milli_conv {a b : Int} (ha : milB a = true) (hb : milB b = true) : cConvBits .f64 (mq a) (mq b) .f32 = some (mp a, mp b) := by
  obtain ⟨a1, a2⟩ := inB_iff.1 ha
  obtain ⟨b1, b2⟩ := inB_iff.1 hb
  exact cconv_narrow (mq_spec a1 a2).2.1 (mp_spec a1 a2).1 (mq_spec b1 b2).2.1 (mp_spec b1 b2).1
theorem milli_yes {a b : Int} (ha : milB a = true) (hb : milB b = true) : cv (milli a b) = .complex .f32 (mp a) (mp b) := by simp [milli, ha, hb, cv]
theorem milli_no {a b : Int} (h : milB a = false ∨ milB b = false) : cv (milli a b) = .complex .f32 0 0 := by
  rcases h with h | h <;> simp [milli, h, cv]
theorem milli_fin (a b : Int) : finB (milli a b) = true := by
  unfold milli
  by_cases h : (milB a && milB b) = true
  · rw [if_pos h]
    simp only [Bool.and_eq_true] at h
    obtain ⟨a1, a2⟩ := inB_iff.1 h.1
    obtain ⟨b1, b2⟩ := inB_iff.1 h.2
    exact finB_iff.2 ⟨(mp_spec a1 a2).1, (mp_spec b1 b2).1⟩
  · rw [if_neg h]; decide
theorem ret_cv {a b : Value} (h : b = a) : Ending.returned a = .returned b := by rw [h]

set_option maxHeartbeats 400000 in
theorem sMilli (a b : Int) (w : World) : Calls Tryd.prog 23 #[.int .i64 a, .int .i64 b] w fun e w' => e = .returned (cv (milli a b)) ∧ w' = w := by
  by_cases ha : milB a = true
  · by_cases hb : milB b = true
    · have ha1 : Ieee.double.div (floatOfInt .f64 a) 4652007308841189376 = some (mq a) := (mq_spec (inB_iff.1 ha).1 (inB_iff.1 ha).2).1
      have hb1 : Ieee.double.div (floatOfInt .f64 b) 4652007308841189376 = some (mq b) := (mq_spec (inB_iff.1 hb).1 (inB_iff.1 hb).2).1
      have q1 := fun w => run_float_arith (P := Tryd.prog) w .quo 70 .f64 (floatOfInt .f64 a) 4652007308841189376 (mq a) ha1
      have q2 := fun w => run_float_arith (P := Tryd.prog) w .quo 70 .f64 (floatOfInt .f64 b) 4652007308841189376 (mq b) hb1
      have q3 := fun w => run_convert_complex (P := Tryd.prog) w 69 35 .f64 .f32 (mq a) (mq b) (mp a) (mp b) (by kernel_rfl) Tryd.underlying35 (milli_conv ha hb)
      rw [milli_yes ha hb]
      unfold milB at ha hb
      clear ha1 hb1
      go_enter Tryd.func23, Tryd.ntmps23
      go_wp2_with fail
      refine (l1In_any _ _ _ _).mono ?_
      rintro e w' ⟨rfl, rfl⟩
      go_wp2_with fail
      refine (l1In_any _ _ _ _).mono ?_
      rintro e w' ⟨rfl, rfl⟩
      go_wp2_with fail
      go_ret
      exact ⟨rfl, rfl⟩
    · have hb' : milB b = false := by simpa using hb
      rw [milli_no (.inr hb')]
      unfold milB at ha hb'
      clear hb
      go_enter Tryd.func23, Tryd.ntmps23
      go_wp2_with fail
      refine (l1In_any _ _ _ _).mono ?_
      rintro e w' ⟨rfl, rfl⟩
      go_wp2_with fail
      refine (l1In_any _ _ _ _).mono ?_
      rintro e w' ⟨rfl, rfl⟩
      go_wp2_with fail
      go_ret
      exact ⟨rfl, rfl⟩
  · have ha' : milB a = false := by simpa using ha
    rw [milli_no (.inl ha')]
    unfold milB at ha'
    clear ha
    go_enter Tryd.func23, Tryd.ntmps23
    go_wp2_with fail
    refine (l1In_any _ _ _ _).mono ?_
    rintro e w' ⟨rfl, rfl⟩
    go_wp2_with fail
    go_ret
    exact ⟨rfl, rfl⟩

set_option maxHeartbeats 800000 in
theorem iMilli (a b : Int) (w : World) : Calls Tryd.prog 50 #[.int .i64 a, .int .i64 b] w fun e w' => e = .returned (cv (milli a b)) ∧ w' = w := by
  by_cases h1 : a < -9999999
  · rw [milli_no (.inl (inB_lo h1))]
    go_enter Tryd.func50, Tryd.ntmps50
    go_wp2_with fail
    go_ret
    exact ⟨rfl, rfl⟩
  by_cases h2 : 9999999 < a
  · rw [milli_no (.inl (inB_hi h2))]
    go_enter Tryd.func50, Tryd.ntmps50
    go_wp2_with fail
    go_ret
    exact ⟨rfl, rfl⟩
  by_cases h3 : b < -9999999
  · rw [milli_no (.inr (inB_lo h3))]
    go_enter Tryd.func50, Tryd.ntmps50
    go_wp2_with fail
    go_ret
    exact ⟨rfl, rfl⟩
  by_cases h4 : 9999999 < b
  · rw [milli_no (.inr (inB_hi h4))]
    go_enter Tryd.func50, Tryd.ntmps50
    go_wp2_with fail
    go_ret
    exact ⟨rfl, rfl⟩
  have ha : milB a = true := inB_true (by omega) (by omega)
  have hb : milB b = true := inB_true (by omega) (by omega)
  have ha1 : Ieee.double.div (floatOfInt .f64 a) 4652007308841189376 = some (mq a) := (mq_spec (inB_iff.1 ha).1 (inB_iff.1 ha).2).1
  have hb1 : Ieee.double.div (floatOfInt .f64 b) 4652007308841189376 = some (mq b) := (mq_spec (inB_iff.1 hb).1 (inB_iff.1 hb).2).1
  have q1 := fun w => run_float_arith (P := Tryd.prog) w .quo 70 .f64 (floatOfInt .f64 a) 4652007308841189376 (mq a) ha1
  have q2 := fun w => run_float_arith (P := Tryd.prog) w .quo 70 .f64 (floatOfInt .f64 b) 4652007308841189376 (mq b) hb1
  have q3 := fun w => run_convert_complex (P := Tryd.prog) w 69 35 .f64 .f32 (mq a) (mq b) (mp a) (mp b) (by kernel_rfl) Tryd.underlying35 (milli_conv ha hb)
  rw [milli_yes ha hb]
  clear ha1 hb1 ha hb
  go_enter Tryd.func50, Tryd.ntmps50
  go_wp2_with fail
  go_ret
  exact ⟨rfl, rfl⟩
end Go.Proofs.YtemcdeopehdggaaDoor
