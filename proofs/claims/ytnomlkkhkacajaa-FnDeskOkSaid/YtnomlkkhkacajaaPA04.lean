/- Texts on the way to a law (A1, A2, A3, A4), each with its own remark. -/
import Derived.Test.YtnomlkkhkacajaaPA03
import Derived.StillTailTactics
namespace Go.Proofs.Ytnomlkkhkacajaa
open Go.RowKit


set_option maxHeartbeats 400000 in
theorem iFinite (z : C) (w : World) :
    Calls Try.prog 18 #[cv z] w fun e w' => e = .returned (.bool (finB z)) ∧ Dr w w' := by
  obtain ⟨x, y⟩ := z
  unfold cv
  by_cases hx : Fin Ieee.single x
  · obtain ⟨r1, e1, o1⟩ := sub_self_fin (k := .f32) hx
    have q1 := fun w => run_float_arith (P := Try.prog) w .sub 57 .f32 x x r1 e1
    by_cases hy : Fin Ieee.single y
    · obtain ⟨r2, e2, o2⟩ := sub_self_fin (k := .f32) hy
      have q2 := fun w => run_float_arith (P := Try.prog) w .sub 57 .f32 y y r2 e2
      clear e1 e2
      rw [show finB (x, y) = true by simp [finB, hx, hy]]
      clear hx hy
      go_enter Try.func18, Try.ntmps18
      go_wp2
      go_ret
      exact ⟨rfl, 0, rfl⟩
    · obtain ⟨b, hb, q2⟩ := run_float_nan Try.prog (.inr (.inl rfl)) 57 (sub_self_not (k := .f32) hy)
      have o2 := fun w => order_nan_l (hb w) 0
      clear e1 hb
      rw [show finB (x, y) = false by simp [finB, hx, hy]]
      clear hx hy
      go_enter Try.func18, Try.ntmps18
      go_wp2
      go_ret
      exact ⟨rfl, 1, rfl⟩
  · obtain ⟨b, hb, q1⟩ := run_float_nan Try.prog (.inr (.inl rfl)) 57 (sub_self_not (k := .f32) hx)
    have o1 := fun w => order_nan_l (hb w) 0
    clear hb
    rw [show finB (x, y) = false by simp [finB, hx]]
    clear hx
    go_enter Try.func18, Try.ntmps18
    go_wp2
    go_ret
    exact ⟨rfl, 1, rfl⟩

set_option maxHeartbeats 400000 in
theorem sFinite (z : C) (w : World) :
    Calls Try.prog 25 #[cv z] w fun e w' => e = .returned (.bool (finB z)) ∧ Dr w w' := by
  obtain ⟨x, y⟩ := z
  unfold cv
  by_cases hx : Fin Ieee.single x
  · obtain ⟨r1, e1, o1⟩ := sub_self_fin (k := .f32) hx
    have q1 := fun w => run_float_arith (P := Try.prog) w .sub 57 .f32 x x r1 e1
    by_cases hy : Fin Ieee.single y
    · obtain ⟨r2, e2, o2⟩ := sub_self_fin (k := .f32) hy
      have q2 := fun w => run_float_arith (P := Try.prog) w .sub 57 .f32 y y r2 e2
      clear e1 e2
      rw [show finB (x, y) = true by simp [finB, hx, hy]]
      clear hx hy
      go_enter Try.func25, Try.ntmps25
      go_wp2
      go_ret
      exact ⟨rfl, 0, rfl⟩
    · obtain ⟨b, hb, q2⟩ := run_float_nan Try.prog (.inr (.inl rfl)) 57 (sub_self_not (k := .f32) hy)
      have o2 := fun w => order_nan_l (hb w) 0
      clear e1 hb
      rw [show finB (x, y) = false by simp [finB, hx, hy]]
      clear hx hy
      go_enter Try.func25, Try.ntmps25
      go_wp2
      go_ret
      exact ⟨rfl, 1, rfl⟩
  · obtain ⟨b, hb, q1⟩ := run_float_nan Try.prog (.inr (.inl rfl)) 57 (sub_self_not (k := .f32) hx)
    have o1 := fun w => order_nan_l (hb w) 0
    clear hb
    rw [show finB (x, y) = false by simp [finB, hx]]
    clear hx
    go_enter Try.func25, Try.ntmps25
    go_wp2
    go_ret
    exact ⟨rfl, 1, rfl⟩

theorem ret_int {k : IntKind} {a b : Int} (h : a = b) : Ending.returned (.int k a) = .returned (.int k b) := by rw [h]
theorem ret_bool {a b : Bool} (h : a = b) : Ending.returned (.bool a) = .returned (.bool b) := by rw [h]

set_option maxHeartbeats 400000 in
theorem iSignalOk (A : Option Addr) (n c : Nat) (xs : List C) (w : World) (hn : n ≤ 9223372036854775807) (hx : Cs w A n xs) :
    Calls Try.prog 10 #[.slice A n c] w fun e w' => e = .returned (.bool (sigB xs)) ∧ Dr w w' := by
  have hl := hx.len
  by_cases h16 : n ≤ 16
  · have hs : sigB xs = xs.all finB := by unfold sigB; simp [hl, h16]
    rw [hs]
    have HL := Lib.hid hl
    clear hl hs
    go_enter Try.func10, Try.ntmps10
    go_wp2_with fail
    go_loopw [10] (fun i wr => ∃ k : Nat, k ≤ n ∧ i = .int .i64 k ∧ (xs.take k).all finB = true ∧ ∃ m, wr = w.drewN m) (fun i _ => n - (intOf i).toNat)
    case atStart => exact ⟨0, by omega, rfl, rfl, 0, rfl⟩
    case round =>
      obtain ⟨k, hk, rfl, hf, m, rfl⟩ := hrel
      have HF := Lib.hid hf
      clear hf
      by_cases hlt : k < n
      · obtain ⟨b, o, rfl, hb, hc⟩ := hx.at_ hlt
        have hck := hc k hlt
        clear hc hx
        by_cases hfin : finB (nth xs k) = true
        · go_wp2_with (go_at_call 18; refine (iFinite _ _).mono ?_; rintro e w' ⟨rfl, m', rfl⟩)
          go_roundw
          case rel => exact ⟨k + 1, by omega, by go_num, by rw [all_take_succ (by rw [HL.out]; omega), HF.out, hfin]; rfl, _, rfl⟩
          case measure => simp [intOf]; omega
        · have hfin' : finB (nth xs k) = false := by simpa using hfin
          clear hfin
          go_wp2_with (go_at_call 18; refine (iFinite _ _).mono ?_; rintro e w' ⟨rfl, m', rfl⟩)
          go_ret
          exact ⟨ret_bool (all_false_of (by rw [HL.out]; omega) hfin').symm, _, rfl⟩
      · go_wp2_with fail
        go_ret
        exact ⟨ret_bool (by rw [← HF.out, List.take_of_length_le (by rw [HL.out]; omega)]), _, rfl⟩
  · have hs : sigB xs = false := by unfold sigB; simp [hl, h16]
    rw [hs]
    clear hl hs hx
    go_enter Try.func10, Try.ntmps10
    go_wp2_with fail
    go_ret
    exact ⟨rfl, 0, rfl⟩
end Go.Proofs.Ytnomlkkhkacajaa
namespace Go.Proofs.Ytnomlkkhkacajaa
open Go.RowKit

theorem Try.eI : Elem Try.prog 38 3 (.int .i64 0) 8 := Elem.mk' Try.underlying38 (by kernel_rfl) rfl
theorem Try.eC : Elem Try.prog 23 35 (.complex .f32 0 0) 8 := Elem.mk' Try.underlying23 (by kernel_rfl) rfl

theorem one_div {x : Nat} (h : Fin Ieee.double x) : ∃ r, floatBits .quo .f64 4607182418800017408 x = some r := by
  obtain ⟨m, p, e, _⟩ := read_fin Ieee.double h
  have e1 : Ieee.double.read 4607182418800017408 = .number false 4503599627370496 (-52) := by decide
  show ∃ r, Option.map _ (Ieee.Datum.quotient _ (Ieee.double.read 4607182418800017408) (Ieee.double.read x)) = some r
  rw [e1, e]
  unfold Ieee.Datum.quotient
  by_cases h0 : m = 0
  · simp [h0]
  · simp [h0]
theorem finB_iff {z : C} : finB z = true ↔ Fin Ieee.single z.1 ∧ Fin Ieee.single z.2 := by simp [finB]
theorem all_fin_nth {xs : List C} {k : Nat} (h : xs.all finB = true) (hk : k < xs.length) : Fin Ieee.single (nth xs k).1 ∧ Fin Ieee.single (nth xs k).2 := by
  rw [nth_eq hk]
  exact finB_iff.1 (List.all_eq_true.1 h _ (List.getElem_mem hk))
def mk1 (k : Nat) : C := (narrow (floatOfInt .f64 k), 1065353216)
def marks (k n : Nat) : List C := (List.range n).map fun j => mk1 (k + j)
theorem marks_len (k n : Nat) : (marks k n).length = n := by simp [marks]
theorem marks_get {k n j : Nat} (h : j < n) : ((marks k n).map cv)[j]? = some (cv (mk1 (k + j))) := by
  simp [marks, h]
theorem narrow_one : narrow 4607182418800017408 = 1065353216 := by decide
theorem mark_conv {k : Nat} (h : k ≤ 1048576) : cConvBits .f64 (floatOfInt .f64 k) 4607182418800017408 .f32 = some ((mk1 k).1, 1065353216) ∧ Fin Ieee.single (mk1 k).1 := by
  have h1 := int_whl (n := (k : Int)) (by omega)
  have h2 := narrow_whl h1 (by omega)
  have h3 : Fin Ieee.double 4607182418800017408 := by decide
  have h4 : Fin Ieee.single (narrow 4607182418800017408) := by rw [narrow_one]; decide
  have := cconv_narrow h1.1 h2.1 h3 h4
  rw [narrow_one] at this
  exact ⟨this, h2.1⟩
theorem over_set {L vs : List Value} {n k : Nat} (hL : L.length = n) (hv : vs.length = n) (hk : k < n) {u : Value} (hu : L[k]? = some u) :
    (L.take k ++ vs.drop k).set k u = L.take (k + 1) ++ vs.drop (k + 1) := by
  have hl : (L.take k).length = k := by simp; omega
  have hk2 : k < L.length := by omega
  rw [List.getElem?_eq_getElem hk2] at hu
  injection hu with hu
  rw [List.set_append_right _ _ (by omega), hl, Nat.sub_self, List.drop_eq_getElem_cons (show k < vs.length by omega), List.set_cons_zero, List.take_succ_eq_append_getElem hk2, hu, List.append_assoc]
  rfl
end Go.Proofs.Ytnomlkkhkacajaa
namespace Go.Proofs.Ytnomlkkhkacajaa
open Go.RowKit

/-- From low on and at most high. -/
def inB (n lo hi : Int) : Bool := decide (lo ≤ n) && decide (n ≤ hi)
theorem inB_true {n lo hi : Int} (h1 : lo ≤ n) (h2 : n ≤ hi) : inB n lo hi = true := by simp [inB, h1, h2]
theorem inB_lo {n lo hi : Int} (h1 : n < lo) : inB n lo hi = false := by simp [inB]; omega
theorem inB_hi {n lo hi : Int} (h1 : hi < n) : inB n lo hi = false := by simp [inB]; omega
theorem inB_iff {n lo hi : Int} : inB n lo hi = true ↔ lo ≤ n ∧ n ≤ hi := by simp [inB]
theorem inB_false_iff {n lo hi : Int} : inB n lo hi = false ↔ n < lo ∨ hi < n := by
  rw [← Bool.not_eq_true, inB_iff]; omega

theorem l1In_any (n lo hi : Int) (w : World) : Calls Try.prog 26 #[.int .i64 n, .int .i64 lo, .int .i64 hi] w fun e w' => e = .returned (.bool (inB n lo hi)) ∧ w' = w := by
  by_cases h1 : lo ≤ n
  · by_cases h2 : n ≤ hi
    · rw [inB_true h1 h2]
      go_enter Try.func26, Try.ntmps26
      go_wp2_with fail
      go_ret
      exact ⟨rfl, rfl⟩
    · rw [inB_hi (by omega)]
      go_enter Try.func26, Try.ntmps26
      go_wp2_with fail
      go_ret
      exact ⟨rfl, rfl⟩
  · rw [inB_lo (by omega)]
    go_enter Try.func26, Try.ntmps26
    go_wp2_with fail
    go_ret
    exact ⟨rfl, rfl⟩

def milB (n : Int) : Bool := inB n (-9999999) 9999999
/-- So many thousandths. -/
def milli (a b : Int) : C := if milB a && milB b then (mp a, mp b) else (0, 0)
theorem milli_conv {a b : Int} (ha : milB a = true) (hb : milB b = true) : cConvBits .f64 (mq a) (mq b) .f32 = some (mp a, mp b) := by
  obtain ⟨a1, a2⟩ := inB_iff.1 ha
  obtain ⟨b1, b2⟩ := inB_iff.1 hb
  exact cconv_narrow (mq_spec a1 a2).2.1 (mp_spec a1 a2).1 (mq_spec b1 b2).2.1 (mp_spec b1 b2).1
theorem milli_yes {a b : Int} (ha : milB a = true) (hb : milB b = true) : cv (milli a b) = .complex .f32 (mp a) (mp b) := by simp [milli, ha, hb, cv]
theorem milli_no {a b : Int} (h : milB a = false ∨ milB b = false) : cv (milli a b) = .complex .f32 0 0 := by
  rcases h with h | h <;> simp [milli, h, cv]
theorem milli_fin (a b : Int) : finB (milli a b) = true := by
  unfold milli
  by_cases h : (milB a && milB b) = true
  · rw [if_pos h]
    simp only [Bool.and_eq_true] at h
    obtain ⟨a1, a2⟩ := inB_iff.1 h.1
    obtain ⟨b1, b2⟩ := inB_iff.1 h.2
    exact finB_iff.2 ⟨(mp_spec a1 a2).1, (mp_spec b1 b2).1⟩
  · rw [if_neg h]; decide
theorem ret_cv {a b : Value} (h : b = a) : Ending.returned a = .returned b := by rw [h]

set_option maxHeartbeats 400000 in
theorem sMilli (a b : Int) (w : World) : Calls Try.prog 20 #[.int .i64 a, .int .i64 b] w fun e w' => e = .returned (cv (milli a b)) ∧ w' = w := by
  by_cases ha : milB a = true
  · by_cases hb : milB b = true
    · have ha1 : Ieee.double.div (floatOfInt .f64 a) 4652007308841189376 = some (mq a) := (mq_spec (inB_iff.1 ha).1 (inB_iff.1 ha).2).1
      have hb1 : Ieee.double.div (floatOfInt .f64 b) 4652007308841189376 = some (mq b) := (mq_spec (inB_iff.1 hb).1 (inB_iff.1 hb).2).1
      have q1 := fun w => run_float_arith (P := Try.prog) w .quo 50 .f64 (floatOfInt .f64 a) 4652007308841189376 (mq a) ha1
      have q2 := fun w => run_float_arith (P := Try.prog) w .quo 50 .f64 (floatOfInt .f64 b) 4652007308841189376 (mq b) hb1
      have q3 := fun w => run_convert_complex (P := Try.prog) w 49 35 .f64 .f32 (mq a) (mq b) (mp a) (mp b) (by kernel_rfl) Try.underlying35 (milli_conv ha hb)
      rw [milli_yes ha hb]
      unfold milB at ha hb
      clear ha1 hb1
      go_enter Try.func20, Try.ntmps20
      go_wp2_with fail
      refine (l1In_any _ _ _ _).mono ?_
      rintro e w' ⟨rfl, rfl⟩
      go_wp2_with fail
      refine (l1In_any _ _ _ _).mono ?_
      rintro e w' ⟨rfl, rfl⟩
      go_wp2_with fail
      go_ret
      exact ⟨rfl, rfl⟩
    · have hb' : milB b = false := by simpa using hb
      rw [milli_no (.inr hb')]
      unfold milB at ha hb'
      clear hb
      go_enter Try.func20, Try.ntmps20
      go_wp2_with fail
      refine (l1In_any _ _ _ _).mono ?_
      rintro e w' ⟨rfl, rfl⟩
      go_wp2_with fail
      refine (l1In_any _ _ _ _).mono ?_
      rintro e w' ⟨rfl, rfl⟩
      go_wp2_with fail
      go_ret
      exact ⟨rfl, rfl⟩
  · have ha' : milB a = false := by simpa using ha
    rw [milli_no (.inl ha')]
    unfold milB at ha'
    clear ha
    go_enter Try.func20, Try.ntmps20
    go_wp2_with fail
    refine (l1In_any _ _ _ _).mono ?_
    rintro e w' ⟨rfl, rfl⟩
    go_wp2_with fail
    go_ret
    exact ⟨rfl, rfl⟩

set_option maxHeartbeats 800000 in
theorem iMilli (a b : Int) (w : World) : Calls Try.prog 12 #[.int .i64 a, .int .i64 b] w fun e w' => e = .returned (cv (milli a b)) ∧ w' = w := by
  by_cases h1 : a < -9999999
  · rw [milli_no (.inl (inB_lo h1))]
    go_enter Try.func12, Try.ntmps12
    go_wp2_with fail
    go_ret
    exact ⟨rfl, rfl⟩
  by_cases h2 : 9999999 < a
  · rw [milli_no (.inl (inB_hi h2))]
    go_enter Try.func12, Try.ntmps12
    go_wp2_with fail
    go_ret
    exact ⟨rfl, rfl⟩
  by_cases h3 : b < -9999999
  · rw [milli_no (.inr (inB_lo h3))]
    go_enter Try.func12, Try.ntmps12
    go_wp2_with fail
    go_ret
    exact ⟨rfl, rfl⟩
  by_cases h4 : 9999999 < b
  · rw [milli_no (.inr (inB_hi h4))]
    go_enter Try.func12, Try.ntmps12
    go_wp2_with fail
    go_ret
    exact ⟨rfl, rfl⟩
  have ha : milB a = true := inB_true (by omega) (by omega)
  have hb : milB b = true := inB_true (by omega) (by omega)
  have ha1 : Ieee.double.div (floatOfInt .f64 a) 4652007308841189376 = some (mq a) := (mq_spec (inB_iff.1 ha).1 (inB_iff.1 ha).2).1
  have hb1 : Ieee.double.div (floatOfInt .f64 b) 4652007308841189376 = some (mq b) := (mq_spec (inB_iff.1 hb).1 (inB_iff.1 hb).2).1
  have q1 := fun w => run_float_arith (P := Try.prog) w .quo 50 .f64 (floatOfInt .f64 a) 4652007308841189376 (mq a) ha1
  have q2 := fun w => run_float_arith (P := Try.prog) w .quo 50 .f64 (floatOfInt .f64 b) 4652007308841189376 (mq b) hb1
  have q3 := fun w => run_convert_complex (P := Try.prog) w 49 35 .f64 .f32 (mq a) (mq b) (mp a) (mp b) (by kernel_rfl) Try.underlying35 (milli_conv ha hb)
  rw [milli_yes ha hb]
  clear ha1 hb1 ha hb
  go_enter Try.func12, Try.ntmps12
  go_wp2_with fail
  go_ret
  exact ⟨rfl, rfl⟩
end Go.Proofs.Ytnomlkkhkacajaa
namespace Go.Proofs.Ytnomlkkhkacajaa
open Go.RowKit

def stOk (l : List Int) (step : Int) : Bool := inB step 1 10000 && decide (l.length ≤ 32) && decide (l.length % 2 = 0) && l.all fun x => inB x (-(9999999 / step)) (9999999 / step)
def fromSt (l : List Int) (step : Int) : List C := (List.range (l.length / 2)).map fun i => milli (inth l (2 * i) * step) (inth l (2 * i + 1) * step)
def fromSteps (l : List Int) (step : Int) : Option (List C) := if stOk l step then some (fromSt l step) else none
theorem fromSt_len (l : List Int) (step : Int) : (fromSt l step).length = l.length / 2 := by simp [fromSt]
theorem fromSt_get {l : List Int} {step : Int} {i : Nat} (h : i < l.length / 2) : ((fromSt l step).map cv)[i]? = some (cv (milli (inth l (2 * i) * step) (inth l (2 * i + 1) * step))) := by
  simp [fromSt, h]
theorem most_bd {step : Int} (h1 : 1 ≤ step) : 0 ≤ 9999999 / step ∧ 9999999 / step ≤ 9999999 :=
  ⟨Int.ediv_nonneg (by omega) (by omega), Int.ediv_le_self _ (by omega)⟩
theorem step_bd {l : List Int} {step : Int} (h : stOk l step = true) {i : Nat} (hi : i < l.length) : -9999999 ≤ inth l i * step ∧ inth l i * step ≤ 9999999 := by
  unfold stOk at h
  simp only [Bool.and_eq_true] at h
  obtain ⟨⟨⟨h1, _⟩, _⟩, h2⟩ := h
  obtain ⟨h3, h4⟩ := inB_iff.1 h1
  have h5 := List.all_eq_true.1 h2 _ (List.getElem_mem hi)
  rw [← inth_eq hi] at h5
  obtain ⟨h6, h7⟩ := inB_iff.1 h5
  generalize inth l i = x at *
  have h8 : 9999999 / step * step ≤ 9999999 := Int.ediv_mul_le _ (by omega)
  have h9 := Int.mul_le_mul_of_nonneg_right h7 (show 0 ≤ step by omega)
  have h10 := Int.mul_le_mul_of_nonneg_right h6 (show 0 ≤ step by omega)
  rw [Int.neg_mul] at h10
  omega
theorem fromSteps_no {l : List Int} {step : Int} (h : stOk l step = false) : fromSteps l step = none := by unfold fromSteps; rw [h]; rfl
theorem fromSteps_yes {l : List Int} {step : Int} (h : stOk l step = true) : fromSteps l step = some (fromSt l step) := by unfold fromSteps; rw [h]; rfl

end Go.Proofs.Ytnomlkkhkacajaa
