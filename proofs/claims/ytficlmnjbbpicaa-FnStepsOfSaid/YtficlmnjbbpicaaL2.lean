/- The law FnStepsOf, walked. -/
import Derived.Test.YtficlmnjbbpicaaN2
import Derived.Test.YtficlmnjbbpicaaD8
namespace Go.Proofs.Ytficlmnjbbpicaa
open Go.RowKit

theorem stepsOf_len {xs : List C} {step : Int} {l : List Int} (h : stepsOf xs step = some l) : l.length = 2 * xs.length ∧ sigB xs = true ∧ 1 ≤ step ∧ step ≤ 10000 ∧ l = stepsL xs step ∧ xs.all (fun z => (tho z).isSome) = true := by
  by_cases hs : stepsOk xs step = true
  · rw [stepsOf_yes hs] at h
    cases h
    unfold stepsOk at hs
    simp only [Bool.and_eq_true] at hs
    obtain ⟨⟨h1, h2⟩, h3⟩ := hs
    obtain ⟨s1, s2⟩ := inB_iff.1 h2
    exact ⟨stepsL_len _ _, h1, s1, s2, rfl, h3⟩
  · rw [stepsOf_no (by simpa using hs)] at h; cases h
theorem steps_at (xs : List C) (step : Int) : ∀ i, i < xs.length → inth (stepsL xs step) (2 * i) = stp ((tho (nth xs i)).getD (0, 0)).1 step ∧ inth (stepsL xs step) (2 * i + 1) = stp ((tho (nth xs i)).getD (0, 0)).2 step := by
  induction xs with
  | nil => intro i hi; simp at hi
  | cons z xs ih =>
    intro i hi
    have e : stepsL (z :: xs) step = stp ((tho z).getD (0, 0)).1 step :: stp ((tho z).getD (0, 0)).2 step :: stepsL xs step := by unfold stepsL; rw [List.flatMap_cons]; rfl
    rw [e]
    cases i with
    | zero => exact ⟨rfl, rfl⟩
    | succ i =>
      have h := ih i (by simpa using hi)
      have n1 : nth (z :: xs) (i + 1) = nth xs i := rfl
      rw [n1, ← h.1, ← h.2]
      exact ⟨rfl, rfl⟩
/-- One part, its thousandths in steps, and the number of these steps. -/
theorem part_near {x : Nat} {t step : Int} {b : Nat} (h : IsThou x t) (s1 : 1 ≤ step) (q1 : -9999999 ≤ stp t step * step) (q2 : stp t step * step ≤ 9999999) (hb : (step : Rat) + 3 ≤ 2000 * val Ieee.double b) :
    val Ieee.single x - val Ieee.single (mp (stp t step * step)) ≤ val Ieee.double b ∧ val Ieee.single (mp (stp t step * step)) - val Ieee.single x ≤ val Ieee.double b := by
  obtain ⟨n1, n2⟩ := thou_near h
  obtain ⟨m1, m2⟩ := stp_near t s1
  obtain ⟨_, e1, e2, _, _⟩ := mp_spec q1 q2
  generalize stp t step * step = Q at *
  have a1 : ((2 * (Q - t) : Int) : Rat) ≤ (step : Rat) := Rat.intCast_le_intCast.2 m1
  have a2 : ((2 * (t - Q) : Int) : Rat) ≤ (step : Rat) := Rat.intCast_le_intCast.2 m2
  rw [Rat.intCast_mul, Rat.intCast_sub] at a1 a2
  have k2 : ((2 : Int) : Rat) = 2 := rfl
  rw [k2] at a1 a2
  constructor <;> grind
theorem cv_inj {a b : C} (h : cv a = cv b) : a = b := by
  obtain ⟨a1, a2⟩ := a
  obtain ⟨b1, b2⟩ := b
  unfold cv at h
  injection h with _ h1 h2
  simp at h1 h2
  rw [h1, h2]
theorem steps_near {xs : List C} {step : Int} {l : List Int} (h : stepsOf xs step = some l) (hk : stOk l step = true) {b : Nat} (hb : (step : Rat) + 3 ≤ 2000 * val Ieee.double b) :
    ∀ i, i < xs.length → NearV b (nth xs i) (nth (fromSt l step) i) := by
  intro i hi
  obtain ⟨hl, hs, s1, s2, rfl, ha⟩ := stepsOf_len h
  have hf : nth (fromSt (stepsL xs step) step) i = milli (inth (stepsL xs step) (2 * i) * step) (inth (stepsL xs step) (2 * i + 1) * step) := by
    have hi2 : i < (fromSt (stepsL xs step) step).length := by rw [fromSt_len, hl]; omega
    have hr : i < (stepsL xs step).length / 2 := by rw [hl]; omega
    rw [nth_eq hi2]
    have h3 := fromSt_get (l := stepsL xs step) (step := step) (i := i) hr
    rw [List.getElem?_map, List.getElem?_eq_getElem hi2] at h3
    exact cv_inj (Option.some.inj h3)
  obtain ⟨a1, a2⟩ := step_bd hk (i := 2 * i) (by omega)
  obtain ⟨b1, b2⟩ := step_bd hk (i := 2 * i + 1) (by omega)
  obtain ⟨e1, e2⟩ := steps_at xs step i hi
  have ht : (tho (nth xs i)).isSome = true := by
    have := List.all_eq_true.1 ha _ (List.getElem_mem hi)
    rw [nth_eq hi]; exact this
  obtain ⟨ab, hab⟩ := Option.isSome_iff_exists.1 ht
  obtain ⟨a, c⟩ := ab
  rw [hab] at e1 e2
  simp only [Option.getD_some] at e1 e2
  rw [hf, e1, e2]
  rw [e1] at a1 a2
  rw [e2] at b1 b2
  obtain ⟨t1, t2⟩ := tho_some hab
  have i1 := thou_is t1
  have i2 := thou_is t2
  have em : milli (stp a step * step) (stp c step * step) = (mp (stp a step * step), mp (stp c step * step)) := by unfold milli; rw [show milB (stp a step * step) = true from inB_true a1 a2, show milB (stp c step * step) = true from inB_true b1 b2]; rfl
  rw [em]
  have p1 := part_near i1 s1 a1 a2 hb
  have p2 := part_near i2 s1 b1 b2 hb
  exact ⟨i1.1, i2.1, (mp_spec a1 a2).1, (mp_spec b1 b2).1, p1.1, p1.2, p2.1, p2.2⟩

set_option maxHeartbeats 2000000 in
set_option maxRecDepth 100000 in
theorem lawStepsOf (A : Option Addr) (n c : Nat) (w : World) (hnc : n ≤ c) (h : Code8 w A n) :
    Calls Try.prog 8 #[.slice A n c] w fun e w' => e = .returned (.bool true) ∧ Below w.heap.size w w' := by
  by_cases hbig : 1048576 < n
  · go_enter Try.func8, Try.ntmps8
    go_wp2_with fail
    go_ret
    exact ⟨rfl, Below.refl _ _⟩
  have hn2 : n ≤ 1048576 := by omega
  go_enter Try.func8, Try.ntmps8
  go_wp2_with fail
  refine (drawStepsOf_any A n c w hnc hn2 h).mono ?_
  rintro e w1 ⟨A1, m, c1, xs, step, rfl, ho1, hm, _, hb1⟩
  have hl : xs.length = m := by have := ho1.len; rw [List.length_map] at this; exact this
  have HL := Lib.hid hl
  clear hl
  go_wp2_with fail
  refine (iStepsOf A1 m c1 xs step w1 (by omega) ho1.sl).mono ?_
  rintro e w2 ⟨A2, m2, c2, rfl, ho2, hb2⟩
  have bw2 : Below w.heap.size w w2 := hb1.trans (hb2.mono hb1.size)
  have ho1' := ho1.below hb2
  go_wp2_with fail
  refine (sStepsOf A1 m c1 xs step w2 (by omega) ho1'.sl).mono ?_
  rintro e w3 ⟨A3, m3, c3, rfl, ho3, hb3⟩
  have bw3 : Below w.heap.size w w3 := bw2.trans (hb3.mono bw2.size)
  have ho1'' := ho1'.below hb3
  have ho2' := ho2.below hb3
  obtain rfl : m3 = m2 := by have h1 := ho2.len; have h2 := ho3.len; omega
  have HLM : Hid (((stepsOf xs step).getD []).length = m3) := by show _ = _; have h1 := ho2.len; rw [List.length_map] at h1; exact h1
  have hm3 : m3 ≤ 40 := by
    rw [← HLM.out]
    cases hs : stepsOf xs step with
    | none => simp
    | some l => have := (stepsOf_len hs).1; rw [HL.out] at this; simp only [Option.getD_some]; omega
  go_wp2_with fail
  refine (sameInts_true A2 A3 m3 c2 c3 _ w3 (by omega) ho2'.sl ho3.sl).mono ?_
  rintro e w4 ⟨rfl, k4, rfl⟩
  have H1 := Lib.hid (ho1''.drewN k4)
  have H2 := Lib.hid (ho2'.drewN k4)
  have HB := Lib.hid (below_drewN bw3 k4)
  clear ho1 ho2 ho3 hb1 hb2 hb3 ho1' ho1'' ho2' bw2 bw3
  cases hs : stepsOf xs step with
  | none =>
    have hm0 : m3 = 0 := by rw [← HLM.out, hs]; rfl
    subst hm0
    simp only [Option.isSome_none]
    go_wp2_with fail
    refine (alive_true _).mono ?_
    rintro e w5 ⟨rfl, rfl⟩
    go_wp2_with fail
    go_ret
    exact ⟨rfl, HB.out⟩
  | some l =>
    have HSL := Lib.hid (stepsOf_len hs)
    have HS := Lib.hid hs
    have HLl : Hid (l.length = m3) := by show _ = _; rw [← HLM.out, hs]; rfl
    have HM23 : Hid (m3 = 2 * m) := by show _ = _; rw [← HLl.out, HSL.out.1, HL.out]
    have H2' : Hid (Ow (w3.drewN k4) w1.heap.size 3 (.slice A2 m3 c2) m3 (l.map iv)) := by
      have := H2.out
      rw [hs] at this; exact this
    obtain ⟨_, _, s1, s2, _, _⟩ := HSL.out
    clear hs
    simp only [Option.isSome_some]
    go_wp2_with fail
    refine (iFromSteps A2 m3 c2 l step _ (by omega) H2'.out.sl).mono ?_
    rintro e w5 ⟨A5, m5, c5, rfl, ho5, hb5⟩
    have HB5 : Hid (Below w.heap.size w w5) := HB.out.trans (hb5.mono HB.out.size)
    have H1b := Lib.hid (H1.out.below hb5)
    have H2b := Lib.hid (H2'.out.below hb5)
    by_cases hok : stOk l step = true
    · have hy := fromSteps_yes hok
      rw [hy] at ho5 ⊢
      simp only [Option.getD_some, Option.isSome_some] at ho5 ⊢
      have HBS := Lib.hid (back_steps hok)
      have hm5 : m5 = m := by have h1 := ho5.len; rw [List.length_map, fromSt_len, HLl.out, HM23.out] at h1; omega
      subst hm5
      have H5 := Lib.hid ho5
      have HO := Lib.hid hok
      clear ho5 hb5 hok hy
      go_wp2_with fail
      refine (iStepsOf A5 m5 c5 (fromSt l step) step w5 (by omega) H5.out.sl).mono ?_
      rw [HBS.out]
      rintro e w6 ⟨A6, m6, c6, rfl, ho6, hb6⟩
      simp only [Option.getD_some, Option.isSome_some] at ho6 ⊢
      obtain rfl : m6 = m3 := by have h1 := ho6.len; rw [List.length_map] at h1; rw [← HLl.out]; exact h1.symm
      have H1c := Lib.hid (H1b.out.below hb6)
      have H2c := Lib.hid (H2b.out.below hb6)
      have H5c := Lib.hid (H5.out.below hb6)
      have HB6 : Hid (Below w.heap.size w w6) := HB5.out.trans (hb6.mono HB5.out.size)
      have H6 := Lib.hid ho6
      clear ho6 hb6
      go_wp2_with fail
      refine (sameInts_true A6 A2 m6 c6 c2 l w6 (by omega) H6.out.sl H2c.out.sl).mono ?_
      rintro e w7 ⟨rfl, k7, rfl⟩
      obtain ⟨r, b, e1, e2, fb, hb⟩ := beta_spec s1 s2
      have q1 := fun w => run_float_arith (P := Try.prog) w .quo 48 .f64 _ _ _ e1
      have q2 := fun w => run_float_arith (P := Try.prog) w .add 48 .f64 _ _ _ e2
      have HFB := Lib.hid fb
      have HNV := Lib.hid (steps_near HS.out HO.out hb)
      clear e1 e2 fb hb
      go_wp2_with fail
      refine (nearSignal_true A1 A5 m5 c1 c5 xs (fromSt l step) b _ (by omega) HFB.out (Cs.drewN H1c.out.sl k7) (Cs.drewN H5c.out.sl k7) (by rw [← HL.out]; exact HNV.out)).mono ?_
      rintro e w8 ⟨rfl, k8, rfl⟩
      go_wp2_with fail
      go_ret
      exact ⟨rfl, below_drewN HB6.out (k7 + k8)⟩
    · have hno := fromSteps_no (by simpa using hok : stOk l step = false)
      rw [hno]
      simp only [Option.isSome_none]
      obtain rfl := HM23.out
      have e0 : IntKind.i64.wrap (2 * (m : Int)) = 2 * (m : Int) := IntWalk.i64_in _ (by omega)
      have e1 : (((2 * m : Nat) : Int) == 2 * (m : Int)) = true := by rw [beq_iff_eq]; omega
      clear ho5 hb5
      go_wp2_with fail
      go_ret
      exact ⟨rfl, HB5.out⟩
end Go.Proofs.Ytficlmnjbbpicaa
