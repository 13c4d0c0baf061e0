/- Numbers that are drawn: a number, with some that are great, small, or none. -/
import Derived.Test.YtemcdeopehdggaaDoorD3
namespace Go.Proofs.YtemcdeopehdggaaDoor
open Go.RowKit

/-- A number of few thousandths. -/
def Ord (z : C) : Prop := ∃ a b : Int, -10000 ≤ a ∧ a ≤ 10000 ∧ -10000 ≤ b ∧ b ≤ 10000 ∧ z = milli a b
/-- A number that may be anything out of the six ways. -/
def Spc (z : C) : Prop := Ord z ∨ finB z = false ∨ z = (2123789977, 4271273625) ∨ z = (7136239, 2149862394) ∨
  (Fin Ieee.single z.1 ∧ val Ieee.single z.1 = 0 ∧ Fin Ieee.single z.2 ∧ val Ieee.single z.2 = 0) ∨ ∃ o, Ord o ∧ z = (2137108966, o.1)
theorem ord_fin {z : C} (h : Ord z) : finB z = true := by
  obtain ⟨a, b, _, _, _, _, rfl⟩ := h
  exact milli_fin a b
theorem not_fin_inf : ¬ Fin Ieee.single 2139095040 := by unfold Fin; decide
theorem mul_zero {x : Nat} (h : Fin Ieee.single x) : ∃ r, floatBits .mul .f32 x 0 = some r ∧ Fin Ieee.single r ∧ val Ieee.single r = 0 := by
  obtain ⟨r, e, hr⟩ := mul_spec h zero32.1
  have h0 : val Ieee.single x * val Ieee.single 0 = 0 := by rw [zero32.2]; grind
  have := hr.exact (t := false) (z := 0) (by decide) (by rw [rv_zero, h0]; rfl)
  exact ⟨r, e, this.1, by rw [this.2]; exact h0⟩
theorem mp_neg {n : Int} (h1 : -9999999 ≤ n) (h2 : n ≤ 9999999) : Fin Ieee.single (Op.negFloat .f32 (mp n)) :=
  (neg_rnd (k := .f32) (narrow_spec (mq_spec h1 h2).2.1)).2.2 (mp_spec h1 h2).1
theorem nan_not {b : Nat} (h : NaN .f32 b) : ¬ Fin Ieee.single b := fun hf => by
  unfold NaN at h; unfold Fin rg at hf; exact absurd hf (Nat.not_lt.2 (Nat.le_of_lt h))
def RetZ (w : World) (g p : Nat) (n : Int) (e : Ending) (w' : World) : Prop := ∃ z, e = .returned (cv z) ∧ (n ≤ 0 → Ord z) ∧ Spc z ∧ Rd w' g p ∧ Pk g w w'
theorem retZ_mk {w w' : World} {g p : Nat} {n : Int} {x y : Nat} (h1 : n ≤ 0 → Ord (x, y)) (h2 : Spc (x, y)) (h3 : Rd w' g p) (h4 : Pk g w w') : RetZ w g p n (.returned (.complex .f32 x y)) w' := ⟨(x, y), rfl, h1, h2, h3, h4⟩

set_option maxHeartbeats 2000000 in
set_option maxRecDepth 100000 in
theorem num_any (g p : Nat) (n : Int) (w : World) (hp : p ≤ 900000) (hn : n ≤ 1000000) (hr : Rd w g p) :
    Calls Tryd.prog 84 #[.pointer (some ⟨g, 0, none⟩), .int .i64 n] w (RetZ w g (p + 6) n) := by
  go_enter Tryd.func84, Tryd.ntmps84
  go_wp2_with fail
  refine (part_any g p w (by omega) hr).mono ?_
  rintro e w1 ⟨a, rfl, a1, a2, hr1, hp1⟩
  go_wp2_with fail
  refine (part_any g (p + 2) w1 (by omega) hr1).mono ?_
  rintro e w2 ⟨b, rfl, b1, b2, hr2, hp2⟩
  have hm := milli_yes (a := a) (b := b) (inB_true (by omega) (by omega)) (inB_true (by omega) (by omega))
  have hz : milli a b = (mp a, mp b) := by unfold milli; rw [if_pos]; rw [show milB a = true from inB_true (by omega) (by omega), show milB b = true from inB_true (by omega) (by omega)]; rfl
  have HO : Hid (Ord (mp a, mp b)) := ⟨a, b, a1, a2, b1, b2, hz.symm⟩
  have HM : Hid (∀ w, Calls Tryd.prog 23 #[.int .i64 a, .int .i64 b] w fun e w' => e = .returned (.complex .f32 (mp a) (mp b)) ∧ w' = w) := fun w => by rw [← hm]; exact sMilli a b w
  have fa := mp_neg (n := a) (by omega) (by omega)
  have fb := mp_neg (n := b) (by omega) (by omega)
  obtain ⟨ra, qa, ra1, ra2⟩ := mul_zero fa
  obtain ⟨rb, qb, rb1, rb2⟩ := mul_zero fb
  have HZ : Hid (Spc (ra, rb)) := .inr (.inr (.inr (.inr (.inl ⟨ra1, ra2, rb1, rb2⟩))))
  have qa' := fun w => run_float_arith (P := Tryd.prog) w .mul 79 .f32 _ _ _ qa
  have qb' := fun w => run_float_arith (P := Tryd.prog) w .mul 79 .f32 _ _ _ qb
  clear qa qb ra1 ra2 rb1 rb2 fa fb hm hz
  have HP2 : Hid (Pk g w w2) := hp1.trans hp2
  have HR2 := Lib.hid hr2
  clear hp1 hp2 hr1 hr2 hr
  generalize mp a = x at *
  generalize mp b = y at *
  go_wp2_with fail
  refine (HM.out _).mono ?_
  rintro e w' ⟨rfl, rfl⟩
  go_wp2_with fail
  refine (odd_any g (p + 4) n w' (by omega) hn HR2.out).mono ?_
  rintro e w3 ⟨v, rfl, hv, hr3, hp3⟩
  have HP3 : Hid (Pk g w w3) := HP2.out.trans hp3
  have HR3 := Lib.hid hr3
  have HV := Lib.hid hv
  clear hp3 hr3 hv
  cases v with
  | false =>
    go_wp2_with fail
    go_ret
    exact retZ_mk (fun _ => HO.out) (.inl HO.out) (HR3.out.mono (by omega)) HP3.out
  | true =>
    have HN : Hid (n ≤ 0 → Ord (x, y)) := fun h => absurd (HV.out h) (by decide)
    have hn0 : ¬ n ≤ 0 := fun h => absurd (HV.out h) (by decide)
    have k1 := fun w => run_float_arith (P := Tryd.prog) w .mul 79 .f32 2123789977 1092616192 2139095040 (by kernel_rfl)
    have k2 := fun w => run_float_arith (P := Tryd.prog) w .quo 79 .f32 1065353216 2123789977 7136239 (by kernel_rfl)
    have k3 := fun w => run_float_arith (P := Tryd.prog) w .mul 79 .f32 2123789977 1077936128 2137108966 (by kernel_rfl)
    have k4 := fun w => run_float_arith (P := Tryd.prog) w .quo 79 .f32 3212836864 2137108966 2149862394 (by kernel_rfl)
    have k5 : Op.negFloat .f32 2123789977 = 4271273625 := by kernel_rfl
    go_wp2_with fail
    refine (pick_any g (p + 5) 6 w3 (by omega) (by omega) HR3.out).mono ?_
    rintro e w4 ⟨v, rfl, hv, hr4, hp4⟩
    obtain ⟨v1, v2, _⟩ := hv
    have v3 := v2 (by omega)
    clear v2
    have HP4 : Hid (Pk g w w4) := HP3.out.trans hp4
    have HR4 : Hid (Rd w4 g (p + 6)) := hr4
    clear hp4 hr4
    have h6 : v = 0 ∨ v = 1 ∨ v = 2 ∨ v = 3 ∨ v = 4 ∨ v = 5 := by omega
    clear v1 v3
    have HF : ∀ y, Spc (2139095040, y) := fun y => .inr (.inl (by
      have := not_fin_inf
      cases h : finB (2139095040, y) with
      | false => rfl
      | true => exact absurd (finB_iff.1 h).1 this))
    have HF' := Lib.hid HF
    clear HF
    rcases h6 with rfl | rfl | rfl | rfl | rfl | rfl
    · go_wp2_with fail
      go_ret
      exact retZ_mk (fun h => absurd h (by omega)) (HF'.out _) HR4.out HP4.out
    · obtain ⟨nb, hnb, q2⟩ := run_float_nan Tryd.prog (.inr (.inl rfl)) 79 (k := .f32) (x := 2139095040) (y := 2139095040) (by kernel_rfl)
      have HNB := Lib.hid hnb
      clear hnb
      go_wp2_with fail
      go_ret
      refine retZ_mk (fun h => absurd h (by omega)) (.inr (.inl ?_)) (HR4.out.drewN _) (HP4.out.drewN _)
      cases h : finB (y, nb w4) with
      | false => rfl
      | true => exact absurd (finB_iff.1 h).2 (nan_not (HNB.out _))
    · go_wp2_with fail
      go_ret
      exact retZ_mk (fun h => absurd h (by omega)) (.inr (.inr (.inl rfl))) HR4.out HP4.out
    · go_wp2_with fail
      go_ret
      exact retZ_mk (fun h => absurd h (by omega)) (.inr (.inr (.inr (.inl rfl)))) HR4.out HP4.out
    · go_wp2_with fail
      go_ret
      exact retZ_mk (fun h => absurd h (by omega)) HZ.out HR4.out HP4.out
    · go_wp2_with fail
      go_ret
      exact retZ_mk (fun h => absurd h (by omega)) (.inr (.inr (.inr (.inr (.inr ⟨_, HO.out, rfl⟩))))) HR4.out HP4.out
end Go.Proofs.YtemcdeopehdggaaDoor
