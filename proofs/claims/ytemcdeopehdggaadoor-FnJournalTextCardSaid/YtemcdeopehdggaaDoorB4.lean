/- Lists that are compared: the laws' own helpers. -/
import Derived.Test.YtemcdeopehdggaaDoorB3
namespace Go.Proofs.YtemcdeopehdggaaDoor
open Go.RowKit

/-- Two numbers of the same value. -/
def EqV (a b : C) : Prop := Fin Ieee.single a.1 ∧ Fin Ieee.single a.2 ∧ Fin Ieee.single b.1 ∧ Fin Ieee.single b.2 ∧ val Ieee.single a.1 = val Ieee.single b.1 ∧ val Ieee.single a.2 = val Ieee.single b.2
theorem EqV.refl {a : C} (h : finB a = true) : EqV a a := by
  obtain ⟨h1, h2⟩ := finB_iff.1 h
  exact ⟨h1, h2, h1, h2, rfl, rfl⟩
theorem samePart_true {x y : Nat} (hx : Fin Ieee.double x) (hy : Fin Ieee.double y) (h : val Ieee.double x = val Ieee.double y) (w : World) :
    Calls Tryd.prog 88 #[.float .f64 x, .float .f64 y] w fun e w' => e = .returned (.bool true) ∧ w' = w := by
  have o1 : (FloatKind.f64.format.order x y == some .eq) = true := by
    have := eq_iff hx hy
    rw [decide_eq_true h] at this; exact this
  clear hx hy h
  go_enter Tryd.func88, Tryd.ntmps88
  go_wp2_with fail
  go_ret
  exact ⟨rfl, rfl⟩
theorem sameBits_true {a b : C} (h : EqV a b) (w : World) :
    Calls Tryd.prog 63 #[cv a, cv b] w fun e w' => e = .returned (.bool true) ∧ w' = w := by
  obtain ⟨h1, h2, h3, h4, h5, h6⟩ := h
  obtain ⟨x, y⟩ := a
  obtain ⟨u, v⟩ := b
  have q1 := fun w => run_convert_float_float (P := Tryd.prog) (w := w) 79 70 .f32 .f64 x (wide x) (by kernel_rfl) Tryd.underlying70 (conv_wide h1)
  have q2 := fun w => run_convert_float_float (P := Tryd.prog) (w := w) 79 70 .f32 .f64 y (wide y) (by kernel_rfl) Tryd.underlying70 (conv_wide h2)
  have q3 := fun w => run_convert_float_float (P := Tryd.prog) (w := w) 79 70 .f32 .f64 u (wide u) (by kernel_rfl) Tryd.underlying70 (conv_wide h3)
  have q4 := fun w => run_convert_float_float (P := Tryd.prog) (w := w) 79 70 .f32 .f64 v (wide v) (by kernel_rfl) Tryd.underlying70 (conv_wide h4)
  have s1 : ∀ w, Calls Tryd.prog 88 #[.float .f64 (wide x), .float .f64 (wide u)] w fun e w' => e = .returned (.bool true) ∧ w' = w := fun w =>
    samePart_true (wide_spec h1).1 (wide_spec h3).1 ((wide_spec h1).2.trans (Eq.trans h5 (wide_spec h3).2.symm)) w
  have s2 : ∀ w, Calls Tryd.prog 88 #[.float .f64 (wide y), .float .f64 (wide v)] w fun e w' => e = .returned (.bool true) ∧ w' = w := fun w =>
    samePart_true (wide_spec h2).1 (wide_spec h4).1 ((wide_spec h2).2.trans (Eq.trans h6 (wide_spec h4).2.symm)) w
  have S1 := Lib.hid s1
  have S2 := Lib.hid s2
  clear h1 h2 h3 h4 h5 h6 s1 s2
  unfold cv
  go_enter Tryd.func63, Tryd.ntmps63
  go_wp2_with fail
  refine (S1.out _).mono ?_
  rintro e w' ⟨rfl, rfl⟩
  go_wp2_with fail
  refine (S2.out _).mono ?_
  rintro e w' ⟨rfl, rfl⟩
  go_wp2_with fail
  go_ret
  exact ⟨rfl, rfl⟩

set_option maxHeartbeats 400000 in
theorem sameSignal_true (A A' : Option Addr) (n c c' : Nat) (xs ys : List C) (w : World) (hn : n ≤ 1048576) (hx : Cs w A n xs) (hy : Cs w A' n ys) (he : ∀ i, i < n → EqV (nth xs i) (nth ys i)) :
    Calls Tryd.prog 24 #[.slice A n c, .slice A' n c'] w fun e w' => e = .returned (.bool true) ∧ Dr w w' := by
  have HE := Lib.hid he
  clear he
  go_enter Tryd.func24, Tryd.ntmps24
  go_wp2_with fail
  go_loopw [5] (fun i wr => ∃ k : Nat, k ≤ n ∧ i = .int .i64 k ∧ ∃ m, wr = w.drewN m) (fun i _ => n - (intOf i).toNat)
  case atStart => exact ⟨0, by omega, rfl, 0, rfl⟩
  case round =>
    obtain ⟨k, hk, rfl, m, rfl⟩ := hrel
    by_cases hlt : k < n
    · obtain ⟨b, o, rfl, hb, hc⟩ := hx.at_ hlt
      obtain ⟨b', o', rfl, hb', hc'⟩ := hy.at_ hlt
      have h1 : (w.drewN m).cell? ⟨b, o + k, none⟩ = some (cv (nth xs k)) := hc k hlt
      have h2 : (w.drewN m).cell? ⟨b', o' + k, none⟩ = some (cv (nth ys k)) := hc' k hlt
      have HV := Lib.hid (HE.out k hlt)
      generalize nth xs k = z at *
      generalize nth ys k = z' at *
      clear hc hc' hx hy
      obtain ⟨wr, hwr⟩ : ∃ wr, wr = w.drewN m := ⟨_, rfl⟩
      rw [← hwr] at h1 h2 ⊢
      have HW := Lib.hid hwr
      clear hwr
      go_wp2_with fail
      go_quiet ((go_at_call 63; exact Calls.quiet_of_same (sameBits_true HV.out _)))
      go_wp2_with fail
      go_roundw
      case rel => exact ⟨k + 1, by omega, by go_num, m + nq, by rw [HW.out, World.drewN_drewN]⟩
      case measure => simp [intOf]; omega
    · go_wp2_with fail
      go_ret
      exact ⟨rfl, m, rfl⟩
theorem mp_1500 : mp 1500 = 1069547520 := by decide +kernel
theorem mp_0 : mp 0 = 0 := by decide +kernel
theorem alive_true (w : World) : Calls Tryd.prog 21 #[] w fun e w' => e = .returned (.bool true) ∧ w' = w := by
  have h1 := milli_yes (a := 1500) (b := 0) (by decide) (by decide)
  rw [mp_1500, mp_0] at h1
  have HM : ∀ w, Calls Tryd.prog 50 #[.int .i64 1500, .int .i64 0] w fun e w' => e = .returned (.complex .f32 1069547520 0) ∧ w' = w := fun w => by rw [← h1]; exact iMilli 1500 0 w
  have HM' := Lib.hid HM
  clear HM h1
  go_enter Tryd.func21, Tryd.ntmps21
  go_wp2_with fail
  refine (HM'.out _).mono ?_
  rintro e w' ⟨rfl, rfl⟩
  have k1 : (FloatKind.f32.format.order 1069547520 1069547520 == some .eq) = true := by decide +kernel
  have k2 : (FloatKind.f32.format.order 0 0 == some .eq) = true := by decide +kernel
  go_wp2_with fail
  go_ret
  exact ⟨rfl, rfl⟩
end Go.Proofs.YtemcdeopehdggaaDoor
