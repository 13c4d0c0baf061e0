/- Whole numbers: words of whole thousands of thousandths; the laws' own look at them. -/
import Derived.Test.YtficlmnjbbpicaaM3
import Derived.Test.YtficlmnjbbpicaaB2
namespace Go.Proofs.Ytficlmnjbbpicaa
open Go.RowKit

theorem mp_word_all : ∀ k : _root_.Fin 2001, mp (1000 * ((k.val : Int) - 1000)) = narrow (floatOfInt .f64 ((k.val : Int) - 1000)) := by decide +kernel
theorem mp_whole {p : Int} (h1 : -1000 ≤ p) (h2 : p ≤ 1000) : Whl Ieee.single (mp (1000 * p)) p := by
  have h := mp_word_all ⟨(p + 1000).toNat, by omega⟩
  have e : (((p + 1000).toNat : Nat) : Int) - 1000 = p := by omega
  simp only [e] at h
  rw [h]
  exact narrow_whl (int_whl (by omega)) (by omega)
/-- Both parts are whole. -/
def WhlC (z : C) (p q : Int) : Prop := Whl Ieee.single z.1 p ∧ Whl Ieee.single z.2 q
def Wh (z : C) (most : Int) : Prop := ∃ p q : Int, WhlC z p q ∧ -most ≤ p ∧ p ≤ most ∧ -most ≤ q ∧ q ≤ most
def RetW (w : World) (z : C) (most : Int) (e : Ending) (w' : World) : Prop := ∃ b, e = .returned (.bool b) ∧ (b = true → Wh z most) ∧ Dr w w'
theorem whl_part {x : Nat} {re most : Int} (m0 : most ≤ 1000) (hx : Fin Ieee.single x) (hr : re.tmod 1000 = 0) (ho : (FloatKind.f32.format.order x (mp re) == some .eq) = true) (h1 : -1000 * most ≤ re) (h2 : re ≤ 1000 * most) :
    ∃ p, Whl Ieee.single x p ∧ -most ≤ p ∧ p ≤ most := by
  obtain ⟨p, rfl⟩ := Int.dvd_of_tmod_eq_zero hr
  have hw := mp_whole (p := p) (by omega) (by omega)
  have ho' : (Ieee.single.order x (mp (1000 * p)) == some .eq) = true := ho
  rw [eq_iff hx hw.1, decide_eq_true_eq] at ho'
  exact ⟨p, ⟨hx, ho'.trans hw.2⟩, by omega, by omega⟩

theorem tmod_beq (x : Int) : (x % 1000 == 0) = (x.tmod 1000 == 0) := by
  by_cases h : x % 1000 = 0
  · have : x.tmod 1000 = 0 := Int.tmod_eq_zero_of_dvd (Int.dvd_of_emod_eq_zero h)
    rw [h, this]
  · have h2 : ¬ x.tmod 1000 = 0 := fun h3 => h (Int.emod_eq_zero_of_dvd (Int.dvd_of_tmod_eq_zero h3))
    rw [beq_eq_false_iff_ne.2 h, beq_eq_false_iff_ne.2 h2]
set_option maxHeartbeats 2000000 in
theorem whole_any (z : C) (most : Int) (w : World) (m0 : 0 ≤ most) (m1 : most ≤ 1000) :
    Calls Try.prog 85 #[cv z, .int .i64 most] w (RetW w z most) := by
  cases ht : tho z with
  | none =>
    have HM : Hid (∀ w, Calls Try.prog 89 #[cv z] w fun e w' => e = .returned (.tuple #[.int .i64 0, .int .i64 0, .bool false]) ∧ Dr w w') := fun w => by have := sMilliOf z w; rw [ht] at this; exact this
    clear ht
    go_enter Try.func85, Try.ntmps85
    go_wp2_with fail
    refine (HM.out _).mono ?_
    rintro e w' ⟨rfl, m, rfl⟩
    go_wp2_with fail
    go_ret
    exact ⟨_, rfl, nofun, m, rfl⟩
  | some ab =>
    obtain ⟨re, im⟩ := ab
    obtain ⟨a1, a2, a3, a4⟩ := tho_bd ht
    obtain ⟨t1, t2⟩ := tho_some ht
    have f1 := (thou_is t1).1
    have f2 := (thou_is t2).1
    have HM : Hid (∀ w, Calls Try.prog 89 #[cv z] w fun e w' => e = .returned (.tuple #[.int .i64 re, .int .i64 im, .bool true]) ∧ Dr w w') := fun w => by have := sMilliOf z w; rw [ht] at this; exact this
    have HS : Hid (∀ w, Calls Try.prog 63 #[.int .i64 re, .int .i64 im] w fun e w' => e = .returned (.complex .f32 (mp re) (mp im)) ∧ w' = w) := fun w => by rw [← milli_yes (a := re) (b := im) (inB_true a1 a2) (inB_true a3 a4)]; exact sMilli re im w
    have e1 : IntKind.i64.wrap (-1000 * most) = -1000 * most := IntWalk.i64_in _ (by omega)
    have e2 : IntKind.i64.wrap (1000 * most) = 1000 * most := IntWalk.i64_in _ (by omega)
    have FIN : Hid ((FloatKind.f32.format.order z.1 (mp re) == some .eq) = true → (FloatKind.f32.format.order z.2 (mp im) == some .eq) = true → re.tmod 1000 = 0 → im.tmod 1000 = 0 → -1000 * most ≤ re → re ≤ 1000 * most → -1000 * most ≤ im → im ≤ 1000 * most → Wh z most) := fun o1 o2 r1 r2 b1 b2 b3 b4 => by
      obtain ⟨p, p1, p2, p3⟩ := whl_part m1 f1 r1 o1 b1 b2
      obtain ⟨q, q1, q2, q3⟩ := whl_part m1 f2 r2 o2 b3 b4
      exact ⟨p, q, ⟨p1, q1⟩, p2, p3, q2, q3⟩
    clear ht t1 t2 f1 f2 a1 a2 a3 a4
    obtain ⟨x, y⟩ := z
    generalize mp re = u at *
    generalize mp im = v at *
    have s1 := tmod_beq re
    have s2 := tmod_beq im
    cases r1 : (re.tmod 1000 == 0)
    · rw [r1] at s1
      clear s2
      go_enter Try.func85, Try.ntmps85
      go_wp2_with fail
      refine (HM.out _).mono ?_
      rintro e w' ⟨rfl, m, rfl⟩
      go_wp2_with fail
      go_ret
      exact ⟨_, rfl, nofun, m, rfl⟩
    cases r2 : (im.tmod 1000 == 0)
    · rw [r1] at s1
      rw [r2] at s2
      go_enter Try.func85, Try.ntmps85
      go_wp2_with fail
      refine (HM.out _).mono ?_
      rintro e w' ⟨rfl, m, rfl⟩
      go_wp2_with fail
      go_ret
      exact ⟨_, rfl, nofun, m, rfl⟩
    rw [r1] at s1
    rw [r2] at s2
    have R1 := Lib.hid (eq_of_beq r1)
    have R2 := Lib.hid (eq_of_beq r2)
    cases o1 : (FloatKind.f32.format.order x u == some .eq) <;> cases o2 : (FloatKind.f32.format.order y v == some .eq)
    case true.true =>
      have O1 := Lib.hid o1
      have O2 := Lib.hid o2
      by_cases b1 : -1000 * most ≤ re
      · by_cases b2 : re ≤ 1000 * most
        · by_cases b3 : -1000 * most ≤ im
          · by_cases b4 : im ≤ 1000 * most
            · unfold cv at HM ⊢
              go_enter Try.func85, Try.ntmps85
              go_wp2_with fail
              refine (HM.out _).mono ?_
              rintro e w' ⟨rfl, m, rfl⟩
              go_wp2_with fail
              refine (HS.out _).mono ?_
              rintro e w' ⟨rfl, rfl⟩
              go_wp2_with fail
              go_ret
              exact ⟨_, rfl, fun _ => FIN.out O1.out O2.out R1.out R2.out b1 b2 b3 b4, m, rfl⟩
            · unfold cv at HM ⊢
              go_enter Try.func85, Try.ntmps85
              go_wp2_with fail
              refine (HM.out _).mono ?_
              rintro e w' ⟨rfl, m, rfl⟩
              go_wp2_with fail
              refine (HS.out _).mono ?_
              rintro e w' ⟨rfl, rfl⟩
              go_wp2_with fail
              go_ret
              exact ⟨_, rfl, fun h => absurd h (by simp; try omega), m, rfl⟩
          · unfold cv at HM ⊢
            go_enter Try.func85, Try.ntmps85
            go_wp2_with fail
            refine (HM.out _).mono ?_
            rintro e w' ⟨rfl, m, rfl⟩
            go_wp2_with fail
            refine (HS.out _).mono ?_
            rintro e w' ⟨rfl, rfl⟩
            go_wp2_with fail
            go_ret
            exact ⟨_, rfl, fun h => absurd h (by simp; try omega), m, rfl⟩
        · unfold cv at HM ⊢
          go_enter Try.func85, Try.ntmps85
          go_wp2_with fail
          refine (HM.out _).mono ?_
          rintro e w' ⟨rfl, m, rfl⟩
          go_wp2_with fail
          refine (HS.out _).mono ?_
          rintro e w' ⟨rfl, rfl⟩
          go_wp2_with fail
          go_ret
          exact ⟨_, rfl, fun h => absurd h (by simp; try omega), m, rfl⟩
      · unfold cv at HM ⊢
        go_enter Try.func85, Try.ntmps85
        go_wp2_with fail
        refine (HM.out _).mono ?_
        rintro e w' ⟨rfl, m, rfl⟩
        go_wp2_with fail
        refine (HS.out _).mono ?_
        rintro e w' ⟨rfl, rfl⟩
        go_wp2_with fail
        go_ret
        exact ⟨_, rfl, fun h => absurd h (by simp; try omega), m, rfl⟩
    all_goals
      unfold cv at HM ⊢
      go_enter Try.func85, Try.ntmps85
      go_wp2_with fail
      refine (HM.out _).mono ?_
      rintro e w' ⟨rfl, m, rfl⟩
      go_wp2_with fail
      refine (HS.out _).mono ?_
      rintro e w' ⟨rfl, rfl⟩
      go_wp2_with fail
      go_ret
      exact ⟨_, rfl, nofun, m, rfl⟩
end Go.Proofs.Ytficlmnjbbpicaa
