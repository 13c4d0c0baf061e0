/- Whole signals. -/
import Derived.Test.YtficlmnjbbpicaaW1
namespace Go.Proofs.Ytficlmnjbbpicaa
open Go.RowKit

def RetWS (w : World) (xs : List C) (most : Int) (e : Ending) (w' : World) : Prop := ∃ b, e = .returned (.bool b) ∧ (b = true → ∀ i, i < xs.length → Wh (nth xs i) most) ∧ Dr w w'
set_option maxHeartbeats 400000 in
theorem wholeSignal_any (A : Option Addr) (n c : Nat) (xs : List C) (most : Int) (w : World) (hn : n ≤ 1048576) (hx : Cs w A n xs) (m0 : 0 ≤ most) (m1 : most ≤ 1000) :
    Calls Try.prog 38 #[.slice A n c, .int .i64 most] w (RetWS w xs most) := by
  have HL := Lib.hid hx.len
  go_enter Try.func38, Try.ntmps38
  go_wp2_with fail
  go_loopw [5] (fun i wr => ∃ k : Nat, k ≤ n ∧ i = .int .i64 k ∧ (∀ i, i < k → Wh (nth xs i) most) ∧ ∃ m, wr = w.drewN m) (fun i _ => n - (intOf i).toNat)
  case atStart => exact ⟨0, by omega, rfl, fun i hi => absurd hi (Nat.not_lt_zero _), 0, rfl⟩
  case round =>
    obtain ⟨k, hk, rfl, hall, m, rfl⟩ := hrel
    have HA := Lib.hid hall
    clear hall
    by_cases hlt : k < n
    · obtain ⟨b, o, rfl, hb, hc⟩ := hx.at_ hlt
      have hck : (w.drewN m).cell? ⟨b, o + k, none⟩ = some (cv (nth xs k)) := hc k hlt
      have HZ : Hid (∀ z, z = nth xs k → Wh z most → ∀ i, i < k + 1 → Wh (nth xs i) most) := fun z hz hw i hi => by
        by_cases h : i < k
        · exact HA.out i h
        · have : i = k := by omega
          rw [this, ← hz]; exact hw
      obtain ⟨z, hz⟩ : ∃ z, z = nth xs k := ⟨_, rfl⟩
      rw [← hz] at hck
      have HE := Lib.hid hz
      clear hc hx hz
      obtain ⟨wr, hwr⟩ : ∃ wr, wr = w.drewN m := ⟨_, rfl⟩
      rw [← hwr] at hck ⊢
      have HW := Lib.hid hwr
      clear hwr
      go_wp2_with fail
      refine (whole_any z most wr m0 m1).mono ?_
      rintro e w' ⟨v, rfl, hv, m2, rfl⟩
      have HV := Lib.hid hv
      clear hv
      cases v with
      | false =>
        go_wp2_with fail
        go_ret
        exact ⟨_, rfl, nofun, m + m2, by rw [HW.out, World.drewN_drewN]⟩
      | true =>
        go_wp2_with fail
        go_roundw
        case rel => exact ⟨k + 1, by omega, by go_num, HZ.out z HE.out (HV.out (by trivial)), m + m2, by rw [HW.out, World.drewN_drewN]⟩
        case measure => simp [intOf]; omega
    · obtain rfl : k = n := by omega
      go_wp2_with fail
      go_ret
      exact ⟨_, rfl, fun _ i hi => HA.out i (by rw [HL.out] at hi; exact hi), m, rfl⟩
end Go.Proofs.Ytficlmnjbbpicaa
