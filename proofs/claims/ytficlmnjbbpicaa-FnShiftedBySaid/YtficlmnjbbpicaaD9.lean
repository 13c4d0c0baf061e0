/- Draws of one signal. -/
import Derived.Test.YtficlmnjbbpicaaD6
namespace Go.Proofs.Ytficlmnjbbpicaa
open Go.RowKit

def RetDL (w : World) (e : Ending) (w' : World) : Prop :=
  ∃ (A : Option Addr) (m c : Nat) (xs : List C), e = .returned (.slice A m c) ∧ Ow w' w.heap.size 45 (.slice A m c) m (xs.map cv) ∧ m ≤ 17 ∧ DrawnL xs ∧ Below w.heap.size w w'
set_option maxHeartbeats 1000000 in
theorem drawWithZeros_any (A : Option Addr) (n c : Nat) (w : World) (hnc : n ≤ c) (hn : n ≤ 1048576) (h : Code8 w A n) :
    Calls Try.prog 41 #[.slice A n c] w (RetDL w) := by
  go_enter Try.func41, Try.ntmps41
  go_wp2_with fail
  refine (open_any A n c w hnc hn h).mono ?_
  rintro e w0 ⟨g, rfl, hg, hr0, hb0⟩
  go_wp2_with fail
  refine (points_any g 0 w0 (by omega) hr0).mono ?_
  rintro e w1 ⟨v, rfl, v1, v2, hr1, hp1⟩
  obtain ⟨q, rfl⟩ := Int.eq_ofNat_of_zero_le v1
  go_wp2_with fail
  refine (signal_any g 1 q 9 w1 (by omega) (by omega) (by omega) hr1).mono ?_
  rintro e w2 ⟨A2, m, c2, xs, rfl, ho, hl, hd, _, hr2, hp2⟩
  go_wp2_with fail
  go_ret
  have h0 := ho.len
  rw [List.length_map] at h0
  exact ⟨A2, m, c2, xs, rfl, ho.mono (Nat.le_trans hb0.size hp1.size), by omega, hd, hb0.trans ((hp1.trans hp2).below hg hb0.size)⟩
set_option maxHeartbeats 1000000 in
theorem drawEverySecond_any (A : Option Addr) (n c : Nat) (w : World) (hnc : n ≤ c) (hn : n ≤ 1048576) (h : Code8 w A n) :
    Calls Try.prog 44 #[.slice A n c] w (RetDL w) := by
  go_enter Try.func44, Try.ntmps44
  go_wp2_with fail
  refine (open_any A n c w hnc hn h).mono ?_
  rintro e w0 ⟨g, rfl, hg, hr0, hb0⟩
  go_wp2_with fail
  refine (points_any g 0 w0 (by omega) hr0).mono ?_
  rintro e w1 ⟨v, rfl, v1, v2, hr1, hp1⟩
  obtain ⟨q, rfl⟩ := Int.eq_ofNat_of_zero_le v1
  go_wp2_with fail
  refine (signal_any g 1 q 9 w1 (by omega) (by omega) (by omega) hr1).mono ?_
  rintro e w2 ⟨A2, m, c2, xs, rfl, ho, hl, hd, _, hr2, hp2⟩
  go_wp2_with fail
  go_ret
  have h0 := ho.len
  rw [List.length_map] at h0
  exact ⟨A2, m, c2, xs, rfl, ho.mono (Nat.le_trans hb0.size hp1.size), by omega, hd, hb0.trans ((hp1.trans hp2).below hg hb0.size)⟩
end Go.Proofs.Ytficlmnjbbpicaa
