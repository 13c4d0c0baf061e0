/- What the smallest functions do: whether a number is finite; whether a signal is one. -/
import Derived.Test.YtemcdeopehdggaaDoorBase
namespace Go.Proofs.YtemcdeopehdggaaDoor
open Go.RowKit


set_option maxHeartbeats 400000 in
theorem iFinite (z : C) (w : World) :
    Calls Tryd.prog 65 #[cv z] w fun e w' => e = .returned (.bool (finB z)) ∧ Dr w w' := by
  obtain ⟨x, y⟩ := z
  unfold cv
  by_cases hx : Fin Ieee.single x
  · obtain ⟨r1, e1, o1⟩ := sub_self_fin (k := .f32) hx
    have q1 := fun w => run_float_arith (P := Tryd.prog) w .sub 79 .f32 x x r1 e1
    by_cases hy : Fin Ieee.single y
    · obtain ⟨r2, e2, o2⟩ := sub_self_fin (k := .f32) hy
      have q2 := fun w => run_float_arith (P := Tryd.prog) w .sub 79 .f32 y y r2 e2
      clear e1 e2
      rw [show finB (x, y) = true by simp [finB, hx, hy]]
      clear hx hy
      go_enter Tryd.func65, Tryd.ntmps65
      go_wp2
      go_ret
      exact ⟨rfl, 0, rfl⟩
    · obtain ⟨b, hb, q2⟩ := run_float_nan Tryd.prog (.inr (.inl rfl)) 79 (sub_self_not (k := .f32) hy)
      have o2 := fun w => order_nan_l (hb w) 0
      clear e1 hb
      rw [show finB (x, y) = false by simp [finB, hx, hy]]
      clear hx hy
      go_enter Tryd.func65, Tryd.ntmps65
      go_wp2
      go_ret
      exact ⟨rfl, 1, rfl⟩
  · obtain ⟨b, hb, q1⟩ := run_float_nan Tryd.prog (.inr (.inl rfl)) 79 (sub_self_not (k := .f32) hx)
    have o1 := fun w => order_nan_l (hb w) 0
    clear hb
    rw [show finB (x, y) = false by simp [finB, hx]]
    clear hx
    go_enter Tryd.func65, Tryd.ntmps65
    go_wp2
    go_ret
    exact ⟨rfl, 1, rfl⟩

set_option maxHeartbeats 400000 in
theorem sFinite (z : C) (w : World) :
    Calls Tryd.prog 59 #[cv z] w fun e w' => e = .returned (.bool (finB z)) ∧ Dr w w' := by
  obtain ⟨x, y⟩ := z
  unfold cv
  by_cases hx : Fin Ieee.single x
  · obtain ⟨r1, e1, o1⟩ := sub_self_fin (k := .f32) hx
    have q1 := fun w => run_float_arith (P := Tryd.prog) w .sub 79 .f32 x x r1 e1
    by_cases hy : Fin Ieee.single y
    · obtain ⟨r2, e2, o2⟩ := sub_self_fin (k := .f32) hy
      have q2 := fun w => run_float_arith (P := Tryd.prog) w .sub 79 .f32 y y r2 e2
      clear e1 e2
      rw [show finB (x, y) = true by simp [finB, hx, hy]]
      clear hx hy
      go_enter Tryd.func59, Tryd.ntmps59
      go_wp2
      go_ret
      exact ⟨rfl, 0, rfl⟩
    · obtain ⟨b, hb, q2⟩ := run_float_nan Tryd.prog (.inr (.inl rfl)) 79 (sub_self_not (k := .f32) hy)
      have o2 := fun w => order_nan_l (hb w) 0
      clear e1 hb
      rw [show finB (x, y) = false by simp [finB, hx, hy]]
      clear hx hy
      go_enter Tryd.func59, Tryd.ntmps59
      go_wp2
      go_ret
      exact ⟨rfl, 1, rfl⟩
  · obtain ⟨b, hb, q1⟩ := run_float_nan Tryd.prog (.inr (.inl rfl)) 79 (sub_self_not (k := .f32) hx)
    have o1 := fun w => order_nan_l (hb w) 0
    clear hb
    rw [show finB (x, y) = false by simp [finB, hx]]
    clear hx
    go_enter Tryd.func59, Tryd.ntmps59
    go_wp2
    go_ret
    exact ⟨rfl, 1, rfl⟩

theorem ret_int {k : IntKind} {a b : Int} (h : a = b) : Ending.returned (.int k a) = .returned (.int k b) := by rw [h]
theorem ret_bool {a b : Bool} (h : a = b) : Ending.returned (.bool a) = .returned (.bool b) := by rw [h]

set_option maxHeartbeats 400000 in
theorem iSignalOk (A : Option Addr) (n c : Nat) (xs : List C) (w : World) (hn : n ≤ 9223372036854775807) (hx : Cs w A n xs) :
    Calls Tryd.prog 26 #[.slice A n c] w fun e w' => e = .returned (.bool (sigB xs)) ∧ Dr w w' := by
  have hl := hx.len
  by_cases h16 : n ≤ 16
  · have hs : sigB xs = xs.all finB := by unfold sigB; simp [hl, h16]
    rw [hs]
    have HL := Lib.hid hl
    clear hl hs
    go_enter Tryd.func26, Tryd.ntmps26
    go_wp2_with fail
    go_loopw [10] (fun i wr => ∃ k : Nat, k ≤ n ∧ i = .int .i64 k ∧ (xs.take k).all finB = true ∧ ∃ m, wr = w.drewN m) (fun i _ => n - (intOf i).toNat)
    case atStart => exact ⟨0, by omega, rfl, rfl, 0, rfl⟩
    case round =>
      obtain ⟨k, hk, rfl, hf, m, rfl⟩ := hrel
      have HF := Lib.hid hf
      clear hf
      by_cases hlt : k < n
      · obtain ⟨b, o, rfl, hb, hc⟩ := hx.at_ hlt
        have hck := hc k hlt
        clear hc hx
        by_cases hfin : finB (nth xs k) = true
        · go_wp2_with (go_at_call 65; refine (iFinite _ _).mono ?_; rintro e w' ⟨rfl, m', rfl⟩)
          go_roundw
          case rel => exact ⟨k + 1, by omega, by go_num, by rw [all_take_succ (by rw [HL.out]; omega), HF.out, hfin]; rfl, _, rfl⟩
          case measure => simp [intOf]; omega
        · have hfin' : finB (nth xs k) = false := by simpa using hfin
          clear hfin
          go_wp2_with (go_at_call 65; refine (iFinite _ _).mono ?_; rintro e w' ⟨rfl, m', rfl⟩)
          go_ret
          exact ⟨ret_bool (all_false_of (by rw [HL.out]; omega) hfin').symm, _, rfl⟩
      · go_wp2_with fail
        go_ret
        exact ⟨ret_bool (by rw [← HF.out, List.take_of_length_le (by rw [HL.out]; omega)]), _, rfl⟩
  · have hs : sigB xs = false := by unfold sigB; simp [hl, h16]
    rw [hs]
    clear hl hs hx
    go_enter Tryd.func26, Tryd.ntmps26
    go_wp2_with fail
    go_ret
    exact ⟨rfl, 0, rfl⟩
end Go.Proofs.YtemcdeopehdggaaDoor
