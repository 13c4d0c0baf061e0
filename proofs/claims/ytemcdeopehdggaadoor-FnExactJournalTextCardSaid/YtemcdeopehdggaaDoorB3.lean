/- Whether a signal is one, and numbers of steps: the reference. -/
import Derived.Test.YtemcdeopehdggaaDoorB2
namespace Go.Proofs.YtemcdeopehdggaaDoor
open Go.RowKit

set_option maxHeartbeats 400000 in
theorem sAll (A : Option Addr) (n c : Nat) (xs : List C) (w : World) (hn : n ≤ 9223372036854775807) (hx : Cs w A n xs) :
    Calls Tryd.prog 87 #[.slice A n c] w fun e w' => e = .returned (.bool (xs.all finB)) ∧ Dr w w' := by
  have HL := Lib.hid hx.len
  go_enter Tryd.func87, Tryd.ntmps87
  go_wp2_with fail
  go_loopw [3] (fun i wr => ∃ k : Nat, k ≤ n ∧ i = .int .i64 k ∧ (xs.take k).all finB = true ∧ ∃ m, wr = w.drewN m) (fun i _ => n - (intOf i).toNat)
  case atStart => exact ⟨0, by omega, rfl, rfl, 0, rfl⟩
  case round =>
    obtain ⟨k, hk, rfl, hf, m, rfl⟩ := hrel
    have HF := Lib.hid hf
    clear hf
    by_cases hlt : k < n
    · obtain ⟨b, o, rfl, hb, hc⟩ := hx.at_ hlt
      have hck := hc k hlt
      clear hc hx
      by_cases hfin : finB (nth xs k) = true
      · go_wp2_with (go_at_call 59; refine (sFinite _ _).mono ?_; rintro e w' ⟨rfl, m', rfl⟩)
        go_roundw
        case rel => exact ⟨k + 1, by omega, by go_num, by rw [all_take_succ (by rw [HL.out]; omega), HF.out, hfin]; rfl, _, rfl⟩
        case measure => simp [intOf]; omega
      · have hfin' : finB (nth xs k) = false := by simpa using hfin
        clear hfin
        go_wp2_with (go_at_call 59; refine (sFinite _ _).mono ?_; rintro e w' ⟨rfl, m', rfl⟩)
        go_ret
        exact ⟨ret_bool (all_false_of (by rw [HL.out]; omega) hfin').symm, _, rfl⟩
    · go_wp2_with fail
      go_ret
      exact ⟨ret_bool (by rw [← HF.out, List.take_of_length_le (by rw [HL.out]; omega)]), _, rfl⟩
set_option maxHeartbeats 400000 in
theorem sSignalOk (A : Option Addr) (n c : Nat) (xs : List C) (w : World) (hn : n ≤ 9223372036854775807) (hx : Cs w A n xs) :
    Calls Tryd.prog 57 #[.slice A n c] w fun e w' => e = .returned (.bool (sigB xs)) ∧ Dr w w' := by
  have hl := hx.len
  by_cases h16 : n ≤ 16
  · have HS : Hid (sigB xs = xs.all finB) := by show _ = _; unfold sigB; simp [hl, h16]
    clear hl
    go_enter Tryd.func57, Tryd.ntmps57
    go_wp2_with fail
    refine (sAll A n c xs w hn hx).mono ?_
    rintro e w' ⟨rfl, m, rfl⟩
    go_wp2_with fail
    go_ret
    exact ⟨ret_bool HS.out.symm, _, rfl⟩
  · have HS : Hid (sigB xs = false) := by show _ = _; unfold sigB; simp [hl, h16]
    clear hl hx
    go_enter Tryd.func57, Tryd.ntmps57
    go_wp2_with fail
    go_ret
    exact ⟨ret_bool HS.out.symm, 0, rfl⟩
theorem RetI.empty {w w' : World} {c : Nat} {g : Nat} (ho : Ow w' w.heap.size 3 (.slice (some ⟨g, 0, none⟩) 0 c) 0 []) (h : Below w.heap.size w w') : RetI w none (.returned (.tuple #[.slice (some ⟨g, 0, none⟩) 0 c, .bool false])) w' := ⟨_, _, _, rfl, ho, h⟩

end Go.Proofs.YtemcdeopehdggaaDoor
