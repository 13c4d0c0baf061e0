/- The text of a deed, by the reference. -/
import Derived.Test.YtemcdeopehdggaaDoorJ2
namespace Go.Proofs.YtemcdeopehdggaaDoor
open Go.RowKit
open Go.Lib hiding intOf

theorem inB35 {k : Int} (h : ¬ (3 ≤ k ∧ k ≤ 5)) : inB k 3 5 = false := by
  rw [inB_false_iff]; omega
theorem write_app (t : Txt) : ({ data := #[119, 114, 105, 116, 101, 32] } : ByteArray) ++ bs t = bs (wordOf 0 ++ 32 :: t) := by
  show bs [119, 114, 105, 116, 101, 32] ++ bs t = _
  rw [bs_append]; rfl
set_option maxHeartbeats 1000000 in
/-- A kind that has no number. -/
theorem sDeed_other (k n : Int) (t : Txt) (w : World) (h35 : ¬ (3 ≤ k ∧ k ≤ 5)) (h0 : ¬ (k = 0 ∧ n = 0)) :
    Calls Tryd.prog 28 #[dv ⟨k, n, t⟩] w fun e w' => e = .returned (.string (bs (dText ⟨k, n, t⟩))) ∧ Below w.heap.size w w' := by
  have hto := bs_nilB
  have hto2 := bs_toL
  have HI := Lib.hid (fun w => l1In_any k 3 5 w)
  have e35 := inB35 h35
  unfold dv
  have hsz : ∀ t : Txt, (bs t).size = t.length := bs_size
  rcases kind_cases k with rfl | rfl | rfl | rfl | rfl | rfl | rfl | ⟨⟨b0, b1, b2, b3, b4, b5, b6⟩, hw, h7⟩
  · have hn : ¬ n = 0 := fun h => h0 ⟨rfl, h⟩
    have hb : (n == 0) = false := by rw [beq_eq_false_iff_ne]; exact hn
    have HD : Hid (dText ⟨0, n, t⟩ = []) := by show _ = _; unfold dText; simp [hn]
    clear h0 h35 hn
    go_enter Tryd.func28, Tryd.ntmps28
    go_wp2_with fail
    refine (HI.out _).mono ?_
    rintro e w' ⟨rfl, rfl⟩
    rw [e35]
    go_wp2_with fail
    go_ret
    exact ⟨by rw [HD.out]; rfl, below_alloc _ _⟩
  · by_cases hn : n = 0
    · subst hn
      by_cases ht : t = []
      · subst ht
        clear h0 h35
        go_enter Tryd.func28, Tryd.ntmps28
        go_wp2_with fail
        refine (HI.out _).mono ?_
        rintro e w' ⟨rfl, rfl⟩
        rw [e35]
        go_wp2_with fail
        go_ret
        exact ⟨rfl, below_alloc _ _⟩
      · have HD : Hid (dText ⟨1, 0, t⟩ = []) := by show _ = _; unfold dText; simp [ht]
        have ht2 : t.isEmpty = false := by simpa using ht
        clear h0 h35 ht
        go_enter Tryd.func28, Tryd.ntmps28
        go_wp2_with fail
        refine (HI.out _).mono ?_
        rintro e w' ⟨rfl, rfl⟩
        rw [e35]
        go_wp2_with fail
        go_ret
        exact ⟨by rw [HD.out]; rfl, below_alloc _ _⟩
    · have HD : Hid (dText ⟨1, n, t⟩ = []) := by show _ = _; unfold dText; simp [hn]
      have hb : (n == 0) = false := by rw [beq_eq_false_iff_ne]; exact hn
      clear h0 h35 hn
      go_enter Tryd.func28, Tryd.ntmps28
      go_wp2_with fail
      refine (HI.out _).mono ?_
      rintro e w' ⟨rfl, rfl⟩
      rw [e35]
      go_wp2_with fail
      go_ret
      exact ⟨by rw [HD.out]; rfl, below_alloc _ _⟩
  · by_cases hn : n = 0
    · subst hn
      by_cases ht : t = []
      · subst ht
        clear h0 h35
        go_enter Tryd.func28, Tryd.ntmps28
        go_wp2_with fail
        refine (HI.out _).mono ?_
        rintro e w' ⟨rfl, rfl⟩
        rw [e35]
        go_wp2_with fail
        go_ret
        exact ⟨rfl, below_alloc _ _⟩
      · have HD : Hid (dText ⟨2, 0, t⟩ = []) := by show _ = _; unfold dText; simp [ht]
        have ht2 : t.isEmpty = false := by simpa using ht
        clear h0 h35 ht
        go_enter Tryd.func28, Tryd.ntmps28
        go_wp2_with fail
        refine (HI.out _).mono ?_
        rintro e w' ⟨rfl, rfl⟩
        rw [e35]
        go_wp2_with fail
        go_ret
        exact ⟨by rw [HD.out]; rfl, below_alloc _ _⟩
    · have HD : Hid (dText ⟨2, n, t⟩ = []) := by show _ = _; unfold dText; simp [hn]
      have hb : (n == 0) = false := by rw [beq_eq_false_iff_ne]; exact hn
      clear h0 h35 hn
      go_enter Tryd.func28, Tryd.ntmps28
      go_wp2_with fail
      refine (HI.out _).mono ?_
      rintro e w' ⟨rfl, rfl⟩
      rw [e35]
      go_wp2_with fail
      go_ret
      exact ⟨by rw [HD.out]; rfl, below_alloc _ _⟩
  · exact absurd ⟨by omega, by omega⟩ h35
  · exact absurd ⟨by omega, by omega⟩ h35
  · exact absurd ⟨by omega, by omega⟩ h35
  · by_cases hn : n = 0
    · subst hn
      by_cases ht : t = []
      · subst ht
        clear h0 h35
        go_enter Tryd.func28, Tryd.ntmps28
        go_wp2_with fail
        refine (HI.out _).mono ?_
        rintro e w' ⟨rfl, rfl⟩
        rw [e35]
        go_wp2_with fail
        go_ret
        exact ⟨rfl, below_alloc _ _⟩
      · have HD : Hid (dText ⟨6, 0, t⟩ = []) := by show _ = _; unfold dText; simp [ht]
        have ht2 : t.isEmpty = false := by simpa using ht
        clear h0 h35 ht
        go_enter Tryd.func28, Tryd.ntmps28
        go_wp2_with fail
        refine (HI.out _).mono ?_
        rintro e w' ⟨rfl, rfl⟩
        rw [e35]
        go_wp2_with fail
        go_ret
        exact ⟨by rw [HD.out]; rfl, below_alloc _ _⟩
    · have HD : Hid (dText ⟨6, n, t⟩ = []) := by show _ = _; unfold dText; simp [hn]
      have hb : (n == 0) = false := by rw [beq_eq_false_iff_ne]; exact hn
      clear h0 h35 hn
      go_enter Tryd.func28, Tryd.ntmps28
      go_wp2_with fail
      refine (HI.out _).mono ?_
      rintro e w' ⟨rfl, rfl⟩
      rw [e35]
      go_wp2_with fail
      go_ret
      exact ⟨by rw [HD.out]; rfl, below_alloc _ _⟩
  · have HD : Hid (dText ⟨k, n, t⟩ = []) := by
      show _ = _
      unfold dText
      rw [if_neg (show ¬ k = 0 by omega), if_neg (show ¬ (3 ≤ k ∧ k ≤ 5) by omega), if_neg (show ¬ (k = 1 ∨ k = 2 ∨ k = 6) by omega)]
    clear h0 h35 hw h7
    go_enter Tryd.func28, Tryd.ntmps28
    go_wp2_with fail
    refine (HI.out _).mono ?_
    rintro e w' ⟨rfl, rfl⟩
    rw [e35]
    go_wp2_with fail
    go_ret
    exact ⟨by rw [HD.out]; rfl, below_alloc _ _⟩
theorem sDeed_write (t : Txt) (w : World) (hl : t.length ≤ 4611686018427387904) :
    Calls Tryd.prog 28 #[dv ⟨0, 0, t⟩] w fun e w' => e = .returned (.string (bs (dText ⟨0, 0, t⟩))) ∧ Below w.heap.size w w' := by
  have hto := bs_nilB
  have HI := Lib.hid (fun w => l1In_any 0 3 5 w)
  have e35 : inB 0 3 5 = false := rfl
  unfold dv
  have HD := Lib.hid (@dText_write t)
  have HP := Lib.hid (fun w => sPlain t hl w)
  have z1 : (bs t).size ≤ 4611686018427387904 := by rw [bs_size]; exact hl
  have z2 : ({ data := #[119, 114, 105, 116, 101, 32] } : ByteArray).size = 6 := rfl
  cases hp : plainT t with
  | true =>
    have HPT := Lib.hid hp
    rw [hp] at HP
    clear hp
    go_enter Tryd.func28, Tryd.ntmps28
    go_wp2_with fail
    refine (HP.out _).mono ?_
    rintro e w1 ⟨rfl, rfl⟩
    go_wp2_with fail
    go_ret
    refine ⟨?_, below_alloc _ _⟩
    rw [HD.out, HPT.out]
    exact congrArg (fun s => Ending.returned (.string s)) (write_app t)
  | false =>
    have HPT := Lib.hid hp
    rw [hp] at HP
    clear hp
    go_enter Tryd.func28, Tryd.ntmps28
    go_wp2_with fail
    refine (HP.out _).mono ?_
    rintro e w1 ⟨rfl, rfl⟩
    go_wp2_with fail
    refine (HI.out _).mono ?_
    rintro e w' ⟨rfl, rfl⟩
    rw [e35]
    go_wp2_with fail
    go_ret
    exact ⟨by rw [HD.out, HPT.out]; rfl, below_alloc _ _⟩
end Go.Proofs.YtemcdeopehdggaaDoor
