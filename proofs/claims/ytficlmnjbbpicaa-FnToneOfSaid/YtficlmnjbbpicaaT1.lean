/- Turns: the table of them, the program's and the reference's. -/
import Derived.Test.YtficlmnjbbpicaaD1
namespace Go.Proofs.Ytficlmnjbbpicaa
open Go.RowKit

def turnA : Array Value := #[.complex .f32 1065353216 0, .complex .f32 1064076126 1053028117, .complex .f32 1060439283 1060439283, .complex .f32 1053028117 1064076126, .complex .f32 0 1065353216, .complex .f32 3200511765 1064076126, .complex .f32 3207922931 1060439283, .complex .f32 3211559774 1053028117, .complex .f32 3212836864 0, .complex .f32 3211559774 3200511765, .complex .f32 3207922931 3207922931, .complex .f32 3200511765 3211559774, .complex .f32 0 3212836864, .complex .f32 1053028117 3211559774, .complex .f32 1060439283 3207922931, .complex .f32 1064076126 3200511765]
def turnL : List C := [(1065353216, 0), (1064076126, 1053028117), (1060439283, 1060439283), (1053028117, 1064076126), (0, 1065353216), (3200511765, 1064076126), (3207922931, 1060439283), (3211559774, 1053028117), (3212836864, 0), (3211559774, 3200511765), (3207922931, 3207922931), (3200511765, 3211559774), (0, 3212836864), (1053028117, 3211559774), (1060439283, 3207922931), (1064076126, 3200511765)]
theorem turnA_get (j : Nat) (h : j < 16) : turnA[j]? = some (.complex .f32 (nth turnL j).1 (nth turnL j).2) := by
  have : j = 0 ∨ j = 1 ∨ j = 2 ∨ j = 3 ∨ j = 4 ∨ j = 5 ∨ j = 6 ∨ j = 7 ∨ j = 8 ∨ j = 9 ∨ j = 10 ∨ j = 11 ∨ j = 12 ∨ j = 13 ∨ j = 14 ∨ j = 15 := by omega
  rcases this with rfl | rfl | rfl | rfl | rfl | rfl | rfl | rfl | rfl | rfl | rfl | rfl | rfl | rfl | rfl | rfl <;> rfl
/-- The turn by so many sixteenths. -/
def turnC (k : Int) : C := if inB k (-9999) 9999 then nth turnL (k % 16).toNat else (0, 0)
theorem tmod_neg {n : Int} (h : n < 0) : n.tmod 16 = -((-n) % 16) := by
  obtain ⟨m, rfl⟩ : ∃ m : Int, n = -m := ⟨-n, by omega⟩
  rw [Int.neg_tmod, Int.tmod_eq_emod_of_nonneg (by omega), Int.neg_neg]
theorem rem_any (n : Int) (w : World) (h1 : -9999 ≤ n) (h2 : n ≤ 9999) : Calls Try.prog 96 #[.int .i64 n, .int .i64 16] w fun e w' => e = .returned (.int .i64 (n % 16)) ∧ w' = w := by
  by_cases hn : 0 ≤ n
  · have h0 := Int.emod_nonneg n (show (16 : Int) ≠ 0 by decide)
    go_enter Try.func96, Try.ntmps96
    go_wp2_with fail
    go_ret
    exact ⟨rfl, rfl⟩
  · obtain ⟨t, ht⟩ : ∃ t, t = n.tmod 16 := ⟨_, rfl⟩
    have et : n.tmod 16 = t := ht.symm
    rw [tmod_neg (by omega)] at ht
    by_cases h0 : t < 0
    · have e1 : IntKind.i64.wrap (t + 16) = t + 16 := IntWalk.i64_in _ (by omega)
      have HE : Hid (t + 16 = n % 16) := by show _ = _; omega
      clear ht
      go_enter Try.func96, Try.ntmps96
      go_wp2_with fail
      go_ret
      exact ⟨ret_int HE.out, rfl⟩
    · have HE : Hid (t = n % 16) := by show _ = _; omega
      clear ht
      go_enter Try.func96, Try.ntmps96
      go_wp2_with fail
      go_ret
      exact ⟨ret_int HE.out, rfl⟩
/-- A number, in memory of the call's own or not: what lies below stays. -/
def RetQ (w : World) (z : C) (e : Ending) (w' : World) : Prop := e = .returned (cv z) ∧ Below w.heap.size w w'
theorem turnA_cell {w w2 : World} (E : TypeId) (h : Below (w.heap.size + 1) (w.alloc (.cells turnA E)) w2) {j : Nat} (hj : j < 16) :
    w2.cell? ⟨w.heap.size, j, none⟩ = some (.complex .f32 (nth turnL j).1 (nth turnL j).2) := by
  rw [h.cell (p := ⟨w.heap.size, j, none⟩) (by simp), World.cell?_alloc_at _ _ _ _ rfl]
  exact turnA_get j hj
theorem table_any (w : World) : Calls Try.prog 101 #[] w fun e w' => e = .returned (.slice (some ⟨w.heap.size, 0, none⟩) 16 16) ∧ w' = w.alloc (.cells turnA 45) := by
  go_enter Try.func101, Try.ntmps101
  go_wp2_with fail
  go_ret
  exact ⟨rfl, rfl⟩
set_option maxHeartbeats 1000000 in
theorem sTurn (k : Int) (w : World) : Calls Try.prog 67 #[.int .i64 k] w (RetQ w (turnC k)) := by
  by_cases hb : inB k (-9999) 9999 = true
  · obtain ⟨b1, b2⟩ := inB_iff.1 hb
    obtain ⟨t, ht⟩ : ∃ t, t = k.tmod 16 := ⟨_, rfl⟩
    have et : k.tmod 16 = t := ht.symm
    have ht2 : t = k % 16 ∨ t = k % 16 - 16 := by
      by_cases hn : 0 ≤ k
      · rw [Int.tmod_eq_emod_of_nonneg hn] at ht; omega
      · rw [tmod_neg (by omega)] at ht; omega
    have m1 := Int.emod_nonneg k (show (16 : Int) ≠ 0 by decide)
    have m2 := Int.emod_lt_of_pos k (show (0 : Int) < 16 by decide)
    obtain ⟨j, hj⟩ := Int.eq_ofNat_of_zero_le m1
    have hj16 : j < 16 := by omega
    have e1 : IntKind.i64.wrap (t + 16) = t + 16 := IntWalk.i64_in _ (by omega)
    have e2 : (t + 16) % 16 = (j : Int) := by omega
    have e3 : 0 ≤ t + 16 := by omega
    have e4 : (j : Int) < 16 := by omega
    have hc := turnA_cell 45 (Below.refl _ (w.alloc (.cells turnA 45))) hj16
    have HT : Hid (turnC k = nth turnL j) := by show _ = _; unfold turnC; rw [hb, hj]; rfl
    clear ht ht2 m1 m2 hj
    generalize nth turnL j = z at *
    go_enter Try.func67, Try.ntmps67
    go_wp2_with fail
    refine (l1In_any _ _ _ _).mono ?_
    rw [hb]
    rintro e w' ⟨rfl, rfl⟩
    go_wp2_with fail
    refine (table_any _).mono ?_
    rintro e w1 ⟨rfl, hw⟩
    rw [← hw] at hc
    have HW := Lib.hid hw
    clear hw
    go_wp2_with fail
    go_ret
    unfold RetQ
    rw [HT.out]
    exact ⟨rfl, by rw [HW.out]; exact below_alloc _ _⟩
  · have hb' : inB k (-9999) 9999 = false := by simpa using hb
    have HT : Hid (turnC k = (0, 0)) := by show _ = _; unfold turnC; rw [hb']; rfl
    clear hb
    go_enter Try.func67, Try.ntmps67
    go_wp2_with fail
    refine (l1In_any _ _ _ _).mono ?_
    rw [hb']
    rintro e w' ⟨rfl, rfl⟩
    go_wp2_with fail
    go_ret
    unfold RetQ
    rw [HT.out]
    exact ⟨rfl, Below.refl _ _⟩
set_option maxHeartbeats 1000000 in
theorem iTurn (k : Int) (w : World) : Calls Try.prog 103 #[.int .i64 k] w (RetQ w (turnC k)) := by
  by_cases hb : inB k (-9999) 9999 = true
  · obtain ⟨b1, b2⟩ := inB_iff.1 hb
    have m1 := Int.emod_nonneg k (show (16 : Int) ≠ 0 by decide)
    have m2 := Int.emod_lt_of_pos k (show (0 : Int) < 16 by decide)
    obtain ⟨j, hj⟩ := Int.eq_ofNat_of_zero_le m1
    have hj16 : j < 16 := by omega
    have e4 : (j : Int) < 16 := by omega
    have HT : Hid (turnC k = nth turnL j) := by show _ = _; unfold turnC; rw [hb, hj]; rfl
    have HJ := Lib.hid hj
    clear m1 m2 hj hb
    go_enter Try.func103, Try.ntmps103
    go_wp2_with fail
    refine (rem_any k _ b1 b2).mono ?_
    rw [HJ.out]
    rintro e w1 ⟨rfl, hw⟩
    have hw' : w1 = w.alloc (.cells turnA 105) := hw
    have hc := turnA_cell 105 (Below.refl _ (w.alloc (.cells turnA 105))) hj16
    rw [← hw'] at hc
    have HW := Lib.hid hw'
    clear hw hw'
    generalize nth turnL j = z at *
    go_wp2_with fail
    go_ret
    unfold RetQ
    rw [HT.out]
    exact ⟨rfl, by rw [HW.out]; exact below_alloc _ _⟩
  · have hb' : inB k (-9999) 9999 = false := by simpa using hb
    have HT : Hid (turnC k = (0, 0)) := by show _ = _; unfold turnC; rw [hb']; rfl
    clear hb
    rcases inB_false_iff.1 hb' with h | h
    all_goals
      clear hb'
      go_enter Try.func103, Try.ntmps103
      go_wp2_with fail
      go_ret
      unfold RetQ
      rw [HT.out]
      exact ⟨rfl, Below.refl _ _⟩
end Go.Proofs.Ytficlmnjbbpicaa
