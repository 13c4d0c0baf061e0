/- The law FnExactFromSteps, walked. -/
import Derived.Test.YtficlmnjbbpicaaA5
namespace Go.Proofs.Ytficlmnjbbpicaa
open Go.RowKit

theorem fromSteps_fin (l : List Int) (step : Int) : ((fromSteps l step).getD []).all finB = true := by
  unfold fromSteps
  split
  · simp only [Option.getD_some]
    refine List.all_eq_true.2 fun z hz => ?_
    unfold fromSt at hz
    obtain ⟨i, _, rfl⟩ := List.mem_map.1 hz
    exact milli_fin _ _
  · rfl
theorem fromSteps_short (l : List Int) (step : Int) : ((fromSteps l step).getD []).length ≤ 16 := by
  unfold fromSteps
  split
  · rename_i h
    simp only [Option.getD_some, fromSt_len]
    unfold stOk at h
    simp at h
    omega
  · simp
theorem Apart.of_lt {A A' : Option Addr} {B lo hi : Nat} (h : ∀ a, A = some a → B ≤ a.block ∧ a.block < hi) (h' : ∀ a, A' = some a → lo ≤ a.block ∧ a.block < B) : Apart A A' := by
  intro a a' ha ha'
  have := h a ha
  have := h' a' ha'
  omega
theorem Apart.symm {A A' : Option Addr} (h : Apart A A') : Apart A' A := fun a a' ha ha' e => h a' a ha' ha e.symm

set_option maxHeartbeats 1000000 in
set_option maxRecDepth 100000 in
theorem exactFromSteps_walk (A : Option Addr) (n c : Nat) (l : List Int) (step : Int) (w : World) (hn : n ≤ 9223372036854775807) (hx : Sl w A n (l.map iv)) :
    Calls Try.prog 3 #[.slice A n c, .int .i64 step] w fun e w' => e = .returned (.bool true) ∧ Below w.heap.size w w' := by
  by_cases hbig : 1048576 < n
  · go_enter Try.func3, Try.ntmps3
    go_wp2_with fail
    go_ret
    exact ⟨rfl, Below.refl _ _⟩
  have hn2 : n ≤ 1048576 := by omega
  have hfin := fromSteps_fin l step
  have hsh := fromSteps_short l step
  generalize hys : (fromSteps l step).getD [] = ys at hfin hsh
  generalize hok : (fromSteps l step).isSome = ok
  have cS : ∀ A n c w, n ≤ 1048576 → Sl w A n (l.map iv) → Calls Try.prog 15 #[.slice A n c, .int .i64 step] w (RetC w ys ok) := fun A n c w h1 h2 => by
    have := sFromSteps A n c l step w h1 h2
    unfold RetO at this
    rwa [hys, hok] at this
  have cI : ∀ A n c w, n ≤ 1048576 → Sl w A n (l.map iv) → Calls Try.prog 17 #[.slice A n c, .int .i64 step] w (RetC w ys ok) := fun A n c w h1 h2 => by
    have := iFromSteps A n c l step w h1 h2
    unfold RetO at this
    rwa [hys, hok] at this
  have HS := Lib.hid cS
  have HI := Lib.hid cI
  have HF := Lib.hid hfin
  clear cS cI hys hok hfin
  go_enter Try.func3, Try.ntmps3
  go_wp2_with fail
  refine (toIntS_any A n c l _ hn2 hx).mono ?_
  rintro e w1 ⟨A1, rfl, ho1, hb1⟩
  go_wp2_with fail
  refine (HS.out A1 n n w1 hn2 ho1.sl).mono ?_
  rintro e w2 ⟨A2, m, c2, rfl, ho2, hb2⟩
  have bw2 : Below w.heap.size w w2 := hb1.trans (hb2.mono hb1.size)
  go_wp2_with fail
  refine (toIntS_any A n c l w2 hn2 (hx.below bw2)).mono ?_
  rintro e w3 ⟨A3, rfl, ho3, hb3⟩
  have bw3 : Below w.heap.size w w3 := bw2.trans (hb3.mono bw2.size)
  go_wp2_with fail
  refine (HI.out A3 n n w3 hn2 ho3.sl).mono ?_
  rintro e w4 ⟨A4, m4, c4, rfl, ho4, hb4⟩
  have bw4 : Below w.heap.size w w4 := bw3.trans (hb4.mono bw3.size)
  obtain rfl : m4 = m := by have h1 := ho2.len; have h2 := ho4.len; omega
  have hm : m4 ≤ 16 := by have h1 := ho2.len; rw [List.length_map] at h1; omega
  have ho2' : Ow w4 w1.heap.size 45 (.slice A2 m4 c2) m4 (ys.map cv) := (ho2.below hb3).below hb4
  go_wp2_with fail
  refine (eqC_same A4 A2 m4 c4 c2 ys w4 (by omega) ho4.sl ho2'.sl HF.out).mono ?_
  rintro e w5 ⟨rfl, k5, rfl⟩
  go_wp2_with fail
  refine (toIntS_any A n c l _ hn2 ((hx.below bw4).drewN k5)).mono ?_
  rintro e w6 ⟨A6, rfl, ho6, hb6⟩
  have hb6' : Below w4.heap.size w4 w6 := (below_drewN (Below.refl _ _) k5).trans hb6
  have ho3' : Ow w6 w2.heap.size 3 (.slice A3 n n) n (l.map iv) := (ho3.below hb4).below hb6'
  have bw6 : Below w.heap.size w w6 := bw4.trans (hb6'.mono bw4.size)
  go_wp2_with fail
  refine (eqIntS_same A3 A6 n n n l w6 hn2 ho3'.sl ho6.sl).mono ?_
  rintro e w7 ⟨rfl, k7, rfl⟩
  go_wp2_with fail
  refine (markIntS_any A3 n n _ _ 1 (w6.drewN k7) hn2 (by omega) (ho3'.drewN k7)).mono ?_
  rintro e w8 ⟨⟨q8, rfl, hq8⟩, on8⟩
  have r3 := ho3.ge
  have r2 := ho2.ge
  have r4 := ho4.ge
  have ho2'' : Ow w8 w1.heap.size 45 (.slice A2 m4 c2) m4 (ys.map cv) := ((ho2'.below hb6').drewN k7).only on8 ((Apart.of_lt r3 r2).symm)
  have ho4'' : Ow w8 w3.heap.size 45 (.slice A4 m4 c4) m4 (ys.map cv) := ((ho4.below hb6').drewN k7).only on8 (Apart.of_lt r4 r3)
  have bw8 : Below w.heap.size w w8 := (below_drewN bw6 k7).trans (on8.below (fun a ha => Nat.le_trans bw2.size (r3 a ha).1))
  have hs8 : w6.heap.size = w8.heap.size := on8.size.symm
  go_wp2_with fail
  refine (eqC_same A4 A2 m4 c4 c2 ys w8 (by omega) ho4''.sl ho2''.sl HF.out).mono ?_
  rintro e w9 ⟨rfl, k9, rfl⟩
  go_wp2_with fail
  refine (markC_any A4 m4 c4 _ _ 1 (w8.drewN k9) (by omega) (ho4''.drewN k9)).mono ?_
  rintro e w10 ⟨rfl, ho10, on10⟩
  have bw10 : Below w.heap.size w w10 := (below_drewN bw8 k9).trans (on10.below (fun a ha => Nat.le_trans bw3.size (r4 a ha).1))
  have ho2c : Ow w10 w1.heap.size 45 (.slice A2 m4 c2) m4 (ys.map cv) := (ho2''.drewN k9).only on10 (Apart.of_lt (fun a ha => r4 a ha) (fun a ha => ⟨(r2 a ha).1, Nat.lt_of_lt_of_le (r2 a ha).2 hb3.size⟩)).symm
  go_wp2_with fail
  refine (heldC_any A4 m4 c4 1 w10 (by omega) ho10.sl).mono ?_
  rintro e w11 ⟨rfl, k11, rfl⟩
  go_wp2_with fail
  refine (toIntS_any A n c l _ hn2 ((hx.below bw10).drewN k11)).mono ?_
  rintro e w12 ⟨A12, rfl, ho12, hb12⟩
  have hb12' : Below w10.heap.size w10 w12 := (below_drewN (Below.refl _ _) k11).trans hb12
  go_wp2_with fail
  refine (HI.out A12 n n w12 hn2 ho12.sl).mono ?_
  rintro e w13 ⟨A13, m13, c13, rfl, ho13, hb13⟩
  have bw13 : Below w.heap.size w w13 := bw10.trans ((hb12'.mono bw10.size).trans (hb13.mono (Nat.le_trans bw10.size hb12'.size)))
  obtain rfl : m13 = m4 := by have h1 := ho13.len; have h2 := ho4.len; omega
  have ho2d : Ow w13 w1.heap.size 45 (.slice A2 m13 c2) m13 (ys.map cv) := (ho2c.below hb12').below hb13
  have ho4d : Ow w13 w3.heap.size 45 (.slice A4 m13 c4) m13 ((marks 1 m13).map cv) := (ho10.below hb12').below hb13
  go_wp2_with fail
  refine (eqC_same A13 A2 m13 c13 c2 ys w13 (by omega) ho13.sl ho2d.sl HF.out).mono ?_
  rintro e w14 ⟨rfl, k14, rfl⟩
  go_wp2_with fail
  refine (heldC_any A4 m13 c4 1 _ (by omega) (ho4d.sl.drewN k14)).mono ?_
  rintro e w15 ⟨rfl, k15, rfl⟩
  go_wp2_with fail
  go_ret
  exact ⟨rfl, below_drewN bw13 _⟩
end Go.Proofs.Ytficlmnjbbpicaa
