/- The law FnExactToneOf, walked. -/
import Derived.Test.YtficlmnjbbpicaaR3
import Derived.Test.YtficlmnjbbpicaaA6
namespace Go.Proofs.Ytficlmnjbbpicaa
open Go.RowKit

theorem tonL_fin (n : Nat) (b : Int) : (tonL n b).all finB = true := List.all_eq_true.2 fun z hz => by
  unfold tonL at hz
  obtain ⟨i, _, rfl⟩ := List.mem_map.1 hz
  exact turnC_fin _
theorem tonF_fin (p k : Int) : (tonF p k).all finB = true ∧ (tonF p k).length ≤ 16 := by
  unfold tonF
  split
  · rename_i h
    refine ⟨tonL_fin _ _, ?_⟩
    rw [tonL_len]
    unfold tonB at h
    simp only [Bool.and_eq_true] at h
    have := p2I_iff.1 h.1.1
    omega
  · exact ⟨rfl, by simp⟩

set_option maxHeartbeats 1000000 in
set_option maxRecDepth 100000 in
theorem exactToneOf_walk (p k : Int) (w : World) :
    Calls Try.prog 4 #[.int .i64 p, .int .i64 k] w fun e w' => e = .returned (.bool true) ∧ Below w.heap.size w w' := by
  obtain ⟨hfin, hsh⟩ := tonF_fin p k
  generalize hys : tonF p k = ys at hfin hsh
  have HS : Hid (∀ w, Calls Try.prog 23 #[.int .i64 p, .int .i64 k] w (RetS w ys)) := fun w => by have := sTone p k w; rwa [hys] at this
  have HI : Hid (∀ w, Calls Try.prog 24 #[.int .i64 p, .int .i64 k] w (RetS w ys)) := fun w => by have := iTone p k w; rwa [hys] at this
  have HF := Lib.hid hfin
  clear hys hfin
  go_enter Try.func4, Try.ntmps4
  go_wp2_with fail
  refine (HS.out w).mono ?_
  rintro e w2 ⟨A2, m, c2, rfl, ho2, hb2⟩
  go_wp2_with fail
  refine (HI.out w2).mono ?_
  rintro e w4 ⟨A4, m4, c4, rfl, ho4, hb4⟩
  have bw4 : Below w.heap.size w w4 := hb2.trans (hb4.mono hb2.size)
  obtain rfl : m4 = m := by have h1 := ho2.len; have h2 := ho4.len; omega
  have hm : m4 ≤ 16 := by have h1 := ho2.len; rw [List.length_map] at h1; omega
  have ho2' : Ow w4 w.heap.size 45 (.slice A2 m4 c2) m4 (ys.map cv) := ho2.below hb4
  have r2 := ho2.ge
  have r4 := ho4.ge
  go_wp2_with fail
  refine (eqC_same A4 A2 m4 c4 c2 ys w4 (by omega) ho4.sl ho2'.sl HF.out).mono ?_
  rintro e w9 ⟨rfl, k9, rfl⟩
  go_wp2_with fail
  refine (markC_any A4 m4 c4 _ _ 1 (w4.drewN k9) (by omega) (ho4.drewN k9)).mono ?_
  rintro e w10 ⟨rfl, ho10, on10⟩
  have bw10 : Below w.heap.size w w10 := (below_drewN bw4 k9).trans (on10.below (fun a ha => Nat.le_trans hb2.size (r4 a ha).1))
  have ho2c : Ow w10 w.heap.size 45 (.slice A2 m4 c2) m4 (ys.map cv) := (ho2'.drewN k9).only on10 (Apart.of_lt (fun a ha => r4 a ha) (fun a ha => r2 a ha)).symm
  go_wp2_with fail
  refine (heldC_any A4 m4 c4 1 w10 (by omega) ho10.sl).mono ?_
  rintro e w11 ⟨rfl, k11, rfl⟩
  go_wp2_with fail
  refine (HI.out _).mono ?_
  rintro e w13 ⟨A13, m13, c13, rfl, ho13, hb13⟩
  have hb13' : Below w10.heap.size w10 w13 := (below_drewN (Below.refl _ _) k11).trans hb13
  have bw13 : Below w.heap.size w w13 := bw10.trans (hb13'.mono bw10.size)
  obtain rfl : m13 = m4 := by have h1 := ho13.len; have h2 := ho4.len; omega
  have ho2d : Ow w13 w.heap.size 45 (.slice A2 m13 c2) m13 (ys.map cv) := ho2c.below hb13'
  have ho4d := ho10.below hb13'
  go_wp2_with fail
  refine (eqC_same A13 A2 m13 c13 c2 ys w13 (by omega) ho13.sl ho2d.sl HF.out).mono ?_
  rintro e w14 ⟨rfl, k14, rfl⟩
  go_wp2_with fail
  refine (heldC_any A4 m13 c4 1 _ (by omega) (ho4d.sl.drewN k14)).mono ?_
  rintro e w15 ⟨rfl, k15, rfl⟩
  go_wp2_with fail
  go_ret
  exact ⟨rfl, below_drewN bw13 _⟩
end Go.Proofs.Ytficlmnjbbpicaa
