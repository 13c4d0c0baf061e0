/- The law FnFromSteps, walked. -/
import Derived.Test.YtficlmnjbbpicaaP1
import Derived.Test.YtficlmnjbbpicaaD7
namespace Go.Proofs.Ytficlmnjbbpicaa
open Go.RowKit

set_option maxHeartbeats 2000000 in
set_option maxRecDepth 100000 in
theorem lawFromSteps (A : Option Addr) (n c : Nat) (w : World) (hnc : n ≤ c) (h : Code8 w A n) :
    Calls Try.prog 5 #[.slice A n c] w fun e w' => e = .returned (.bool true) ∧ Below w.heap.size w w' := by
  by_cases hbig : 1048576 < n
  · go_enter Try.func5, Try.ntmps5
    go_wp2_with fail
    go_ret
    exact ⟨rfl, Below.refl _ _⟩
  have hn2 : n ≤ 1048576 := by omega
  go_enter Try.func5, Try.ntmps5
  go_wp2_with fail
  refine (drawFromSteps_any A n c w hnc hn2 h).mono ?_
  rintro e w1 ⟨A1, m, c1, l, step, rfl, ho1, hm, hb1⟩
  have hl : l.length = m := by have := ho1.len; simpa using this
  go_wp2_with fail
  refine (iFromSteps A1 m c1 l step w1 (by omega) ho1.sl).mono ?_
  rintro e w2 ⟨A2, m2, c2, rfl, ho2, hb2⟩
  have bw2 : Below w.heap.size w w2 := hb1.trans (hb2.mono hb1.size)
  have ho1' := ho1.below hb2
  go_wp2_with fail
  refine (sFromSteps A1 m c1 l step w2 (by omega) ho1'.sl).mono ?_
  rintro e w3 ⟨A3, m3, c3, rfl, ho3, hb3⟩
  have bw3 : Below w.heap.size w w3 := bw2.trans (hb3.mono bw2.size)
  have ho1'' := ho1'.below hb3
  have ho2' := ho2.below hb3
  obtain rfl : m3 = m2 := by have h1 := ho2.len; have h2 := ho3.len; omega
  have hfin := fromSteps_fin' l step
  have hsh := fromSteps_short' l step
  have HF := Lib.hid hfin
  have hm2 : m3 ≤ 16 := by have h1 := ho2.len; rw [List.length_map] at h1; omega
  have HLM : Hid (((fromSteps l step).getD []).length = m3) := by show _ = _; have h1 := ho2.len; rw [List.length_map] at h1; exact h1
  have HL := Lib.hid hl
  clear hfin hsh hl
  go_wp2_with fail
  refine (sameSignal_true A2 A3 m3 c2 c3 _ _ w3 (by omega) ho2'.sl ho3.sl (fun i hi => EqV.refl (by
    have h1 := HF.out
    have h2 := List.all_eq_true.1 h1 _ (List.getElem_mem (show i < ((fromSteps l step).getD []).length by rw [HLM.out]; exact hi))
    rw [nth_eq (by rw [HLM.out]; exact hi)]; exact h2))).mono ?_
  rintro e w4 ⟨rfl, k4, rfl⟩
  have H1 := Lib.hid (ho1''.drewN k4)
  have H2 := Lib.hid (ho2'.drewN k4)
  have HB := Lib.hid (below_drewN bw3 k4)
  clear ho1 ho2 ho3 hb1 hb2 hb3 ho1' ho1'' ho2' bw2 bw3
  by_cases hok : stOk l step = true
  · have hy := fromSteps_yes hok
    have HB2 := Lib.hid (back_steps hok)
    have HS := Lib.hid (from_sig hok)
    have HLM2 : Hid ((fromSt l step).length = m3) := by show _ = _; rw [← HLM.out, hy]; rfl
    have H2' : Hid (Ow (w3.drewN k4) w1.heap.size 45 (.slice A2 m3 c2) m3 ((fromSt l step).map cv)) := by
      have := H2.out
      rw [hy] at this; exact this
    rw [hy]
    simp only [Option.isSome_some]
    go_wp2_with fail
    refine (iStepsOf A2 m3 c2 (fromSt l step) step _ (by omega) H2'.out.sl).mono ?_
    rw [HB2.out]
    rintro e w5 ⟨A5, m5, c5, rfl, ho5, hb5⟩
    simp only [Option.getD_some, Option.isSome_some] at ho5 ⊢
    obtain rfl : m5 = m := by have h1 := ho5.len; rw [List.length_map] at h1; rw [← HL.out]; exact h1.symm
    have H1b := Lib.hid (H1.out.below hb5)
    have H2b := Lib.hid (H2'.out.below hb5)
    have HB5 : Hid (Below w.heap.size w w5) := HB.out.trans (hb5.mono HB.out.size)
    have H5 := Lib.hid ho5
    clear ho5 hb5
    go_wp2_with fail
    refine (sameInts_true A5 A1 m5 c5 c1 l w5 (by omega) H5.out.sl H1b.out.sl).mono ?_
    rintro e w6 ⟨rfl, k6, rfl⟩
    go_wp2_with fail
    refine (iSignalOk A2 m3 c2 (fromSt l step) _ (by omega) (Cs.drewN H2b.out.sl k6)).mono ?_
    rw [HS.out]
    rintro e w7 ⟨rfl, k7, rfl⟩
    go_wp2_with fail
    go_ret
    exact ⟨rfl, below_drewN HB5.out (k6 + k7)⟩
  · have hno := fromSteps_no (by simpa using hok : stOk l step = false)
    have hm0 : m3 = 0 := by rw [← HLM.out, hno]; rfl
    subst hm0
    rw [hno]
    simp only [Option.isSome_none]
    go_wp2_with fail
    refine (alive_true _).mono ?_
    rintro e w5 ⟨rfl, rfl⟩
    go_wp2_with fail
    go_ret
    exact ⟨rfl, HB.out⟩
end Go.Proofs.Ytficlmnjbbpicaa
