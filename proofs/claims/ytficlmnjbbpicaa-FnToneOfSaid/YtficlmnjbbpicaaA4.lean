/- Signals out of numbers of steps. -/
import Derived.Test.YtficlmnjbbpicaaA3
namespace Go.Proofs.Ytficlmnjbbpicaa
open Go.RowKit

def stOk (l : List Int) (step : Int) : Bool := inB step 1 10000 && decide (l.length ≤ 32) && decide (l.length % 2 = 0) && l.all fun x => inB x (-(9999999 / step)) (9999999 / step)
def fromSt (l : List Int) (step : Int) : List C := (List.range (l.length / 2)).map fun i => milli (inth l (2 * i) * step) (inth l (2 * i + 1) * step)
def fromSteps (l : List Int) (step : Int) : Option (List C) := if stOk l step then some (fromSt l step) else none
theorem fromSt_len (l : List Int) (step : Int) : (fromSt l step).length = l.length / 2 := by simp [fromSt]
theorem fromSt_get {l : List Int} {step : Int} {i : Nat} (h : i < l.length / 2) : ((fromSt l step).map cv)[i]? = some (cv (milli (inth l (2 * i) * step) (inth l (2 * i + 1) * step))) := by
  simp [fromSt, h]
theorem most_bd {step : Int} (h1 : 1 ≤ step) : 0 ≤ 9999999 / step ∧ 9999999 / step ≤ 9999999 :=
  ⟨Int.ediv_nonneg (by omega) (by omega), Int.ediv_le_self _ (by omega)⟩
theorem step_bd {l : List Int} {step : Int} (h : stOk l step = true) {i : Nat} (hi : i < l.length) : -9999999 ≤ inth l i * step ∧ inth l i * step ≤ 9999999 := by
  unfold stOk at h
  simp only [Bool.and_eq_true] at h
  obtain ⟨⟨⟨h1, _⟩, _⟩, h2⟩ := h
  obtain ⟨h3, h4⟩ := inB_iff.1 h1
  have h5 := List.all_eq_true.1 h2 _ (List.getElem_mem hi)
  rw [← inth_eq hi] at h5
  obtain ⟨h6, h7⟩ := inB_iff.1 h5
  generalize inth l i = x at *
  have h8 : 9999999 / step * step ≤ 9999999 := Int.ediv_mul_le _ (by omega)
  have h9 := Int.mul_le_mul_of_nonneg_right h7 (show 0 ≤ step by omega)
  have h10 := Int.mul_le_mul_of_nonneg_right h6 (show 0 ≤ step by omega)
  rw [Int.neg_mul] at h10
  omega
theorem fromSteps_no {l : List Int} {step : Int} (h : stOk l step = false) : fromSteps l step = none := by unfold fromSteps; rw [h]; rfl
theorem fromSteps_yes {l : List Int} {step : Int} (h : stOk l step = true) : fromSteps l step = some (fromSt l step) := by unfold fromSteps; rw [h]; rfl

set_option maxHeartbeats 1000000 in
set_option maxRecDepth 100000 in
theorem iFromSteps (A : Option Addr) (n c : Nat) (l : List Int) (step : Int) (w : World) (hn : n ≤ 1048576) (hx : Sl w A n (l.map iv)) :
    Calls Try.prog 17 #[.slice A n c, .int .i64 step] w (RetO w (fromSteps l step)) := by
  have hl : l.length = n := by simpa using hx.len
  by_cases h1 : step < 1
  · rw [fromSteps_no (by unfold stOk; rw [inB_lo h1]; rfl)]
    clear hl
    go_enter Try.func17, Try.ntmps17
    go_wp2_with fail
    go_ret2
    exact RetC.nil_ (Below.refl _ _)
  by_cases h2 : 10000 < step
  · rw [fromSteps_no (by unfold stOk; rw [inB_hi h2]; rfl)]
    clear hl
    go_enter Try.func17, Try.ntmps17
    go_wp2_with fail
    go_ret2
    exact RetC.nil_ (Below.refl _ _)
  by_cases h3 : 32 < n
  · rw [fromSteps_no (by unfold stOk; simp [hl]; omega)]
    clear hl
    go_enter Try.func17, Try.ntmps17
    go_wp2_with fail
    go_ret2
    exact RetC.nil_ (Below.refl _ _)
  by_cases h4 : n % 2 = 1
  · rw [fromSteps_no (by unfold stOk; simp [hl]; omega)]
    have h4' : (((n : Int) % 2) != 0) = true := by rw [bne_iff_ne]; omega
    clear hl h4
    go_enter Try.func17, Try.ntmps17
    go_wp2_with fail
    go_ret2
    exact RetC.nil_ (Below.refl _ _)
  have h4' : (((n : Int) % 2) != 0) = false := by rw [bne_eq_false_iff_eq]; omega
  have HL := Lib.hid hl
  have H4 : Hid (n % 2 = 0) := by show n % 2 = 0; omega
  obtain ⟨m1, m2⟩ := most_bd (step := step) (by omega)
  obtain ⟨M, hM⟩ : ∃ M, M = 9999999 / step := ⟨_, rfl⟩
  have e1 : (9999999 : Int) / step = M := hM.symm
  have HM := Lib.hid hM
  rw [e1] at m1 m2
  clear hl h4 hM
  go_enter Try.func17, Try.ntmps17
  go_wp2_with fail
  go_loopw [32] (fun i wr => ∃ k : Nat, k ≤ n ∧ i = .int .i64 k ∧ (l.take k).all (fun x => inB x (-M) M) = true ∧ w = wr) (fun i _ => n - (intOf i).toNat)
  case atStart => exact ⟨0, by omega, rfl, rfl, rfl⟩
  case round =>
    obtain ⟨k, hk, rfl, hall, rfl⟩ := hrel
    have HA := Lib.hid hall
    clear hall
    by_cases hlt : k < n
    · obtain ⟨b, o, rfl, hb, hc⟩ := hx.int_at hlt
      have hck := hc k hlt
      clear hc
      by_cases hlo : inth l k < -M
      · have HNO : Hid (fromSteps l step = none) := fromSteps_no (by
          unfold stOk
          rw [int_all_false_of (k := k) (by rw [HL.out]; exact hlt) (by rw [← HM.out]; exact inB_lo hlo), Bool.and_false])
        generalize inth l k = x at *
        go_wp2_with fail
        go_ret2
        rw [HNO.out]
        exact RetC.nil_ (Below.refl _ _)
      by_cases hhi : M < inth l k
      · have HNO : Hid (fromSteps l step = none) := fromSteps_no (by
          unfold stOk
          rw [int_all_false_of (k := k) (by rw [HL.out]; exact hlt) (by rw [← HM.out]; exact inB_hi hhi), Bool.and_false])
        generalize inth l k = x at *
        go_wp2_with fail
        go_ret2
        rw [HNO.out]
        exact RetC.nil_ (Below.refl _ _)
      have HN : Hid ((l.take (k + 1)).all (fun x => inB x (-M) M) = true) := by
        show _ = true
        rw [int_all_take_succ (by rw [HL.out]; exact hlt), HA.out, inB_true (by omega) (by omega)]; rfl
      generalize inth l k = x at *
      go_wp2_with fail
      go_roundw
      case rel => exact ⟨k + 1, by omega, by go_num, HN.out, trivial⟩
      case measure => simp [intOf]; omega
    · obtain rfl : k = n := by omega
      have hyes : stOk l step = true := by
        have := HA.out
        rw [List.take_of_length_le (by rw [HL.out]; omega)] at this
        unfold stOk
        rw [inB_true (by omega) (by omega), ← HM.out, this, HL.out]
        have := H4.out
        simp; omega
      have HY : Hid (fromSteps l step = some (fromSt l step)) := fromSteps_yes hyes
      have HZ := Lib.hid hyes
      clear hyes
      go_wp2_with (at_make; refine wl_make rfl (.tmp 48) (.tmp 48) 23 rfl Try.eC .i64 .i64 (k / 2) _ _ rfl rfl (by omega) (by omega) (by omega) (by unfold maxLen; omega) (Below.refl _ _) ?_; intro w1 hown hb1 _)
      have HF : Hid (((fromSt l step).map cv).length = k / 2) := by show _ = _; rw [List.length_map, fromSt_len, HL.out]
      go_loopw [52] (fun i wr => ∃ j : Nat, j ≤ k / 2 ∧ i = .int .i64 j ∧ Ow wr w.heap.size 45 (.slice (some ⟨w.heap.size, 0, none⟩) (k / 2) (k / 2)) (k / 2) (fill ((fromSt l step).map cv) (k / 2) j (.complex .f32 0 0)) ∧ Below w.heap.size w wr) (fun i _ => k / 2 - (intOf i).toNat)
      case atStart => exact ⟨0, by omega, rfl, by rw [fill_zero]; exact hown, hb1⟩
      case round =>
        obtain ⟨j, hj, rfl, ho, hb⟩ := hrel
        by_cases hjl : j < k / 2
        · obtain ⟨b, o, rfl, hbl, hc⟩ := hx.int_at (show 2 * j < k by omega)
          have c1 : wr.cell? ⟨b, o + 2 * j, none⟩ = some (.int .i64 (inth l (2 * j))) := (hb.cell (p := ⟨b, o + 2 * j, none⟩) hbl).trans (hc (2 * j) (by omega))
          have c2 : wr.cell? ⟨b, o + (2 * j + 1), none⟩ = some (.int .i64 (inth l (2 * j + 1))) := (hb.cell (p := ⟨b, o + (2 * j + 1), none⟩) hbl).trans (hc (2 * j + 1) (by omega))
          have bx := step_bd HZ.out (i := 2 * j) (by rw [HL.out]; omega)
          have bz := step_bd HZ.out (i := 2 * j + 1) (by rw [HL.out]; omega)
          have HU := Lib.hid (fromSt_get (l := l) (step := step) (i := j) (by rw [HL.out]; exact hjl))
          generalize inth l (2 * j) = x at *
          generalize inth l (2 * j + 1) = z at *
          have e1 : IntKind.i64.wrap (x * step) = x * step := IntWalk.i64_in _ (by omega)
          have e2 : IntKind.i64.wrap (z * step) = z * step := IntWalk.i64_in _ (by omega)
          have e3 : IntKind.i64.wrap (2 * (j : Int)) = 2 * (j : Int) := IntWalk.i64_in _ (by omega)
          have e4 : IntKind.i64.wrap (2 * (j : Int) + 1) = 2 * (j : Int) + 1 := IntWalk.i64_in _ (by omega)
          have f1 : (0 : Int) ≤ 2 * (j : Int) := by omega
          have f2 : 2 * (j : Int) < (k : Int) := by omega
          have f3 : (2 * (j : Int)).toNat = 2 * j := by omega
          have f4 : (0 : Int) ≤ 2 * (j : Int) + 1 := by omega
          have f5 : 2 * (j : Int) + 1 < (k : Int) := by omega
          have f6 : (2 * (j : Int) + 1).toNat = 2 * j + 1 := by omega
          go_wp2_with fail
          obtain ⟨g, hg, hge, hgl, hcell, hfr, hst⟩ := ho.at_ hjl
          injection hg with hg
          injection hg with hg
          subst hg
          have c3 : wr.cell? ⟨w.heap.size, j, none⟩ = some (.complex .f32 0 0) := (hcell j hjl).trans (fill_get HF.out hjl _)
          have hfr2 := hfr j
          have HS := Lib.hid (hst j (cv (milli (x * step) (z * step))))
          have HB := Lib.hid hb
          clear hst hcell hfr ho hown hb1 hc hx hb
          go_still_tail 19, (by kernel_rfl)
          still_call (iMilli _ _ _)
          repeat still_step
          refine wpStill_nil ?_
          change wpList _ _ _ _ _ wr.drew
          have c3' : wr.drew.cell? ⟨w.heap.size, j, none⟩ = some (.complex .f32 0 0) := c3
          have hfr3 : wr.drew.frozen? ⟨w.heap.size, j, none⟩ = false := hfr2
          clear e1 e2 e3 e4 f1 f2 f3 f4 f5 f6 c1 c2
          go_wp2_with fail
          go_roundw
          case rel => exact ⟨j + 1, by omega, by go_num, by have := HS.out; rw [fill_set HF.out hjl _ _ HU.out] at this; exact this, (HB.out.drew).setCell (Nat.le_refl _) _⟩
          case measure => simp [intOf]; omega
        · obtain rfl : j = k / 2 := by omega
          go_wp2_with fail
          go_ret2
          rw [HY.out]
          exact ⟨_, _, _, rfl, by rw [fill_full HF.out] at ho; exact ho, hb⟩
end Go.Proofs.Ytficlmnjbbpicaa
