/- Whether a signal is one, and numbers of steps: the reference. -/
import Derived.Test.YtficlmnjbbpicaaB2
namespace Go.Proofs.Ytficlmnjbbpicaa
open Go.RowKit

set_option maxHeartbeats 400000 in
theorem sAll (A : Option Addr) (n c : Nat) (xs : List C) (w : World) (hn : n ≤ 9223372036854775807) (hx : Cs w A n xs) :
    Calls Try.prog 108 #[.slice A n c] w fun e w' => e = .returned (.bool (xs.all finB)) ∧ Dr w w' := by
  have HL := Lib.hid hx.len
  go_enter Try.func108, Try.ntmps108
  go_wp2_with fail
  go_loopw [3] (fun i wr => ∃ k : Nat, k ≤ n ∧ i = .int .i64 k ∧ (xs.take k).all finB = true ∧ ∃ m, wr = w.drewN m) (fun i _ => n - (intOf i).toNat)
  case atStart => exact ⟨0, by omega, rfl, rfl, 0, rfl⟩
  case round =>
    obtain ⟨k, hk, rfl, hf, m, rfl⟩ := hrel
    have HF := Lib.hid hf
    clear hf
    by_cases hlt : k < n
    · obtain ⟨b, o, rfl, hb, hc⟩ := hx.at_ hlt
      have hck := hc k hlt
      clear hc hx
      by_cases hfin : finB (nth xs k) = true
      · go_wp2_with (go_at_call 84; refine (sFinite _ _).mono ?_; rintro e w' ⟨rfl, m', rfl⟩)
        go_roundw
        case rel => exact ⟨k + 1, by omega, by go_num, by rw [all_take_succ (by rw [HL.out]; omega), HF.out, hfin]; rfl, _, rfl⟩
        case measure => simp [intOf]; omega
      · have hfin' : finB (nth xs k) = false := by simpa using hfin
        clear hfin
        go_wp2_with (go_at_call 84; refine (sFinite _ _).mono ?_; rintro e w' ⟨rfl, m', rfl⟩)
        go_ret
        exact ⟨ret_bool (all_false_of (by rw [HL.out]; omega) hfin').symm, _, rfl⟩
    · go_wp2_with fail
      go_ret
      exact ⟨ret_bool (by rw [← HF.out, List.take_of_length_le (by rw [HL.out]; omega)]), _, rfl⟩
set_option maxHeartbeats 400000 in
theorem sSignalOk (A : Option Addr) (n c : Nat) (xs : List C) (w : World) (hn : n ≤ 9223372036854775807) (hx : Cs w A n xs) :
    Calls Try.prog 88 #[.slice A n c] w fun e w' => e = .returned (.bool (sigB xs)) ∧ Dr w w' := by
  have hl := hx.len
  by_cases h16 : n ≤ 16
  · have HS : Hid (sigB xs = xs.all finB) := by show _ = _; unfold sigB; simp [hl, h16]
    clear hl
    go_enter Try.func88, Try.ntmps88
    go_wp2_with fail
    refine (sAll A n c xs w hn hx).mono ?_
    rintro e w' ⟨rfl, m, rfl⟩
    go_wp2_with fail
    go_ret
    exact ⟨ret_bool HS.out.symm, _, rfl⟩
  · have HS : Hid (sigB xs = false) := by show _ = _; unfold sigB; simp [hl, h16]
    clear hl hx
    go_enter Try.func88, Try.ntmps88
    go_wp2_with fail
    go_ret
    exact ⟨ret_bool HS.out.symm, 0, rfl⟩
theorem RetI.empty {w w' : World} {c : Nat} {g : Nat} (ho : Ow w' w.heap.size 3 (.slice (some ⟨g, 0, none⟩) 0 c) 0 []) (h : Below w.heap.size w w') : RetI w none (.returned (.tuple #[.slice (some ⟨g, 0, none⟩) 0 c, .bool false])) w' := ⟨_, _, _, rfl, ho, h⟩

set_option maxHeartbeats 2000000 in
set_option maxRecDepth 100000 in
theorem sStepsOf (A : Option Addr) (n c : Nat) (xs : List C) (step : Int) (w : World) (hn : n ≤ 1048576) (hx : Cs w A n xs) :
    Calls Try.prog 40 #[.slice A n c, .int .i64 step] w (RetI w (stepsOf xs step)) := by
  have hl := hx.len
  have he := Ow.empty w 3
  have hb0 := below_alloc w (.cells #[] 3)
  have hx0 : Cs (w.alloc (.cells #[] 3)) A n xs := hx.below hb0
  by_cases hs : sigB xs = true
  case neg =>
    have hs' : sigB xs = false := by simpa using hs
    have HN := Lib.hid (stepsOf_no (xs := xs) (step := step) (by unfold stepsOk; rw [hs']; rfl))
    clear hl hs
    go_enter Try.func40, Try.ntmps40
    go_wp2_with fail
    refine (sSignalOk A n c xs _ (by omega) hx0).mono ?_
    rw [hs']
    rintro e w' ⟨rfl, m, rfl⟩
    go_wp2_with fail
    go_ret2
    rw [HN.out]
    exact RetI.empty he (below_drewN hb0 _)
  by_cases h1 : inB step 1 10000 = true
  case neg =>
    have h1' : inB step 1 10000 = false := by simpa using h1
    have HN := Lib.hid (stepsOf_no (xs := xs) (step := step) (by unfold stepsOk; rw [h1']; simp))
    clear hl h1
    go_enter Try.func40, Try.ntmps40
    go_wp2_with fail
    refine (sSignalOk A n c xs _ (by omega) hx0).mono ?_
    rw [hs]
    rintro e w' ⟨rfl, m, rfl⟩
    go_wp2_with fail
    refine (l1In_any _ _ _ _).mono ?_
    rw [h1']
    rintro e w' ⟨rfl, rfl⟩
    go_wp2_with fail
    go_ret2
    rw [HN.out]
    exact RetI.empty he (below_drewN hb0 _)
  obtain ⟨s1, s2⟩ := inB_iff.1 h1
  have HS := Lib.hid hs
  have h16 : n ≤ 16 := by unfold sigB at hs; simp at hs; omega
  have HL := Lib.hid hl
  have HI := Lib.hid h1
  have HE := Lib.hid he
  have HB0 := Lib.hid hb0
  clear hl hs he hb0
  go_enter Try.func40, Try.ntmps40
  go_wp2_with fail
  refine (sSignalOk A n c xs _ (by omega) hx0).mono ?_
  rw [HS.out]
  rintro e w' ⟨rfl, m, rfl⟩
  go_wp2_with fail
  refine (l1In_any _ _ _ _).mono ?_
  rw [h1]
  rintro e w' ⟨rfl, rfl⟩
  go_wp2_with fail
  have HO1 : Hid (Ow ((w.alloc (.cells #[] 3)).drewN m) w.heap.size 3 (.slice (some ⟨w.heap.size, 0, none⟩) 0 0) 0 []) := HE.out.drewN m
  have HB1 : Hid (Below w.heap.size w ((w.alloc (.cells #[] 3)).drewN m)) := below_drewN HB0.out m
  clear hx0
  go_loopw [6, 7] (fun v i wr => ∃ k : Nat, k ≤ n ∧ i = .int .i64 k ∧ (xs.take k).all (fun z => (tho z).isSome) = true ∧ Ow wr w.heap.size 3 v (2 * k) ((stepsL (xs.take k) step).map iv) ∧ Below w.heap.size w wr) (fun _ i _ => n - (intOf i).toNat)
  case atStart => exact ⟨0, by omega, rfl, rfl, HO1.out, HB1.out⟩
  case round =>
    obtain ⟨k, hk, rfl, hall, ho, hb⟩ := hrel
    have HA := Lib.hid hall
    have HO := Lib.hid ho
    have HB := Lib.hid hb
    clear hall ho
    by_cases hlt : k < n
    · obtain ⟨b, o, rfl, hbl, hc⟩ := hx.at_ hlt
      have hck : wr.cell? ⟨b, o + k, none⟩ = some (cv (nth xs k)) := (hb.cell (p := ⟨b, o + k, none⟩) hbl).trans (hc k hlt)
      clear hc hb hx
      cases ht : tho (nth xs k) with
      | none =>
        have HN := Lib.hid (stepsOf_no (xs := xs) (step := step) (by unfold stepsOk; rw [all_false_of (k := k) (p := fun z => (tho z).isSome) (by rw [HL.out]; exact hlt) (by rw [ht]; rfl), Bool.and_false]))
        have HT := Lib.hid ht
        clear ht
        generalize nth xs k = z at *
        go_wp2_with fail
        refine (sMilliOf z wr).mono ?_
        rw [HT.out]
        rintro e w' ⟨rfl, m, rfl⟩
        simp only [Option.getD_none, Option.isSome_none]
        go_wp2_with fail
        go_ret2
        rw [HN.out]
        exact RetI.empty ((Ow.empty (wr.drewN m) 3).mono HB.out.size) ((below_drewN HB.out m).alloc HB.out.size _)
      | some ab =>
        obtain ⟨a, b2⟩ := ab
        obtain ⟨a1, a2, a3, a4⟩ := tho_bd ht
        have HN : Hid (stepsL (xs.take (k + 1)) step = stepsL (xs.take k) step ++ [stp a step, stp b2 step]) := by show _ = _; rw [stepsL_take (by rw [HL.out]; exact hlt), pairS_eq ht]
        have HN2 : Hid ((xs.take (k + 1)).all (fun z => (tho z).isSome) = true) := by show _ = _; rw [all_take_succ (by rw [HL.out]; exact hlt), HA.out, ht]; rfl
        have HT := Lib.hid ht
        clear ht
        generalize nth xs k = z at *
        go_wp2_with fail
        refine (sMilliOf z wr).mono ?_
        rw [HT.out]
        rintro e w' ⟨rfl, m, rfl⟩
        simp only [Option.getD_some, Option.isSome_some]
        go_wp2_with fail
        refine (sStep a step a1 a2 (by omega) (by omega) _).mono ?_
        rintro e w' ⟨rfl, rfl⟩
        go_wp2_with fail
        refine (sStep b2 step a3 a4 (by omega) (by omega) _).mono ?_
        rintro e w' ⟨rfl, rfl⟩
        have hsz : w.heap.size ≤ (wr.drewN m).heap.size := HB.out.size
        have HOd : Hid (Ow (wr.drewN m) w.heap.size 3 u6 (2 * k) ((stepsL (xs.take k) step).map iv)) := HO.out.drewN m
        go_wp2_with (at_builtin; refine wl_appB w.heap.size [.int .i64 (stp a step), .int .i64 (stp b2 step)] hsz rfl (.tmp 39) (.tmp 46) 22 rfl Try.eI _ (2 * k) _ rfl HOd.out rfl (by simp [Value.oneCell']) (by simp [maxLen]; omega) (by simp; omega) ?_; intro v' w4 ho4 hb4)
        go_roundw
        case rel => exact ⟨k + 1, by omega, by go_num, HN2.out, by rw [HN.out, List.map_append]; exact ho4, (below_drewN HB.out m).trans hb4⟩
        case measure => simp [intOf]; omega
    · obtain rfl : k = n := by omega
      have hyes : stepsOk xs step = true := by
        have := HA.out
        rw [List.take_of_length_le (by rw [HL.out]; omega)] at this
        unfold stepsOk
        rw [HS.out, HI.out, this]; rfl
      have HY := Lib.hid (stepsOf_yes hyes)
      have HO2 : Hid (Ow wr w.heap.size 3 u6 (2 * k) ((stepsL xs step).map iv)) := by
        have := HO.out
        rw [List.take_of_length_le (by rw [HL.out]; omega)] at this
        exact this
      clear hyes
      go_wp2_with fail
      obtain ⟨A2, c2, rfl⟩ := HO2.out.shape
      go_ret2
      rw [HY.out]
      exact ⟨_, _, _, rfl, HO2.out, HB.out⟩
end Go.Proofs.Ytficlmnjbbpicaa
