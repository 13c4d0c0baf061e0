/- Numbers of steps: the program's function and the reference's. -/
import Derived.Test.YtficlmnjbbpicaaB1
import Derived.Test.YtficlmnjbbpicaaD1
import Derived.Deep.RegionLaw
namespace Go.Proofs.Ytficlmnjbbpicaa
open Go.RowKit

noncomputable def pairS (z : C) (step : Int) : List Int := [stp ((tho z).getD (0, 0)).1 step, stp ((tho z).getD (0, 0)).2 step]
noncomputable def stepsL (xs : List C) (step : Int) : List Int := xs.flatMap fun z => pairS z step
noncomputable def stepsOk (xs : List C) (step : Int) : Bool := sigB xs && inB step 1 10000 && xs.all fun z => (tho z).isSome
noncomputable def stepsOf (xs : List C) (step : Int) : Option (List Int) := if stepsOk xs step then some (stepsL xs step) else none
theorem stepsOf_no {xs : List C} {step : Int} (h : stepsOk xs step = false) : stepsOf xs step = none := by unfold stepsOf; rw [h]; rfl
theorem stepsOf_yes {xs : List C} {step : Int} (h : stepsOk xs step = true) : stepsOf xs step = some (stepsL xs step) := by unfold stepsOf; rw [h]; rfl
theorem stepsL_len (xs : List C) (step : Int) : (stepsL xs step).length = 2 * xs.length := by
  induction xs with
  | nil => rfl
  | cons z xs ih => unfold stepsL at ih ⊢; rw [List.flatMap_cons, List.length_append, ih]; simp [pairS]; omega
theorem stepsL_take {xs : List C} {k : Nat} (hk : k < xs.length) (step : Int) : stepsL (xs.take (k + 1)) step = stepsL (xs.take k) step ++ pairS (nth xs k) step := by
  unfold stepsL
  rw [List.take_succ_eq_append_getElem hk, List.flatMap_append, nth_eq hk]
  simp
theorem tho_some {z : C} {a b : Int} (h : tho z = some (a, b)) : thou z.1 = some a ∧ thou z.2 = some b := by
  unfold tho at h
  cases h1 : thou z.1 with
  | none => rw [h1] at h; simp at h
  | some x =>
    cases h2 : thou z.2 with
    | none => rw [h1, h2] at h; simp at h
    | some y => rw [h1, h2] at h; simp at h; rw [h.1, h.2]; exact ⟨rfl, rfl⟩
theorem tho_bd {z : C} {a b : Int} (h : tho z = some (a, b)) : -9999999 ≤ a ∧ a ≤ 9999999 ∧ -9999999 ≤ b ∧ b ≤ 9999999 := by
  obtain ⟨h1, h2⟩ := tho_some h
  obtain ⟨_, a1, a2, _⟩ := thou_is h1
  obtain ⟨_, b1, b2, _⟩ := thou_is h2
  exact ⟨a1, a2, b1, b2⟩
theorem pairS_eq {z : C} {a b : Int} (h : tho z = some (a, b)) (step : Int) : pairS z step = [stp a step, stp b step] := by unfold pairS; rw [h]; rfl
theorem all_c_take {xs : List C} {k : Nat} {p : C → Bool} (hk : k < xs.length) (h : p (nth xs k) = false) : xs.all p = false := all_false_of hk h

/-- A new slice of whole numbers, and whether there is one. -/
def RetI (w : World) (o : Option (List Int)) (e : Ending) (w' : World) : Prop :=
  ∃ A m c, e = .returned (.tuple #[.slice A m c, .bool o.isSome]) ∧ Ow w' w.heap.size 3 (.slice A m c) m ((o.getD []).map iv) ∧ Below w.heap.size w w'
theorem RetI.nil_ {w w' : World} (h : Below w.heap.size w w') : RetI w none (.returned (.tuple #[.slice none 0 0, .bool false])) w' := ⟨_, _, _, rfl, Ow.nil_ _ _ _, h⟩

set_option maxHeartbeats 2000000 in
set_option maxRecDepth 100000 in
theorem iStepsOf (A : Option Addr) (n c : Nat) (xs : List C) (step : Int) (w : World) (hn : n ≤ 1048576) (hx : Cs w A n xs) :
    Calls Try.prog 28 #[.slice A n c, .int .i64 step] w (RetI w (stepsOf xs step)) := by
  have hl := hx.len
  by_cases hs : sigB xs = true
  case neg =>
    have hs' : sigB xs = false := by simpa using hs
    have HN := Lib.hid (stepsOf_no (xs := xs) (step := step) (by unfold stepsOk; rw [hs']; rfl))
    clear hl hs
    go_enter Try.func28, Try.ntmps28
    go_wp2_with fail
    refine (iSignalOk A n c xs w (by omega) hx).mono ?_
    rw [hs']
    rintro e w' ⟨rfl, m, rfl⟩
    go_wp2_with fail
    go_ret2
    rw [HN.out]
    exact RetI.nil_ (below_drewN (Below.refl _ _) _)
  by_cases h1 : step < 1
  · have HN := Lib.hid (stepsOf_no (xs := xs) (step := step) (by unfold stepsOk; rw [inB_lo h1]; simp))
    clear hl
    go_enter Try.func28, Try.ntmps28
    go_wp2_with fail
    refine (iSignalOk A n c xs w (by omega) hx).mono ?_
    rw [hs]
    rintro e w' ⟨rfl, m, rfl⟩
    go_wp2_with fail
    go_ret2
    rw [HN.out]
    exact RetI.nil_ (below_drewN (Below.refl _ _) _)
  by_cases h2 : 10000 < step
  · have HN := Lib.hid (stepsOf_no (xs := xs) (step := step) (by unfold stepsOk; rw [inB_hi h2]; simp))
    clear hl
    go_enter Try.func28, Try.ntmps28
    go_wp2_with fail
    refine (iSignalOk A n c xs w (by omega) hx).mono ?_
    rw [hs]
    rintro e w' ⟨rfl, m, rfl⟩
    go_wp2_with fail
    go_ret2
    rw [HN.out]
    exact RetI.nil_ (below_drewN (Below.refl _ _) _)
  have HS := Lib.hid hs
  have h16 : n ≤ 16 := by unfold sigB at hs; simp at hs; omega
  have HL := Lib.hid hl
  have HI : Hid (inB step 1 10000 = true) := inB_true (by omega) (by omega)
  have e0 : IntKind.i64.wrap (2 * (n : Int)) = 2 * (n : Int) := IntWalk.i64_in _ (by omega)
  clear hl hs
  go_enter Try.func28, Try.ntmps28
  go_wp2_with fail
  refine (iSignalOk A n c xs w (by omega) hx).mono ?_
  rw [HS.out]
  rintro e w' ⟨rfl, m, rfl⟩
  go_wp2_with (at_make; refine wl_make0 (w0 := w.drewN m) rfl (.const (.int .i64 0)) (.tmp 25) 22 rfl Try.eI .i64 .i64 (2 * n) _ rfl rfl (by push_cast; rfl) (by omega) (by unfold maxLen; omega) (Below.refl _ _) ?_; intro w1 hown hb1 _)
  have HO1 : Hid (Ow w1 w.heap.size 3 (.slice (some ⟨w.heap.size, 0, none⟩) 0 (2 * n)) 0 []) := hown
  have HB1 : Hid (Below w.heap.size w w1) := ⟨hb1.os, hb1.tape, hb1.output, hb1.size, hb1.block⟩
  clear hown hb1
  go_loopw [6, 29] (fun v i wr => ∃ k : Nat, k ≤ n ∧ i = .int .i64 k ∧ (xs.take k).all (fun z => (tho z).isSome) = true ∧ Ow wr w.heap.size 3 v (2 * k) ((stepsL (xs.take k) step).map iv) ∧ Below w.heap.size w wr) (fun _ i _ => n - (intOf i).toNat)
  case atStart => exact ⟨0, by omega, rfl, rfl, HO1.out, HB1.out⟩
  case round =>
    obtain ⟨k, hk, rfl, hall, ho, hb⟩ := hrel
    have HA := Lib.hid hall
    have HO := Lib.hid ho
    have HB := Lib.hid hb
    clear hall ho
    by_cases hlt : k < n
    · obtain ⟨b, o, rfl, hbl, hc⟩ := hx.at_ hlt
      have hck : wr.cell? ⟨b, o + k, none⟩ = some (cv (nth xs k)) := (hb.cell (p := ⟨b, o + k, none⟩) hbl).trans (hc k hlt)
      clear hc hb hx
      cases ht : tho (nth xs k) with
      | none =>
        have HN := Lib.hid (stepsOf_no (xs := xs) (step := step) (by unfold stepsOk; rw [all_false_of (k := k) (p := fun z => (tho z).isSome) (by rw [HL.out]; exact hlt) (by rw [ht]; rfl), Bool.and_false]))
        have HT := Lib.hid ht
        clear ht
        generalize nth xs k = z at *
        go_wp2_with fail
        refine (iMilliOf z wr).mono ?_
        rw [HT.out]
        rintro e w' ⟨rfl, m, rfl⟩
        simp only [Option.getD_none, Option.isSome_none]
        go_wp2_with fail
        go_ret2
        rw [HN.out]
        exact RetI.nil_ (below_drewN HB.out _)
      | some ab =>
        obtain ⟨a, b2⟩ := ab
        obtain ⟨a1, a2, a3, a4⟩ := tho_bd ht
        have HN : Hid (stepsL (xs.take (k + 1)) step = stepsL (xs.take k) step ++ [stp a step, stp b2 step]) := by show _ = _; rw [stepsL_take (by rw [HL.out]; exact hlt), pairS_eq ht]
        have HN2 : Hid ((xs.take (k + 1)).all (fun z => (tho z).isSome) = true) := by show _ = _; rw [all_take_succ (by rw [HL.out]; exact hlt), HA.out, ht]; rfl
        have HT := Lib.hid ht
        clear ht
        generalize nth xs k = z at *
        go_wp2_with fail
        refine (iMilliOf z wr).mono ?_
        rw [HT.out]
        rintro e w' ⟨rfl, m, rfl⟩
        simp only [Option.getD_some, Option.isSome_some]
        go_wp2_with fail
        refine (iInSteps a step a1 a2 (by omega) (by omega) _).mono ?_
        rintro e w' ⟨rfl, rfl⟩
        go_wp2_with fail
        refine (iInSteps b2 step a3 a4 (by omega) (by omega) _).mono ?_
        rintro e w' ⟨rfl, rfl⟩
        have hsz : w.heap.size ≤ (wr.drewN m).heap.size := HB.out.size
        have HOd : Hid (Ow (wr.drewN m) w.heap.size 3 u6 (2 * k) ((stepsL (xs.take k) step).map iv)) := HO.out.drewN m
        go_wp2_with (at_builtin; refine wl_appB w.heap.size [.int .i64 (stp a step), .int .i64 (stp b2 step)] hsz rfl (.tmp 41) (.tmp 48) 22 rfl Try.eI _ (2 * k) _ rfl HOd.out rfl (by simp [Value.oneCell']) (by simp [maxLen]; omega) (by simp; omega) ?_; intro v' w4 ho4 hb4)
        go_roundw
        case rel => exact ⟨k + 1, by omega, by go_num, HN2.out, by rw [HN.out, List.map_append]; exact ho4, (below_drewN HB.out m).trans hb4⟩
        case measure => simp [intOf]; omega
    · obtain rfl : k = n := by omega
      have hyes : stepsOk xs step = true := by
        have := HA.out
        rw [List.take_of_length_le (by rw [HL.out]; omega)] at this
        unfold stepsOk
        rw [HS.out, HI.out, this]; rfl
      have HY := Lib.hid (stepsOf_yes hyes)
      have HO2 : Hid (Ow wr w.heap.size 3 u6 (2 * k) ((stepsL xs step).map iv)) := by
        have := HO.out
        rw [List.take_of_length_le (by rw [HL.out]; omega)] at this
        exact this
      clear hyes
      go_wp2_with fail
      obtain ⟨A2, c2, rfl⟩ := HO2.out.shape
      go_ret2
      rw [HY.out]
      exact ⟨_, _, _, rfl, HO2.out, HB.out⟩
end Go.Proofs.Ytficlmnjbbpicaa
