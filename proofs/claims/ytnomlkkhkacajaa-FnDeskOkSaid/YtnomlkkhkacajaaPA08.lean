/- Texts on the way to a law (T1, B2, B3, B4, A5, P1), each with its own remark. -/
import Derived.Test.YtnomlkkhkacajaaPA07
import Derived.Deep.RegionLaw
import Derived.Test.YtnomlkkhkacajaaPA04
namespace Go.Proofs.Ytnomlkkhkacajaa
open Go.RowKit

def turnA : Array Value := #[.complex .f32 1065353216 0, .complex .f32 1064076126 1053028117, .complex .f32 1060439283 1060439283, .complex .f32 1053028117 1064076126, .complex .f32 0 1065353216, .complex .f32 3200511765 1064076126, .complex .f32 3207922931 1060439283, .complex .f32 3211559774 1053028117, .complex .f32 3212836864 0, .complex .f32 3211559774 3200511765, .complex .f32 3207922931 3207922931, .complex .f32 3200511765 3211559774, .complex .f32 0 3212836864, .complex .f32 1053028117 3211559774, .complex .f32 1060439283 3207922931, .complex .f32 1064076126 3200511765]
def turnL : List C := [(1065353216, 0), (1064076126, 1053028117), (1060439283, 1060439283), (1053028117, 1064076126), (0, 1065353216), (3200511765, 1064076126), (3207922931, 1060439283), (3211559774, 1053028117), (3212836864, 0), (3211559774, 3200511765), (3207922931, 3207922931), (3200511765, 3211559774), (0, 3212836864), (1053028117, 3211559774), (1060439283, 3207922931), (1064076126, 3200511765)]
theorem turnA_get (j : Nat) (h : j < 16) : turnA[j]? = some (.complex .f32 (nth turnL j).1 (nth turnL j).2) := by
  have : j = 0 ∨ j = 1 ∨ j = 2 ∨ j = 3 ∨ j = 4 ∨ j = 5 ∨ j = 6 ∨ j = 7 ∨ j = 8 ∨ j = 9 ∨ j = 10 ∨ j = 11 ∨ j = 12 ∨ j = 13 ∨ j = 14 ∨ j = 15 := by omega
  rcases this with rfl | rfl | rfl | rfl | rfl | rfl | rfl | rfl | rfl | rfl | rfl | rfl | rfl | rfl | rfl | rfl <;> rfl
/-- The turn by so many sixteenths. -/
def turnC (k : Int) : C := if inB k (-9999) 9999 then nth turnL (k % 16).toNat else (0, 0)
theorem tmod_neg {n : Int} (h : n < 0) : n.tmod 16 = -((-n) % 16) := by
  obtain ⟨m, rfl⟩ : ∃ m : Int, n = -m := ⟨-n, by omega⟩
  rw [Int.neg_tmod, Int.tmod_eq_emod_of_nonneg (by omega), Int.neg_neg]
/-- A number, in memory of the call's own or not: what lies below stays. -/
def RetQ (w : World) (z : C) (e : Ending) (w' : World) : Prop := e = .returned (cv z) ∧ Below w.heap.size w w'
theorem turnA_cell {w w2 : World} (E : TypeId) (h : Below (w.heap.size + 1) (w.alloc (.cells turnA E)) w2) {j : Nat} (hj : j < 16) :
    w2.cell? ⟨w.heap.size, j, none⟩ = some (.complex .f32 (nth turnL j).1 (nth turnL j).2) := by
  rw [h.cell (p := ⟨w.heap.size, j, none⟩) (by simp), World.cell?_alloc_at _ _ _ _ rfl]
  exact turnA_get j hj
theorem table_any (w : World) : Calls Try.prog 50 #[] w fun e w' => e = .returned (.slice (some ⟨w.heap.size, 0, none⟩) 16 16) ∧ w' = w.alloc (.cells turnA 35) := by
  go_enter Try.func50, Try.ntmps50
  go_wp2_with fail
  go_ret
  exact ⟨rfl, rfl⟩
set_option maxHeartbeats 1000000 in
theorem sTurn (k : Int) (w : World) : Calls Try.prog 45 #[.int .i64 k] w (RetQ w (turnC k)) := by
  by_cases hb : inB k (-9999) 9999 = true
  · obtain ⟨b1, b2⟩ := inB_iff.1 hb
    obtain ⟨t, ht⟩ : ∃ t, t = k.tmod 16 := ⟨_, rfl⟩
    have et : k.tmod 16 = t := ht.symm
    have ht2 : t = k % 16 ∨ t = k % 16 - 16 := by
      by_cases hn : 0 ≤ k
      · rw [Int.tmod_eq_emod_of_nonneg hn] at ht; omega
      · rw [tmod_neg (by omega)] at ht; omega
    have m1 := Int.emod_nonneg k (show (16 : Int) ≠ 0 by decide)
    have m2 := Int.emod_lt_of_pos k (show (0 : Int) < 16 by decide)
    obtain ⟨j, hj⟩ := Int.eq_ofNat_of_zero_le m1
    have hj16 : j < 16 := by omega
    have e1 : IntKind.i64.wrap (t + 16) = t + 16 := IntWalk.i64_in _ (by omega)
    have e2 : (t + 16) % 16 = (j : Int) := by omega
    have e3 : 0 ≤ t + 16 := by omega
    have e4 : (j : Int) < 16 := by omega
    have hc := turnA_cell 35 (Below.refl _ (w.alloc (.cells turnA 35))) hj16
    have HT : Hid (turnC k = nth turnL j) := by show _ = _; unfold turnC; rw [hb, hj]; rfl
    clear ht ht2 m1 m2 hj
    generalize nth turnL j = z at *
    go_enter Try.func45, Try.ntmps45
    go_wp2_with fail
    refine (l1In_any _ _ _ _).mono ?_
    rw [hb]
    rintro e w' ⟨rfl, rfl⟩
    go_wp2_with fail
    refine (table_any _).mono ?_
    rintro e w1 ⟨rfl, hw⟩
    rw [← hw] at hc
    have HW := Lib.hid hw
    clear hw
    go_wp2_with fail
    go_ret
    unfold RetQ
    rw [HT.out]
    exact ⟨rfl, by rw [HW.out]; exact below_alloc _ _⟩
  · have hb' : inB k (-9999) 9999 = false := by simpa using hb
    have HT : Hid (turnC k = (0, 0)) := by show _ = _; unfold turnC; rw [hb']; rfl
    clear hb
    go_enter Try.func45, Try.ntmps45
    go_wp2_with fail
    refine (l1In_any _ _ _ _).mono ?_
    rw [hb']
    rintro e w' ⟨rfl, rfl⟩
    go_wp2_with fail
    go_ret
    unfold RetQ
    rw [HT.out]
    exact ⟨rfl, Below.refl _ _⟩
end Go.Proofs.Ytnomlkkhkacajaa
namespace Go.Proofs.Ytnomlkkhkacajaa
open Go.RowKit

noncomputable def pairS (z : C) (step : Int) : List Int := [stp ((tho z).getD (0, 0)).1 step, stp ((tho z).getD (0, 0)).2 step]
noncomputable def stepsL (xs : List C) (step : Int) : List Int := xs.flatMap fun z => pairS z step
noncomputable def stepsOk (xs : List C) (step : Int) : Bool := sigB xs && inB step 1 10000 && xs.all fun z => (tho z).isSome
noncomputable def stepsOf (xs : List C) (step : Int) : Option (List Int) := if stepsOk xs step then some (stepsL xs step) else none
theorem stepsOf_no {xs : List C} {step : Int} (h : stepsOk xs step = false) : stepsOf xs step = none := by unfold stepsOf; rw [h]; rfl
theorem stepsOf_yes {xs : List C} {step : Int} (h : stepsOk xs step = true) : stepsOf xs step = some (stepsL xs step) := by unfold stepsOf; rw [h]; rfl
theorem stepsL_len (xs : List C) (step : Int) : (stepsL xs step).length = 2 * xs.length := by
  induction xs with
  | nil => rfl
  | cons z xs ih => unfold stepsL at ih ⊢; rw [List.flatMap_cons, List.length_append, ih]; simp [pairS]; omega
theorem stepsL_take {xs : List C} {k : Nat} (hk : k < xs.length) (step : Int) : stepsL (xs.take (k + 1)) step = stepsL (xs.take k) step ++ pairS (nth xs k) step := by
  unfold stepsL
  rw [List.take_succ_eq_append_getElem hk, List.flatMap_append, nth_eq hk]
  simp
theorem tho_some {z : C} {a b : Int} (h : tho z = some (a, b)) : thou z.1 = some a ∧ thou z.2 = some b := by
  unfold tho at h
  cases h1 : thou z.1 with
  | none => rw [h1] at h; simp at h
  | some x =>
    cases h2 : thou z.2 with
    | none => rw [h1, h2] at h; simp at h
    | some y => rw [h1, h2] at h; simp at h; rw [h.1, h.2]; exact ⟨rfl, rfl⟩
theorem tho_bd {z : C} {a b : Int} (h : tho z = some (a, b)) : -9999999 ≤ a ∧ a ≤ 9999999 ∧ -9999999 ≤ b ∧ b ≤ 9999999 := by
  obtain ⟨h1, h2⟩ := tho_some h
  obtain ⟨_, a1, a2, _⟩ := thou_is h1
  obtain ⟨_, b1, b2, _⟩ := thou_is h2
  exact ⟨a1, a2, b1, b2⟩
theorem pairS_eq {z : C} {a b : Int} (h : tho z = some (a, b)) (step : Int) : pairS z step = [stp a step, stp b step] := by unfold pairS; rw [h]; rfl
theorem all_c_take {xs : List C} {k : Nat} {p : C → Bool} (hk : k < xs.length) (h : p (nth xs k) = false) : xs.all p = false := all_false_of hk h

/-- A new slice of whole numbers, and whether there is one. -/
def RetI (w : World) (o : Option (List Int)) (e : Ending) (w' : World) : Prop :=
  ∃ A m c, e = .returned (.tuple #[.slice A m c, .bool o.isSome]) ∧ Ow w' w.heap.size 3 (.slice A m c) m ((o.getD []).map iv) ∧ Below w.heap.size w w'
theorem RetI.nil_ {w w' : World} (h : Below w.heap.size w w') : RetI w none (.returned (.tuple #[.slice none 0 0, .bool false])) w' := ⟨_, _, _, rfl, Ow.nil_ _ _ _, h⟩

end Go.Proofs.Ytnomlkkhkacajaa
namespace Go.Proofs.Ytnomlkkhkacajaa
open Go.RowKit

set_option maxHeartbeats 400000 in
theorem sAll (A : Option Addr) (n c : Nat) (xs : List C) (w : World) (hn : n ≤ 9223372036854775807) (hx : Cs w A n xs) :
    Calls Try.prog 19 #[.slice A n c] w fun e w' => e = .returned (.bool (xs.all finB)) ∧ Dr w w' := by
  have HL := Lib.hid hx.len
  go_enter Try.func19, Try.ntmps19
  go_wp2_with fail
  go_loopw [3] (fun i wr => ∃ k : Nat, k ≤ n ∧ i = .int .i64 k ∧ (xs.take k).all finB = true ∧ ∃ m, wr = w.drewN m) (fun i _ => n - (intOf i).toNat)
  case atStart => exact ⟨0, by omega, rfl, rfl, 0, rfl⟩
  case round =>
    obtain ⟨k, hk, rfl, hf, m, rfl⟩ := hrel
    have HF := Lib.hid hf
    clear hf
    by_cases hlt : k < n
    · obtain ⟨b, o, rfl, hb, hc⟩ := hx.at_ hlt
      have hck := hc k hlt
      clear hc hx
      by_cases hfin : finB (nth xs k) = true
      · go_wp2_with (go_at_call 25; refine (sFinite _ _).mono ?_; rintro e w' ⟨rfl, m', rfl⟩)
        go_roundw
        case rel => exact ⟨k + 1, by omega, by go_num, by rw [all_take_succ (by rw [HL.out]; omega), HF.out, hfin]; rfl, _, rfl⟩
        case measure => simp [intOf]; omega
      · have hfin' : finB (nth xs k) = false := by simpa using hfin
        clear hfin
        go_wp2_with (go_at_call 25; refine (sFinite _ _).mono ?_; rintro e w' ⟨rfl, m', rfl⟩)
        go_ret
        exact ⟨ret_bool (all_false_of (by rw [HL.out]; omega) hfin').symm, _, rfl⟩
    · go_wp2_with fail
      go_ret
      exact ⟨ret_bool (by rw [← HF.out, List.take_of_length_le (by rw [HL.out]; omega)]), _, rfl⟩
set_option maxHeartbeats 400000 in
theorem sSignalOk (A : Option Addr) (n c : Nat) (xs : List C) (w : World) (hn : n ≤ 9223372036854775807) (hx : Cs w A n xs) :
    Calls Try.prog 11 #[.slice A n c] w fun e w' => e = .returned (.bool (sigB xs)) ∧ Dr w w' := by
  have hl := hx.len
  by_cases h16 : n ≤ 16
  · have HS : Hid (sigB xs = xs.all finB) := by show _ = _; unfold sigB; simp [hl, h16]
    clear hl
    go_enter Try.func11, Try.ntmps11
    go_wp2_with fail
    refine (sAll A n c xs w hn hx).mono ?_
    rintro e w' ⟨rfl, m, rfl⟩
    go_wp2_with fail
    go_ret
    exact ⟨ret_bool HS.out.symm, _, rfl⟩
  · have HS : Hid (sigB xs = false) := by show _ = _; unfold sigB; simp [hl, h16]
    clear hl hx
    go_enter Try.func11, Try.ntmps11
    go_wp2_with fail
    go_ret
    exact ⟨ret_bool HS.out.symm, 0, rfl⟩
theorem RetI.empty {w w' : World} {c : Nat} {g : Nat} (ho : Ow w' w.heap.size 3 (.slice (some ⟨g, 0, none⟩) 0 c) 0 []) (h : Below w.heap.size w w') : RetI w none (.returned (.tuple #[.slice (some ⟨g, 0, none⟩) 0 c, .bool false])) w' := ⟨_, _, _, rfl, ho, h⟩

end Go.Proofs.Ytnomlkkhkacajaa
namespace Go.Proofs.Ytnomlkkhkacajaa
open Go.RowKit

/-- Two numbers of the same value. -/
def EqV (a b : C) : Prop := Fin Ieee.single a.1 ∧ Fin Ieee.single a.2 ∧ Fin Ieee.single b.1 ∧ Fin Ieee.single b.2 ∧ val Ieee.single a.1 = val Ieee.single b.1 ∧ val Ieee.single a.2 = val Ieee.single b.2
theorem EqV.refl {a : C} (h : finB a = true) : EqV a a := by
  obtain ⟨h1, h2⟩ := finB_iff.1 h
  exact ⟨h1, h2, h1, h2, rfl, rfl⟩
theorem mp_1500 : mp 1500 = 1069547520 := by decide +kernel
theorem mp_0 : mp 0 = 0 := by decide +kernel
theorem alive_true (w : World) : Calls Try.prog 7 #[] w fun e w' => e = .returned (.bool true) ∧ w' = w := by
  have h1 := milli_yes (a := 1500) (b := 0) (by decide) (by decide)
  rw [mp_1500, mp_0] at h1
  have HM : ∀ w, Calls Try.prog 12 #[.int .i64 1500, .int .i64 0] w fun e w' => e = .returned (.complex .f32 1069547520 0) ∧ w' = w := fun w => by rw [← h1]; exact iMilli 1500 0 w
  have HM' := Lib.hid HM
  clear HM h1
  go_enter Try.func7, Try.ntmps7
  go_wp2_with fail
  refine (HM'.out _).mono ?_
  rintro e w' ⟨rfl, rfl⟩
  have k1 : (FloatKind.f32.format.order 1069547520 1069547520 == some .eq) = true := by decide +kernel
  have k2 : (FloatKind.f32.format.order 0 0 == some .eq) = true := by decide +kernel
  go_wp2_with fail
  go_ret
  exact ⟨rfl, rfl⟩
end Go.Proofs.Ytnomlkkhkacajaa
namespace Go.Proofs.Ytnomlkkhkacajaa
open Go.RowKit

theorem RetC.empty {w w' : World} {c : Nat} {g : Nat} (ho : Ow w' w.heap.size 35 (.slice (some ⟨g, 0, none⟩) 0 c) 0 []) (h : Below w.heap.size w w') : RetC w [] false (.returned (.tuple #[.slice (some ⟨g, 0, none⟩) 0 c, .bool false])) w' := ⟨_, _, _, rfl, ho, h⟩
theorem take_snoc' {vs : List Value} {k : Nat} {u : Value} (h : vs[k]? = some u) : vs.take k ++ [u] = vs.take (k + 1) := by
  have hk : k < vs.length := (List.getElem?_eq_some_iff.1 h).1
  rw [List.getElem?_eq_getElem hk] at h
  injection h with h
  rw [List.take_succ_eq_append_getElem hk, h]

end Go.Proofs.Ytnomlkkhkacajaa
namespace Go.Proofs.Ytnomlkkhkacajaa
open Go.RowKit

theorem fromSteps_fin' (l : List Int) (step : Int) : ((fromSteps l step).getD []).all finB = true := by
  unfold fromSteps
  split
  · simp only [Option.getD_some]
    refine List.all_eq_true.2 fun z hz => ?_
    unfold fromSt at hz
    obtain ⟨i, _, rfl⟩ := List.mem_map.1 hz
    exact milli_fin _ _
  · rfl
theorem fromSteps_short' (l : List Int) (step : Int) : ((fromSteps l step).getD []).length ≤ 16 := by
  unfold fromSteps
  split
  · rename_i h
    simp only [Option.getD_some, fromSt_len]
    unfold stOk at h
    simp at h
    omega
  · simp
theorem stp_mul {x step : Int} (h1 : 1 ≤ step) : stp (x * step) step = x := by
  have h0 : step / 2 / step = 0 := Int.ediv_eq_zero_of_lt (by omega) (by omega)
  unfold stp
  split
  · rw [show -(x * step) + step / 2 = step / 2 + (-x) * step by rw [Int.neg_mul]; omega, Int.add_mul_ediv_right _ _ (by omega), h0]; omega
  · rw [show x * step + step / 2 = step / 2 + x * step by omega, Int.add_mul_ediv_right _ _ (by omega), h0]; omega
theorem tho_milli {a b : Int} (a1 : -9999999 ≤ a) (a2 : a ≤ 9999999) (b1 : -9999999 ≤ b) (b2 : b ≤ 9999999) : tho (milli a b) = some (a, b) := by
  have e : milli a b = (mp a, mp b) := by unfold milli; rw [show milB a = true from inB_true a1 a2, show milB b = true from inB_true b1 b2]; rfl
  rw [e]
  exact tho_ab (thou_some (mp_thou a1 a2)) (thou_some (mp_thou b1 b2))
theorem pairs_take (l : List Int) : ∀ m, 2 * m ≤ l.length → ((List.range m).flatMap fun i => [inth l (2 * i), inth l (2 * i + 1)]) = l.take (2 * m)
  | 0, _ => rfl
  | m + 1, h => by
    rw [List.range_succ, List.flatMap_append, pairs_take l m (by omega)]
    rw [show 2 * (m + 1) = (2 * m + 1) + 1 by omega, List.take_succ_eq_append_getElem (by omega), List.take_succ_eq_append_getElem (by omega)]
    rw [← inth_eq (show 2 * m < l.length by omega), ← inth_eq (show 2 * m + 1 < l.length by omega)]
    simp
theorem flat_congr {α β : Type} (f g : α → List β) (l : List α) (h : ∀ a ∈ l, f a = g a) : l.flatMap f = l.flatMap g := by
  induction l with
  | nil => rfl
  | cons a l ih => rw [List.flatMap_cons, List.flatMap_cons, h a (by simp), ih fun b hb => h b (by simp [hb])]
theorem back_steps {l : List Int} {step : Int} (h : stOk l step = true) : stepsOf (fromSt l step) step = some l := by
  have h' := h
  unfold stOk at h
  simp only [Bool.and_eq_true, decide_eq_true_eq] at h
  obtain ⟨⟨⟨h1, h2⟩, h3⟩, _⟩ := h
  obtain ⟨s1, s2⟩ := inB_iff.1 h1
  have hz : ∀ i, i < l.length / 2 → tho (milli (inth l (2 * i) * step) (inth l (2 * i + 1) * step)) = some (inth l (2 * i) * step, inth l (2 * i + 1) * step) := fun i hi => by
    obtain ⟨a1, a2⟩ := step_bd h' (i := 2 * i) (by omega)
    obtain ⟨b1, b2⟩ := step_bd h' (i := 2 * i + 1) (by omega)
    exact tho_milli a1 a2 b1 b2
  rw [stepsOf_yes]
  · congr 1
    unfold stepsL fromSt
    rw [List.flatMap_map]
    rw [flat_congr _ (fun i => [inth l (2 * i), inth l (2 * i + 1)]) _ fun i hi => ?_, pairs_take l _ (by omega), List.take_of_length_le (by omega)]
    have hi := List.mem_range.1 hi
    show pairS _ _ = _
    rw [pairS_eq (hz i hi), stp_mul s1, stp_mul s1]
  · unfold stepsOk
    have hf : (fromSt l step).all finB = true := List.all_eq_true.2 fun z hz => by
      unfold fromSt at hz
      obtain ⟨i, _, rfl⟩ := List.mem_map.1 hz
      exact milli_fin _ _
    have ht : ((fromSt l step).all fun z => (tho z).isSome) = true := List.all_eq_true.2 fun z hz' => by
      unfold fromSt at hz'
      obtain ⟨i, hi, rfl⟩ := List.mem_map.1 hz'
      rw [hz i (List.mem_range.1 hi)]; rfl
    unfold sigB
    rw [hf, ht, h1, fromSt_len]
    simp; omega
theorem from_sig {l : List Int} {step : Int} (h : stOk l step = true) : sigB (fromSt l step) = true := by
  have := back_steps h
  by_cases hs : stepsOk (fromSt l step) step = true
  · unfold stepsOk at hs
    simp only [Bool.and_eq_true] at hs
    exact hs.1.1
  · rw [stepsOf_no (by simpa using hs)] at this; cases this
end Go.Proofs.Ytnomlkkhkacajaa
