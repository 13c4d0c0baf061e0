/- Numbers to thousandths: the program's functions and the reference's. -/
import Derived.Test.YtemcdeopehdggaaDoorA4
import Derived.Test.YtemcdeopehdggaaDoorTho2
namespace Go.Proofs.YtemcdeopehdggaaDoor
open Go.RowKit

@[go_sem] theorem run_neg_float (P : Program) (w : World) (k : FloatKind) (x : Nat) : (Op.unary .neg (.float k x)).run P w = .ok (.float k (Op.negFloat k x)) w := by
  simp [Op.unary]
theorem ret_2 {a b : Value} {x y : Value} (h1 : a = x) (h2 : b = y) : Ending.returned (.tuple #[a, b]) = .returned (.tuple #[x, y]) := by rw [h1, h2]
/-- What a part says. -/
def tv (o : Option Int) : Value := .int .i64 (o.getD 0)

set_option maxHeartbeats 800000 in
theorem iThou {x : Nat} (h : Fin Ieee.single x) (w : World) : Calls Tryd.prog 96 #[.float .f32 x] w fun e w' => e = .returned (.tuple #[.int .i64 ((thou x).getD 0), .bool (thou x).isSome]) ∧ w' = w := by
  have q0 := fun w => run_convert_float_float (P := Tryd.prog) (w := w) 79 70 .f32 .f64 x (wide x) (by kernel_rfl) Tryd.underlying70 (conv_wide h)
  have hw := wide_spec h
  have o0 : (FloatKind.f64.format.order (wide x) 0 == some .lt) = decide (val Ieee.single x < 0) := by
    have := lt_iff hw.1 zero64.1
    rw [hw.2, zero64.2] at this; exact this
  have o3 : (FloatKind.f32.format.order x 0 == some .lt) = decide (val Ieee.single x < 0) := by
    have := lt_iff h zero32.1
    rw [zero32.2] at this; exact this
  by_cases hn : val Ieee.single x < 0
  · rw [decide_eq_true hn] at o0 o3
    have hg := neg_wide h
    obtain ⟨c, s, e1, e2, hc⟩ := thou_impl h hg.1 (by rw [hg.2]; unfold absR; rw [if_pos hn])
    have q1 := fun w => run_float_arith (P := Tryd.prog) w .mul 70 .f64 _ _ _ e1
    have q2 := fun w => run_float_arith (P := Tryd.prog) w .add 70 .f64 _ _ _ e2
    rcases hc with ⟨o1, o2, t, t0, t9, et, ht⟩ | ⟨o1, ht⟩
    · rw [if_pos hn] at ht
      rw [ht]
      have q4 := fun w => run_convert_float_int (P := Tryd.prog) (w := w) 70 3 .f64 .i64 s t (by kernel_rfl) Tryd.underlying3 et
      have e5 : IntKind.i64.wrap (-t) = -t := IntWalk.i64_in _ (by omega)
      clear e1 e2 hg hn h ht et hw
      go_enter Tryd.func96, Tryd.ntmps96
      go_wp2_with fail
      go_ret2
      exact ⟨rfl, rfl⟩
    · rw [ht]
      clear e1 e2 hg hn h ht hw o3
      go_enter Tryd.func96, Tryd.ntmps96
      go_wp2_with fail
      go_ret2
      exact ⟨rfl, rfl⟩
  · rw [decide_eq_false hn] at o0 o3
    obtain ⟨c, s, e1, e2, hc⟩ := thou_impl (y := wide x) h hw.1 (by show val Ieee.double (Ieee.double.write (Ieee.single.read x)) = _; rw [hw.2]; unfold absR; rw [if_neg hn])
    have q1 := fun w => run_float_arith (P := Tryd.prog) w .mul 70 .f64 _ _ _ e1
    have q2 := fun w => run_float_arith (P := Tryd.prog) w .add 70 .f64 _ _ _ e2
    rcases hc with ⟨o1, o2, t, t0, t9, et, ht⟩ | ⟨o1, ht⟩
    · rw [if_neg hn] at ht
      rw [ht]
      have q4 := fun w => run_convert_float_int (P := Tryd.prog) (w := w) 70 3 .f64 .i64 s t (by kernel_rfl) Tryd.underlying3 et
      clear e1 e2 hn h ht et hw
      go_enter Tryd.func96, Tryd.ntmps96
      go_wp2_with fail
      go_ret2
      exact ⟨rfl, rfl⟩
    · rw [ht]
      clear e1 e2 hn h ht hw o3
      go_enter Tryd.func96, Tryd.ntmps96
      go_wp2_with fail
      go_ret2
      exact ⟨rfl, rfl⟩

/-- Whether a part is small. -/
def smallP (x : Nat) : Prop := absR (val Ieee.single x) < 20000
theorem k20s : Fin Ieee.single 1184645120 ∧ val Ieee.single 1184645120 = 20000 := by
  have h := narrow_whl (int_whl (n := 20000) (by decide)) (by decide)
  rw [show narrow (floatOfInt .f64 20000) = 1184645120 by decide] at h
  exact ⟨h.1, h.2⟩
theorem k20n : Fin Ieee.single 3332128768 ∧ val Ieee.single 3332128768 = -20000 := by
  have h := narrow_whl (int_whl (n := -20000) (by decide)) (by decide)
  rw [show narrow (floatOfInt .f64 (-20000)) = 3332128768 by decide] at h
  exact ⟨h.1, h.2⟩
theorem absR_lt_iff {q b : Rat} : absR q < b ↔ -b < q ∧ q < b := by unfold absR; split <;> constructor <;> grind
theorem sSmall {x : Nat} (h : Fin Ieee.single x) (w : World) : Calls Tryd.prog 60 #[.float .f32 x] w fun e w' => e = .returned (.bool (decide (absR (val Ieee.single x) < 20000))) ∧ w' = w := by
  have o1 : (FloatKind.f32.format.order x 3332128768 == some .gt) = decide (-20000 < val Ieee.single x) := by
    have := gt_iff h k20n.1
    rw [k20n.2] at this; exact this
  have o2 : (FloatKind.f32.format.order x 1184645120 == some .lt) = decide (val Ieee.single x < 20000) := by
    have := lt_iff h k20s.1
    rw [k20s.2] at this; exact this
  by_cases h1 : -20000 < val Ieee.single x
  · by_cases h2 : val Ieee.single x < 20000
    · rw [decide_eq_true (absR_lt_iff.2 ⟨h1, h2⟩)]
      rw [decide_eq_true h1] at o1
      rw [decide_eq_true h2] at o2
      clear h h1 h2
      go_enter Tryd.func60, Tryd.ntmps60
      go_wp2_with fail
      go_ret
      exact ⟨rfl, rfl⟩
    · rw [decide_eq_false (fun h => h2 (absR_lt_iff.1 h).2)]
      rw [decide_eq_true h1] at o1
      rw [decide_eq_false h2] at o2
      clear h h1 h2
      go_enter Tryd.func60, Tryd.ntmps60
      go_wp2_with fail
      go_ret
      exact ⟨rfl, rfl⟩
  · rw [decide_eq_false (fun h => h1 (absR_lt_iff.1 h).1)]
    rw [decide_eq_false h1] at o1
    clear h h1 o2
    go_enter Tryd.func60, Tryd.ntmps60
    go_wp2_with fail
    go_ret
    exact ⟨rfl, rfl⟩
set_option maxHeartbeats 800000 in
theorem sRound {x : Nat} (h : Fin Ieee.single x) (hs : absR (val Ieee.single x) < 20000) (w : World) : Calls Tryd.prog 61 #[.float .f32 x] w fun e w' => (∃ r, e = .returned (.int .i64 r) ∧ Says x r) ∧ w' = w := by
  have q0 := fun w => run_convert_float_float (P := Tryd.prog) (w := w) 79 70 .f32 .f64 x (wide x) (by kernel_rfl) Tryd.underlying70 (conv_wide h)
  obtain ⟨c, e1, hc⟩ := thou_spec h hs
  have q1 := fun w => run_float_arith (P := Tryd.prog) w .mul 70 .f64 _ _ _ e1
  rcases hc with ⟨o1, s, t, e2, et, t0, t3, hS⟩ | ⟨o1, s, t, e2, et, t0, t3, hS⟩
  · have q2 := fun w => run_float_arith (P := Tryd.prog) w .add 70 .f64 _ _ _ e2
    have q4 := fun w => run_convert_float_int (P := Tryd.prog) (w := w) 70 3 .f64 .i64 s t (by kernel_rfl) Tryd.underlying3 et
    have e5 : IntKind.i64.wrap (-t) = -t := IntWalk.i64_in _ (by omega)
    have HS := Lib.hid hS
    clear e1 e2 hS hs h et
    go_enter Tryd.func61, Tryd.ntmps61
    go_wp2_with fail
    go_ret
    exact ⟨⟨_, rfl, HS.out⟩, rfl⟩
  · have q2 := fun w => run_float_arith (P := Tryd.prog) w .add 70 .f64 _ _ _ e2
    have q4 := fun w => run_convert_float_int (P := Tryd.prog) (w := w) 70 3 .f64 .i64 s t (by kernel_rfl) Tryd.underlying3 et
    have HS := Lib.hid hS
    clear e1 e2 hS hs h et
    go_enter Tryd.func61, Tryd.ntmps61
    go_wp2_with fail
    go_ret
    exact ⟨⟨_, rfl, HS.out⟩, rfl⟩

/-- What a number says. -/
noncomputable def tho (z : C) : Option (Int × Int) := match thou z.1, thou z.2 with
  | some a, some b => some (a, b)
  | _, _ => none
theorem tho_not {z : C} (h : finB z = false) : tho z = none := by
  unfold tho
  cases h1 : thou z.1 with
  | none => rfl
  | some a =>
    cases h2 : thou z.2 with
    | none => rfl
    | some b => exact absurd (finB_iff.2 ⟨(thou_is h1).1, (thou_is h2).1⟩) (by rw [h]; decide)
theorem says_lo {x : Nat} {r : Int} (h : Says x r) (h1 : inB r (-9999999) 9999999 = true) : thou x = some r := h.1 (inB_iff.1 h1)
theorem says_hi {x : Nat} {r : Int} (h : Says x r) (h1 : inB r (-9999999) 9999999 = false) : thou x = none := h.2 (inB_false_iff.1 h1)
def RetT (w : World) (o : Option (Int × Int)) (e : Ending) (w' : World) : Prop :=
  e = .returned (.tuple #[.int .i64 (o.getD (0, 0)).1, .int .i64 (o.getD (0, 0)).2, .bool o.isSome]) ∧ Dr w w'
set_option maxHeartbeats 800000 in
theorem iMilliOf (z : C) (w : World) : Calls Tryd.prog 85 #[cv z] w (RetT w (tho z)) := by
  by_cases hf : finB z = true
  · obtain ⟨h1, h2⟩ := finB_iff.1 hf
    have H1 := Lib.hid h1
    have H2 := Lib.hid h2
    clear h1 h2
    cases ht : thou z.1 with
    | none =>
      have HT : Hid (tho z = none) := by show _ = _; unfold tho; rw [ht]
      have HA := Lib.hid ht
      clear ht
      obtain ⟨x, y⟩ := z
      unfold cv
      go_enter Tryd.func85, Tryd.ntmps85
      go_wp2_with fail
      refine (iFinite (x, y) _).mono ?_
      rintro e w' ⟨rfl, m, rfl⟩
      go_wp2_with fail
      refine (iThou H1.out _).mono ?_
      rw [HA.out]
      rintro e w' ⟨rfl, rfl⟩
      go_wp2_with fail
      refine (iThou H2.out _).mono ?_
      rintro e w' ⟨rfl, rfl⟩
      go_wp2_with fail
      go_ret3
      unfold RetT
      rw [HT.out]
      exact ⟨rfl, _, rfl⟩
    | some a =>
      cases ht2 : thou z.2 with
      | none =>
        have HT : Hid (tho z = none) := by show _ = _; unfold tho; rw [ht, ht2]
        have HA := Lib.hid ht
        have HB := Lib.hid ht2
        clear ht ht2
        obtain ⟨x, y⟩ := z
        unfold cv
        go_enter Tryd.func85, Tryd.ntmps85
        go_wp2_with fail
        refine (iFinite (x, y) _).mono ?_
        rintro e w' ⟨rfl, m, rfl⟩
        go_wp2_with fail
        refine (iThou H1.out _).mono ?_
        rw [HA.out]
        rintro e w' ⟨rfl, rfl⟩
        go_wp2_with fail
        refine (iThou H2.out _).mono ?_
        rw [HB.out]
        rintro e w' ⟨rfl, rfl⟩
        go_wp2_with fail
        go_ret3
        unfold RetT
        rw [HT.out]
        exact ⟨rfl, _, rfl⟩
      | some b =>
        have HT : Hid (tho z = some (a, b)) := by show _ = _; unfold tho; rw [ht, ht2]
        have HA := Lib.hid ht
        have HB := Lib.hid ht2
        clear ht ht2
        obtain ⟨x, y⟩ := z
        unfold cv
        go_enter Tryd.func85, Tryd.ntmps85
        go_wp2_with fail
        refine (iFinite (x, y) _).mono ?_
        rintro e w' ⟨rfl, m, rfl⟩
        go_wp2_with fail
        refine (iThou H1.out _).mono ?_
        rw [HA.out]
        rintro e w' ⟨rfl, rfl⟩
        go_wp2_with fail
        refine (iThou H2.out _).mono ?_
        rw [HB.out]
        rintro e w' ⟨rfl, rfl⟩
        go_wp2_with fail
        go_ret3
        unfold RetT
        rw [HT.out]
        exact ⟨rfl, _, rfl⟩
  · have hf' : finB z = false := by simpa using hf
    have HT := Lib.hid (tho_not hf')
    clear hf
    obtain ⟨x, y⟩ := z
    unfold cv
    go_enter Tryd.func85, Tryd.ntmps85
    go_wp2_with fail
    refine (iFinite (x, y) _).mono ?_
    rintro e w' ⟨rfl, m, rfl⟩
    go_wp2_with fail
    go_ret3
    unfold RetT
    rw [HT.out]
    exact ⟨rfl, _, rfl⟩

theorem not_small {x : Nat} (h : (decide (absR (val Ieee.single x) < 20000)) = false) : thou x = none := thou_far (by have := of_decide_eq_false h; grind)
theorem tho_a {z : C} (h : thou z.1 = none) : tho z = none := by unfold tho; rw [h]
theorem tho_b {z : C} (h : thou z.2 = none) : tho z = none := by unfold tho; cases thou z.1 <;> simp [h]
theorem tho_ab {z : C} {a b : Int} (h : thou z.1 = some a) (h2 : thou z.2 = some b) : tho z = some (a, b) := by unfold tho; rw [h, h2]
theorem retT_no {w w' : World} {z : C} (h : tho z = none) (hd : Dr w w') : RetT w (tho z) (.returned (.tuple #[.int .i64 0, .int .i64 0, .bool false])) w' := by rw [h]; exact ⟨rfl, hd⟩
set_option maxHeartbeats 1600000 in
theorem sMilliOf (z : C) (w : World) : Calls Tryd.prog 22 #[cv z] w (RetT w (tho z)) := by
  by_cases hf : finB z = true
  · obtain ⟨h1, h2⟩ := finB_iff.1 hf
    have H1 := Lib.hid h1
    have H2 := Lib.hid h2
    clear h1 h2
    by_cases s1 : decide (absR (val Ieee.single z.1) < 20000) = true
    · by_cases s2 : decide (absR (val Ieee.single z.2) < 20000) = true
      · have S1 := Lib.hid s1
        have S2 := Lib.hid s2
        have S1' := Lib.hid (of_decide_eq_true s1)
        have S2' := Lib.hid (of_decide_eq_true s2)
        clear s1 s2
        obtain ⟨x, y⟩ := z
        unfold cv
        go_enter Tryd.func22, Tryd.ntmps22
        go_wp2_with fail
        refine (sFinite (x, y) _).mono ?_
        rintro e w' ⟨rfl, m, rfl⟩
        rw [hf]
        go_wp2_with fail
        refine (sSmall H1.out _).mono ?_
        rw [S1.out]
        rintro e w' ⟨rfl, rfl⟩
        go_wp2_with fail
        refine (sSmall H2.out _).mono ?_
        rw [S2.out]
        rintro e w' ⟨rfl, rfl⟩
        go_wp2_with fail
        refine (sRound H1.out S1'.out _).mono ?_
        rintro e w' ⟨⟨r, rfl, hr⟩, rfl⟩
        have HR := Lib.hid hr
        clear hr
        go_wp2_with fail
        refine (sRound H2.out S2'.out _).mono ?_
        rintro e w' ⟨⟨q, rfl, hq⟩, rfl⟩
        have HQ := Lib.hid hq
        clear hq
        by_cases b1 : inB r (-9999999) 9999999 = true
        · by_cases b2 : inB q (-9999999) 9999999 = true
          · have HT : Hid (tho (x, y) = some (r, q)) := tho_ab (says_lo HR.out b1) (says_lo HQ.out b2)
            go_wp2_with fail
            refine (l1In_any _ _ _ _).mono ?_
            rintro e w' ⟨rfl, rfl⟩
            go_wp2_with fail
            refine (l1In_any _ _ _ _).mono ?_
            rintro e w' ⟨rfl, rfl⟩
            go_wp2_with fail
            go_ret3
            rw [HT.out]
            exact ⟨rfl, _, rfl⟩
          · have b2' : inB q (-9999999) 9999999 = false := by simpa using b2
            have HT : Hid (tho (x, y) = none) := tho_b (says_hi HQ.out b2')
            clear b2
            go_wp2_with fail
            refine (l1In_any _ _ _ _).mono ?_
            rintro e w' ⟨rfl, rfl⟩
            go_wp2_with fail
            refine (l1In_any _ _ _ _).mono ?_
            rintro e w' ⟨rfl, rfl⟩
            go_wp2_with fail
            go_ret3
            exact retT_no HT.out ⟨_, rfl⟩
        · have b1' : inB r (-9999999) 9999999 = false := by simpa using b1
          have HT : Hid (tho (x, y) = none) := tho_a (says_hi HR.out b1')
          clear b1
          go_wp2_with fail
          refine (l1In_any _ _ _ _).mono ?_
          rintro e w' ⟨rfl, rfl⟩
          go_wp2_with fail
          go_ret3
          exact retT_no HT.out ⟨_, rfl⟩
      · have s2' : decide (absR (val Ieee.single z.2) < 20000) = false := by simpa using s2
        have HT := Lib.hid (tho_b (not_small s2'))
        have S1 := Lib.hid s1
        have S2 := Lib.hid s2'
        clear s1 s2 s2'
        obtain ⟨x, y⟩ := z
        unfold cv
        go_enter Tryd.func22, Tryd.ntmps22
        go_wp2_with fail
        refine (sFinite (x, y) _).mono ?_
        rintro e w' ⟨rfl, m, rfl⟩
        rw [hf]
        go_wp2_with fail
        refine (sSmall H1.out _).mono ?_
        rw [S1.out]
        rintro e w' ⟨rfl, rfl⟩
        go_wp2_with fail
        refine (sSmall H2.out _).mono ?_
        rw [S2.out]
        rintro e w' ⟨rfl, rfl⟩
        go_wp2_with fail
        go_ret3
        exact retT_no HT.out ⟨_, rfl⟩
    · have s1' : decide (absR (val Ieee.single z.1) < 20000) = false := by simpa using s1
      have HT := Lib.hid (tho_a (not_small s1'))
      have S1 := Lib.hid s1'
      clear s1 s1'
      obtain ⟨x, y⟩ := z
      unfold cv
      go_enter Tryd.func22, Tryd.ntmps22
      go_wp2_with fail
      refine (sFinite (x, y) _).mono ?_
      rintro e w' ⟨rfl, m, rfl⟩
      rw [hf]
      go_wp2_with fail
      refine (sSmall H1.out _).mono ?_
      rw [S1.out]
      rintro e w' ⟨rfl, rfl⟩
      go_wp2_with fail
      go_ret3
      exact retT_no HT.out ⟨_, rfl⟩
  · have hf' : finB z = false := by simpa using hf
    have HT := Lib.hid (tho_not hf')
    clear hf
    obtain ⟨x, y⟩ := z
    unfold cv
    go_enter Tryd.func22, Tryd.ntmps22
    go_wp2_with fail
    refine (sFinite (x, y) _).mono ?_
    rintro e w' ⟨rfl, m, rfl⟩
    rw [hf']
    go_wp2_with fail
    go_ret3
    exact retT_no HT.out ⟨_, rfl⟩

/-- So many steps. -/
def stp (n step : Int) : Int := if n < 0 then -((-n + step / 2) / step) else (n + step / 2) / step
theorem tdiv_pos {a b : Int} (h : 0 ≤ a) : a.tdiv b = a / b := Int.tdiv_eq_ediv_of_nonneg h
theorem stp_bd {n step : Int} (h0 : 0 ≤ n) (h1 : n ≤ 9999999) (h2 : 1 ≤ step) (h3 : step ≤ 10000) : 0 ≤ (n + step / 2) / step ∧ (n + step / 2) / step ≤ 20000000 :=
  ⟨Int.ediv_nonneg (by omega) (by omega), Int.le_trans (Int.ediv_le_self _ (by omega)) (by omega)⟩
end Go.Proofs.YtemcdeopehdggaaDoor
