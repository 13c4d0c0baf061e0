/- Texts on the way to a law (B1, D1, B2, B3, B4, A5, P1, N1), each with its own remark. -/
import Derived.Test.YtnomlkkhkacajaaGreatDoorPC03
import Derived.Deep.RegionLaw
namespace Go.Proofs.YtnomlkkhkacajaaGreatDoor
open Go.RowKit

@[go_sem] theorem run_neg_float (P : Program) (w : World) (k : FloatKind) (x : Nat) : (Op.unary .neg (.float k x)).run P w = .ok (.float k (Op.negFloat k x)) w := by
  simp [Op.unary]
set_option maxHeartbeats 800000 in
theorem iThou {x : Nat} (h : Fin Ieee.single x) (w : World) : Calls Tryz.prog 149 #[.float .f32 x] w fun e w' => e = .returned (.tuple #[.int .i64 ((thou x).getD 0), .bool (thou x).isSome]) ∧ w' = w := by
  have q0 := fun w => run_convert_float_float (P := Tryz.prog) (w := w) 131 120 .f32 .f64 x (wide x) (by kernel_rfl) Tryz.underlying120 (conv_wide h)
  have hw := wide_spec h
  have o0 : (FloatKind.f64.format.order (wide x) 0 == some .lt) = decide (val Ieee.single x < 0) := by
    have := lt_iff hw.1 zero64.1
    rw [hw.2, zero64.2] at this; exact this
  have o3 : (FloatKind.f32.format.order x 0 == some .lt) = decide (val Ieee.single x < 0) := by
    have := lt_iff h zero32.1
    rw [zero32.2] at this; exact this
  by_cases hn : val Ieee.single x < 0
  · rw [decide_eq_true hn] at o0 o3
    have hg := neg_wide h
    obtain ⟨c, s, e1, e2, hc⟩ := thou_impl h hg.1 (by rw [hg.2]; unfold absR; rw [if_pos hn])
    have q1 := fun w => run_float_arith (P := Tryz.prog) w .mul 120 .f64 _ _ _ e1
    have q2 := fun w => run_float_arith (P := Tryz.prog) w .add 120 .f64 _ _ _ e2
    rcases hc with ⟨o1, o2, t, t0, t9, et, ht⟩ | ⟨o1, ht⟩
    · rw [if_pos hn] at ht
      rw [ht]
      have q4 := fun w => run_convert_float_int (P := Tryz.prog) (w := w) 120 3 .f64 .i64 s t (by kernel_rfl) Tryz.underlying3 et
      have e5 : IntKind.i64.wrap (-t) = -t := IntWalk.i64_in _ (by omega)
      clear e1 e2 hg hn h ht et hw
      go_enter Tryz.func149, Tryz.ntmps149
      go_wp2_with fail
      go_ret2
      exact ⟨rfl, rfl⟩
    · rw [ht]
      clear e1 e2 hg hn h ht hw o3
      go_enter Tryz.func149, Tryz.ntmps149
      go_wp2_with fail
      go_ret2
      exact ⟨rfl, rfl⟩
  · rw [decide_eq_false hn] at o0 o3
    obtain ⟨c, s, e1, e2, hc⟩ := thou_impl (y := wide x) h hw.1 (by show val Ieee.double (Ieee.double.write (Ieee.single.read x)) = _; rw [hw.2]; unfold absR; rw [if_neg hn])
    have q1 := fun w => run_float_arith (P := Tryz.prog) w .mul 120 .f64 _ _ _ e1
    have q2 := fun w => run_float_arith (P := Tryz.prog) w .add 120 .f64 _ _ _ e2
    rcases hc with ⟨o1, o2, t, t0, t9, et, ht⟩ | ⟨o1, ht⟩
    · rw [if_neg hn] at ht
      rw [ht]
      have q4 := fun w => run_convert_float_int (P := Tryz.prog) (w := w) 120 3 .f64 .i64 s t (by kernel_rfl) Tryz.underlying3 et
      clear e1 e2 hn h ht et hw
      go_enter Tryz.func149, Tryz.ntmps149
      go_wp2_with fail
      go_ret2
      exact ⟨rfl, rfl⟩
    · rw [ht]
      clear e1 e2 hn h ht hw o3
      go_enter Tryz.func149, Tryz.ntmps149
      go_wp2_with fail
      go_ret2
      exact ⟨rfl, rfl⟩

theorem k20s : Fin Ieee.single 1184645120 ∧ val Ieee.single 1184645120 = 20000 := by
  have h := narrow_whl (int_whl (n := 20000) (by decide)) (by decide)
  rw [show narrow (floatOfInt .f64 20000) = 1184645120 by decide] at h
  exact ⟨h.1, h.2⟩
theorem k20n : Fin Ieee.single 3332128768 ∧ val Ieee.single 3332128768 = -20000 := by
  have h := narrow_whl (int_whl (n := -20000) (by decide)) (by decide)
  rw [show narrow (floatOfInt .f64 (-20000)) = 3332128768 by decide] at h
  exact ⟨h.1, h.2⟩
theorem absR_lt_iff {q b : Rat} : absR q < b ↔ -b < q ∧ q < b := by unfold absR; split <;> constructor <;> grind
theorem sSmall {x : Nat} (h : Fin Ieee.single x) (w : World) : Calls Tryz.prog 131 #[.float .f32 x] w fun e w' => e = .returned (.bool (decide (absR (val Ieee.single x) < 20000))) ∧ w' = w := by
  have o1 : (FloatKind.f32.format.order x 3332128768 == some .gt) = decide (-20000 < val Ieee.single x) := by
    have := gt_iff h k20n.1
    rw [k20n.2] at this; exact this
  have o2 : (FloatKind.f32.format.order x 1184645120 == some .lt) = decide (val Ieee.single x < 20000) := by
    have := lt_iff h k20s.1
    rw [k20s.2] at this; exact this
  by_cases h1 : -20000 < val Ieee.single x
  · by_cases h2 : val Ieee.single x < 20000
    · rw [decide_eq_true (absR_lt_iff.2 ⟨h1, h2⟩)]
      rw [decide_eq_true h1] at o1
      rw [decide_eq_true h2] at o2
      clear h h1 h2
      go_enter Tryz.func131, Tryz.ntmps131
      go_wp2_with fail
      go_ret
      exact ⟨rfl, rfl⟩
    · rw [decide_eq_false (fun h => h2 (absR_lt_iff.1 h).2)]
      rw [decide_eq_true h1] at o1
      rw [decide_eq_false h2] at o2
      clear h h1 h2
      go_enter Tryz.func131, Tryz.ntmps131
      go_wp2_with fail
      go_ret
      exact ⟨rfl, rfl⟩
  · rw [decide_eq_false (fun h => h1 (absR_lt_iff.1 h).1)]
    rw [decide_eq_false h1] at o1
    clear h h1 o2
    go_enter Tryz.func131, Tryz.ntmps131
    go_wp2_with fail
    go_ret
    exact ⟨rfl, rfl⟩
set_option maxHeartbeats 800000 in
theorem sRound {x : Nat} (h : Fin Ieee.single x) (hs : absR (val Ieee.single x) < 20000) (w : World) : Calls Tryz.prog 132 #[.float .f32 x] w fun e w' => (∃ r, e = .returned (.int .i64 r) ∧ Says x r) ∧ w' = w := by
  have q0 := fun w => run_convert_float_float (P := Tryz.prog) (w := w) 131 120 .f32 .f64 x (wide x) (by kernel_rfl) Tryz.underlying120 (conv_wide h)
  obtain ⟨c, e1, hc⟩ := thou_spec h hs
  have q1 := fun w => run_float_arith (P := Tryz.prog) w .mul 120 .f64 _ _ _ e1
  rcases hc with ⟨o1, s, t, e2, et, t0, t3, hS⟩ | ⟨o1, s, t, e2, et, t0, t3, hS⟩
  · have q2 := fun w => run_float_arith (P := Tryz.prog) w .add 120 .f64 _ _ _ e2
    have q4 := fun w => run_convert_float_int (P := Tryz.prog) (w := w) 120 3 .f64 .i64 s t (by kernel_rfl) Tryz.underlying3 et
    have e5 : IntKind.i64.wrap (-t) = -t := IntWalk.i64_in _ (by omega)
    have HS := Lib.hid hS
    clear e1 e2 hS hs h et
    go_enter Tryz.func132, Tryz.ntmps132
    go_wp2_with fail
    go_ret
    exact ⟨⟨_, rfl, HS.out⟩, rfl⟩
  · have q2 := fun w => run_float_arith (P := Tryz.prog) w .add 120 .f64 _ _ _ e2
    have q4 := fun w => run_convert_float_int (P := Tryz.prog) (w := w) 120 3 .f64 .i64 s t (by kernel_rfl) Tryz.underlying3 et
    have HS := Lib.hid hS
    clear e1 e2 hS hs h et
    go_enter Tryz.func132, Tryz.ntmps132
    go_wp2_with fail
    go_ret
    exact ⟨⟨_, rfl, HS.out⟩, rfl⟩

/-- What a number says. -/
noncomputable def tho (z : C) : Option (Int × Int) := match thou z.1, thou z.2 with
  | some a, some b => some (a, b)
  | _, _ => none
theorem tho_not {z : C} (h : finB z = false) : tho z = none := by
  unfold tho
  cases h1 : thou z.1 with
  | none => rfl
  | some a =>
    cases h2 : thou z.2 with
    | none => rfl
    | some b => exact absurd (finB_iff.2 ⟨(thou_is h1).1, (thou_is h2).1⟩) (by rw [h]; decide)
theorem says_lo {x : Nat} {r : Int} (h : Says x r) (h1 : inB r (-9999999) 9999999 = true) : thou x = some r := h.1 (inB_iff.1 h1)
theorem says_hi {x : Nat} {r : Int} (h : Says x r) (h1 : inB r (-9999999) 9999999 = false) : thou x = none := h.2 (inB_false_iff.1 h1)
def RetT (w : World) (o : Option (Int × Int)) (e : Ending) (w' : World) : Prop :=
  e = .returned (.tuple #[.int .i64 (o.getD (0, 0)).1, .int .i64 (o.getD (0, 0)).2, .bool o.isSome]) ∧ Dr w w'
set_option maxHeartbeats 800000 in
theorem iMilliOf (z : C) (w : World) : Calls Tryz.prog 127 #[cv z] w (RetT w (tho z)) := by
  by_cases hf : finB z = true
  · obtain ⟨h1, h2⟩ := finB_iff.1 hf
    have H1 := Lib.hid h1
    have H2 := Lib.hid h2
    clear h1 h2
    cases ht : thou z.1 with
    | none =>
      have HT : Hid (tho z = none) := by show _ = _; unfold tho; rw [ht]
      have HA := Lib.hid ht
      clear ht
      obtain ⟨x, y⟩ := z
      unfold cv
      go_enter Tryz.func127, Tryz.ntmps127
      go_wp2_with fail
      refine (iFinite (x, y) _).mono ?_
      rintro e w' ⟨rfl, m, rfl⟩
      go_wp2_with fail
      refine (iThou H1.out _).mono ?_
      rw [HA.out]
      rintro e w' ⟨rfl, rfl⟩
      go_wp2_with fail
      refine (iThou H2.out _).mono ?_
      rintro e w' ⟨rfl, rfl⟩
      go_wp2_with fail
      go_ret3
      unfold RetT
      rw [HT.out]
      exact ⟨rfl, _, rfl⟩
    | some a =>
      cases ht2 : thou z.2 with
      | none =>
        have HT : Hid (tho z = none) := by show _ = _; unfold tho; rw [ht, ht2]
        have HA := Lib.hid ht
        have HB := Lib.hid ht2
        clear ht ht2
        obtain ⟨x, y⟩ := z
        unfold cv
        go_enter Tryz.func127, Tryz.ntmps127
        go_wp2_with fail
        refine (iFinite (x, y) _).mono ?_
        rintro e w' ⟨rfl, m, rfl⟩
        go_wp2_with fail
        refine (iThou H1.out _).mono ?_
        rw [HA.out]
        rintro e w' ⟨rfl, rfl⟩
        go_wp2_with fail
        refine (iThou H2.out _).mono ?_
        rw [HB.out]
        rintro e w' ⟨rfl, rfl⟩
        go_wp2_with fail
        go_ret3
        unfold RetT
        rw [HT.out]
        exact ⟨rfl, _, rfl⟩
      | some b =>
        have HT : Hid (tho z = some (a, b)) := by show _ = _; unfold tho; rw [ht, ht2]
        have HA := Lib.hid ht
        have HB := Lib.hid ht2
        clear ht ht2
        obtain ⟨x, y⟩ := z
        unfold cv
        go_enter Tryz.func127, Tryz.ntmps127
        go_wp2_with fail
        refine (iFinite (x, y) _).mono ?_
        rintro e w' ⟨rfl, m, rfl⟩
        go_wp2_with fail
        refine (iThou H1.out _).mono ?_
        rw [HA.out]
        rintro e w' ⟨rfl, rfl⟩
        go_wp2_with fail
        refine (iThou H2.out _).mono ?_
        rw [HB.out]
        rintro e w' ⟨rfl, rfl⟩
        go_wp2_with fail
        go_ret3
        unfold RetT
        rw [HT.out]
        exact ⟨rfl, _, rfl⟩
  · have hf' : finB z = false := by simpa using hf
    have HT := Lib.hid (tho_not hf')
    clear hf
    obtain ⟨x, y⟩ := z
    unfold cv
    go_enter Tryz.func127, Tryz.ntmps127
    go_wp2_with fail
    refine (iFinite (x, y) _).mono ?_
    rintro e w' ⟨rfl, m, rfl⟩
    go_wp2_with fail
    go_ret3
    unfold RetT
    rw [HT.out]
    exact ⟨rfl, _, rfl⟩

theorem not_small {x : Nat} (h : (decide (absR (val Ieee.single x) < 20000)) = false) : thou x = none := thou_far (by have := of_decide_eq_false h; grind)
theorem tho_a {z : C} (h : thou z.1 = none) : tho z = none := by unfold tho; rw [h]
theorem tho_b {z : C} (h : thou z.2 = none) : tho z = none := by unfold tho; cases thou z.1 <;> simp [h]
theorem tho_ab {z : C} {a b : Int} (h : thou z.1 = some a) (h2 : thou z.2 = some b) : tho z = some (a, b) := by unfold tho; rw [h, h2]
theorem retT_no {w w' : World} {z : C} (h : tho z = none) (hd : Dr w w') : RetT w (tho z) (.returned (.tuple #[.int .i64 0, .int .i64 0, .bool false])) w' := by rw [h]; exact ⟨rfl, hd⟩
set_option maxHeartbeats 1600000 in
theorem sMilliOf (z : C) (w : World) : Calls Tryz.prog 103 #[cv z] w (RetT w (tho z)) := by
  by_cases hf : finB z = true
  · obtain ⟨h1, h2⟩ := finB_iff.1 hf
    have H1 := Lib.hid h1
    have H2 := Lib.hid h2
    clear h1 h2
    by_cases s1 : decide (absR (val Ieee.single z.1) < 20000) = true
    · by_cases s2 : decide (absR (val Ieee.single z.2) < 20000) = true
      · have S1 := Lib.hid s1
        have S2 := Lib.hid s2
        have S1' := Lib.hid (of_decide_eq_true s1)
        have S2' := Lib.hid (of_decide_eq_true s2)
        clear s1 s2
        obtain ⟨x, y⟩ := z
        unfold cv
        go_enter Tryz.func103, Tryz.ntmps103
        go_wp2_with fail
        refine (sFinite (x, y) _).mono ?_
        rintro e w' ⟨rfl, m, rfl⟩
        rw [hf]
        go_wp2_with fail
        refine (sSmall H1.out _).mono ?_
        rw [S1.out]
        rintro e w' ⟨rfl, rfl⟩
        go_wp2_with fail
        refine (sSmall H2.out _).mono ?_
        rw [S2.out]
        rintro e w' ⟨rfl, rfl⟩
        go_wp2_with fail
        refine (sRound H1.out S1'.out _).mono ?_
        rintro e w' ⟨⟨r, rfl, hr⟩, rfl⟩
        have HR := Lib.hid hr
        clear hr
        go_wp2_with fail
        refine (sRound H2.out S2'.out _).mono ?_
        rintro e w' ⟨⟨q, rfl, hq⟩, rfl⟩
        have HQ := Lib.hid hq
        clear hq
        by_cases b1 : inB r (-9999999) 9999999 = true
        · by_cases b2 : inB q (-9999999) 9999999 = true
          · have HT : Hid (tho (x, y) = some (r, q)) := tho_ab (says_lo HR.out b1) (says_lo HQ.out b2)
            go_wp2_with fail
            refine (l1In_any _ _ _ _).mono ?_
            rintro e w' ⟨rfl, rfl⟩
            go_wp2_with fail
            refine (l1In_any _ _ _ _).mono ?_
            rintro e w' ⟨rfl, rfl⟩
            go_wp2_with fail
            go_ret3
            rw [HT.out]
            exact ⟨rfl, _, rfl⟩
          · have b2' : inB q (-9999999) 9999999 = false := by simpa using b2
            have HT : Hid (tho (x, y) = none) := tho_b (says_hi HQ.out b2')
            clear b2
            go_wp2_with fail
            refine (l1In_any _ _ _ _).mono ?_
            rintro e w' ⟨rfl, rfl⟩
            go_wp2_with fail
            refine (l1In_any _ _ _ _).mono ?_
            rintro e w' ⟨rfl, rfl⟩
            go_wp2_with fail
            go_ret3
            exact retT_no HT.out ⟨_, rfl⟩
        · have b1' : inB r (-9999999) 9999999 = false := by simpa using b1
          have HT : Hid (tho (x, y) = none) := tho_a (says_hi HR.out b1')
          clear b1
          go_wp2_with fail
          refine (l1In_any _ _ _ _).mono ?_
          rintro e w' ⟨rfl, rfl⟩
          go_wp2_with fail
          go_ret3
          exact retT_no HT.out ⟨_, rfl⟩
      · have s2' : decide (absR (val Ieee.single z.2) < 20000) = false := by simpa using s2
        have HT := Lib.hid (tho_b (not_small s2'))
        have S1 := Lib.hid s1
        have S2 := Lib.hid s2'
        clear s1 s2 s2'
        obtain ⟨x, y⟩ := z
        unfold cv
        go_enter Tryz.func103, Tryz.ntmps103
        go_wp2_with fail
        refine (sFinite (x, y) _).mono ?_
        rintro e w' ⟨rfl, m, rfl⟩
        rw [hf]
        go_wp2_with fail
        refine (sSmall H1.out _).mono ?_
        rw [S1.out]
        rintro e w' ⟨rfl, rfl⟩
        go_wp2_with fail
        refine (sSmall H2.out _).mono ?_
        rw [S2.out]
        rintro e w' ⟨rfl, rfl⟩
        go_wp2_with fail
        go_ret3
        exact retT_no HT.out ⟨_, rfl⟩
    · have s1' : decide (absR (val Ieee.single z.1) < 20000) = false := by simpa using s1
      have HT := Lib.hid (tho_a (not_small s1'))
      have S1 := Lib.hid s1'
      clear s1 s1'
      obtain ⟨x, y⟩ := z
      unfold cv
      go_enter Tryz.func103, Tryz.ntmps103
      go_wp2_with fail
      refine (sFinite (x, y) _).mono ?_
      rintro e w' ⟨rfl, m, rfl⟩
      rw [hf]
      go_wp2_with fail
      refine (sSmall H1.out _).mono ?_
      rw [S1.out]
      rintro e w' ⟨rfl, rfl⟩
      go_wp2_with fail
      go_ret3
      exact retT_no HT.out ⟨_, rfl⟩
  · have hf' : finB z = false := by simpa using hf
    have HT := Lib.hid (tho_not hf')
    clear hf
    obtain ⟨x, y⟩ := z
    unfold cv
    go_enter Tryz.func103, Tryz.ntmps103
    go_wp2_with fail
    refine (sFinite (x, y) _).mono ?_
    rintro e w' ⟨rfl, m, rfl⟩
    rw [hf']
    go_wp2_with fail
    go_ret3
    exact retT_no HT.out ⟨_, rfl⟩

end Go.Proofs.YtnomlkkhkacajaaGreatDoor
namespace Go.Proofs.YtnomlkkhkacajaaGreatDoor
open Go.RowKit

/-- All blocks but one stay. -/
structure Pk (g : Nat) (w w' : World) : Prop where
  os : w'.os = w.os
  tape : w'.tape = w.tape
  output : w'.output = w.output
  size : w.heap.size ≤ w'.heap.size
  block : ∀ i, i < w.heap.size → i ≠ g → w'.heap[i]? = w.heap[i]?
theorem Pk.refl (g : Nat) (w : World) : Pk g w w := ⟨rfl, rfl, rfl, Nat.le_refl _, fun _ _ _ => rfl⟩
theorem Pk.trans {g : Nat} {a b c : World} (h : Pk g a b) (k : Pk g b c) : Pk g a c :=
  ⟨k.os.trans h.os, k.tape.trans h.tape, k.output.trans h.output, Nat.le_trans h.size k.size, fun i hi hg => (k.block i (Nat.lt_of_lt_of_le hi h.size) hg).trans (h.block i hi hg)⟩
theorem Pk.drewN {g : Nat} {a b : World} (h : Pk g a b) (m : Nat) : Pk g a (b.drewN m) := ⟨h.os, h.tape, h.output, h.size, h.block⟩
theorem Pk.of_drewN {g : Nat} {a b : World} {m : Nat} (h : Pk g (a.drewN m) b) : Pk g a b := ⟨h.os, h.tape, h.output, h.size, h.block⟩
theorem Pk.setCell {g : Nat} {a b : World} (h : Pk g a b) (j : Nat) (u : Value) : Pk g a (b.setCell ⟨g, j, none⟩ u) :=
  h.trans ⟨rfl, rfl, rfl, by simp [World.setCell], fun i _ hg => Below.heap_setCell b _ u i hg⟩
theorem Pk.below {g B : Nat} {a b : World} (h : Pk g a b) (hB : B ≤ g) (hs : B ≤ a.heap.size) : Below B a b :=
  ⟨h.os, h.tape, h.output, h.size, fun k hk => h.block k (by omega) (by omega)⟩
theorem Pk.of_below {g : Nat} {a b : World} (h : Below a.heap.size a b) : Pk g a b := ⟨h.os, h.tape, h.output, h.size, fun k hk _ => h.block k hk⟩
theorem Pk.cell {g : Nat} {a b : World} (h : Pk g a b) {p : Addr} (hp : p.block < a.heap.size) (hg : p.block ≠ g) : b.cell? p = a.cell? p :=
  World.cell?_of_block (h.block p.block hp hg)
theorem Ow.pk {w w' : World} {B n g : Nat} {E : TypeId} {v : Value} {vs : List Value} (h : Ow w B E v n vs) (hp : Pk g w w') (hg : g < B) : Ow w' B E v n vs := by
  refine ⟨h.1, ?_⟩
  rcases h.2 with hn | ⟨g', cap, cur, hv, hg', hh, r⟩
  · exact .inl hn
  · exact .inr ⟨g', cap, cur, hv, hg', by rw [hp.block g' (Array.getElem?_eq_some_iff.1 hh).1 (by omega)]; exact hh, r⟩
theorem Ow.pk' {w w' : World} {B n g : Nat} {E : TypeId} {v : Value} {vs : List Value} (h : Ow w B E v n vs) (hp : Pk g w w') (hg : ∀ a m c, v = .slice (some a) m c → a.block ≠ g) : Ow w' B E v n vs := by
  refine ⟨h.1, ?_⟩
  rcases h.2 with hn | ⟨g', cap, cur, hv, hg', hh, r⟩
  · exact .inl hn
  · exact .inr ⟨g', cap, cur, hv, hg', by rw [hp.block g' (Array.getElem?_eq_some_iff.1 hh).1 (hg _ _ _ hv)]; exact hh, r⟩

/-- Bytes that are read. -/
def Bs (w : World) (g : Nat) (A : Option Addr) (n : Nat) : Prop :=
  n = 0 ∨ ∃ b o, A = some ⟨b, o, none⟩ ∧ b < g ∧ ∀ k, k < n → ∃ u : Nat, u < 256 ∧ w.cell? ⟨b, o + k, none⟩ = some (.int .u8 u)
/-- The reader at block g, from which at most p numbers have been picked. -/
structure Rd (w : World) (g p : Nat) : Prop where
  lt : g < w.heap.size
  fr : w.frozen? ⟨g, 1, none⟩ = false
  at_ : ∃ (A : Option Addr) (n c q : Nat), w.cell? ⟨g, 0, none⟩ = some (.slice A n c) ∧ w.cell? ⟨g, 1, none⟩ = some (.int .i64 q) ∧ q ≤ p ∧ n ≤ 2000 ∧ Bs w g A n
theorem frozen_of_block {w w' : World} {a : Addr} (h : w'.heap[a.block]? = w.heap[a.block]?) : w'.frozen? a = w.frozen? a := by
  unfold World.frozen?
  rw [h]
theorem Rd.mono {w : World} {g p q : Nat} (h : Rd w g p) (hq : p ≤ q) : Rd w g q := by
  obtain ⟨h1, h2, A, n, c, k, h3, h4, h5, h6⟩ := h
  exact ⟨h1, h2, A, n, c, k, h3, h4, by omega, h6⟩
theorem Bs.below {w w' : World} {g n B : Nat} {A : Option Addr} (h : Bs w g A n) (hb : Below B w w') (hB : g < B) : Bs w' g A n := by
  rcases h with h | ⟨b, o, h1, h2, h4⟩
  · exact .inl h
  · exact .inr ⟨b, o, h1, h2, fun k hk => by
      obtain ⟨u, h5, h6⟩ := h4 k hk
      exact ⟨u, h5, (hb.cell (p := ⟨b, o + k, none⟩) (show b < B by omega)).trans h6⟩⟩
theorem Rd.belowB {w w' : World} {g p B : Nat} (h : Rd w g p) (hb : Below B w w') (hB : g < B) : Rd w' g p := by
  obtain ⟨h1, h2, A, n, c, k, h3, h4, h5, h6, h7⟩ := h
  exact ⟨Nat.lt_of_lt_of_le h1 hb.size, by rw [frozen_of_block (hb.block g hB)]; exact h2, A, n, c, k, (hb.cell (p := ⟨g, 0, none⟩) hB).trans h3, (hb.cell (p := ⟨g, 1, none⟩) hB).trans h4, h5, h6, h7.below hb hB⟩
theorem Rd.below {w w' : World} {g p : Nat} (h : Rd w g p) (hb : Below w.heap.size w w') : Rd w' g p := h.belowB hb h.lt
theorem Pk.belowB {g B : Nat} {a b c : World} (h : Pk g a b) (k : Below B b c) (hB : a.heap.size ≤ B) : Pk g a c :=
  ⟨k.os.trans h.os, k.tape.trans h.tape, k.output.trans h.output, Nat.le_trans h.size k.size, fun i hi hg => (k.block i (by omega)).trans (h.block i hi hg)⟩
theorem add_none0 (b i : Nat) : (⟨b, 0, none⟩ : Addr).add i = ⟨b, i, none⟩ := by
  unfold Addr.add
  split
  · rename_i h; subst h; rfl
  · simp
section
variable {P : Program} {w : World} {ops : Array Oper} {rest : List Oper} {o : Oper} {a : Act} {Q : Exit → Act → World → Prop} {K : Act → World → Prop} {X : Prop}
/-- append(out, us..), where nothing below a block changes. -/
theorem wl_appB (B : Nat) (us : List Value) (hB : B ≤ w.heap.size) (hgd : o.guard = none) (s x : Operand) (t : TypeId) (ho : o.op = .call { callee := .builtin .append, args := #[s, x], argTypes := #[t, t] })
    {E : TypeId} {z : Value} {bytes : Nat} (he : Elem P t E z bytes) (v : Value) (n : Nat) (vs : List Value) (hs : a.eval s = v) (hown : Ow w B E v n vs)
    (hx : a.eval x = .slice (some ⟨w.heap.size, 0, none⟩) us.length us.length) (hu : ∀ u ∈ us, u.oneCell' = true) (h63 : n + us.length ≤ maxLen) (hbytes : (n + us.length) * bytes ≤ 140737488355328)
    (h : ∀ v' w', Ow w' B E v' (n + us.length) (vs ++ us) → Below B w w' → wpList P ops Q rest (a.put o.dst v') w') : wpList P ops Q (o :: rest) a (w.alloc (.cells us.toArray E)) := by
  obtain ⟨i, h2, h3, h4, h5⟩ := he.info
  subst h5
  refine wpList_append_own (w.alloc (.cells us.toArray E)) hgd s x t ho B E i z 1 i.bytes he.und h2 h3 h4 rfl (by rw [he.one]; rfl) (by decide) v n vs hs (World.ownsRow.alloc hown _) ⟨w.heap.size, 0, none⟩ us.length us.length us hx (by simp) ?_ hu h63 hbytes ?_ ?_
  · intro j u' hj
    have hj' := (List.getElem?_eq_some_iff.1 hj).1
    rw [add_none0, World.cell?_alloc_at _ _ _ _ rfl]
    simpa using hj
  · simp
    omega
  · intro v' w' h1 h2 _
    refine h v' w' h1 (((Below.refl B w).alloc hB _).grown h2 (by simp; omega) ?_)
    intro k hk
    exact (World.ownsRow.lt hown k hk).1
end
theorem Rd.drewN {w : World} {g p : Nat} (h : Rd w g p) (m : Nat) : Rd (w.drewN m) g p := ⟨h.lt, h.fr, h.at_⟩
end Go.Proofs.YtnomlkkhkacajaaGreatDoor
namespace Go.Proofs.YtnomlkkhkacajaaGreatDoor
open Go.RowKit

theorem tho_some {z : C} {a b : Int} (h : tho z = some (a, b)) : thou z.1 = some a ∧ thou z.2 = some b := by
  unfold tho at h
  cases h1 : thou z.1 with
  | none => rw [h1] at h; simp at h
  | some x =>
    cases h2 : thou z.2 with
    | none => rw [h1, h2] at h; simp at h
    | some y => rw [h1, h2] at h; simp at h; rw [h.1, h.2]; exact ⟨rfl, rfl⟩
theorem tho_bd {z : C} {a b : Int} (h : tho z = some (a, b)) : -9999999 ≤ a ∧ a ≤ 9999999 ∧ -9999999 ≤ b ∧ b ≤ 9999999 := by
  obtain ⟨h1, h2⟩ := tho_some h
  obtain ⟨_, a1, a2, _⟩ := thou_is h1
  obtain ⟨_, b1, b2, _⟩ := thou_is h2
  exact ⟨a1, a2, b1, b2⟩
/-- A new slice of whole numbers, and whether there is one. -/
def RetI (w : World) (o : Option (List Int)) (e : Ending) (w' : World) : Prop :=
  ∃ A m c, e = .returned (.tuple #[.slice A m c, .bool o.isSome]) ∧ Ow w' w.heap.size 3 (.slice A m c) m ((o.getD []).map iv) ∧ Below w.heap.size w w'
theorem RetI.nil_ {w w' : World} (h : Below w.heap.size w w') : RetI w none (.returned (.tuple #[.slice none 0 0, .bool false])) w' := ⟨_, _, _, rfl, Ow.nil_ _ _ _, h⟩

end Go.Proofs.YtnomlkkhkacajaaGreatDoor
namespace Go.Proofs.YtnomlkkhkacajaaGreatDoor
open Go.RowKit

set_option maxHeartbeats 400000 in
theorem sAll (A : Option Addr) (n c : Nat) (xs : List C) (w : World) (hn : n ≤ 9223372036854775807) (hx : Cs w A n xs) :
    Calls Tryz.prog 89 #[.slice A n c] w fun e w' => e = .returned (.bool (xs.all finB)) ∧ Dr w w' := by
  have HL := Lib.hid hx.len
  go_enter Tryz.func89, Tryz.ntmps89
  go_wp2_with fail
  go_loopw [3] (fun i wr => ∃ k : Nat, k ≤ n ∧ i = .int .i64 k ∧ (xs.take k).all finB = true ∧ ∃ m, wr = w.drewN m) (fun i _ => n - (intOf i).toNat)
  case atStart => exact ⟨0, by omega, rfl, rfl, 0, rfl⟩
  case round =>
    obtain ⟨k, hk, rfl, hf, m, rfl⟩ := hrel
    have HF := Lib.hid hf
    clear hf
    by_cases hlt : k < n
    · obtain ⟨b, o, rfl, hb, hc⟩ := hx.at_ hlt
      have hck := hc k hlt
      clear hc hx
      by_cases hfin : finB (nth xs k) = true
      · go_wp2_with (go_at_call 115; refine (sFinite _ _).mono ?_; rintro e w' ⟨rfl, m', rfl⟩)
        go_roundw
        case rel => exact ⟨k + 1, by omega, by go_num, by rw [all_take_succ (by rw [HL.out]; omega), HF.out, hfin]; rfl, _, rfl⟩
        case measure => simp [intOf]; omega
      · have hfin' : finB (nth xs k) = false := by simpa using hfin
        clear hfin
        go_wp2_with (go_at_call 115; refine (sFinite _ _).mono ?_; rintro e w' ⟨rfl, m', rfl⟩)
        go_ret
        exact ⟨ret_bool (all_false_of (by rw [HL.out]; omega) hfin').symm, _, rfl⟩
    · go_wp2_with fail
      go_ret
      exact ⟨ret_bool (by rw [← HF.out, List.take_of_length_le (by rw [HL.out]; omega)]), _, rfl⟩
set_option maxHeartbeats 400000 in
theorem sSignalOk (A : Option Addr) (n c : Nat) (xs : List C) (w : World) (hn : n ≤ 9223372036854775807) (hx : Cs w A n xs) :
    Calls Tryz.prog 47 #[.slice A n c] w fun e w' => e = .returned (.bool (sigB xs)) ∧ Dr w w' := by
  have hl := hx.len
  by_cases h16 : n ≤ 16
  · have HS : Hid (sigB xs = xs.all finB) := by show _ = _; unfold sigB; simp [hl, h16]
    clear hl
    go_enter Tryz.func47, Tryz.ntmps47
    go_wp2_with fail
    refine (sAll A n c xs w hn hx).mono ?_
    rintro e w' ⟨rfl, m, rfl⟩
    go_wp2_with fail
    go_ret
    exact ⟨ret_bool HS.out.symm, _, rfl⟩
  · have HS : Hid (sigB xs = false) := by show _ = _; unfold sigB; simp [hl, h16]
    clear hl hx
    go_enter Tryz.func47, Tryz.ntmps47
    go_wp2_with fail
    go_ret
    exact ⟨ret_bool HS.out.symm, 0, rfl⟩
theorem RetI.empty {w w' : World} {c : Nat} {g : Nat} (ho : Ow w' w.heap.size 3 (.slice (some ⟨g, 0, none⟩) 0 c) 0 []) (h : Below w.heap.size w w') : RetI w none (.returned (.tuple #[.slice (some ⟨g, 0, none⟩) 0 c, .bool false])) w' := ⟨_, _, _, rfl, ho, h⟩

end Go.Proofs.YtnomlkkhkacajaaGreatDoor
namespace Go.Proofs.YtnomlkkhkacajaaGreatDoor
open Go.RowKit

/-- Two numbers of the same value. -/
def EqV (a b : C) : Prop := Fin Ieee.single a.1 ∧ Fin Ieee.single a.2 ∧ Fin Ieee.single b.1 ∧ Fin Ieee.single b.2 ∧ val Ieee.single a.1 = val Ieee.single b.1 ∧ val Ieee.single a.2 = val Ieee.single b.2
theorem EqV.refl {a : C} (h : finB a = true) : EqV a a := by
  obtain ⟨h1, h2⟩ := finB_iff.1 h
  exact ⟨h1, h2, h1, h2, rfl, rfl⟩
theorem samePart_true {x y : Nat} (hx : Fin Ieee.double x) (hy : Fin Ieee.double y) (h : val Ieee.double x = val Ieee.double y) (w : World) :
    Calls Tryz.prog 120 #[.float .f64 x, .float .f64 y] w fun e w' => e = .returned (.bool true) ∧ w' = w := by
  have o1 : (FloatKind.f64.format.order x y == some .eq) = true := by
    have := eq_iff hx hy
    rw [decide_eq_true h] at this; exact this
  clear hx hy h
  go_enter Tryz.func120, Tryz.ntmps120
  go_wp2_with fail
  go_ret
  exact ⟨rfl, rfl⟩
theorem sameBits_true {a b : C} (h : EqV a b) (w : World) :
    Calls Tryz.prog 87 #[cv a, cv b] w fun e w' => e = .returned (.bool true) ∧ w' = w := by
  obtain ⟨h1, h2, h3, h4, h5, h6⟩ := h
  obtain ⟨x, y⟩ := a
  obtain ⟨u, v⟩ := b
  have q1 := fun w => run_convert_float_float (P := Tryz.prog) (w := w) 131 120 .f32 .f64 x (wide x) (by kernel_rfl) Tryz.underlying120 (conv_wide h1)
  have q2 := fun w => run_convert_float_float (P := Tryz.prog) (w := w) 131 120 .f32 .f64 y (wide y) (by kernel_rfl) Tryz.underlying120 (conv_wide h2)
  have q3 := fun w => run_convert_float_float (P := Tryz.prog) (w := w) 131 120 .f32 .f64 u (wide u) (by kernel_rfl) Tryz.underlying120 (conv_wide h3)
  have q4 := fun w => run_convert_float_float (P := Tryz.prog) (w := w) 131 120 .f32 .f64 v (wide v) (by kernel_rfl) Tryz.underlying120 (conv_wide h4)
  have s1 : ∀ w, Calls Tryz.prog 120 #[.float .f64 (wide x), .float .f64 (wide u)] w fun e w' => e = .returned (.bool true) ∧ w' = w := fun w =>
    samePart_true (wide_spec h1).1 (wide_spec h3).1 ((wide_spec h1).2.trans (Eq.trans h5 (wide_spec h3).2.symm)) w
  have s2 : ∀ w, Calls Tryz.prog 120 #[.float .f64 (wide y), .float .f64 (wide v)] w fun e w' => e = .returned (.bool true) ∧ w' = w := fun w =>
    samePart_true (wide_spec h2).1 (wide_spec h4).1 ((wide_spec h2).2.trans (Eq.trans h6 (wide_spec h4).2.symm)) w
  have S1 := Lib.hid s1
  have S2 := Lib.hid s2
  clear h1 h2 h3 h4 h5 h6 s1 s2
  unfold cv
  go_enter Tryz.func87, Tryz.ntmps87
  go_wp2_with fail
  refine (S1.out _).mono ?_
  rintro e w' ⟨rfl, rfl⟩
  go_wp2_with fail
  refine (S2.out _).mono ?_
  rintro e w' ⟨rfl, rfl⟩
  go_wp2_with fail
  go_ret
  exact ⟨rfl, rfl⟩

set_option maxHeartbeats 400000 in
theorem sameSignal_true (A A' : Option Addr) (n c c' : Nat) (xs ys : List C) (w : World) (hn : n ≤ 1048576) (hx : Cs w A n xs) (hy : Cs w A' n ys) (he : ∀ i, i < n → EqV (nth xs i) (nth ys i)) :
    Calls Tryz.prog 41 #[.slice A n c, .slice A' n c'] w fun e w' => e = .returned (.bool true) ∧ Dr w w' := by
  have HE := Lib.hid he
  clear he
  go_enter Tryz.func41, Tryz.ntmps41
  go_wp2_with fail
  go_loopw [5] (fun i wr => ∃ k : Nat, k ≤ n ∧ i = .int .i64 k ∧ ∃ m, wr = w.drewN m) (fun i _ => n - (intOf i).toNat)
  case atStart => exact ⟨0, by omega, rfl, 0, rfl⟩
  case round =>
    obtain ⟨k, hk, rfl, m, rfl⟩ := hrel
    by_cases hlt : k < n
    · obtain ⟨b, o, rfl, hb, hc⟩ := hx.at_ hlt
      obtain ⟨b', o', rfl, hb', hc'⟩ := hy.at_ hlt
      have h1 : (w.drewN m).cell? ⟨b, o + k, none⟩ = some (cv (nth xs k)) := hc k hlt
      have h2 : (w.drewN m).cell? ⟨b', o' + k, none⟩ = some (cv (nth ys k)) := hc' k hlt
      have HV := Lib.hid (HE.out k hlt)
      generalize nth xs k = z at *
      generalize nth ys k = z' at *
      clear hc hc' hx hy
      obtain ⟨wr, hwr⟩ : ∃ wr, wr = w.drewN m := ⟨_, rfl⟩
      rw [← hwr] at h1 h2 ⊢
      have HW := Lib.hid hwr
      clear hwr
      go_wp2_with fail
      go_quiet ((go_at_call 87; exact Calls.quiet_of_same (sameBits_true HV.out _)))
      go_wp2_with fail
      go_roundw
      case rel => exact ⟨k + 1, by omega, by go_num, m + nq, by rw [HW.out, World.drewN_drewN]⟩
      case measure => simp [intOf]; omega
    · go_wp2_with fail
      go_ret
      exact ⟨rfl, m, rfl⟩
theorem mp_1500 : mp 1500 = 1069547520 := by decide +kernel
theorem mp_0 : mp 0 = 0 := by decide +kernel
theorem alive_true (w : World) : Calls Tryz.prog 13 #[] w fun e w' => e = .returned (.bool true) ∧ w' = w := by
  have h1 := milli_yes (a := 1500) (b := 0) (by decide) (by decide)
  rw [mp_1500, mp_0] at h1
  have HM : ∀ w, Calls Tryz.prog 44 #[.int .i64 1500, .int .i64 0] w fun e w' => e = .returned (.complex .f32 1069547520 0) ∧ w' = w := fun w => by rw [← h1]; exact iMilli 1500 0 w
  have HM' := Lib.hid HM
  clear HM h1
  go_enter Tryz.func13, Tryz.ntmps13
  go_wp2_with fail
  refine (HM'.out _).mono ?_
  rintro e w' ⟨rfl, rfl⟩
  have k1 : (FloatKind.f32.format.order 1069547520 1069547520 == some .eq) = true := by decide +kernel
  have k2 : (FloatKind.f32.format.order 0 0 == some .eq) = true := by decide +kernel
  go_wp2_with fail
  go_ret
  exact ⟨rfl, rfl⟩
end Go.Proofs.YtnomlkkhkacajaaGreatDoor
namespace Go.Proofs.YtnomlkkhkacajaaGreatDoor
open Go.RowKit

theorem RetC.empty {w w' : World} {c : Nat} {g : Nat} (ho : Ow w' w.heap.size 73 (.slice (some ⟨g, 0, none⟩) 0 c) 0 []) (h : Below w.heap.size w w') : RetC w [] false (.returned (.tuple #[.slice (some ⟨g, 0, none⟩) 0 c, .bool false])) w' := ⟨_, _, _, rfl, ho, h⟩
theorem take_snoc' {vs : List Value} {k : Nat} {u : Value} (h : vs[k]? = some u) : vs.take k ++ [u] = vs.take (k + 1) := by
  have hk : k < vs.length := (List.getElem?_eq_some_iff.1 h).1
  rw [List.getElem?_eq_getElem hk] at h
  injection h with h
  rw [List.take_succ_eq_append_getElem hk, h]

end Go.Proofs.YtnomlkkhkacajaaGreatDoor
namespace Go.Proofs.YtnomlkkhkacajaaGreatDoor
open Go.RowKit

theorem tho_milli {a b : Int} (a1 : -9999999 ≤ a) (a2 : a ≤ 9999999) (b1 : -9999999 ≤ b) (b2 : b ≤ 9999999) : tho (milli a b) = some (a, b) := by
  have e : milli a b = (mp a, mp b) := by unfold milli; rw [show milB a = true from inB_true a1 a2, show milB b = true from inB_true b1 b2]; rfl
  rw [e]
  exact tho_ab (thou_some (mp_thou a1 a2)) (thou_some (mp_thou b1 b2))
end Go.Proofs.YtnomlkkhkacajaaGreatDoor
namespace Go.Proofs.YtnomlkkhkacajaaGreatDoor
open Go.RowKit

end Go.Proofs.YtnomlkkhkacajaaGreatDoor
