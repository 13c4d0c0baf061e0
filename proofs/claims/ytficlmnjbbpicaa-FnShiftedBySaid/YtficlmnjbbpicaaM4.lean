/- A complex number divided by 2, whatever it is: the division comes to its end. -/
import Derived.Test.YtficlmnjbbpicaaM3
namespace Go.Proofs.Ytficlmnjbbpicaa
open Go.RowKit

/-- Comes to an end, with draws alone. -/
def Runs (P : Program) {α : Type} (s : Sem α) : Prop := ∀ w : World, ∃ v m, s.run P w = .ok v (w.drewN m)
section
variable {P : Program} {α β : Type}
theorem Runs.pure_ (a : α) : Runs P (pure a : Sem α) := fun w => ⟨a, 0, by simp [World.drewN]⟩
theorem Runs.bind_ {s : Sem α} {f : α → Sem β} (h : Runs P s) (k : ∀ a, Runs P (f a)) : Runs P (s >>= f) := fun w => by
  obtain ⟨v, m, e⟩ := h w
  obtain ⟨u, m2, e2⟩ := k v (w.drewN m)
  exact ⟨u, m + m2, by rw [Sem.run_bind, e]; show (f v).run P (w.drewN m) = _; rw [e2, World.drewN_drewN]⟩
theorem runs_arith {op : BinOp} (hop : op = .add ∨ op = .sub ∨ op = .mul ∨ op = .quo) (k : FloatKind) (x y : Nat) : Runs P (Op.Complex.arith op k x y) := fun w => by
  cases h : floatBits op k x y with
  | some r => exact ⟨r, 0, run_carith w h⟩
  | none =>
    unfold floatBits at h
    rcases hop with rfl | rfl | rfl | rfl <;> simp only at h <;> exact ⟨_, 1, by simp [Op.Complex.arith, Op.floatArith, h]; rfl⟩
theorem runs_cmp (op : BinOp) (hop : op = .geq ∨ op = .eql) (k : FloatKind) (x y : Nat) : Runs P (Op.Complex.cmp op k x y) := fun w => by
  rcases hop with rfl | rfl <;> exact ⟨_, 0, by simp [Op.Complex.cmp, Op.floatCmp, asBool]; exact ⟨rfl, rfl⟩⟩
theorem runs_mul (x y : Nat) : Runs P (Op.Complex.mul x y) := runs_arith (by simp) _ _ _
theorem runs_add (x y : Nat) : Runs P (Op.Complex.add x y) := runs_arith (by simp) _ _ _
theorem runs_sub (x y : Nat) : Runs P (Op.Complex.sub x y) := runs_arith (by simp) _ _ _
theorem runs_div (x y : Nat) : Runs P (Op.Complex.quo x y) := runs_arith (by simp) _ _ _
theorem runs_corr (s a b c d : Nat) : Runs P (Op.Complex.corrected s a b c d) := by
  unfold Op.Complex.corrected
  repeat (first | exact Runs.pure_ _ | refine Runs.bind_ (runs_mul _ _) fun _ => ?_ | refine Runs.bind_ (runs_add _ _) fun _ => ?_ | refine Runs.bind_ (runs_sub _ _) fun _ => ?_)
theorem runs_tail (a b c d : Nat) (x : Nat × Nat) : Runs P (match x with
    | (e, f) => do
      let u ← Op.Complex.cmp .eql .f64 c 0
      let v ← Op.Complex.cmp .eql .f64 d 0
      let zero : Bool := u && v
      if (!(Op.Complex.isNaN e && Op.Complex.isNaN f)) = true then pure (e, f)
      else if (zero && (!Op.Complex.isNaN a || !Op.Complex.isNaN b)) = true then do
        let p ← Op.Complex.mul (Op.Complex.copysign Op.Complex.inf c) a
        let q ← Op.Complex.mul (Op.Complex.copysign Op.Complex.inf c) b
        pure (p, q)
      else if ((Op.Complex.isInf a || Op.Complex.isInf b) && Op.Complex.isFinite c && Op.Complex.isFinite d) = true then
        Op.Complex.corrected Op.Complex.inf (Op.Complex.inf2one a) (Op.Complex.inf2one b) c d
      else if ((Op.Complex.isInf c || Op.Complex.isInf d) && Op.Complex.isFinite a && Op.Complex.isFinite b) = true then
        Op.Complex.corrected 0 a b (Op.Complex.inf2one c) (Op.Complex.inf2one d)
      else pure (e, f)) := by
  obtain ⟨e, f⟩ := x
  simp only
  refine Runs.bind_ (runs_cmp _ (.inr rfl) _ _ _) fun u => ?_
  refine Runs.bind_ (runs_cmp _ (.inr rfl) _ _ _) fun v => ?_
  split
  · exact Runs.pure_ _
  · split
    · exact Runs.bind_ (runs_mul _ _) fun _ => Runs.bind_ (runs_mul _ _) fun _ => Runs.pure_ _
    · split
      · exact runs_corr _ _ _ _ _
      · split
        · exact runs_corr _ _ _ _ _
        · exact Runs.pure_ _
theorem runs_quo (a b c d : Nat) : Runs P (Op.Complex.quotient a b c d) := by
  unfold Op.Complex.quotient
  refine Runs.bind_ (α := Bool) (show Runs P (Op.Complex.cmp .geq .f64 (Op.Complex.abs c) (Op.Complex.abs d)) from runs_cmp _ (.inl rfl) _ _ _) fun t => ?_
  cases t
  all_goals
    simp only [Bool.false_eq_true, if_true, if_false]
    refine Runs.bind_ (runs_div _ _) fun _ => ?_
    refine Runs.bind_ (runs_mul _ _) fun _ => ?_
    refine Runs.bind_ (runs_add _ _) fun _ => ?_
    refine Runs.bind_ (runs_mul _ _) fun _ => ?_
    refine Runs.bind_ (runs_add _ _) fun _ => ?_
    refine Runs.bind_ (runs_div _ _) fun _ => ?_
    refine Runs.bind_ (runs_mul _ _) fun _ => ?_
    refine Runs.bind_ (runs_sub _ _) fun _ => ?_
    refine Runs.bind_ (runs_div _ _) fun _ => ?_
    exact Runs.bind_ (Runs.pure_ _) fun x => runs_tail a b c d x
theorem runs_ftf (src : FloatKind) (x : Nat) (dst : FloatKind) : ∀ w : World, ∃ r m, (Conv.floatToFloat src x dst).run P w = .ok (.float dst r) (w.drewN m) := fun w => by
  unfold Conv.floatToFloat
  split
  · rename_i h; exact ⟨x, 0, rfl⟩
  · split
    · exact ⟨_, 1, by simp; rfl⟩
    · exact ⟨_, 0, rfl⟩
    · simp only
      split
      · exact ⟨_, 1, by simp; rfl⟩
      · exact ⟨_, 0, rfl⟩
theorem runs_conv (src : FloatKind) (x : Nat) (dst : FloatKind) : Runs P (Op.Complex.conv src x dst) := fun w => by
  by_cases h : src = dst
  · exact ⟨x, 0, by simp [Op.Complex.conv, h]; rfl⟩
  · obtain ⟨r, m, e⟩ := runs_ftf (P := P) src x dst w
    exact ⟨r, m, by simp [Op.Complex.conv, h, e]⟩
theorem quo_runs (t : TypeId) (a b c d : Nat) : ∀ w : World, ∃ (r s : Nat) (m : Nat), (binOp .quo t (.complex .f32 a b) (.complex .f32 c d)).run P w = .ok (.complex .f32 r s) (w.drewN m) := fun w => by
  obtain ⟨A, m1, e1⟩ := runs_conv (P := P) .f32 a .f64 w
  obtain ⟨w1, h1⟩ : ∃ w1, w1 = w.drewN m1 := ⟨_, rfl⟩
  rw [← h1] at e1
  obtain ⟨B, m2, e2⟩ := runs_conv (P := P) .f32 b .f64 w1
  obtain ⟨w2, h2⟩ : ∃ w2, w2 = w1.drewN m2 := ⟨_, rfl⟩
  rw [← h2] at e2
  obtain ⟨C', m3, e3⟩ := runs_conv (P := P) .f32 c .f64 w2
  obtain ⟨w3, h3⟩ : ∃ w3, w3 = w2.drewN m3 := ⟨_, rfl⟩
  rw [← h3] at e3
  obtain ⟨D, m4, e4⟩ := runs_conv (P := P) .f32 d .f64 w3
  obtain ⟨w4, h4⟩ : ∃ w4, w4 = w3.drewN m4 := ⟨_, rfl⟩
  rw [← h4] at e4
  obtain ⟨⟨e, f⟩, m5, e5⟩ := runs_quo (P := P) A B C' D w4
  obtain ⟨w5, h5⟩ : ∃ w5, w5 = w4.drewN m5 := ⟨_, rfl⟩
  rw [← h5] at e5
  obtain ⟨r, m6, e6⟩ := runs_conv (P := P) .f64 e .f32 w5
  obtain ⟨w6, h6⟩ : ∃ w6, w6 = w5.drewN m6 := ⟨_, rfl⟩
  rw [← h6] at e6
  obtain ⟨s, m7, e7⟩ := runs_conv (P := P) .f64 f .f32 w6
  refine ⟨r, s, m1 + m2 + m3 + m4 + m5 + m6 + m7, ?_⟩
  have hw : w.drewN (m1 + m2 + m3 + m4 + m5 + m6 + m7) = w6.drewN m7 := by rw [h6, h5, h4, h3, h2, h1]; simp only [World.drewN_drewN]
  rw [hw]
  simp [binOp, Op.complexOp, e1, e2, e3, e4, e5, e6, e7]
end
end Go.Proofs.Ytficlmnjbbpicaa
