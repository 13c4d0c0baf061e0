/- Texts on the way to a law (V1), each with its own remark. -/
import Derived.Test.YtnomlkkhkacajaaPA10
namespace Go.Proofs.Ytnomlkkhkacajaa
open Go.RowKit

theorem rnd_pow {q : Rat} {r : Nat} {E : Int} (h : Rnd Ieee.double q r) (h1 : q ≤ p2 E) (h2 : -p2 E ≤ q) (h3 : E < 1024) (h4 : -1074 ≤ E) : Fin Ieee.double r ∧ val Ieee.double r ≤ p2 E ∧ -p2 E ≤ val Ieee.double r := by
  obtain ⟨z, hz, hvz⟩ := repr_ex Ieee.double (n := 1) (e := E) (by decide) (by show (-1074 : Int) ≤ E; exact h4) (by
    have c1 : ((1 : Nat) : Rat) = 1 := rfl
    rw [inf64, c1, Rat.one_mul]
    have := p2_lt h3
    have := p2_pos E
    grind)
  have c1 : ((1 : Nat) : Rat) = 1 := rfl
  rw [c1, Rat.one_mul] at hvz
  have := h.le hz (by rw [hvz]; exact h1) (by rw [hvz]; exact h2)
  rw [hvz] at this
  exact this
theorem rnd_ex {f : Ieee.Format} {x : Nat} (h : Fin f x) : ∃ r, Rnd f (val f x) r ∧ val f r = val f x := by
  obtain ⟨m, p, _, e⟩ := read_fin f h
  have hr : Rnd f (val f x) (f.nearest (sg f x) m p) := ⟨sg f x, m, p, rfl, by rw [e]; rfl⟩
  exact ⟨_, hr, (hr.exact (t := sg f x) (z := rg f x) h rfl).2⟩
theorem Rnd.ge {f : Ieee.Format} {q : Rat} {r x : Nat} (h : Rnd f q r) (hx : Fin f x) (hq : val f x ≤ q) : val f x ≤ val f r := by
  obtain ⟨y, hy, e⟩ := rnd_ex hx
  rw [← e]
  exact hy.mono h hq
/-- A power: finite, and at least 0. -/
def PwOk (x : Nat) : Prop := Fin Ieee.double x ∧ 0 ≤ val Ieee.double x ∧ val Ieee.double x ≤ p2 258
theorem m64_sq {x : Nat} (h : Fin Ieee.single x) : Fin Ieee.double (m64 x x) ∧ 0 ≤ val Ieee.double (m64 x x) ∧ val Ieee.double (m64 x x) ≤ p2 256 := by
  obtain ⟨_, r, f⟩ := m64_spec h h
  have l := m64_le h h
  have g := r.ge (x := 0) (fin_zero Ieee.double (by decide)).1 (by
    rw [zero64.2]
    rcases (Rat.le_total : 0 ≤ val Ieee.single x ∨ val Ieee.single x ≤ 0) with h0 | h0
    · exact Rat.mul_nonneg h0 h0
    · have := Rat.mul_nonneg (show 0 ≤ -val Ieee.single x by grind) (show 0 ≤ -val Ieee.single x by grind); grind)
  rw [zero64.2] at g
  exact ⟨f, g, Rat.le_trans (le_absR _) l⟩
def pwI (z : C) : Nat := (Ieee.double.add (m64 z.1 z.1) (m64 z.2 z.2)).getD 0
def pwA (z : C) : Nat := (Ieee.double.add 0 (m64 z.1 z.1)).getD 0
def pwS (z : C) : Nat := (Ieee.double.add (pwA z) (m64 z.2 z.2)).getD 0
theorem pwI_spec {z : C} (h : finB z = true) : floatBits .add .f64 (m64 z.1 z.1) (m64 z.2 z.2) = some (pwI z) ∧ PwOk (pwI z) ∧ Rnd Ieee.double (val Ieee.double (m64 z.1 z.1) + val Ieee.double (m64 z.2 z.2)) (pwI z) := by
  obtain ⟨f1, f2⟩ := finB_iff.1 h
  obtain ⟨a1, a2, a3⟩ := m64_sq f1
  obtain ⟨b1, b2, b3⟩ := m64_sq f2
  obtain ⟨r, e, hr⟩ := add_spec a1 b1
  have hf : pwI z = r := getD_some e
  have e258 : p2 258 = 4 * p2 256 := by rw [show (258 : Int) = 256 + 1 + 1 from rfl, p2_succ, p2_succ]; grind
  have hp := p2_pos 256
  obtain ⟨g1, g2, _⟩ := rnd_pow (E := 258) hr (by grind) (by grind) (by decide) (by decide)
  have g := hr.ge (x := 0) (fin_zero Ieee.double (by decide)).1 (by rw [zero64.2]; grind)
  rw [zero64.2] at g
  rw [hf]
  exact ⟨e, ⟨g1, g, g2⟩, hr⟩
theorem pwS_spec {z : C} (h : finB z = true) : floatBits .add .f64 0 (m64 z.1 z.1) = some (pwA z) ∧ floatBits .add .f64 (pwA z) (m64 z.2 z.2) = some (pwS z) ∧ PwOk (pwS z) ∧ val Ieee.double (pwS z) = val Ieee.double (pwI z) := by
  obtain ⟨f1, f2⟩ := finB_iff.1 h
  obtain ⟨a1, a2, a3⟩ := m64_sq f1
  obtain ⟨b1, b2, b3⟩ := m64_sq f2
  obtain ⟨r0, e0, hr0⟩ := add_spec zero64.1 a1
  have hf0 : pwA z = r0 := getD_some e0
  rw [zero64.2, show (0 : Rat) + val Ieee.double (m64 z.1 z.1) = val Ieee.double (m64 z.1 z.1) by grind] at hr0
  obtain ⟨d1, d2⟩ := hr0.exact (t := sg Ieee.double (m64 z.1 z.1)) (z := rg Ieee.double (m64 z.1 z.1)) a1 rfl
  obtain ⟨r, e, hr⟩ := add_spec d1 b1
  have hf : pwS z = r := by unfold pwS; rw [hf0]; exact getD_some e
  rw [d2] at hr
  obtain ⟨_, ⟨i1, i2, i3⟩, hi⟩ := pwI_spec h
  have hv := hr.uniq hi
  have e258 : p2 258 = 4 * p2 256 := by rw [show (258 : Int) = 256 + 1 + 1 from rfl, p2_succ, p2_succ]; grind
  have hp := p2_pos 256
  obtain ⟨g1, g2, _⟩ := rnd_pow (E := 258) hr (by grind) (by grind) (by decide) (by decide)
  rw [hf, hf0]
  exact ⟨e0, e, ⟨g1, by rw [hv]; exact i2, g2⟩, hv⟩
/-- The sum of the first powers. -/
def smT (ps : Nat → Nat) : Nat → Nat
  | 0 => 0
  | i + 1 => (Ieee.double.add (smT ps i) (ps i)).getD 0
theorem smT_step {ps : Nat → Nat} {i : Nat} (hs : Fin Ieee.double (smT ps i)) (hp : Fin Ieee.double (ps i)) : floatBits .add .f64 (smT ps i) (ps i) = some (smT ps (i + 1)) ∧ Rnd Ieee.double (val Ieee.double (smT ps i) + val Ieee.double (ps i)) (smT ps (i + 1)) := by
  obtain ⟨r, e, hr⟩ := add_spec hs hp
  have hf : smT ps (i + 1) = r := getD_some e
  rw [hf]; exact ⟨e, hr⟩
theorem smT_ok {ps : Nat → Nat} {n : Nat} (hn : n ≤ 16) (h : ∀ i, i < n → PwOk (ps i)) : ∀ i, i ≤ n → Fin Ieee.double (smT ps i) ∧ 0 ≤ val Ieee.double (smT ps i) ∧ val Ieee.double (smT ps i) ≤ p2 (258 + i)
  | 0, _ => ⟨zero64.1, by show 0 ≤ val Ieee.double 0; rw [zero64.2]; exact Rat.le_refl, by show val Ieee.double 0 ≤ _; rw [zero64.2]; exact Rat.le_of_lt (p2_pos _)⟩
  | i + 1, hi => by
    obtain ⟨s1, s2, s3⟩ := smT_ok hn h i (by omega)
    obtain ⟨q1, q2, q3⟩ := h i (by omega)
    obtain ⟨_, hr⟩ := smT_step s1 q1
    have e1 : p2 (258 + ((i + 1 : Nat) : Int)) = 2 * p2 (258 + (i : Int)) := by rw [← p2_succ]; congr 1
    have e2 : p2 258 ≤ p2 (258 + (i : Int)) := p2_mono (by omega)
    have hpp := p2_pos (258 + (i : Int))
    obtain ⟨g1, g2, _⟩ := rnd_pow (E := 258 + ((i + 1 : Nat) : Int)) hr (by rw [e1]; grind) (by rw [e1]; grind) (by omega) (by omega)
    have g := hr.ge (x := 0) zero64.1 (by rw [zero64.2]; grind)
    rw [zero64.2] at g
    exact ⟨g1, g, g2⟩
/-- What is compared. -/
def mw (p : Nat) : Nat := (Ieee.double.mul p 4652007308841189376).getD 0
def tw (s : Nat) (m : Int) : Nat := (Ieee.double.mul s (floatOfInt .f64 m)).getD 0
theorem p2_10 : p2 10 = 1024 := by rw [show (10 : Int) = ((10 : Nat) : Int) from rfl, p2_nat]; rfl
theorem mw_spec {p : Nat} (h : PwOk p) : floatBits .mul .f64 p 4652007308841189376 = some (mw p) ∧ Fin Ieee.double (mw p) ∧ Rnd Ieee.double (val Ieee.double p * 1000) (mw p) := by
  obtain ⟨h1, h2, h3⟩ := h
  obtain ⟨r, e, hr⟩ := mul_spec h1 k1000.1
  have hf : mw p = r := getD_some e
  rw [k1000.2] at hr
  have c : ((1000 : Int) : Rat) = 1000 := rfl
  rw [c] at hr
  have e268 : p2 268 = 1024 * p2 258 := by rw [← p2_10, ← p2_add]; rfl
  have hp := p2_pos 258
  have := rnd_pow (E := 268) hr (by rw [e268]; grind) (by rw [e268]; grind) (by decide) (by decide)
  rw [hf]; exact ⟨e, this.1, hr⟩
theorem tw_spec {s : Nat} {m : Int} (h1 : Fin Ieee.double s) (h2 : 0 ≤ val Ieee.double s) (h3 : val Ieee.double s ≤ p2 274) (m0 : 0 ≤ m) (m1 : m ≤ 1000) : floatBits .mul .f64 s (floatOfInt .f64 m) = some (tw s m) ∧ Fin Ieee.double (tw s m) ∧ Rnd Ieee.double (val Ieee.double s * (m : Rat)) (tw s m) := by
  have hw := int_whl (n := m) (by omega)
  obtain ⟨r, e, hr⟩ := mul_spec h1 hw.1
  have hf : tw s m = r := getD_some e
  rw [hw.2] at hr
  have c1 : ((0 : Int) : Rat) ≤ (m : Rat) := Rat.intCast_le_intCast.2 m0
  have c2 : (m : Rat) ≤ ((1000 : Int) : Rat) := Rat.intCast_le_intCast.2 m1
  have c3 : ((0 : Int) : Rat) = 0 := rfl
  have c4 : ((1000 : Int) : Rat) = 1000 := rfl
  rw [c3] at c1
  rw [c4] at c2
  have e284 : p2 284 = 1024 * p2 274 := by rw [← p2_10, ← p2_add]; rfl
  have hp := p2_pos 274
  have k1 := Rat.mul_nonneg h2 c1
  have k2 := rmul_le h2 c1 h3 c2
  have := rnd_pow (E := 284) hr (by rw [e284]; grind) (by rw [e284]; grind) (by decide) (by decide)
  rw [hf]; exact ⟨e, this.1, hr⟩
def tonI (ps : Nat → Nat) (n : Nat) (m : Int) (k : Nat) : Bool := FloatKind.f64.format.order (mw (ps k)) (tw (smT ps n) m) == some .gt
theorem sm_274 {ps : Nat → Nat} {n : Nat} (hn : n ≤ 16) (h : ∀ i, i < n → PwOk (ps i)) : Fin Ieee.double (smT ps n) ∧ 0 ≤ val Ieee.double (smT ps n) ∧ val Ieee.double (smT ps n) ≤ p2 274 := by
  obtain ⟨a, b, c⟩ := smT_ok hn h n (Nat.le_refl _)
  exact ⟨a, b, Rat.le_trans c (p2_mono (by omega))⟩
theorem tonI_iff {ps : Nat → Nat} {n k : Nat} {m : Int} (hn : n ≤ 16) (h : ∀ i, i < n → PwOk (ps i)) (hk : k < n) (m0 : 0 ≤ m) (m1 : m ≤ 1000) : tonI ps n m k = decide (val Ieee.double (tw (smT ps n) m) < val Ieee.double (mw (ps k))) := by
  obtain ⟨a, b, c⟩ := sm_274 hn h
  exact gt_iff (f := Ieee.double) (mw_spec (h k hk)).2.1 (tw_spec a b c m0 m1).2.1
theorem sm_same {ps qs : Nat → Nat} {n : Nat} (hn : n ≤ 16) (h : ∀ i, i < n → PwOk (ps i)) (h' : ∀ i, i < n → PwOk (qs i)) (he : ∀ i, i < n → val Ieee.double (ps i) = val Ieee.double (qs i)) : ∀ i, i ≤ n → val Ieee.double (smT ps i) = val Ieee.double (smT qs i)
  | 0, _ => rfl
  | i + 1, hi => by
    have ih := sm_same hn h h' he i (by omega)
    obtain ⟨_, r1⟩ := smT_step (smT_ok hn h i (by omega)).1 (h i (by omega)).1
    obtain ⟨_, r2⟩ := smT_step (smT_ok hn h' i (by omega)).1 (h' i (by omega)).1
    rw [ih, he i (by omega)] at r1
    exact r1.uniq r2
theorem tonI_same {ps qs : Nat → Nat} {n k : Nat} {m : Int} (hn : n ≤ 16) (h : ∀ i, i < n → PwOk (ps i)) (h' : ∀ i, i < n → PwOk (qs i)) (he : ∀ i, i < n → val Ieee.double (ps i) = val Ieee.double (qs i)) (hk : k < n) (m0 : 0 ≤ m) (m1 : m ≤ 1000) : tonI ps n m k = tonI qs n m k := by
  rw [tonI_iff hn h hk m0 m1, tonI_iff hn h' hk m0 m1]
  obtain ⟨a, b, c⟩ := sm_274 hn h
  obtain ⟨a', b', c'⟩ := sm_274 hn h'
  have r1 := (mw_spec (h k hk)).2.2
  have r2 := (mw_spec (h' k hk)).2.2
  rw [he k hk] at r1
  have r3 := (tw_spec a b c m0 m1).2.2
  have r4 := (tw_spec a' b' c' m0 m1).2.2
  rw [sm_same hn h h' he n (Nat.le_refl _)] at r3
  rw [r1.uniq r2, r3.uniq r4]
theorem sm_mono {ps : Nat → Nat} {n : Nat} (hn : n ≤ 16) (h : ∀ i, i < n → PwOk (ps i)) : ∀ d i, i + d ≤ n → val Ieee.double (smT ps i) ≤ val Ieee.double (smT ps (i + d))
  | 0, _, _ => Rat.le_refl
  | d + 1, i, hi => by
    have h1 := sm_mono hn h d i (by omega)
    obtain ⟨_, hr⟩ := smT_step (smT_ok hn h (i + d) (by omega)).1 (h (i + d) (by omega)).1
    have := hr.ge (smT_ok hn h (i + d) (by omega)).1 (by have := (h (i + d) (by omega)).2.1; grind)
    exact Rat.le_trans h1 this
theorem twice_repr {x : Nat} (h : PwOk x) : ∃ z, Fin Ieee.double z ∧ val Ieee.double z = 2 * val Ieee.double x := by
  obtain ⟨h1, h2, h3⟩ := h
  obtain ⟨r, e, hr⟩ := add_spec h1 h1
  obtain ⟨L, k, e1, hk, hL⟩ := rung_split Ieee.double (rg Ieee.double x)
  have e2 : rv Ieee.double (rg Ieee.double x) = (k : Rat) * un Ieee.double L := by rw [e1]; exact rv_form _ (by omega) hL
  have ev : val Ieee.double x = sr (sg Ieee.double x) (rv Ieee.double (rg Ieee.double x)) := rfl
  have hn := rv_nonneg Ieee.double (rg Ieee.double x)
  have e3 : (k : Rat) * p2 (Ieee.double.leastPlace + L + 1) = 2 * rv Ieee.double (rg Ieee.double x) := by
    rw [p2_succ, e2]; unfold un; grind
  have hlt : 2 * rv Ieee.double (rg Ieee.double x) ≤ p2 259 := by
    have e259 : p2 259 = 2 * p2 258 := by rw [show (259 : Int) = 258 + 1 from rfl, p2_succ]
    rw [e259]
    cases hs : sg Ieee.double x <;> rw [ev, hs] at h2 h3 <;> simp only [sr_true, sr_false] at h2 h3 <;> have := p2_pos 258 <;> grind
  obtain ⟨z, hz, hv⟩ := repr_ex Ieee.double (n := k) (e := Ieee.double.leastPlace + L + 1) hk (by omega) (by
    rw [e3, inf64]
    have h4 := p2_lt (show (259 : Int) < 1024 by decide)
    have := p2_pos 259
    grind)
  rw [e3] at hv
  have he := hr.exact (t := sg Ieee.double x) (z := z) hz (by
    rw [hv, ev]
    cases sg Ieee.double x <;> simp only [sr_true, sr_false] <;> grind)
  exact ⟨r, he.1, by rw [he.2]; grind⟩
/-- At most one of them is more than half. -/
theorem one_great {ps : Nat → Nat} {n i j : Nat} (hn : n ≤ 16) (h : ∀ i, i < n → PwOk (ps i)) (hij : i < j) (hj : j < n) (t1 : tonI ps n 500 i = true) (t2 : tonI ps n 500 j = true) : False := by
  rw [tonI_iff hn h (by omega) (by decide) (by decide), decide_eq_true_eq] at t1
  rw [tonI_iff hn h hj (by decide) (by decide), decide_eq_true_eq] at t2
  obtain ⟨a, b, c⟩ := sm_274 hn h
  have rS := (tw_spec (m := 500) a b c (by decide) (by decide)).2.2
  have r1 := (mw_spec (h i (by omega))).2.2
  have r2 := (mw_spec (h j hj)).2.2
  have c5 : ((500 : Int) : Rat) = 500 := rfl
  rw [c5] at rS
  have g1 : val Ieee.double (smT ps n) * 500 < val Ieee.double (ps i) * 1000 := by
    rcases (Rat.le_total : val Ieee.double (smT ps n) * 500 ≤ val Ieee.double (ps i) * 1000 ∨ val Ieee.double (ps i) * 1000 ≤ val Ieee.double (smT ps n) * 500) with h0 | h0
    · by_cases he : val Ieee.double (smT ps n) * 500 = val Ieee.double (ps i) * 1000
      · have := r1.mono rS (by grind); grind
      · grind
    · have := r1.mono rS h0; grind
  have g2 : val Ieee.double (smT ps n) * 500 < val Ieee.double (ps j) * 1000 := by
    rcases (Rat.le_total : val Ieee.double (smT ps n) * 500 ≤ val Ieee.double (ps j) * 1000 ∨ val Ieee.double (ps j) * 1000 ≤ val Ieee.double (smT ps n) * 500) with h0 | h0
    · by_cases he : val Ieee.double (smT ps n) * 500 = val Ieee.double (ps j) * 1000
      · have := r2.mono rS (by grind); grind
      · grind
    · have := r2.mono rS h0; grind
  -- the sum is at least twice the smaller of both
  obtain ⟨_, hri⟩ := smT_step (smT_ok hn h i (by omega)).1 (h i (by omega)).1
  have s1 := hri.ge (h i (by omega)).1 (by have := (smT_ok hn h i (by omega)).2.1; grind)
  have s2 := sm_mono hn h (j - (i + 1)) (i + 1) (by omega)
  rw [show i + 1 + (j - (i + 1)) = j by omega] at s2
  obtain ⟨_, hrj⟩ := smT_step (smT_ok hn h j (by omega)).1 (h j hj).1
  have s3 := sm_mono hn h (n - (j + 1)) (j + 1) (by omega)
  rw [show j + 1 + (n - (j + 1)) = n by omega] at s3
  rcases (Rat.le_total : val Ieee.double (ps i) ≤ val Ieee.double (ps j) ∨ val Ieee.double (ps j) ≤ val Ieee.double (ps i)) with h0 | h0
  · obtain ⟨z, fz, hz⟩ := twice_repr (h i (by omega))
    have := hrj.ge fz (by rw [hz]; grind)
    rw [hz] at this
    grind
  · obtain ⟨z, fz, hz⟩ := twice_repr (h j hj)
    have := hrj.ge fz (by rw [hz]; grind)
    rw [hz] at this
    grind
def b2i (b : Bool) : Int := if b then 1 else 0
/-- How many are great. -/
def cnt (f : Nat → Bool) : Nat → Int
  | 0 => 0
  | i + 1 => cnt f i + b2i (f i)
theorem cnt_le {f : Nat → Bool} {n : Nat} (h : ∀ i j, i < j → j < n → f i = true → f j = true → False) : ∀ i, i ≤ n → (cnt f i = 0 ∧ ∀ j, j < i → f j = false) ∨ (cnt f i = 1 ∧ ∃ j, j < i ∧ f j = true)
  | 0, _ => .inl ⟨rfl, fun j hj => absurd hj (Nat.not_lt_zero _)⟩
  | i + 1, hi => by
    have e : cnt f (i + 1) = cnt f i + b2i (f i) := rfl
    rcases cnt_le h i (by omega) with ⟨h1, h2⟩ | ⟨h1, j, h2, h3⟩
    · cases hf : f i
      · left
        refine ⟨by rw [e, h1, hf]; rfl, fun j hj => ?_⟩
        by_cases hji : j < i
        · exact h2 j hji
        · rw [show j = i by omega]; exact hf
      · right
        exact ⟨by rw [e, h1, hf]; rfl, i, by omega, hf⟩
    · right
      cases hf : f i
      · exact ⟨by rw [e, h1, hf]; rfl, j, by omega, h3⟩
      · exact (h j i h2 (by omega) h3 hf).elim
theorem cnt_bd (f : Nat → Bool) : ∀ i, 0 ≤ cnt f i ∧ cnt f i ≤ i
  | 0 => ⟨Int.le_refl _, Int.le_refl _⟩
  | i + 1 => by
    have := cnt_bd f i
    have e : cnt f (i + 1) = cnt f i + b2i (f i) := rfl
    rw [e]
    cases f i <;> simp [b2i] <;> omega
end Go.Proofs.Ytnomlkkhkacajaa
