/- Texts on the way to a law (Mg, V2), each with its own remark. -/
import Derived.Test.YtnomlkkhkacajaaGreatDoorPC06
import Derived.Test.YtnomlkkhkacajaaGreatDoorPC07
import Derived.Test.YtnomlkkhkacajaaGreatDoorPC08
import Derived.Test.YtnomlkkhkacajaaGreatDoorPC05
namespace Go.Proofs.YtnomlkkhkacajaaGreatDoor
open Go.RowKit

theorem val_of_read {f : Ieee.Format} {x : Nat} (hx : Fin f x) {s : Bool} {m : Nat} {p : Int} (h : f.read x = .number s m p) : val f x = sr s ((m : Rat) * p2 p) := by
  obtain ⟨m', p', e1, e2⟩ := read_fin f hx
  rw [h] at e1
  injection e1 with a b c
  subst b
  subst c
  unfold val
  rw [← e2, ← a]
theorem p2_inv {a : Nat} : p2 (-(a : Int)) = 1 / ((2 ^ a : Nat) : Rat) := by
  have h : p2 (-(a : Int)) * p2 (a : Int) = 1 := by rw [← p2_add, show -(a : Int) + (a : Int) = 0 by omega, p2_zero]
  rw [p2_nat] at h
  have := one_le_pow a
  have h2 : ((2 ^ a : Nat) : Rat) ≠ 0 := by grind
  have h3 : (1 / ((2 ^ a : Nat) : Rat)) * ((2 ^ a : Nat) : Rat) = 1 := Rat.div_mul_cancel h2
  have h4 : (p2 (-(a : Int)) - 1 / ((2 ^ a : Nat) : Rat)) * ((2 ^ a : Nat) : Rat) = 0 := by grind
  rcases Rat.mul_eq_zero.1 h4 with h5 | h5
  · grind
  · exact absurd h5 h2
theorem w_one : Fin Ieee.single 1065353216 ∧ val Ieee.single 1065353216 = 1 := by
  have h := narrow_whl (int_whl (n := 1) (by decide)) (by decide)
  rw [show narrow (floatOfInt .f64 1) = 1065353216 by decide] at h
  exact ⟨h.1, by rw [h.2]; rfl⟩
theorem w_mone : Fin Ieee.single 3212836864 ∧ val Ieee.single 3212836864 = -1 := by
  have h := narrow_whl (int_whl (n := -1) (by decide)) (by decide)
  rw [show narrow (floatOfInt .f64 (-1)) = 3212836864 by decide] at h
  exact ⟨h.1, by rw [h.2]; rfl⟩
theorem p2_m24' : p2 (-24) = 1 / 16777216 := p2_inv (a := 24)
theorem p2_m25' : p2 (-25) = 1 / 33554432 := p2_inv (a := 25)
theorem w_c : Fin Ieee.single 1064076126 ∧ val Ieee.single 1064076126 = 15500126 / 16777216 := by
  have hf : Fin Ieee.single 1064076126 := by unfold Fin; decide
  refine ⟨hf, ?_⟩
  rw [val_of_read hf (s := false) (m := 15500126) (p := -24) (by decide), p2_m24']; decide +kernel
theorem w_mc : Fin Ieee.single 3211559774 ∧ val Ieee.single 3211559774 = -(15500126 / 16777216) := by
  have hf : Fin Ieee.single 3211559774 := by unfold Fin; decide
  refine ⟨hf, ?_⟩
  rw [val_of_read hf (s := true) (m := 15500126) (p := -24) (by decide), p2_m24']; decide +kernel
theorem w_e : Fin Ieee.single 1060439283 ∧ val Ieee.single 1060439283 = 11863283 / 16777216 := by
  have hf : Fin Ieee.single 1060439283 := by unfold Fin; decide
  refine ⟨hf, ?_⟩
  rw [val_of_read hf (s := false) (m := 11863283) (p := -24) (by decide), p2_m24']; decide +kernel
theorem w_me : Fin Ieee.single 3207922931 ∧ val Ieee.single 3207922931 = -(11863283 / 16777216) := by
  have hf : Fin Ieee.single 3207922931 := by unfold Fin; decide
  refine ⟨hf, ?_⟩
  rw [val_of_read hf (s := true) (m := 11863283) (p := -24) (by decide), p2_m24']; decide +kernel
theorem w_d : Fin Ieee.single 1053028117 ∧ val Ieee.single 1053028117 = 12840725 / 33554432 := by
  have hf : Fin Ieee.single 1053028117 := by unfold Fin; decide
  refine ⟨hf, ?_⟩
  rw [val_of_read hf (s := false) (m := 12840725) (p := -25) (by decide), p2_m25']; decide +kernel
theorem w_md : Fin Ieee.single 3200511765 ∧ val Ieee.single 3200511765 = -(12840725 / 33554432) := by
  have hf : Fin Ieee.single 3200511765 := by unfold Fin; decide
  refine ⟨hf, ?_⟩
  rw [val_of_read hf (s := true) (m := 12840725) (p := -25) (by decide), p2_m25']; decide +kernel
/-- What a number is worth, squared. -/
def sq2 (z : C) : Rat := val Ieee.single z.1 * val Ieee.single z.1 + val Ieee.single z.2 * val Ieee.single z.2
theorem turn_sq (k : Int) : sq2 (turnC k) ≤ 4194305 / 4194304 := by
  unfold turnC
  split
  · have h0 := Int.emod_nonneg k (show (16 : Int) ≠ 0 by decide)
    have h1 := Int.emod_lt_of_pos k (show (0 : Int) < 16 by decide)
    obtain ⟨j, hj⟩ : ∃ j, j = (k % 16).toNat := ⟨_, rfl⟩
    rw [← hj]
    have : j = 0 ∨ j = 1 ∨ j = 2 ∨ j = 3 ∨ j = 4 ∨ j = 5 ∨ j = 6 ∨ j = 7 ∨ j = 8 ∨ j = 9 ∨ j = 10 ∨ j = 11 ∨ j = 12 ∨ j = 13 ∨ j = 14 ∨ j = 15 := by omega
    unfold sq2
    rcases this with rfl | rfl | rfl | rfl | rfl | rfl | rfl | rfl | rfl | rfl | rfl | rfl | rfl | rfl | rfl | rfl <;> simp only [nth, turnL, List.getD_cons_succ, List.getD_cons_zero, w_one.2, w_mone.2, w_c.2, w_mc.2, w_d.2, w_md.2, w_e.2, w_me.2, zero32.2] <;> decide +kernel
  · unfold sq2; simp only [zero32.2]; decide +kernel

theorem sq_abs {x y : Rat} (h : x * x ≤ y * y) (hy : 0 ≤ y) : x ≤ y ∧ -y ≤ x := by
  constructor
  · rcases (Rat.le_total : x ≤ y ∨ y ≤ x) with h1 | h1
    · exact h1
    · by_cases he : x = y
      · grind
      · have h2 : 0 < x - y := by grind
        have h3 : 0 < x + y := by grind
        have := Rat.mul_pos h2 h3
        grind
  · rcases (Rat.le_total : -y ≤ x ∨ x ≤ -y) with h1 | h1
    · exact h1
    · by_cases he : x = -y
      · grind
      · have h2 : 0 < -x - y := by grind
        have h3 : 0 < y - x := by grind
        have := Rat.mul_pos h2 h3
        grind
theorem sq_nn (x : Rat) : 0 ≤ x * x := by
  rcases (Rat.le_total : 0 ≤ x ∨ x ≤ 0) with h | h
  · exact Rat.mul_nonneg h h
  · have := Rat.mul_nonneg (show 0 ≤ -x by grind) (show 0 ≤ -x by grind); grind
theorem round_sq {q1 q2 p1 p2' R e : Rat} (h : q1 * q1 + q2 * q2 ≤ R * R) (hR : 0 ≤ R) (_he : 0 ≤ e) (a1 : p1 - q1 ≤ e) (a2 : q1 - p1 ≤ e) (b1 : p2' - q2 ≤ e) (b2 : q2 - p2' ≤ e) :
    p1 * p1 + p2' * p2' ≤ (R + 2 * e) * (R + 2 * e) := by
  have s1 := sq_nn q1
  have s2 := sq_nn q2
  obtain ⟨c1, c2⟩ := sq_abs (x := q1) (y := R) (by grind) hR
  obtain ⟨c3, c4⟩ := sq_abs (x := q2) (y := R) (by grind) hR
  obtain ⟨d1, hd1⟩ : ∃ d1, d1 = p1 - q1 := ⟨_, rfl⟩
  obtain ⟨d2, hd2⟩ : ∃ d2, d2 = p2' - q2 := ⟨_, rfl⟩
  have e1 : p1 = q1 + d1 := by grind
  have e2 : p2' = q2 + d2 := by grind
  have f1 := Rat.mul_nonneg (show 0 ≤ R - q1 by grind) (show 0 ≤ e + d1 by grind)
  have f2 := Rat.mul_nonneg (show 0 ≤ R + q1 by grind) (show 0 ≤ e - d1 by grind)
  have f3 := Rat.mul_nonneg (show 0 ≤ R - q2 by grind) (show 0 ≤ e + d2 by grind)
  have f4 := Rat.mul_nonneg (show 0 ≤ R + q2 by grind) (show 0 ≤ e - d2 by grind)
  have f5 := Rat.mul_nonneg (show 0 ≤ e - d1 by grind) (show 0 ≤ e + d1 by grind)
  have f6 := Rat.mul_nonneg (show 0 ≤ e - d2 by grind) (show 0 ≤ e + d2 by grind)
  have f7 := sq_nn e
  rw [e1, e2]
  clear a1 a2 b1 b2 e1 e2 hd1 hd2 c1 c2 c3 c4 s1 s2
  grind

/-- The unit of the bounds. -/
def U : Rat := p2 100
theorem U_pos : 0 < U := p2_pos 100
theorem U_of (a : Nat) : p2 ((a : Int) + 100) = ((2 ^ a : Nat) : Rat) * U := by rw [p2_add, p2_nat]; rfl
theorem u128 : p2 128 = 268435456 * U := U_of 28
theorem u104 : p2 104 = 16 * U := U_of 4
/-- The greatest word. -/
theorem max32 : ∃ z, z < Ieee.single.infRung ∧ rv Ieee.single z = 268435440 * U := by
  obtain ⟨z, hz, hv⟩ := repr_ex Ieee.single (n := 16777215) (e := 104) (by decide) (by decide) (by
    rw [inf32, u128, u104]
    have := U_pos
    have c : ((16777215 : Nat) : Rat) = 16777215 := rfl
    rw [c]; grind)
  refine ⟨z, hz, ?_⟩
  rw [hv, u104]
  have c : ((16777215 : Nat) : Rat) = 16777215 := rfl
  rw [c]; grind
/-- So great at most. -/
def Md (z : C) (R : Rat) : Prop := finB z = true ∧ 0 ≤ R ∧ sq2 z ≤ R * R
theorem Md.mono {z : C} {R S : Rat} (h : Md z R) (hS : R ≤ S) : Md z S := by
  obtain ⟨h1, h2, h3⟩ := h
  have := rmul_le h2 h2 hS hS
  exact ⟨h1, by grind, by grind⟩
theorem Md.part {z : C} {R : Rat} (h : Md z R) : (val Ieee.single z.1 ≤ R ∧ -R ≤ val Ieee.single z.1) ∧ (val Ieee.single z.2 ≤ R ∧ -R ≤ val Ieee.single z.2) := by
  obtain ⟨_, h2, h3⟩ := h
  unfold sq2 at h3
  have s1 := sq_nn (val Ieee.single z.1)
  have s2 := sq_nn (val Ieee.single z.2)
  exact ⟨sq_abs (by grind) h2, sq_abs (by grind) h2⟩
/-- A rounded number that is not too great. -/
theorem rnd_U {q : Rat} {r : Nat} (h : Rnd Ieee.single q r) (h1 : q ≤ 268435440 * U) (h2 : -(268435440 * U) ≤ q) : Fin Ieee.single r ∧ val Ieee.single r - q ≤ 16 * U ∧ q - val Ieee.single r ≤ 16 * U := by
  obtain ⟨z, hz, hv⟩ := max32
  have hU := U_pos
  obtain ⟨hf, _, _⟩ := h.le hz (by rw [hv]; exact h1) (by rw [hv]; exact h2)
  have he := h.err (E := 128) (by rw [u128]; grind) (by rw [u128]; grind) (by decide) hf
  have e104 : p2 (128 - (Ieee.single.fractionBits : Int) - 1) = p2 104 := rfl
  rw [e104, u104] at he
  exact ⟨hf, he⟩
theorem add_md {a b : C} {R S : Rat} (ha : Md a R) (hb : Md b S) (h : R + S ≤ 268000000 * U) : Md (addC a b) (R + S + 32 * U) := by
  obtain ⟨a1, a2, a3⟩ := ha
  obtain ⟨b1, b2, b3⟩ := hb
  obtain ⟨_, r1, r2⟩ := addC_spec a1 b1
  have hU := U_pos
  unfold sq2 at a3 b3
  generalize val Ieee.single a.1 = x1 at *
  generalize val Ieee.single a.2 = x2 at *
  generalize val Ieee.single b.1 = y1 at *
  generalize val Ieee.single b.2 = y2 at *
  have hcs : x1 * y1 + x2 * y2 ≤ R * S := by
    refine (sq_abs (x := x1 * y1 + x2 * y2) (y := R * S) ?_ (Rat.mul_nonneg a2 b2)).1
    have s1 := sq_nn (x1 * y2 - x2 * y1)
    have s2 := rmul_le (a := x1 * x1 + x2 * x2) (b := y1 * y1 + y2 * y2) (c := R * R) (d := S * S) (by have := sq_nn x1; have := sq_nn x2; grind) (by have := sq_nn y1; have := sq_nn y2; grind) a3 b3
    grind
  have hq : (x1 + y1) * (x1 + y1) + (x2 + y2) * (x2 + y2) ≤ (R + S) * (R + S) := by grind
  have hRS : 0 ≤ R + S := by grind
  have t1 := sq_nn (x1 + y1)
  have t2 := sq_nn (x2 + y2)
  obtain ⟨c1, c2⟩ := sq_abs (x := x1 + y1) (y := R + S) (by grind) hRS
  obtain ⟨c3, c4⟩ := sq_abs (x := x2 + y2) (y := R + S) (by grind) hRS
  obtain ⟨f1, g1, g2⟩ := rnd_U r1 (by grind) (by grind)
  obtain ⟨f2, g3, g4⟩ := rnd_U r2 (by grind) (by grind)
  refine ⟨finB_iff.2 ⟨f1, f2⟩, by grind, ?_⟩
  have := round_sq hq hRS (show 0 ≤ 16 * U by grind) g1 g2 g3 g4
  unfold sq2
  rw [show R + S + 32 * U = R + S + 2 * (16 * U) by grind]
  exact this
theorem p2_le128 {x : Nat} (h : Fin Ieee.single x) : val Ieee.single x ≤ p2 128 ∧ -p2 128 ≤ val Ieee.single x := by
  have := val32_lt h
  have l1 := le_absR (val Ieee.single x)
  have l2 := neg_le_absR (val Ieee.single x)
  constructor <;> grind
/-- A product in double precision, of a word and one of at most 2. -/
theorem m64_near {x y : Nat} (hx : Fin Ieee.single x) (hy : Fin Ieee.single y) (h1 : val Ieee.single y ≤ 2) (h2 : -2 ≤ val Ieee.single y) :
    val Ieee.double (m64 x y) - val Ieee.single x * val Ieee.single y ≤ p2 76 ∧ val Ieee.single x * val Ieee.single y - val Ieee.double (m64 x y) ≤ p2 76 ∧ absR (val Ieee.single x * val Ieee.single y) ≤ p2 129 := by
  obtain ⟨_, r, f⟩ := m64_spec hx hy
  obtain ⟨v1, v2⟩ := p2_le128 hx
  have e129 : p2 129 = 2 * p2 128 := by rw [show (129 : Int) = 128 + 1 from rfl, p2_succ]
  have hp := p2_pos 128
  generalize val Ieee.single x = a at *
  generalize val Ieee.single y = b at *
  have k1 := Rat.mul_nonneg (show 0 ≤ p2 128 - a by grind) (show 0 ≤ 2 + b by grind)
  have k2 := Rat.mul_nonneg (show 0 ≤ p2 128 + a by grind) (show 0 ≤ 2 - b by grind)
  have k3 := Rat.mul_nonneg (show 0 ≤ p2 128 - a by grind) (show 0 ≤ 2 - b by grind)
  have k4 := Rat.mul_nonneg (show 0 ≤ p2 128 + a by grind) (show 0 ≤ 2 + b by grind)
  have l1 : a * b ≤ p2 129 := by rw [e129]; grind
  have l2 : -p2 129 ≤ a * b := by rw [e129]; grind
  have he := r.err (E := 129) l1 l2 (by decide) f
  have e76 : p2 (129 - (Ieee.double.fractionBits : Int) - 1) = p2 76 := rfl
  rw [e76] at he
  exact ⟨he.1, he.2, absR_le l1 l2⟩
theorem mul_md {z t : C} {R : Rat} (hz : Md z R) (ht : finB t = true) (hs : sq2 t ≤ 4194305 / 4194304) (h : R ≤ 268000000 * U) : Md (mulC z t) (R + 100 * U) := by
  obtain ⟨z1, z2, z3⟩ := hz
  obtain ⟨fa, fb⟩ := finB_iff.1 z1
  obtain ⟨fc, fd⟩ := finB_iff.1 ht
  have hU := U_pos
  obtain ⟨_, rr, fr⟩ := re64_spec z1 ht
  obtain ⟨_, ri, fi⟩ := im64_spec z1 ht
  obtain ⟨nr, ni⟩ := mulC_rnd z1 ht
  have hs' := hs
  unfold sq2 at hs'
  have tc := sq_nn (val Ieee.single t.1)
  have td := sq_nn (val Ieee.single t.2)
  obtain ⟨u1, u2⟩ := sq_abs (x := val Ieee.single t.1) (y := 2) (by grind) (by grind)
  obtain ⟨u3, u4⟩ := sq_abs (x := val Ieee.single t.2) (y := 2) (by grind) (by grind)
  obtain ⟨ac1, ac2, ac3⟩ := m64_near fa fc u1 u2
  obtain ⟨bd1, bd2, bd3⟩ := m64_near fb fd u3 u4
  obtain ⟨ad1, ad2, ad3⟩ := m64_near fa fd u3 u4
  obtain ⟨bc1, bc2, bc3⟩ := m64_near fb fc u1 u2
  have hx1 := le_absR (val Ieee.single z.1 * val Ieee.single t.1)
  have hx2 := neg_le_absR (val Ieee.single z.1 * val Ieee.single t.1)
  have hx3 := le_absR (val Ieee.single z.2 * val Ieee.single t.2)
  have hx4 := neg_le_absR (val Ieee.single z.2 * val Ieee.single t.2)
  have hx5 := le_absR (val Ieee.single z.1 * val Ieee.single t.2)
  have hx6 := neg_le_absR (val Ieee.single z.1 * val Ieee.single t.2)
  have hx7 := le_absR (val Ieee.single z.2 * val Ieee.single t.1)
  have hx8 := neg_le_absR (val Ieee.single z.2 * val Ieee.single t.1)
  have e131 : p2 131 = 4 * p2 129 := by rw [show (131 : Int) = 129 + 1 + 1 from rfl, p2_succ, p2_succ]; grind
  have e129 : p2 76 ≤ p2 129 := p2_mono (by decide)
  have e78 : p2 78 = 4 * p2 76 := by rw [show (78 : Int) = 76 + 1 + 1 from rfl, p2_succ, p2_succ]; grind
  have eU : 16777216 * p2 76 = U := by unfold U; rw [show (100 : Int) = ((24 : Nat) : Int) + 76 from rfl, p2_add, p2_nat]; rfl
  have hp76 := p2_pos 76
  have er := rr.err (E := 131) (by grind) (by grind) (by decide) fr
  have ei := ri.err (E := 131) (by grind) (by grind) (by decide) fi
  have e78' : p2 (131 - (Ieee.double.fractionBits : Int) - 1) = p2 78 := rfl
  rw [e78'] at er ei
  obtain ⟨q1, hq1⟩ : ∃ q1, q1 = val Ieee.single z.1 * val Ieee.single t.1 - val Ieee.single z.2 * val Ieee.single t.2 := ⟨_, rfl⟩
  obtain ⟨q2, hq2⟩ : ∃ q2, q2 = val Ieee.single z.1 * val Ieee.single t.2 + val Ieee.single z.2 * val Ieee.single t.1 := ⟨_, rfl⟩
  have g1 : val Ieee.double (re64 z t) - q1 ≤ U := by grind
  have g2 : q1 - val Ieee.double (re64 z t) ≤ U := by grind
  have g3 : val Ieee.double (im64 z t) - q2 ≤ U := by grind
  have g4 : q2 - val Ieee.double (im64 z t) ≤ U := by grind
  have hq : q1 * q1 + q2 * q2 ≤ (R + 64 * U) * (R + 64 * U) := by
    have s2 := rmul_le (a := sq2 z) (b := sq2 t) (c := R * R) (d := 4194305 / 4194304) (by unfold sq2; have := sq_nn (val Ieee.single z.1); have := sq_nn (val Ieee.single z.2); grind) (by unfold sq2; grind) z3 hs
    have s3 : q1 * q1 + q2 * q2 = sq2 z * sq2 t := by rw [hq1, hq2]; unfold sq2; grind
    have s4 := rmul_le (a := R) (b := R) (c := R) (d := 268000000 * U) z2 z2 Rat.le_refl h
    have s5 := sq_nn U
    have s6 : 0 ≤ R * U := Rat.mul_nonneg z2 (Rat.le_of_lt hU)
    have s7 : R * (268000000 * U) = 268000000 * (R * U) := by grind
    rw [s7] at s4
    rw [s3]
    clear g1 g2 g3 g4 er ei hx1 hx2 hx3 hx4 hx5 hx6 hx7 hx8 ac1 ac2 ac3 bd1 bd2 bd3 ad1 ad2 ad3 bc1 bc2 bc3 e131 e129 e78 eU hq1 hq2 s3 rr ri nr ni u1 u2 u3 u4 tc td hs hs' z3 h
    grind
  have hR : 0 ≤ R + 64 * U := by grind
  have t1 := sq_nn q1
  have t2 := sq_nn q2
  obtain ⟨c1, c2⟩ := sq_abs (x := q1) (y := R + 64 * U) (by grind) hR
  obtain ⟨c3, c4⟩ := sq_abs (x := q2) (y := R + 64 * U) (by grind) hR
  clear ac1 ac2 ac3 bd1 bd2 bd3 ad1 ad2 ad3 bc1 bc2 bc3 hx1 hx2 hx3 hx4 hx5 hx6 hx7 hx8 er ei e131 e129 e78 eU hp76 hq1 hq2 rr ri hs hs' tc td u1 u2 u3 u4 z3
  obtain ⟨f1, k1, k2⟩ := rnd_U nr (by grind) (by grind)
  obtain ⟨f2, k3, k4⟩ := rnd_U ni (by grind) (by grind)
  refine ⟨finB_iff.2 ⟨f1, f2⟩, by grind, ?_⟩
  have := round_sq hq hR (show 0 ≤ 17 * U by grind) (p1 := val Ieee.single (mulC z t).1) (p2' := val Ieee.single (mulC z t).2) (by grind) (by grind) (by grind) (by grind)
  have h98 : Md (mulC z t) (R + 64 * U + 2 * (17 * U)) := ⟨finB_iff.2 ⟨f1, f2⟩, by grind, this⟩
  exact (h98.mono (by grind)).2.2
end Go.Proofs.YtnomlkkhkacajaaGreatDoor

namespace Go.Proofs.YtnomlkkhkacajaaGreatDoor
open Go.RowKit

theorem one_le_U : 10000000000 ≤ U := by
  have h : U = p2 ((60 : Nat) : Int) * p2 ((40 : Nat) : Int) := by unfold U; rw [← p2_add]; rfl
  rw [p2_nat, p2_nat] at h
  rw [h]; decide +kernel
theorem md_parts {z : C} {a b R : Rat} (hf : finB z = true) (h1 : val Ieee.single z.1 ≤ a) (h2 : -a ≤ val Ieee.single z.1) (h3 : val Ieee.single z.2 ≤ b) (h4 : -b ≤ val Ieee.single z.2) (hR : 0 ≤ R) (h : a * a + b * b ≤ R * R) : Md z R := by
  refine ⟨hf, hR, ?_⟩
  unfold sq2
  have k1 := Rat.mul_nonneg (show 0 ≤ a - val Ieee.single z.1 by grind) (show 0 ≤ a + val Ieee.single z.1 by grind)
  have k2 := Rat.mul_nonneg (show 0 ≤ b - val Ieee.single z.2 by grind) (show 0 ≤ b + val Ieee.single z.2 by grind)
  grind
theorem small_md {z : C} {B : Rat} (hf : finB z = true) (hB : 0 ≤ B) (hB2 : B ≤ 1000000000) (h1 : val Ieee.single z.1 ≤ B) (h2 : -B ≤ val Ieee.single z.1) (h3 : val Ieee.single z.2 ≤ B) (h4 : -B ≤ val Ieee.single z.2) : Md z U := by
  have hU := one_le_U
  refine md_parts hf h1 h2 h3 h4 (Rat.le_of_lt U_pos) ?_
  have k1 := rmul_le hB hB hB2 hB2
  have k2 := rmul_le (show (0 : Rat) ≤ 10000000000 by decide +kernel) (show (0 : Rat) ≤ 10000000000 by decide +kernel) hU hU
  grind
/-- How great a sum of products with turns may be. -/
def tot (r : Nat → Rat) : Nat → Rat
  | 0 => 0
  | i + 1 => tot r i + (r i + 132 * U)
theorem tot_nn {r : Nat → Rat} {n : Nat} (h : ∀ i, i < n → 0 ≤ r i) : ∀ i, i ≤ n → 0 ≤ tot r i
  | 0, _ => Rat.le_refl
  | i + 1, hi => by
    have h1 := tot_nn h i (by omega)
    have h2 := h i (by omega)
    have := U_pos
    show 0 ≤ tot r i + (r i + 132 * U)
    grind
theorem tot_le {r : Nat → Rat} {n : Nat} (h : ∀ i, i < n → 0 ≤ r i) : ∀ d i, i + d = n → tot r i ≤ tot r n
  | 0, i, hi => by rw [show n = i by omega]; exact Rat.le_refl
  | d + 1, i, hi => by
    have h1 := tot_le h d (i + 1) (by omega)
    have h2 := h i (by omega)
    have := U_pos
    have e : tot r (i + 1) = tot r i + (r i + 132 * U) := rfl
    grind
theorem prodT_md {xs : List C} {b : Int} {i : Nat} {R : Rat} (h : Md (nth xs i) R) (hR : R ≤ 268000000 * U) : Md (prodT xs b i) (R + 100 * U) :=
  mul_md h (turnC_fin _) (turn_sq _) hR
theorem sumT_md {xs : List C} {b : Int} {r : Nat → Rat} {n : Nat} (h : ∀ i, i < n → Md (nth xs i) (r i)) (ht : tot r n ≤ 268000000 * U) :
    ∀ i, i ≤ n → ∃ s, sumT xs b i = some s ∧ Md s (tot r i)
  | 0, _ => ⟨(0, 0), rfl, by decide, Rat.le_refl, by unfold sq2; simp only [zero32.2]; show (0 : Rat) * 0 + 0 * 0 ≤ 0 * 0; decide +kernel⟩
  | i + 1, hi => by
    obtain ⟨s, e, hs⟩ := sumT_md (b := b) h ht i (by omega)
    have hnn : ∀ j, j < n → 0 ≤ r j := fun j hj => (h j hj).2.1
    have hU := U_pos
    have t1 := tot_le hnn (n - (i + 1)) (i + 1) (by omega)
    have t0 := tot_nn hnn i (by omega)
    have e1 : tot r (i + 1) = tot r i + (r i + 132 * U) := rfl
    have hri := hnn i (by omega)
    have hp := prodT_md (b := b) (h i (by omega)) (by grind)
    have ha := add_md hs hp (by grind)
    refine ⟨addC s (prodT xs b i), ?_, ha.mono (by rw [e1]; grind)⟩
    show sumStep (sumT xs b i) _ = _
    rw [e]
    unfold sumStep
    rw [Option.bind_some, hp.1, ha.1]; rfl
/-- The bound of all that is drawn. -/
def K1 : Rat := 237000000 * U
/-- A signal whose spectrum is there, with numbers that are not too great. -/
def Good (xs : List C) : Prop := sizB xs = true → ProdOk xs (-1) ∧ ∃ l, transF xs = some l ∧ l.length = xs.length ∧ ∀ i, i < xs.length → Md (nth l i) K1
theorem good_md {xs : List C} {r : Nat → Rat} (h : ∀ i, i < xs.length → Md (nth xs i) (r i)) (ht : tot r xs.length ≤ K1) : Good xs := fun hs => by
  have hU := U_pos
  have hnn : ∀ j, j < xs.length → 0 ≤ r j := fun j hj => (h j hj).2.1
  unfold K1 at ht
  have ht2 : tot r xs.length ≤ 268000000 * U := by grind
  refine ⟨fun k i hk hi => ?_, ?_⟩
  · have t1 := tot_le hnn (xs.length - (i + 1)) (i + 1) (by omega)
    have t0 := tot_nn hnn i (by omega)
    have e1 : tot r (i + 1) = tot r i + (r i + 132 * U) := rfl
    exact (prodT_md (h i hi) (by grind)).1
  · obtain ⟨l, e, hl, hq⟩ := allT_all (f := fun k => sumT xs (bk xs.length (-(k : Int))) xs.length) (Q := fun _ z => Md z K1) xs.length fun k hk => by
      obtain ⟨s, e, hs⟩ := sumT_md (b := bk xs.length (-(k : Int))) h ht2 xs.length (Nat.le_refl _)
      exact ⟨s, e, hs.mono ht⟩
    exact ⟨l, by rw [transF_yes hs rfl]; exact e, hl, hq⟩
theorem tot_one {n j : Nat} (hn : n ≤ 17) : ∀ i, i ≤ n → tot (fun i => if i = j then 236700000 * U else U) i ≤ (if j < i then 236700000 * U else 0) + 133 * U * ((i : Nat) : Rat)
  | 0, _ => by
    show (0 : Rat) ≤ _
    have := U_pos
    have c : ((0 : Nat) : Rat) = 0 := rfl
    rw [if_neg (by omega), c]; grind
  | i + 1, hi => by
    have h1 := tot_one (j := j) hn i (by omega)
    have hU := U_pos
    have c : ((i + 1 : Nat) : Rat) = (i : Rat) + 1 := by push_cast; rfl
    show tot _ i + ((if i = j then 236700000 * U else U) + 132 * U) ≤ _
    rw [c]
    by_cases hij : i = j
    · rw [if_pos hij, if_pos (show j < i + 1 by omega)]
      rw [if_neg (show ¬ j < i by omega)] at h1
      grind
    · rw [if_neg hij]
      by_cases hji : j < i
      · rw [if_pos (show j < i + 1 by omega)]
        rw [if_pos hji] at h1
        grind
      · rw [if_neg (show ¬ j < i + 1 by omega)]
        rw [if_neg hji] at h1
        grind
theorem whl_md {z : C} {p q M : Int} (h : WhlC z p q) (hM : M ≤ 1000000) (h1 : -M ≤ p) (h2 : p ≤ M) (h3 : -M ≤ q) (h4 : q ≤ M) : Md z U := by
  have c : ((1000000 : Int) : Rat) = 1000000 := rfl
  have c2 : ((-1000000 : Int) : Rat) = -1000000 := rfl
  have k1 : (p : Rat) ≤ ((1000000 : Int) : Rat) := Rat.intCast_le_intCast.2 (by omega)
  have k2 : ((-1000000 : Int) : Rat) ≤ (p : Rat) := Rat.intCast_le_intCast.2 (by omega)
  have k3 : (q : Rat) ≤ ((1000000 : Int) : Rat) := Rat.intCast_le_intCast.2 (by omega)
  have k4 : ((-1000000 : Int) : Rat) ≤ (q : Rat) := Rat.intCast_le_intCast.2 (by omega)
  rw [c] at k1 k3
  rw [c2] at k2 k4
  exact small_md (B := 1000000) (whlC_fin h) (by decide +kernel) (by decide +kernel) (by rw [h.1.2]; exact k1) (by rw [h.1.2]; exact k2) (by rw [h.2.2]; exact k3) (by rw [h.2.2]; exact k4)
theorem WSig.good {xs : List C} {n : Nat} {p : Nat → Int × Int} {M : Int} (h : WSig xs n p M) (hM : M ≤ 1000000) : Good xs := fun hs => by
  obtain ⟨s1, s2, s3, s4, s5⟩ := siz_parts hs
  have hl := h.len
  refine good_md (r := fun _ => U) (fun i hi => ?_) ?_ hs
  · obtain ⟨b1, b2, b3, b4⟩ := h.bd i (by omega)
    exact whl_md (h.whl i (by omega)) hM b1 b2 b3 b4
  · have := tot_one (n := xs.length) (j := 17) (by omega) xs.length (Nat.le_refl _)
    rw [if_neg (by omega)] at this
    have hU := U_pos
    have e : ∀ i, i ≤ xs.length → tot (fun _ => U) i = tot (fun i => if i = 17 then 236700000 * U else U) i := by
      intro i
      induction i with
      | zero => intro _; rfl
      | succ i ih =>
        intro hi
        show tot _ i + (U + 132 * U) = tot _ i + ((if i = 17 then 236700000 * U else U) + 132 * U)
        rw [ih (by omega), if_neg (by omega)]
    rw [e _ (Nat.le_refl _)]
    have c : ((xs.length : Nat) : Rat) ≤ ((16 : Nat) : Rat) := Rat.natCast_le_natCast.2 s4
    have c2 : ((16 : Nat) : Rat) = 16 := rfl
    rw [c2] at c
    have k := Rat.mul_le_mul_of_nonneg_left c (show 0 ≤ 133 * U by grind)
    unfold K1
    grind
end Go.Proofs.YtnomlkkhkacajaaGreatDoor
namespace Go.Proofs.YtnomlkkhkacajaaGreatDoor
open Go.RowKit

theorem Tryz.eF : Elem Tryz.prog 124 120 (.float .f64 0) 8 := Elem.mk' Tryz.underlying124 (by kernel_rfl) rfl
def fv (x : Nat) : Value := .float .f64 x
/-- The powers of numbers. -/
def pwL (f : C → Nat) (l : List C) : List Nat := l.map f
theorem pwL_get {f : C → Nat} {l : List C} {k : Nat} (h : k < l.length) : ((pwL f l).map fv)[k]? = some (fv (f (nth l k))) := by
  unfold pwL
  rw [List.getElem?_map, List.getElem?_map, List.getElem?_eq_getElem h, nth_eq h]; rfl
/-- A list of powers, and whether it is told. -/
def RetF (w : World) (ps : List Nat) (ok : Bool) (e : Ending) (w' : World) : Prop :=
  ∃ (A : Option Addr) (c : Nat), e = .returned (.tuple #[.slice A ps.length c, .bool ok]) ∧ Ow w' w.heap.size 120 (.slice A ps.length c) ps.length (ps.map fv) ∧ Below w.heap.size w w'
theorem conv64 (P : Program) {src dst : TypeId} (hs : (P.underlying src).isSome = true) (hd : P.underlying dst = some (.float .f64)) {x : Nat} (h : Fin Ieee.single x) (w : World) :
    (convert src dst (.float .f32 x)).run P w = .ok (.float .f64 (wide x)) w :=
  run_convert_float_float (w := w) src dst .f32 .f64 x (wide x) hs hd (conv_wide h)

theorem Ow.capV {w : World} {B n c : Nat} {E : TypeId} {A : Option Addr} {vs : List Value} (h : Ow w B E (.slice A n c) n vs) : n ≤ c := by
  rcases h.2 with ⟨hv, hn⟩ | ⟨g, cap, cur, hv, _, _, r⟩
  · omega
  · injection hv with _ _ h3
    subst h3
    exact r.1

set_option maxHeartbeats 2000000 in
set_option maxRecDepth 100000 in
theorem iPowers (A : Option Addr) (n c : Nat) (xs : List C) (w : World) (hn : n ≤ 1048576) (hx : Cs w A n xs) (hg : Good xs) :
    Calls Tryz.prog 124 #[.slice A n c] w (RetF w (pwL pwI ((transF xs).getD [])) (transF xs).isSome) := by
  have HT : Hid (∀ w, Cs w A n xs → Calls Tryz.prog 110 #[.slice A n c] w (RetO w (transF xs))) := fun w h => iTransform A n c xs w hn h fun hs => (hg hs).1
  cases ht : transF xs with
  | none =>
    rw [ht] at HT
    clear ht hg
    go_enter Tryz.func124, Tryz.ntmps124
    go_wp2_with fail
    refine (HT.out w hx).mono ?_
    rintro e w1 ⟨A1, m1, c1, rfl, ho1, hb1⟩
    simp only [Option.isSome_none]
    go_wp2_with fail
    go_ret2
    exact ⟨_, _, rfl, Ow.nil_ _ _ _, hb1⟩
  | some l =>
    rw [ht] at HT
    have hsz : sizB xs = true := by
      cases hs : sizB xs
      · rw [transF_no hs] at ht; cases ht
      · rfl
    obtain ⟨_, l', e', hl2, hmd⟩ := hg hsz
    rw [ht] at e'
    injection e' with e'
    subst e'
    obtain ⟨s1, s2, s3, s4, s5⟩ := siz_parts hsz
    have h16 : l.length ≤ 16 := by omega
    have HF : Hid (∀ i, i < l.length → finB (nth l i) = true) := fun i hi => (hmd i (by omega)).1
    clear ht hg hmd hl2 hsz s1 s2 s3 s4 s5
    obtain ⟨N, hN⟩ : ∃ N, N = l.length := ⟨_, rfl⟩
    have HN := Lib.hid hN
    rw [← hN] at h16
    clear hN
    go_enter Tryz.func124, Tryz.ntmps124
    go_wp2_with fail
    refine (HT.out w hx).mono ?_
    rintro e w1 ⟨A1, m1, c1, rfl, ho1, hb1⟩
    obtain rfl : m1 = N := by have h1 := ho1.len; rw [List.length_map] at h1; rw [HN.out]; exact h1.symm
    simp only [Option.isSome_some]
    have HX1 : Hid (Cs w1 A1 m1 l) := ho1.sl
    have HB1 := Lib.hid hb1
    clear ho1 hb1 hx
    go_wp2_with (at_make; refine wl_make (w0 := w1) rfl (.tmp 19) (.tmp 19) 124 rfl Tryz.eF .i64 .i64 m1 _ _ rfl rfl rfl rfl (by omega) (by unfold maxLen; omega) (Below.refl _ _) ?_; intro w2 hown hb2 _)
    have HO2 : Hid (Ow w2 w1.heap.size 120 (.slice (some ⟨w1.heap.size, 0, none⟩) m1 m1) m1 (fill ((pwL pwI l).map fv) m1 0 (.float .f64 0))) := by
      show Ow _ _ _ _ _ _
      rw [fill_zero]
      exact hown
    have HB2 := Lib.hid hb2
    have HPL : Hid (((pwL pwI l).map fv).length = m1) := by show _ = _; unfold pwL; rw [List.length_map, List.length_map]; exact HN.out.symm
    clear hown hb2
    go_loopw [23] (fun i wr => ∃ k : Nat, k ≤ m1 ∧ i = .int .i64 k ∧ Ow wr w1.heap.size 120 (.slice (some ⟨w1.heap.size, 0, none⟩) m1 m1) m1 (fill ((pwL pwI l).map fv) m1 k (.float .f64 0)) ∧ Below w1.heap.size w1 wr) (fun i _ => m1 - (intOf i).toNat)
    case atStart => exact ⟨0, by omega, rfl, HO2.out, HB2.out⟩
    case round =>
      obtain ⟨k, hk, rfl, ho, hb⟩ := hrel
      have HO := Lib.hid ho
      have HB := Lib.hid hb
      clear ho
      by_cases hlt : k < m1
      · obtain ⟨b, o, rfl, hbl, hc⟩ := HX1.out.at_ hlt
        have hck : wr.cell? ⟨b, o + k, none⟩ = some (cv (nth l k)) := (hb.cell (p := ⟨b, o + k, none⟩) hbl).trans (hc k hlt)
        have hkl : k < l.length := by rw [← HN.out]; exact hlt
        have hf := HF.out k hkl
        obtain ⟨f1, f2⟩ := finB_iff.1 hf
        obtain ⟨p1, p2, p3⟩ := pwI_spec hf
        have q1 := fun w => conv64 Tryz.prog (src := 131) (dst := 120) (by kernel_rfl) Tryz.underlying120 f1 w
        have q2 := fun w => conv64 Tryz.prog (src := 131) (dst := 120) (by kernel_rfl) Tryz.underlying120 f2 w
        have q3 := fun w => run_float_arith (P := Tryz.prog) w .mul 120 .f64 _ _ _ (m64_spec f1 f1).1
        have q4 := fun w => run_float_arith (P := Tryz.prog) w .mul 120 .f64 _ _ _ (m64_spec f2 f2).1
        have q5 := fun w => run_float_arith (P := Tryz.prog) w .add 120 .f64 _ _ _ p1
        obtain ⟨g, hg, hge, hgl, hcell, hfr, hst⟩ := Ow.at_ HO.out hlt
        injection hg with hg
        injection hg with hg
        subst hg
        have hck2 : wr.cell? ⟨w1.heap.size, k, none⟩ = some (.float .f64 0) := (hcell k hlt).trans (fill_get HPL.out hlt _)
        have hfr2 := hfr k
        have hst2 := hst k (fv (pwI (nth l k)))
        rw [fill_set HPL.out hlt _ _ (pwL_get hkl)] at hst2
        have HS := Lib.hid hst2
        clear hst2 hcell hfr hst hb hc f1 f2 hf p1 p2 p3
        generalize pwI (nth l k) = pw at *
        generalize m64 (nth l k).1 (nth l k).1 = ma at *
        generalize m64 (nth l k).2 (nth l k).2 = mb at *
        generalize nth l k = z at *
        unfold cv at hck
        unfold fv at HS
        go_wp2_with fail
        go_roundw
        case rel => exact ⟨k + 1, by omega, by go_num, HS.out, HB.out.setCell (Nat.le_refl _) _⟩
        case measure => simp [intOf]; omega
      · obtain rfl : k = m1 := by omega
        have HR : Hid (RetF w (pwL pwI l) true (.returned (.tuple #[.slice (some ⟨w1.heap.size, 0, none⟩) k k, .bool true])) wr) := by
          have h1 := HO.out
          rw [fill_full HPL.out] at h1
          have e : (pwL pwI l).length = k := by have := HPL.out; rw [List.length_map] at this; exact this
          exact ⟨_, _, by rw [e], by rw [e]; exact h1.mono HB1.out.size, HB1.out.trans (HB.out.mono HB1.out.size)⟩
        clear hb
        go_wp2_with fail
        go_ret2
        exact HR.out

set_option maxHeartbeats 2000000 in
set_option maxRecDepth 100000 in
theorem sEnergy1 (A : Option Addr) (c : Nat) (z : C) (w : World) (hx : Cs w A 1 [z]) (hf : finB z = true) :
    Calls Tryz.prog 129 #[.slice A 1 c] w fun e w' => e = .returned (.float .f64 (pwS z)) ∧ Dr w w' := by
  have HC : Hid (∀ w, Cs w A 1 [z] → Calls Tryz.prog 47 #[.slice A 1 c] w fun e w' => e = .returned (.bool true) ∧ Dr w w') := fun w h => by
    have := sSignalOk A 1 c [z] w (by omega) h
    have e : sigB [z] = true := by unfold sigB; simp [hf]
    rw [e] at this
    exact this
  obtain ⟨b, o, rfl, hbl, hc⟩ := hx.at_ (k := 0) (by omega)
  have hck : w.cell? ⟨b, o, none⟩ = some (cv z) := hc 0 (by omega)
  obtain ⟨f1, f2⟩ := finB_iff.1 hf
  obtain ⟨p1, p2, _, _⟩ := pwS_spec hf
  have q1 := fun w => conv64 Tryz.prog (src := 131) (dst := 120) (by kernel_rfl) Tryz.underlying120 f1 w
  have q2 := fun w => conv64 Tryz.prog (src := 131) (dst := 120) (by kernel_rfl) Tryz.underlying120 f2 w
  have q3 := fun w => run_float_arith (P := Tryz.prog) w .mul 120 .f64 _ _ _ (m64_spec f1 f1).1
  have q4 := fun w => run_float_arith (P := Tryz.prog) w .mul 120 .f64 _ _ _ (m64_spec f2 f2).1
  have q5 := fun w => run_float_arith (P := Tryz.prog) w .add 120 .f64 _ _ _ p1
  have q6 := fun w => run_float_arith (P := Tryz.prog) w .add 120 .f64 _ _ _ p2
  clear hc f1 f2 p1 p2 hf
  generalize pwS z = ps at *
  generalize pwA z = pa at *
  generalize m64 z.1 z.1 = ma at *
  generalize m64 z.2 z.2 = mb at *
  have HX := Lib.hid hx
  clear hx
  unfold cv at hck
  go_enter Tryz.func129, Tryz.ntmps129
  go_wp2_with fail
  refine (HC.out w HX.out).mono ?_
  rintro e w' ⟨rfl, m, rfl⟩
  have hckd : (w.drewN m).cell? ⟨b, o, none⟩ = some (.complex .f32 z.1 z.2) := hck
  go_wp2_with fail
  go_loopw [3, 4] (fun s i wr => ((s = .float .f64 0 ∧ i = .int .i64 0) ∨ (s = .float .f64 ps ∧ i = .int .i64 1)) ∧ wr = w.drewN m) (fun _ i _ => 1 - (intOf i).toNat)
  case atStart => exact ⟨.inl ⟨rfl, rfl⟩, rfl⟩
  case round =>
    obtain ⟨⟨rfl, rfl⟩ | ⟨rfl, rfl⟩, rfl⟩ := hrel
    · go_wp2_with fail
      go_roundw
      case rel => exact ⟨.inr ⟨rfl, rfl⟩, by first | trivial | rfl⟩
      case measure => simp [intOf]
    · go_wp2_with fail
      go_ret
      exact ⟨rfl, m, rfl⟩

theorem Cs.one {w : World} {g o n k : Nat} {xs : List C} (h : Cs w (some ⟨g, o, none⟩) n xs) (hk : k < n) : Cs w (some ⟨g, o + k, none⟩) 1 [nth xs k] := by
  have hl := h.len
  obtain ⟨b, o', h1, h2, h3⟩ := h.at_ hk
  injection h1 with h1
  injection h1 with h1 h4
  subst h1
  subst h4
  refine ⟨rfl, .inr ⟨g, o + k, rfl, h2, fun j v hv => ?_⟩⟩
  have hj : j = 0 := by have := (List.getElem?_eq_some_iff.1 hv).1; simp at this; exact this
  subst hj
  simp at hv
  rw [← hv]
  exact h3 k hk
set_option maxHeartbeats 2000000 in
set_option maxRecDepth 100000 in
theorem sPowers (A : Option Addr) (n c : Nat) (xs : List C) (w : World) (hn : n ≤ 1048576) (hx : Cs w A n xs) (hg : Good xs) :
    Calls Tryz.prog 100 #[.slice A n c] w (RetF w (pwL pwS ((transF xs).getD [])) (transF xs).isSome) := by
  have HT : Hid (∀ w, Cs w A n xs → Calls Tryz.prog 82 #[.slice A n c] w (RetO w (transF xs))) := fun w h => sTransform A n c xs w hn h fun hs => (hg hs).1
  cases ht : transF xs with
  | none =>
    rw [ht] at HT
    clear ht hg
    go_enter Tryz.func100, Tryz.ntmps100
    go_wp2_with fail
    refine (HT.out w hx).mono ?_
    rintro e w1 ⟨A1, m1, c1, rfl, ho1, hb1⟩
    obtain rfl : m1 = 0 := by have h1 := ho1.len; simpa using h1.symm
    simp only [Option.isSome_none]
    have HR : Hid (RetF w (pwL pwS []) false (.returned (.tuple #[.slice (some ⟨w1.heap.size, 0, none⟩) 0 0, .bool false])) (w1.alloc (.cells #[] 120))) :=
      ⟨_, _, rfl, (Ow.empty w1 120).mono hb1.size, hb1.alloc hb1.size _⟩
    clear ho1 hb1
    go_wp2_with fail
    go_loopw [6, 7] (fun v i wr => v = .slice (some ⟨w1.heap.size, 0, none⟩) 0 0 ∧ i = .int .i64 0 ∧ w1.alloc (.cells #[] 120) = wr) (fun _ i _ => (intOf i).toNat)
    case atStart => exact ⟨rfl, rfl, rfl⟩
    case round =>
      obtain ⟨rfl, rfl, rfl⟩ := hrel
      go_wp2_with fail
      go_ret2
      exact HR.out
  | some l =>
    rw [ht] at HT
    have hsz : sizB xs = true := by
      cases hs : sizB xs
      · rw [transF_no hs] at ht; cases ht
      · rfl
    obtain ⟨_, l', e', hl2, hmd⟩ := hg hsz
    rw [ht] at e'
    injection e' with e'
    subst e'
    obtain ⟨s1, s2, s3, s4, s5⟩ := siz_parts hsz
    have h16 : l.length ≤ 16 := by omega
    have h1n : 1 ≤ l.length := by omega
    have HF : Hid (∀ i, i < l.length → finB (nth l i) = true) := fun i hi => (hmd i (by omega)).1
    clear ht hg hmd hl2 hsz s1 s2 s3 s4 s5
    obtain ⟨N, hN⟩ : ∃ N, N = l.length := ⟨_, rfl⟩
    have HN := Lib.hid hN
    rw [← hN] at h16 h1n
    clear hN
    go_enter Tryz.func100, Tryz.ntmps100
    go_wp2_with fail
    refine (HT.out w hx).mono ?_
    rintro e w1 ⟨A1, m1, c1, rfl, ho1, hb1⟩
    obtain rfl : m1 = N := by have h1 := ho1.len; rw [List.length_map] at h1; rw [HN.out]; exact h1.symm
    have hcap := Ow.capV ho1
    obtain ⟨g, rfl, _⟩ := Ow.at_ ho1 (k := 0) (by omega)
    simp only [Option.isSome_some]
    have HX1 : Hid (Cs w1 (some ⟨g, 0, none⟩) m1 l) := ho1.sl
    have HB1 := Lib.hid hb1
    have HE : Hid (Ow (w1.alloc (.cells #[] 120)) w1.heap.size 120 (.slice (some ⟨w1.heap.size, 0, none⟩) 0 0) 0 (((pwL pwS l).map fv).take 0)) := Ow.empty w1 120
    have HBE : Hid (Below w1.heap.size w1 (w1.alloc (.cells #[] 120))) := below_alloc _ _
    have HPL : Hid (((pwL pwS l).map fv).length = m1) := by show _ = _; unfold pwL; rw [List.length_map, List.length_map]; exact HN.out.symm
    clear ho1 hb1 hx
    go_wp2_with fail
    go_loopw [6, 7] (fun v i wr => ∃ k : Nat, k ≤ m1 ∧ i = .int .i64 k ∧ Ow wr w1.heap.size 120 v k (((pwL pwS l).map fv).take k) ∧ Below w1.heap.size w1 wr) (fun _ i _ => m1 - (intOf i).toNat)
    case atStart => exact ⟨0, by omega, rfl, HE.out, HBE.out⟩
    case round =>
      obtain ⟨k, hk, rfl, ho, hb⟩ := hrel
      have HO := Lib.hid ho
      have HB := Lib.hid hb
      clear ho
      by_cases hlt : k < m1
      · have hkl : k < l.length := by rw [← HN.out]; exact hlt
        have HC1 : Hid (Cs wr (some ⟨g, k, none⟩) 1 [nth l k]) := by
          have := (HX1.out.below hb).one hlt
          rw [Nat.zero_add] at this
          exact this
        have hfin := HF.out k hkl
        have HEN : Hid (∀ c, Calls Tryz.prog 129 #[.slice (some ⟨g, k, none⟩) 1 c] wr fun e w' => e = .returned (.float .f64 (pwS (nth l k))) ∧ Dr wr w') := fun c => sEnergy1 _ c _ wr HC1.out hfin
        have HSN : Hid (((pwL pwS l).map fv).take k ++ [fv (pwS (nth l k))] = ((pwL pwS l).map fv).take (k + 1)) := take_snoc' (pwL_get hkl)
        have hkc : k + 1 ≤ c1 := by omega
        have hkc2 : k < c1 := by omega
        have e1 : k + 1 - k = 1 := by omega
        clear hb hfin
        generalize pwS (nth l k) = pw at *
        go_wp2_with fail
        refine (HEN.out _).mono ?_
        rintro e w4 ⟨rfl, mm, hw4⟩
        have HO4 : Hid (Ow w4 w1.heap.size 120 u6 k (((pwL pwS l).map fv).take k)) := by rw [hw4]; exact HO.out.drewN mm
        have HB4 : Hid (Below w1.heap.size w1 w4) := by rw [hw4]; exact below_drewN HB.out mm
        have hsz4 := HB4.out.size
        clear hw4
        go_wp2_with (at_builtin; refine wl_appB w1.heap.size [.float .f64 pw] hsz4 rfl (.tmp 23) (.tmp 30) 124 rfl Tryz.eF _ k _ rfl HO4.out rfl (by simp [Value.oneCell']) (by simp [maxLen]; omega) (by simp; omega) ?_; intro v' w5 ho5 hb5; have HO5 := Lib.hid ho5; have HB5 := Lib.hid hb5; clear ho5 hb5)
        go_roundw
        case rel => exact ⟨k + 1, by omega, by go_num, by rw [← HSN.out]; exact HO5.out, HB4.out.trans HB5.out⟩
        case measure => simp [intOf]; omega
      · obtain rfl : k = m1 := by omega
        obtain ⟨A2, c2, rfl⟩ := HO.out.shape
        have HR : Hid (RetF w (pwL pwS l) true (.returned (.tuple #[.slice A2 k c2, .bool true])) wr) := by
          have h1 := HO.out
          rw [List.take_of_length_le (by rw [HPL.out]; omega)] at h1
          have e : (pwL pwS l).length = k := by have := HPL.out; rw [List.length_map] at this; exact this
          exact ⟨_, _, by rw [e], by rw [e]; exact h1.mono HB1.out.size, HB1.out.trans (HB.out.mono HB1.out.size)⟩
        clear hb
        go_wp2_with fail
        go_ret2
        exact HR.out
end Go.Proofs.YtnomlkkhkacajaaGreatDoor
