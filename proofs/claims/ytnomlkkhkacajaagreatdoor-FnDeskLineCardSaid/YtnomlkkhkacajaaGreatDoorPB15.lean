/- Texts on the way to a law (Mg), each with its own remark. -/
import Derived.Test.YtnomlkkhkacajaaGreatDoorPB09
import Derived.Test.YtnomlkkhkacajaaGreatDoorPB14
import Derived.Test.YtnomlkkhkacajaaGreatDoorPB11
namespace Go.Proofs.YtnomlkkhkacajaaGreatDoor
open Go.RowKit

theorem val_of_read {f : Ieee.Format} {x : Nat} (hx : Fin f x) {s : Bool} {m : Nat} {p : Int} (h : f.read x = .number s m p) : val f x = sr s ((m : Rat) * p2 p) := by
  obtain ⟨m', p', e1, e2⟩ := read_fin f hx
  rw [h] at e1
  injection e1 with a b c
  subst b
  subst c
  unfold val
  rw [← e2, ← a]
theorem p2_inv {a : Nat} : p2 (-(a : Int)) = 1 / ((2 ^ a : Nat) : Rat) := by
  have h : p2 (-(a : Int)) * p2 (a : Int) = 1 := by rw [← p2_add, show -(a : Int) + (a : Int) = 0 by omega, p2_zero]
  rw [p2_nat] at h
  have := one_le_pow a
  have h2 : ((2 ^ a : Nat) : Rat) ≠ 0 := by grind
  have h3 : (1 / ((2 ^ a : Nat) : Rat)) * ((2 ^ a : Nat) : Rat) = 1 := Rat.div_mul_cancel h2
  have h4 : (p2 (-(a : Int)) - 1 / ((2 ^ a : Nat) : Rat)) * ((2 ^ a : Nat) : Rat) = 0 := by grind
  rcases Rat.mul_eq_zero.1 h4 with h5 | h5
  · grind
  · exact absurd h5 h2
theorem w_one : Fin Ieee.single 1065353216 ∧ val Ieee.single 1065353216 = 1 := by
  have h := narrow_whl (int_whl (n := 1) (by decide)) (by decide)
  rw [show narrow (floatOfInt .f64 1) = 1065353216 by decide] at h
  exact ⟨h.1, by rw [h.2]; rfl⟩
theorem w_mone : Fin Ieee.single 3212836864 ∧ val Ieee.single 3212836864 = -1 := by
  have h := narrow_whl (int_whl (n := -1) (by decide)) (by decide)
  rw [show narrow (floatOfInt .f64 (-1)) = 3212836864 by decide] at h
  exact ⟨h.1, by rw [h.2]; rfl⟩
theorem p2_m24' : p2 (-24) = 1 / 16777216 := p2_inv (a := 24)
theorem p2_m25' : p2 (-25) = 1 / 33554432 := p2_inv (a := 25)
theorem w_c : Fin Ieee.single 1064076126 ∧ val Ieee.single 1064076126 = 15500126 / 16777216 := by
  have hf : Fin Ieee.single 1064076126 := by unfold Fin; decide
  refine ⟨hf, ?_⟩
  rw [val_of_read hf (s := false) (m := 15500126) (p := -24) (by decide), p2_m24']; decide +kernel
theorem w_mc : Fin Ieee.single 3211559774 ∧ val Ieee.single 3211559774 = -(15500126 / 16777216) := by
  have hf : Fin Ieee.single 3211559774 := by unfold Fin; decide
  refine ⟨hf, ?_⟩
  rw [val_of_read hf (s := true) (m := 15500126) (p := -24) (by decide), p2_m24']; decide +kernel
theorem w_e : Fin Ieee.single 1060439283 ∧ val Ieee.single 1060439283 = 11863283 / 16777216 := by
  have hf : Fin Ieee.single 1060439283 := by unfold Fin; decide
  refine ⟨hf, ?_⟩
  rw [val_of_read hf (s := false) (m := 11863283) (p := -24) (by decide), p2_m24']; decide +kernel
theorem w_me : Fin Ieee.single 3207922931 ∧ val Ieee.single 3207922931 = -(11863283 / 16777216) := by
  have hf : Fin Ieee.single 3207922931 := by unfold Fin; decide
  refine ⟨hf, ?_⟩
  rw [val_of_read hf (s := true) (m := 11863283) (p := -24) (by decide), p2_m24']; decide +kernel
theorem w_d : Fin Ieee.single 1053028117 ∧ val Ieee.single 1053028117 = 12840725 / 33554432 := by
  have hf : Fin Ieee.single 1053028117 := by unfold Fin; decide
  refine ⟨hf, ?_⟩
  rw [val_of_read hf (s := false) (m := 12840725) (p := -25) (by decide), p2_m25']; decide +kernel
theorem w_md : Fin Ieee.single 3200511765 ∧ val Ieee.single 3200511765 = -(12840725 / 33554432) := by
  have hf : Fin Ieee.single 3200511765 := by unfold Fin; decide
  refine ⟨hf, ?_⟩
  rw [val_of_read hf (s := true) (m := 12840725) (p := -25) (by decide), p2_m25']; decide +kernel
/-- What a number is worth, squared. -/
def sq2 (z : C) : Rat := val Ieee.single z.1 * val Ieee.single z.1 + val Ieee.single z.2 * val Ieee.single z.2
theorem turn_sq (k : Int) : sq2 (turnC k) ≤ 4194305 / 4194304 := by
  unfold turnC
  split
  · have h0 := Int.emod_nonneg k (show (16 : Int) ≠ 0 by decide)
    have h1 := Int.emod_lt_of_pos k (show (0 : Int) < 16 by decide)
    obtain ⟨j, hj⟩ : ∃ j, j = (k % 16).toNat := ⟨_, rfl⟩
    rw [← hj]
    have : j = 0 ∨ j = 1 ∨ j = 2 ∨ j = 3 ∨ j = 4 ∨ j = 5 ∨ j = 6 ∨ j = 7 ∨ j = 8 ∨ j = 9 ∨ j = 10 ∨ j = 11 ∨ j = 12 ∨ j = 13 ∨ j = 14 ∨ j = 15 := by omega
    unfold sq2
    rcases this with rfl | rfl | rfl | rfl | rfl | rfl | rfl | rfl | rfl | rfl | rfl | rfl | rfl | rfl | rfl | rfl <;> simp only [nth, turnL, List.getD_cons_succ, List.getD_cons_zero, w_one.2, w_mone.2, w_c.2, w_mc.2, w_d.2, w_md.2, w_e.2, w_me.2, zero32.2] <;> decide +kernel
  · unfold sq2; simp only [zero32.2]; decide +kernel

theorem sq_abs {x y : Rat} (h : x * x ≤ y * y) (hy : 0 ≤ y) : x ≤ y ∧ -y ≤ x := by
  constructor
  · rcases (Rat.le_total : x ≤ y ∨ y ≤ x) with h1 | h1
    · exact h1
    · by_cases he : x = y
      · grind
      · have h2 : 0 < x - y := by grind
        have h3 : 0 < x + y := by grind
        have := Rat.mul_pos h2 h3
        grind
  · rcases (Rat.le_total : -y ≤ x ∨ x ≤ -y) with h1 | h1
    · exact h1
    · by_cases he : x = -y
      · grind
      · have h2 : 0 < -x - y := by grind
        have h3 : 0 < y - x := by grind
        have := Rat.mul_pos h2 h3
        grind
theorem sq_nn (x : Rat) : 0 ≤ x * x := by
  rcases (Rat.le_total : 0 ≤ x ∨ x ≤ 0) with h | h
  · exact Rat.mul_nonneg h h
  · have := Rat.mul_nonneg (show 0 ≤ -x by grind) (show 0 ≤ -x by grind); grind
theorem round_sq {q1 q2 p1 p2' R e : Rat} (h : q1 * q1 + q2 * q2 ≤ R * R) (hR : 0 ≤ R) (_he : 0 ≤ e) (a1 : p1 - q1 ≤ e) (a2 : q1 - p1 ≤ e) (b1 : p2' - q2 ≤ e) (b2 : q2 - p2' ≤ e) :
    p1 * p1 + p2' * p2' ≤ (R + 2 * e) * (R + 2 * e) := by
  have s1 := sq_nn q1
  have s2 := sq_nn q2
  obtain ⟨c1, c2⟩ := sq_abs (x := q1) (y := R) (by grind) hR
  obtain ⟨c3, c4⟩ := sq_abs (x := q2) (y := R) (by grind) hR
  obtain ⟨d1, hd1⟩ : ∃ d1, d1 = p1 - q1 := ⟨_, rfl⟩
  obtain ⟨d2, hd2⟩ : ∃ d2, d2 = p2' - q2 := ⟨_, rfl⟩
  have e1 : p1 = q1 + d1 := by grind
  have e2 : p2' = q2 + d2 := by grind
  have f1 := Rat.mul_nonneg (show 0 ≤ R - q1 by grind) (show 0 ≤ e + d1 by grind)
  have f2 := Rat.mul_nonneg (show 0 ≤ R + q1 by grind) (show 0 ≤ e - d1 by grind)
  have f3 := Rat.mul_nonneg (show 0 ≤ R - q2 by grind) (show 0 ≤ e + d2 by grind)
  have f4 := Rat.mul_nonneg (show 0 ≤ R + q2 by grind) (show 0 ≤ e - d2 by grind)
  have f5 := Rat.mul_nonneg (show 0 ≤ e - d1 by grind) (show 0 ≤ e + d1 by grind)
  have f6 := Rat.mul_nonneg (show 0 ≤ e - d2 by grind) (show 0 ≤ e + d2 by grind)
  have f7 := sq_nn e
  rw [e1, e2]
  clear a1 a2 b1 b2 e1 e2 hd1 hd2 c1 c2 c3 c4 s1 s2
  grind

/-- The unit of the bounds. -/
def U : Rat := p2 100
theorem U_pos : 0 < U := p2_pos 100
theorem U_of (a : Nat) : p2 ((a : Int) + 100) = ((2 ^ a : Nat) : Rat) * U := by rw [p2_add, p2_nat]; rfl
theorem u128 : p2 128 = 268435456 * U := U_of 28
theorem u104 : p2 104 = 16 * U := U_of 4
theorem u103 : p2 103 = 8 * U := U_of 3
/-- The greatest word. -/
theorem max32 : ∃ z, z < Ieee.single.infRung ∧ rv Ieee.single z = 268435440 * U := by
  obtain ⟨z, hz, hv⟩ := repr_ex Ieee.single (n := 16777215) (e := 104) (by decide) (by decide) (by
    rw [inf32, u128, u104]
    have := U_pos
    have c : ((16777215 : Nat) : Rat) = 16777215 := rfl
    rw [c]; grind)
  refine ⟨z, hz, ?_⟩
  rw [hv, u104]
  have c : ((16777215 : Nat) : Rat) = 16777215 := rfl
  rw [c]; grind
/-- So great at most. -/
def Md (z : C) (R : Rat) : Prop := finB z = true ∧ 0 ≤ R ∧ sq2 z ≤ R * R
theorem Md.mono {z : C} {R S : Rat} (h : Md z R) (hS : R ≤ S) : Md z S := by
  obtain ⟨h1, h2, h3⟩ := h
  have := rmul_le h2 h2 hS hS
  exact ⟨h1, by grind, by grind⟩
theorem Md.part {z : C} {R : Rat} (h : Md z R) : (val Ieee.single z.1 ≤ R ∧ -R ≤ val Ieee.single z.1) ∧ (val Ieee.single z.2 ≤ R ∧ -R ≤ val Ieee.single z.2) := by
  obtain ⟨_, h2, h3⟩ := h
  unfold sq2 at h3
  have s1 := sq_nn (val Ieee.single z.1)
  have s2 := sq_nn (val Ieee.single z.2)
  exact ⟨sq_abs (by grind) h2, sq_abs (by grind) h2⟩
/-- A rounded number that is not too great. -/
theorem rnd_U {q : Rat} {r : Nat} (h : Rnd Ieee.single q r) (h1 : q ≤ 268435440 * U) (h2 : -(268435440 * U) ≤ q) : Fin Ieee.single r ∧ val Ieee.single r - q ≤ 16 * U ∧ q - val Ieee.single r ≤ 16 * U := by
  obtain ⟨z, hz, hv⟩ := max32
  have hU := U_pos
  obtain ⟨hf, _, _⟩ := h.le hz (by rw [hv]; exact h1) (by rw [hv]; exact h2)
  have he := h.err (E := 128) (by rw [u128]; grind) (by rw [u128]; grind) (by decide) hf
  have e104 : p2 (128 - (Ieee.single.fractionBits : Int) - 1) = p2 104 := rfl
  rw [e104, u104] at he
  exact ⟨hf, he⟩
theorem add_md {a b : C} {R S : Rat} (ha : Md a R) (hb : Md b S) (h : R + S ≤ 268000000 * U) : Md (addC a b) (R + S + 32 * U) := by
  obtain ⟨a1, a2, a3⟩ := ha
  obtain ⟨b1, b2, b3⟩ := hb
  obtain ⟨_, r1, r2⟩ := addC_spec a1 b1
  have hU := U_pos
  unfold sq2 at a3 b3
  generalize val Ieee.single a.1 = x1 at *
  generalize val Ieee.single a.2 = x2 at *
  generalize val Ieee.single b.1 = y1 at *
  generalize val Ieee.single b.2 = y2 at *
  have hcs : x1 * y1 + x2 * y2 ≤ R * S := by
    refine (sq_abs (x := x1 * y1 + x2 * y2) (y := R * S) ?_ (Rat.mul_nonneg a2 b2)).1
    have s1 := sq_nn (x1 * y2 - x2 * y1)
    have s2 := rmul_le (a := x1 * x1 + x2 * x2) (b := y1 * y1 + y2 * y2) (c := R * R) (d := S * S) (by have := sq_nn x1; have := sq_nn x2; grind) (by have := sq_nn y1; have := sq_nn y2; grind) a3 b3
    grind
  have hq : (x1 + y1) * (x1 + y1) + (x2 + y2) * (x2 + y2) ≤ (R + S) * (R + S) := by grind
  have hRS : 0 ≤ R + S := by grind
  have t1 := sq_nn (x1 + y1)
  have t2 := sq_nn (x2 + y2)
  obtain ⟨c1, c2⟩ := sq_abs (x := x1 + y1) (y := R + S) (by grind) hRS
  obtain ⟨c3, c4⟩ := sq_abs (x := x2 + y2) (y := R + S) (by grind) hRS
  obtain ⟨f1, g1, g2⟩ := rnd_U r1 (by grind) (by grind)
  obtain ⟨f2, g3, g4⟩ := rnd_U r2 (by grind) (by grind)
  refine ⟨finB_iff.2 ⟨f1, f2⟩, by grind, ?_⟩
  have := round_sq hq hRS (show 0 ≤ 16 * U by grind) g1 g2 g3 g4
  unfold sq2
  rw [show R + S + 32 * U = R + S + 2 * (16 * U) by grind]
  exact this
theorem p2_le128 {x : Nat} (h : Fin Ieee.single x) : val Ieee.single x ≤ p2 128 ∧ -p2 128 ≤ val Ieee.single x := by
  have := val32_lt h
  have l1 := le_absR (val Ieee.single x)
  have l2 := neg_le_absR (val Ieee.single x)
  constructor <;> grind
/-- A product in double precision, of a word and one of at most 2. -/
theorem m64_near {x y : Nat} (hx : Fin Ieee.single x) (hy : Fin Ieee.single y) (h1 : val Ieee.single y ≤ 2) (h2 : -2 ≤ val Ieee.single y) :
    val Ieee.double (m64 x y) - val Ieee.single x * val Ieee.single y ≤ p2 76 ∧ val Ieee.single x * val Ieee.single y - val Ieee.double (m64 x y) ≤ p2 76 ∧ absR (val Ieee.single x * val Ieee.single y) ≤ p2 129 := by
  obtain ⟨_, r, f⟩ := m64_spec hx hy
  obtain ⟨v1, v2⟩ := p2_le128 hx
  have e129 : p2 129 = 2 * p2 128 := by rw [show (129 : Int) = 128 + 1 from rfl, p2_succ]
  have hp := p2_pos 128
  generalize val Ieee.single x = a at *
  generalize val Ieee.single y = b at *
  have k1 := Rat.mul_nonneg (show 0 ≤ p2 128 - a by grind) (show 0 ≤ 2 + b by grind)
  have k2 := Rat.mul_nonneg (show 0 ≤ p2 128 + a by grind) (show 0 ≤ 2 - b by grind)
  have k3 := Rat.mul_nonneg (show 0 ≤ p2 128 - a by grind) (show 0 ≤ 2 - b by grind)
  have k4 := Rat.mul_nonneg (show 0 ≤ p2 128 + a by grind) (show 0 ≤ 2 + b by grind)
  have l1 : a * b ≤ p2 129 := by rw [e129]; grind
  have l2 : -p2 129 ≤ a * b := by rw [e129]; grind
  have he := r.err (E := 129) l1 l2 (by decide) f
  have e76 : p2 (129 - (Ieee.double.fractionBits : Int) - 1) = p2 76 := rfl
  rw [e76] at he
  exact ⟨he.1, he.2, absR_le l1 l2⟩
theorem mul_md {z t : C} {R : Rat} (hz : Md z R) (ht : finB t = true) (hs : sq2 t ≤ 4194305 / 4194304) (h : R ≤ 268000000 * U) : Md (mulC z t) (R + 100 * U) := by
  obtain ⟨z1, z2, z3⟩ := hz
  obtain ⟨fa, fb⟩ := finB_iff.1 z1
  obtain ⟨fc, fd⟩ := finB_iff.1 ht
  have hU := U_pos
  obtain ⟨_, rr, fr⟩ := re64_spec z1 ht
  obtain ⟨_, ri, fi⟩ := im64_spec z1 ht
  obtain ⟨nr, ni⟩ := mulC_rnd z1 ht
  have hs' := hs
  unfold sq2 at hs'
  have tc := sq_nn (val Ieee.single t.1)
  have td := sq_nn (val Ieee.single t.2)
  obtain ⟨u1, u2⟩ := sq_abs (x := val Ieee.single t.1) (y := 2) (by grind) (by grind)
  obtain ⟨u3, u4⟩ := sq_abs (x := val Ieee.single t.2) (y := 2) (by grind) (by grind)
  obtain ⟨ac1, ac2, ac3⟩ := m64_near fa fc u1 u2
  obtain ⟨bd1, bd2, bd3⟩ := m64_near fb fd u3 u4
  obtain ⟨ad1, ad2, ad3⟩ := m64_near fa fd u3 u4
  obtain ⟨bc1, bc2, bc3⟩ := m64_near fb fc u1 u2
  have hx1 := le_absR (val Ieee.single z.1 * val Ieee.single t.1)
  have hx2 := neg_le_absR (val Ieee.single z.1 * val Ieee.single t.1)
  have hx3 := le_absR (val Ieee.single z.2 * val Ieee.single t.2)
  have hx4 := neg_le_absR (val Ieee.single z.2 * val Ieee.single t.2)
  have hx5 := le_absR (val Ieee.single z.1 * val Ieee.single t.2)
  have hx6 := neg_le_absR (val Ieee.single z.1 * val Ieee.single t.2)
  have hx7 := le_absR (val Ieee.single z.2 * val Ieee.single t.1)
  have hx8 := neg_le_absR (val Ieee.single z.2 * val Ieee.single t.1)
  have e131 : p2 131 = 4 * p2 129 := by rw [show (131 : Int) = 129 + 1 + 1 from rfl, p2_succ, p2_succ]; grind
  have e129 : p2 76 ≤ p2 129 := p2_mono (by decide)
  have e78 : p2 78 = 4 * p2 76 := by rw [show (78 : Int) = 76 + 1 + 1 from rfl, p2_succ, p2_succ]; grind
  have eU : 16777216 * p2 76 = U := by unfold U; rw [show (100 : Int) = ((24 : Nat) : Int) + 76 from rfl, p2_add, p2_nat]; rfl
  have hp76 := p2_pos 76
  have er := rr.err (E := 131) (by grind) (by grind) (by decide) fr
  have ei := ri.err (E := 131) (by grind) (by grind) (by decide) fi
  have e78' : p2 (131 - (Ieee.double.fractionBits : Int) - 1) = p2 78 := rfl
  rw [e78'] at er ei
  obtain ⟨q1, hq1⟩ : ∃ q1, q1 = val Ieee.single z.1 * val Ieee.single t.1 - val Ieee.single z.2 * val Ieee.single t.2 := ⟨_, rfl⟩
  obtain ⟨q2, hq2⟩ : ∃ q2, q2 = val Ieee.single z.1 * val Ieee.single t.2 + val Ieee.single z.2 * val Ieee.single t.1 := ⟨_, rfl⟩
  have g1 : val Ieee.double (re64 z t) - q1 ≤ U := by grind
  have g2 : q1 - val Ieee.double (re64 z t) ≤ U := by grind
  have g3 : val Ieee.double (im64 z t) - q2 ≤ U := by grind
  have g4 : q2 - val Ieee.double (im64 z t) ≤ U := by grind
  have hq : q1 * q1 + q2 * q2 ≤ (R + 64 * U) * (R + 64 * U) := by
    have s2 := rmul_le (a := sq2 z) (b := sq2 t) (c := R * R) (d := 4194305 / 4194304) (by unfold sq2; have := sq_nn (val Ieee.single z.1); have := sq_nn (val Ieee.single z.2); grind) (by unfold sq2; grind) z3 hs
    have s3 : q1 * q1 + q2 * q2 = sq2 z * sq2 t := by rw [hq1, hq2]; unfold sq2; grind
    have s4 := rmul_le (a := R) (b := R) (c := R) (d := 268000000 * U) z2 z2 Rat.le_refl h
    have s5 := sq_nn U
    have s6 : 0 ≤ R * U := Rat.mul_nonneg z2 (Rat.le_of_lt hU)
    have s7 : R * (268000000 * U) = 268000000 * (R * U) := by grind
    rw [s7] at s4
    rw [s3]
    clear g1 g2 g3 g4 er ei hx1 hx2 hx3 hx4 hx5 hx6 hx7 hx8 ac1 ac2 ac3 bd1 bd2 bd3 ad1 ad2 ad3 bc1 bc2 bc3 e131 e129 e78 eU hq1 hq2 s3 rr ri nr ni u1 u2 u3 u4 tc td hs hs' z3 h
    grind
  have hR : 0 ≤ R + 64 * U := by grind
  have t1 := sq_nn q1
  have t2 := sq_nn q2
  obtain ⟨c1, c2⟩ := sq_abs (x := q1) (y := R + 64 * U) (by grind) hR
  obtain ⟨c3, c4⟩ := sq_abs (x := q2) (y := R + 64 * U) (by grind) hR
  clear ac1 ac2 ac3 bd1 bd2 bd3 ad1 ad2 ad3 bc1 bc2 bc3 hx1 hx2 hx3 hx4 hx5 hx6 hx7 hx8 er ei e131 e129 e78 eU hp76 hq1 hq2 rr ri hs hs' tc td u1 u2 u3 u4 z3
  obtain ⟨f1, k1, k2⟩ := rnd_U nr (by grind) (by grind)
  obtain ⟨f2, k3, k4⟩ := rnd_U ni (by grind) (by grind)
  refine ⟨finB_iff.2 ⟨f1, f2⟩, by grind, ?_⟩
  have := round_sq hq hR (show 0 ≤ 17 * U by grind) (p1 := val Ieee.single (mulC z t).1) (p2' := val Ieee.single (mulC z t).2) (by grind) (by grind) (by grind) (by grind)
  have h98 : Md (mulC z t) (R + 64 * U + 2 * (17 * U)) := ⟨finB_iff.2 ⟨f1, f2⟩, by grind, this⟩
  exact (h98.mono (by grind)).2.2
end Go.Proofs.YtnomlkkhkacajaaGreatDoor

namespace Go.Proofs.YtnomlkkhkacajaaGreatDoor
open Go.RowKit

theorem one_le_U : 10000000000 ≤ U := by
  have h : U = p2 ((60 : Nat) : Int) * p2 ((40 : Nat) : Int) := by unfold U; rw [← p2_add]; rfl
  rw [p2_nat, p2_nat] at h
  rw [h]; decide +kernel
theorem md_parts {z : C} {a b R : Rat} (hf : finB z = true) (h1 : val Ieee.single z.1 ≤ a) (h2 : -a ≤ val Ieee.single z.1) (h3 : val Ieee.single z.2 ≤ b) (h4 : -b ≤ val Ieee.single z.2) (hR : 0 ≤ R) (h : a * a + b * b ≤ R * R) : Md z R := by
  refine ⟨hf, hR, ?_⟩
  unfold sq2
  have k1 := Rat.mul_nonneg (show 0 ≤ a - val Ieee.single z.1 by grind) (show 0 ≤ a + val Ieee.single z.1 by grind)
  have k2 := Rat.mul_nonneg (show 0 ≤ b - val Ieee.single z.2 by grind) (show 0 ≤ b + val Ieee.single z.2 by grind)
  grind
theorem small_md {z : C} {B : Rat} (hf : finB z = true) (hB : 0 ≤ B) (hB2 : B ≤ 1000000000) (h1 : val Ieee.single z.1 ≤ B) (h2 : -B ≤ val Ieee.single z.1) (h3 : val Ieee.single z.2 ≤ B) (h4 : -B ≤ val Ieee.single z.2) : Md z U := by
  have hU := one_le_U
  refine md_parts hf h1 h2 h3 h4 (Rat.le_of_lt U_pos) ?_
  have k1 := rmul_le hB hB hB2 hB2
  have k2 := rmul_le (show (0 : Rat) ≤ 10000000000 by decide +kernel) (show (0 : Rat) ≤ 10000000000 by decide +kernel) hU hU
  grind
theorem milli_md (a b : Int) : Md (milli a b) U := by
  by_cases h : (milB a && milB b) = true
  · have e : milli a b = (mp a, mp b) := by unfold milli; rw [if_pos h]
    rw [Bool.and_eq_true] at h
    obtain ⟨a1, a2⟩ := inB_iff.1 h.1
    obtain ⟨b1, b2⟩ := inB_iff.1 h.2
    obtain ⟨fa, _, _, va1, va2⟩ := mp_spec a1 a2
    obtain ⟨fb, _, _, vb1, vb2⟩ := mp_spec b1 b2
    rw [e]
    exact small_md (B := 10000) (finB_iff.2 ⟨fa, fb⟩) (by decide +kernel) (by decide +kernel) va1 va2 vb1 vb2
  · have e : milli a b = (0, 0) := by unfold milli; rw [if_neg h]
    rw [e]
    exact small_md (B := 0) (by decide) (by decide +kernel) (by decide +kernel) (by simp only [zero32.2]; decide +kernel) (by simp only [zero32.2]; decide +kernel) (by simp only [zero32.2]; decide +kernel) (by simp only [zero32.2]; decide +kernel)
theorem ord_md {z : C} (h : Ord z) : Md z U := by
  obtain ⟨a, b, _, _, _, _, rfl⟩ := h
  exact milli_md a b
theorem val_bound {x : Nat} {s : Bool} {m : Nat} {p : Int} (hx : Fin Ieee.single x) (h : Ieee.single.read x = .number s m p) {B : Rat} (hB : (m : Rat) * p2 p ≤ B) : val Ieee.single x ≤ B ∧ -B ≤ val Ieee.single x := by
  rw [val_of_read hx h]
  have := mag_nonneg m p
  cases s <;> simp only [sr_true, sr_false] <;> constructor <;> grind
theorem spc_md {z : C} (h : Spc z) (hf : finB z = true) : Md z (236700000 * U) := by
  have hU := U_pos
  have h1U := one_le_U
  have hUU := sq_nn U
  have big : 0 ≤ 236700000 * U := by grind
  rcases h with h | h | rfl | rfl | ⟨f1, v1, f2, v2⟩ | ⟨o, ho, rfl⟩
  · exact (ord_md h).mono (by grind)
  · rw [h] at hf; cases hf
  · obtain ⟨f1, f2⟩ := finB_iff.1 hf
    have b : ((9860761 : Nat) : Rat) * p2 103 ≤ 78886088 * U := by
      rw [u103]
      have c : ((9860761 : Nat) : Rat) = 9860761 := rfl
      rw [c]; grind
    obtain ⟨a1, a2⟩ := val_bound f1 (s := false) (m := 9860761) (p := 103) (by decide) b
    obtain ⟨b1, b2⟩ := val_bound f2 (s := true) (m := 9860761) (p := 103) (by decide) b
    exact md_parts hf a1 a2 b1 b2 big (by grind)
  · obtain ⟨f1, f2⟩ := finB_iff.1 hf
    have e : p2 (-149) ≤ 1 / 10000000 := by
      have h1 : p2 (-149) ≤ p2 (-((30 : Nat) : Int)) := p2_mono (by decide)
      rw [p2_inv] at h1
      have h2 : (1 / ((2 ^ 30 : Nat) : Rat)) ≤ 1 / 10000000 := by decide +kernel
      exact Rat.le_trans h1 h2
    have k1 : ((7136239 : Nat) : Rat) * p2 (-149) ≤ 1 := by
      have c : ((7136239 : Nat) : Rat) = 7136239 := rfl
      rw [c]; grind
    have k2 : ((2378746 : Nat) : Rat) * p2 (-149) ≤ 1 := by
      have c : ((2378746 : Nat) : Rat) = 2378746 := rfl
      rw [c]; grind
    obtain ⟨a1, a2⟩ := val_bound f1 (s := false) (m := 7136239) (p := -149) (by decide) k1
    obtain ⟨b1, b2⟩ := val_bound f2 (s := true) (m := 2378746) (p := -149) (by decide) k2
    exact (small_md (B := 1) hf (by decide +kernel) (by decide +kernel) a1 a2 b1 b2).mono (by grind)
  · exact (small_md (B := 0) hf (by decide +kernel) (by decide +kernel) (by rw [v1]; decide +kernel) (by rw [v1]; decide +kernel) (by rw [v2]; decide +kernel) (by rw [v2]; decide +kernel)).mono (by grind)
  · obtain ⟨f1, f2⟩ := finB_iff.1 hf
    have b : ((14791142 : Nat) : Rat) * p2 104 ≤ 236658272 * U := by
      rw [u104]
      have c : ((14791142 : Nat) : Rat) = 14791142 := rfl
      rw [c]; grind
    obtain ⟨a1, a2⟩ := val_bound (x := 2137108966) f1 (s := false) (m := 14791142) (p := 104) (by decide) b
    obtain ⟨⟨b1, b2⟩, _⟩ := (ord_md ho).part
    exact md_parts hf a1 a2 b1 b2 big (by grind)

/-- How great a sum of products with turns may be. -/
def tot (r : Nat → Rat) : Nat → Rat
  | 0 => 0
  | i + 1 => tot r i + (r i + 132 * U)
theorem tot_nn {r : Nat → Rat} {n : Nat} (h : ∀ i, i < n → 0 ≤ r i) : ∀ i, i ≤ n → 0 ≤ tot r i
  | 0, _ => Rat.le_refl
  | i + 1, hi => by
    have h1 := tot_nn h i (by omega)
    have h2 := h i (by omega)
    have := U_pos
    show 0 ≤ tot r i + (r i + 132 * U)
    grind
theorem tot_le {r : Nat → Rat} {n : Nat} (h : ∀ i, i < n → 0 ≤ r i) : ∀ d i, i + d = n → tot r i ≤ tot r n
  | 0, i, hi => by rw [show n = i by omega]; exact Rat.le_refl
  | d + 1, i, hi => by
    have h1 := tot_le h d (i + 1) (by omega)
    have h2 := h i (by omega)
    have := U_pos
    have e : tot r (i + 1) = tot r i + (r i + 132 * U) := rfl
    grind
theorem prodT_md {xs : List C} {b : Int} {i : Nat} {R : Rat} (h : Md (nth xs i) R) (hR : R ≤ 268000000 * U) : Md (prodT xs b i) (R + 100 * U) :=
  mul_md h (turnC_fin _) (turn_sq _) hR
theorem sumT_md {xs : List C} {b : Int} {r : Nat → Rat} {n : Nat} (h : ∀ i, i < n → Md (nth xs i) (r i)) (ht : tot r n ≤ 268000000 * U) :
    ∀ i, i ≤ n → ∃ s, sumT xs b i = some s ∧ Md s (tot r i)
  | 0, _ => ⟨(0, 0), rfl, by decide, Rat.le_refl, by unfold sq2; simp only [zero32.2]; show (0 : Rat) * 0 + 0 * 0 ≤ 0 * 0; decide +kernel⟩
  | i + 1, hi => by
    obtain ⟨s, e, hs⟩ := sumT_md (b := b) h ht i (by omega)
    have hnn : ∀ j, j < n → 0 ≤ r j := fun j hj => (h j hj).2.1
    have hU := U_pos
    have t1 := tot_le hnn (n - (i + 1)) (i + 1) (by omega)
    have t0 := tot_nn hnn i (by omega)
    have e1 : tot r (i + 1) = tot r i + (r i + 132 * U) := rfl
    have hri := hnn i (by omega)
    have hp := prodT_md (b := b) (h i (by omega)) (by grind)
    have ha := add_md hs hp (by grind)
    refine ⟨addC s (prodT xs b i), ?_, ha.mono (by rw [e1]; grind)⟩
    show sumStep (sumT xs b i) _ = _
    rw [e]
    unfold sumStep
    rw [Option.bind_some, hp.1, ha.1]; rfl
theorem prodOk_md {xs : List C} {R : Rat} (h : ∀ i, i < xs.length → Md (nth xs i) R) (hR : R ≤ 268000000 * U) (s : Int) : ProdOk xs s := fun _ i _ hi => (prodT_md (h i hi) hR).1
/-- The bound of all that is drawn. -/
def K1 : Rat := 237000000 * U
/-- A signal whose spectrum is there, with numbers that are not too great. -/
def Good (xs : List C) : Prop := sizB xs = true → ProdOk xs (-1) ∧ ∃ l, transF xs = some l ∧ l.length = xs.length ∧ ∀ i, i < xs.length → Md (nth l i) K1
theorem good_md {xs : List C} {r : Nat → Rat} (h : ∀ i, i < xs.length → Md (nth xs i) (r i)) (ht : tot r xs.length ≤ K1) : Good xs := fun hs => by
  have hU := U_pos
  have hnn : ∀ j, j < xs.length → 0 ≤ r j := fun j hj => (h j hj).2.1
  unfold K1 at ht
  have ht2 : tot r xs.length ≤ 268000000 * U := by grind
  refine ⟨fun k i hk hi => ?_, ?_⟩
  · have t1 := tot_le hnn (xs.length - (i + 1)) (i + 1) (by omega)
    have t0 := tot_nn hnn i (by omega)
    have e1 : tot r (i + 1) = tot r i + (r i + 132 * U) := rfl
    exact (prodT_md (h i hi) (by grind)).1
  · obtain ⟨l, e, hl, hq⟩ := allT_all (f := fun k => sumT xs (bk xs.length (-(k : Int))) xs.length) (Q := fun _ z => Md z K1) xs.length fun k hk => by
      obtain ⟨s, e, hs⟩ := sumT_md (b := bk xs.length (-(k : Int))) h ht2 xs.length (Nat.le_refl _)
      exact ⟨s, e, hs.mono ht⟩
    exact ⟨l, by rw [transF_yes hs rfl]; exact e, hl, hq⟩
theorem tot_one {n j : Nat} (hn : n ≤ 17) : ∀ i, i ≤ n → tot (fun i => if i = j then 236700000 * U else U) i ≤ (if j < i then 236700000 * U else 0) + 133 * U * ((i : Nat) : Rat)
  | 0, _ => by
    show (0 : Rat) ≤ _
    have := U_pos
    have c : ((0 : Nat) : Rat) = 0 := rfl
    rw [if_neg (by omega), c]; grind
  | i + 1, hi => by
    have h1 := tot_one (j := j) hn i (by omega)
    have hU := U_pos
    have c : ((i + 1 : Nat) : Rat) = (i : Rat) + 1 := by push_cast; rfl
    show tot _ i + ((if i = j then 236700000 * U else U) + 132 * U) ≤ _
    rw [c]
    by_cases hij : i = j
    · rw [if_pos hij, if_pos (show j < i + 1 by omega)]
      rw [if_neg (show ¬ j < i by omega)] at h1
      grind
    · rw [if_neg hij]
      by_cases hji : j < i
      · rw [if_pos (show j < i + 1 by omega)]
        rw [if_pos hji] at h1
        grind
      · rw [if_neg (show ¬ j < i + 1 by omega)]
        rw [if_neg hji] at h1
        grind
theorem good_drawn {xs : List C} (h : DrawnL xs) : Good xs := fun hs => by
  obtain ⟨s1, s2, s3, s4, s5⟩ := siz_parts hs
  rcases h with h | ⟨j, h1, h2⟩
  · omega
  · refine good_md (r := fun i => if i = j then 236700000 * U else U) (fun i hi => ?_) ?_ hs
    · show Md _ (if i = j then 236700000 * U else U)
      by_cases hij : i = j
      · rw [if_pos hij]
        have := h2 (by omega)
        rw [← hij] at this
        exact spc_md this (finB_iff.2 (all_fin_nth s3 hi))
      · rw [if_neg hij]; exact ord_md (h1 i hi hij)
    · have := tot_one (n := xs.length) (j := j) (by omega) xs.length (Nat.le_refl _)
      have hU := U_pos
      have c : ((xs.length : Nat) : Rat) ≤ ((16 : Nat) : Rat) := Rat.natCast_le_natCast.2 s4
      have c2 : ((16 : Nat) : Rat) = 16 := rfl
      rw [c2] at c
      have k := Rat.mul_le_mul_of_nonneg_left c (show 0 ≤ 133 * U by grind)
      unfold K1
      split at this <;> grind
theorem whl_md {z : C} {p q M : Int} (h : WhlC z p q) (hM : M ≤ 1000000) (h1 : -M ≤ p) (h2 : p ≤ M) (h3 : -M ≤ q) (h4 : q ≤ M) : Md z U := by
  have c : ((1000000 : Int) : Rat) = 1000000 := rfl
  have c2 : ((-1000000 : Int) : Rat) = -1000000 := rfl
  have k1 : (p : Rat) ≤ ((1000000 : Int) : Rat) := Rat.intCast_le_intCast.2 (by omega)
  have k2 : ((-1000000 : Int) : Rat) ≤ (p : Rat) := Rat.intCast_le_intCast.2 (by omega)
  have k3 : (q : Rat) ≤ ((1000000 : Int) : Rat) := Rat.intCast_le_intCast.2 (by omega)
  have k4 : ((-1000000 : Int) : Rat) ≤ (q : Rat) := Rat.intCast_le_intCast.2 (by omega)
  rw [c] at k1 k3
  rw [c2] at k2 k4
  exact small_md (B := 1000000) (whlC_fin h) (by decide +kernel) (by decide +kernel) (by rw [h.1.2]; exact k1) (by rw [h.1.2]; exact k2) (by rw [h.2.2]; exact k3) (by rw [h.2.2]; exact k4)
theorem WSig.good {xs : List C} {n : Nat} {p : Nat → Int × Int} {M : Int} (h : WSig xs n p M) (hM : M ≤ 1000000) : Good xs := fun hs => by
  obtain ⟨s1, s2, s3, s4, s5⟩ := siz_parts hs
  have hl := h.len
  refine good_md (r := fun _ => U) (fun i hi => ?_) ?_ hs
  · obtain ⟨b1, b2, b3, b4⟩ := h.bd i (by omega)
    exact whl_md (h.whl i (by omega)) hM b1 b2 b3 b4
  · have := tot_one (n := xs.length) (j := 17) (by omega) xs.length (Nat.le_refl _)
    rw [if_neg (by omega)] at this
    have hU := U_pos
    have e : ∀ i, i ≤ xs.length → tot (fun _ => U) i = tot (fun i => if i = 17 then 236700000 * U else U) i := by
      intro i
      induction i with
      | zero => intro _; rfl
      | succ i ih =>
        intro hi
        show tot _ i + (U + 132 * U) = tot _ i + ((if i = 17 then 236700000 * U else U) + 132 * U)
        rw [ih (by omega), if_neg (by omega)]
    rw [e _ (Nat.le_refl _)]
    have c : ((xs.length : Nat) : Rat) ≤ ((16 : Nat) : Rat) := Rat.natCast_le_natCast.2 s4
    have c2 : ((16 : Nat) : Rat) = 16 := rfl
    rw [c2] at c
    have k := Rat.mul_le_mul_of_nonneg_left c (show 0 ≤ 133 * U by grind)
    unfold K1
    grind
end Go.Proofs.YtnomlkkhkacajaaGreatDoor
