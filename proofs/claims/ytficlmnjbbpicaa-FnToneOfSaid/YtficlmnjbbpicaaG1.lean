/- Whole complex numbers: sums and products with turns by quarters. -/
import Derived.Test.YtficlmnjbbpicaaE2
namespace Go.Proofs.Ytficlmnjbbpicaa
open Go.RowKit

theorem whl1 : Whl Ieee.single 1065353216 1 := by
  have h := narrow_whl (int_whl (n := 1) (by decide)) (by decide)
  rwa [show narrow (floatOfInt .f64 1) = 1065353216 by decide] at h
theorem whlm1 : Whl Ieee.single 3212836864 (-1) := by
  have h := narrow_whl (int_whl (n := -1) (by decide)) (by decide)
  rwa [show narrow (floatOfInt .f64 (-1)) = 3212836864 by decide] at h
theorem whl0 : Whl Ieee.single 0 0 := ⟨zero32.1, by rw [zero32.2]; rfl⟩
/-- A quarter turn, so many times. -/
def rot (t : Int) : Int × Int := if t % 4 = 0 then (1, 0) else if t % 4 = 1 then (0, 1) else if t % 4 = 2 then (-1, 0) else (0, -1)
theorem rot_bd (t : Int) : (rot t = (1, 0) ∨ rot t = (0, 1) ∨ rot t = (-1, 0) ∨ rot t = (0, -1)) := by
  unfold rot; split
  · simp
  · split
    · simp
    · split <;> simp
theorem turn_whl {t : Int} (h1 : -2000 ≤ t) (h2 : t ≤ 2000) : WhlC (turnC (4 * t)) (rot t).1 (rot t).2 := by
  have hb : inB (4 * t) (-9999) 9999 = true := inB_true (by omega) (by omega)
  have e : turnC (4 * t) = nth turnL ((4 * t) % 16).toNat := by unfold turnC; rw [hb]; rfl
  rw [e]
  have m : t % 4 = 0 ∨ t % 4 = 1 ∨ t % 4 = 2 ∨ t % 4 = 3 := by omega
  unfold rot
  rcases m with h | h | h | h
  · rw [show (4 * t % 16).toNat = 0 by omega, h]; exact ⟨whl1, whl0⟩
  · rw [show (4 * t % 16).toNat = 4 by omega, h]; exact ⟨whl0, whl1⟩
  · rw [show (4 * t % 16).toNat = 8 by omega, h]; exact ⟨whlm1, whl0⟩
  · rw [show (4 * t % 16).toNat = 12 by omega, h]; exact ⟨whl0, whlm1⟩
theorem whlC_fin {z : C} {p q : Int} (h : WhlC z p q) : finB z = true := finB_iff.2 ⟨h.1.1, h.2.1⟩
theorem addC_whl {a b : C} {p q r s : Int} (ha : WhlC a p q) (hb : WhlC b r s) (h1 : (p + r).natAbs < 16777216) (h2 : (q + s).natAbs < 16777216) : WhlC (addC a b) (p + r) (q + s) := by
  obtain ⟨_, e1, e2⟩ := addC_spec (whlC_fin ha) (whlC_fin hb)
  rw [ha.1.2, hb.1.2, ← Rat.intCast_add] at e1
  rw [ha.2.2, hb.2.2, ← Rat.intCast_add] at e2
  exact ⟨rnd_int32 e1 h1, rnd_int32 e2 h2⟩
theorem m64_whl {x y : Nat} {p r : Int} (hx : Whl Ieee.single x p) (hy : Whl Ieee.single y r) (h : (p * r).natAbs < 9007199254740992) : Whl Ieee.double (m64 x y) (p * r) := by
  have := (m64_spec hx.1 hy.1).2.1
  rw [hx.2, hy.2, ← Rat.intCast_mul] at this
  exact rnd_int64 this h
theorem mulC_whl {a b : C} {p q r s : Int} (ha : WhlC a p q) (hb : WhlC b r s) (h1 : (p * r).natAbs < 4000000) (h2 : (q * s).natAbs < 4000000) (h3 : (p * s).natAbs < 4000000) (h4 : (q * r).natAbs < 4000000) :
    WhlC (mulC a b) (p * r - q * s) (p * s + q * r) := by
  have fa := whlC_fin ha
  have fb := whlC_fin hb
  have n1 := m64_whl ha.1 hb.1 (by omega)
  have n2 := m64_whl ha.2 hb.2 (by omega)
  have n3 := m64_whl ha.1 hb.2 (by omega)
  have n4 := m64_whl ha.2 hb.1 (by omega)
  have r1 := (re64_spec fa fb).2.1
  have r2 := (im64_spec fa fb).2.1
  rw [n1.2, n2.2, ← Rat.intCast_sub] at r1
  rw [n3.2, n4.2, ← Rat.intCast_add] at r2
  have w1 := rnd_int64 r1 (by omega)
  have w2 := rnd_int64 r2 (by omega)
  obtain ⟨s1, s2⟩ := mulC_rnd fa fb
  rw [w1.2] at s1
  rw [w2.2] at s2
  exact ⟨rnd_int32 s1 (by omega), rnd_int32 s2 (by omega)⟩
/-- A whole number, turned. -/
def gmul (p : Int × Int) (t : Int) : Int × Int := (p.1 * (rot t).1 - p.2 * (rot t).2, p.1 * (rot t).2 + p.2 * (rot t).1)
theorem gmul_bd {p : Int × Int} {M t : Int} (h1 : -M ≤ p.1) (h2 : p.1 ≤ M) (h3 : -M ≤ p.2) (h4 : p.2 ≤ M) : -M ≤ (gmul p t).1 ∧ (gmul p t).1 ≤ M ∧ -M ≤ (gmul p t).2 ∧ (gmul p t).2 ≤ M := by
  unfold gmul
  rcases rot_bd t with h | h | h | h <;> rw [h] <;> simp <;> omega
theorem mul_turn {z : C} {p : Int × Int} {t : Int} (hz : WhlC z p.1 p.2) (h1 : -1000000 ≤ p.1) (h2 : p.1 ≤ 1000000) (h3 : -1000000 ≤ p.2) (h4 : p.2 ≤ 1000000) (t1 : -2000 ≤ t) (t2 : t ≤ 2000) : WhlC (mulC z (turnC (4 * t))) (gmul p t).1 (gmul p t).2 := by
  refine mulC_whl hz (turn_whl t1 t2) ?_ ?_ ?_ ?_ <;> rcases rot_bd t with h | h | h | h <;> rw [h] <;> simp <;> omega
/-- The sum of the first whole numbers, turned. -/
def gs (p : Nat → Int × Int) (t : Int) : Nat → Int × Int
  | 0 => (0, 0)
  | i + 1 => ((gs p t i).1 + (gmul (p i) (t * i)).1, (gs p t i).2 + (gmul (p i) (t * i)).2)
theorem gs_bd {p : Nat → Int × Int} {t M : Int} {n : Nat} (hp : ∀ i, i < n → -M ≤ (p i).1 ∧ (p i).1 ≤ M ∧ -M ≤ (p i).2 ∧ (p i).2 ≤ M) :
    ∀ i, i ≤ n → -(M * i) ≤ (gs p t i).1 ∧ (gs p t i).1 ≤ M * i ∧ -(M * i) ≤ (gs p t i).2 ∧ (gs p t i).2 ≤ M * i
  | 0, _ => by simp [gs]
  | i + 1, h => by
    obtain ⟨a1, a2, a3, a4⟩ := gs_bd (t := t) hp i (by omega)
    obtain ⟨b1, b2, b3, b4⟩ := hp i (by omega)
    obtain ⟨c1, c2, c3, c4⟩ := gmul_bd (t := t * i) b1 b2 b3 b4
    have e : M * ((i + 1 : Nat) : Int) = M * i + M := by push_cast; rw [Int.mul_add, Int.mul_one]
    rw [e]
    unfold gs
    generalize M * (i : Int) = MI at *
    simp only
    omega
theorem sum_whl {xs : List C} {p : Nat → Int × Int} {t : Int} {n : Nat} (hn : n ≤ 4) (t1 : -16 ≤ t) (t2 : t ≤ 16) (hx : ∀ i, i < n → WhlC (nth xs i) (p i).1 (p i).2)
    (hp : ∀ i, i < n → -8000 ≤ (p i).1 ∧ (p i).1 ≤ 8000 ∧ -8000 ≤ (p i).2 ∧ (p i).2 ≤ 8000) :
    ∀ i, i ≤ n → ∃ s, sumT xs (4 * t) i = some s ∧ WhlC s (gs p t i).1 (gs p t i).2
  | 0, _ => ⟨(0, 0), rfl, whl0, whl0⟩
  | i + 1, h => by
    obtain ⟨s, e, hs⟩ := sum_whl hn t1 t2 hx hp i (by omega)
    obtain ⟨b1, b2, b3, b4⟩ := hp i (by omega)
    have hti : -64 ≤ t * (i : Int) ∧ t * (i : Int) ≤ 64 := by
      have : i = 0 ∨ i = 1 ∨ i = 2 ∨ i = 3 := by omega
      rcases this with rfl | rfl | rfl | rfl <;> constructor <;> omega
    have hm : WhlC (prodT xs (4 * t) i) (gmul (p i) (t * i)).1 (gmul (p i) (t * i)).2 := by
      unfold prodT
      rw [Int.mul_assoc]
      exact mul_turn (hx i (by omega)) (by omega) (by omega) (by omega) (by omega) (by omega) (by omega)
    obtain ⟨a1, a2, a3, a4⟩ := gs_bd (t := t) hp i (by omega)
    obtain ⟨c1, c2, c3, c4⟩ := gmul_bd (t := t * i) b1 b2 b3 b4
    have hi : (i : Int) ≤ 3 := by omega
    have hadd := addC_whl hs hm (by omega) (by omega)
    refine ⟨addC s (prodT xs (4 * t) i), ?_, hadd⟩
    show sumStep (sumT xs (4 * t) i) _ = _
    rw [e]
    unfold sumStep
    rw [Option.bind_some, whlC_fin hm, whlC_fin hadd]; rfl
end Go.Proofs.Ytficlmnjbbpicaa
