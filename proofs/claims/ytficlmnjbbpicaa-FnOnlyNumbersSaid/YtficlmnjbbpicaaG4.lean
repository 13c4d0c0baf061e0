/- Whole spectra, there and back. -/
import Derived.Test.YtficlmnjbbpicaaG3
import Derived.Test.YtficlmnjbbpicaaK3
namespace Go.Proofs.Ytficlmnjbbpicaa
open Go.RowKit

/-- Numbers times a number. -/
def sm (c : Int) (p : Nat → Int × Int) (i : Nat) : Int × Int := (c * (p i).1, c * (p i).2)
theorem gmul_sm (c : Int) (x : Int × Int) (t : Int) : gmul (c * x.1, c * x.2) t = (c * (gmul x t).1, c * (gmul x t).2) := by
  unfold gmul
  rcases rot_bd t with h | h | h | h <;> rw [h] <;> simp [Int.mul_neg]
theorem gs_sm (c : Int) (p : Nat → Int × Int) (t : Int) : ∀ m, gs (sm c p) t m = (c * (gs p t m).1, c * (gs p t m).2)
  | 0 => by simp [gs]
  | m + 1 => by
    unfold gs
    rw [gs_sm c p t m]
    unfold sm
    rw [gmul_sm]
    simp only [Int.mul_add]
theorem gs_congr {p q : Nat → Int × Int} {t : Int} : ∀ {m : Nat}, (∀ i, i < m → p i = q i) → gs p t m = gs q t m
  | 0, _ => rfl
  | m + 1, h => by
    unfold gs
    rw [gs_congr (m := m) fun i hi => h i (by omega), h m (by omega)]
theorem gmul_add (x y : Int × Int) (t : Int) : gmul (x.1 + y.1, x.2 + y.2) t = ((gmul x t).1 + (gmul y t).1, (gmul x t).2 + (gmul y t).2) := by
  unfold gmul
  rcases rot_bd t with h | h | h | h <;> rw [h] <;> simp <;> omega
theorem gs_add (p q : Nat → Int × Int) (t : Int) : ∀ m, gs (fun i => ((p i).1 + (q i).1, (p i).2 + (q i).2)) t m = ((gs p t m).1 + (gs q t m).1, (gs p t m).2 + (gs q t m).2)
  | 0 => by simp [gs]
  | m + 1 => by
    unfold gs
    rw [gs_add p q t m, gmul_add]
    simp only [Prod.mk.injEq]
    omega
/-- There and back. -/
theorem gs_inv {p P : Nat → Int × Int} {n : Nat} (hn : n = 1 ∨ n = 2 ∨ n = 4) (hP : ∀ k, k < n → P k = gs p (tk n (-(k : Int))) n) (k : Nat) (hk : k < n) :
    gs P (tk n (k : Int)) n = ((n : Int) * (p k).1, (n : Int) * (p k).2) := by
  rcases hn with rfl | rfl | rfl
  · have : k = 0 := by omega
    subst this
    have h0 := hP 0 (by omega)
    simp [gs, gmul, tk, rot] at h0 ⊢
    rw [h0]
    exact ⟨rfl, rfl⟩
  · have h0 := hP 0 (by omega)
    have h1 := hP 1 (by omega)
    have : k = 0 ∨ k = 1 := by omega
    rcases this with rfl | rfl <;> simp [gs, gmul, tk, rot] at h0 h1 ⊢ <;> rw [h0, h1] <;> simp <;> omega
  · have h0 := hP 0 (by omega)
    have h1 := hP 1 (by omega)
    have h2 := hP 2 (by omega)
    have h3 := hP 3 (by omega)
    have : k = 0 ∨ k = 1 ∨ k = 2 ∨ k = 3 := by omega
    rcases this with rfl | rfl | rfl | rfl <;> simp [gs, gmul, tk, rot] at h0 h1 h2 h3 ⊢ <;> rw [h0, h1, h2, h3] <;> simp <;> omega
/-- Back and there. -/
theorem gs_inv2 {q P : Nat → Int × Int} {n : Nat} (hn : n = 1 ∨ n = 2 ∨ n = 4) (hq : ∀ k, k < n → ((n : Int) * (q k).1, (n : Int) * (q k).2) = gs P (tk n (k : Int)) n) (k : Nat) (hk : k < n) :
    gs q (tk n (-(k : Int))) n = P k := by
  rcases hn with rfl | rfl | rfl
  · have : k = 0 := by omega
    subst this
    have h0 := hq 0 (by omega)
    simp [gs, gmul, tk, rot] at h0 ⊢
    ext <;> simp <;> omega
  · have h0 := hq 0 (by omega)
    have h1 := hq 1 (by omega)
    have : k = 0 ∨ k = 1 := by omega
    rcases this with rfl | rfl <;> simp [gs, gmul, tk, rot] at h0 h1 ⊢ <;> ext <;> simp <;> omega
  · have h0 := hq 0 (by omega)
    have h1 := hq 1 (by omega)
    have h2 := hq 2 (by omega)
    have h3 := hq 3 (by omega)
    have : k = 0 ∨ k = 1 ∨ k = 2 ∨ k = 3 := by omega
    rcases this with rfl | rfl | rfl | rfl <;> simp [gs, gmul, tk, rot] at h0 h1 h2 h3 ⊢ <;> ext <;> simp <;> omega
theorem c64_p2 {n : Nat} (hn : n = 1 ∨ n = 2 ∨ n = 4) : ∃ c32, P2W c32 (c64 n) n := by
  rcases hn with rfl | rfl | rfl
  · exact ⟨_, p2w_1⟩
  · exact ⟨_, p2w_2⟩
  · exact ⟨_, p2w_4⟩
/-- Back from a whole spectrum. -/
theorem WSig.back {xs : List C} {n : Nat} {P q : Nat → Int × Int} {M : Int} (h : WSig xs n P M) (hn : n = 1 ∨ n = 2 ∨ n = 4) (hM : M ≤ 8000)
    (hq : ∀ k, k < n → ((n : Int) * (q k).1, (n : Int) * (q k).2) = gs P (tk n (k : Int)) n) : ∃ l, backF xs = some l ∧ WSig l n q M := by
  have hM0 : 0 ≤ M := by obtain ⟨b1, b2, _⟩ := h.bd 0 (by omega); omega
  have hp : ∀ i, i < n → -8000 ≤ (P i).1 ∧ (P i).1 ≤ 8000 ∧ -8000 ≤ (P i).2 ∧ (P i).2 ≤ 8000 := fun i hi => by
    obtain ⟨b1, b2, b3, b4⟩ := h.bd i hi
    omega
  have hqb : ∀ k, k < n → -M ≤ (q k).1 ∧ (q k).1 ≤ M ∧ -M ≤ (q k).2 ∧ (q k).2 ≤ M := fun k hk => by
    obtain ⟨a1, a2, a3, a4⟩ := gs_bd (p := P) (t := tk n (k : Int)) (M := M) (n := n) h.bd n (Nat.le_refl _)
    have e := hq k hk
    rw [← e] at a1 a2 a3 a4
    rcases hn with rfl | rfl | rfl <;> simp at a1 a2 a3 a4 <;> omega
  obtain ⟨c32, hc⟩ := c64_p2 hn
  obtain ⟨l, e, hl, hw⟩ := allT_all (f := bakZ xs n) (Q := fun k z => WhlC z (q k).1 (q k).2) n fun k hk => by
    obtain ⟨t1, t2⟩ := tk_bd hn (k := (k : Int)) (by omega) (by omega)
    obtain ⟨s, e, hs⟩ := sum_whl (xs := xs) (p := P) (t := tk n (k : Int)) (n := n) (by omega) t1 t2 h.whl hp n (Nat.le_refl _)
    rw [← hq k hk] at hs
    obtain ⟨d1, d2, d3, d4⟩ := hqb k hk
    exact ⟨quoC s (c64 n), bakZ_some (by rw [bk_tk hn]; exact e), quo_whl hc hs (by omega) (by omega)⟩
  exact ⟨l, by rw [backF_yes (h.siz hn) h.len]; exact e, hl, hw, hqb⟩
/-- The number 4. -/
def four : C := (1082130432, 0)
theorem whl4 : Whl Ieee.single 1082130432 4 := by
  have h := narrow_whl (int_whl (n := 4) (by decide)) (by decide)
  rwa [show narrow (floatOfInt .f64 4) = 1082130432 by decide] at h
def fouL (xs : List C) : List C := xs.map fun z => mulC z four
theorem fouL_nth {xs : List C} {i : Nat} (h : i < xs.length) : nth (fouL xs) i = mulC (nth xs i) four := by
  rw [nth_eq (by unfold fouL; rw [List.length_map]; exact h), nth_eq h]; unfold fouL; rw [List.getElem_map]
theorem WSig.four {xs : List C} {n : Nat} {p : Nat → Int × Int} (h : WSig xs n p 250) : WSig (fouL xs) n (sm 4 p) 1000 := by
  refine ⟨by unfold fouL; rw [List.length_map]; exact h.len, fun i hi => ?_, fun i hi => ?_⟩
  · obtain ⟨b1, b2, b3, b4⟩ := h.bd i hi
    rw [fouL_nth (by rw [h.len]; exact hi)]
    have := mulC_whl (a := nth xs i) (b := Go.Proofs.Ytficlmnjbbpicaa.four) (r := 4) (s := 0) (h.whl i hi) ⟨whl4, whl0⟩ (by omega) (by omega) (by omega) (by omega)
    rw [show (p i).1 * 4 - (p i).2 * 0 = 4 * (p i).1 by omega, show (p i).1 * 0 + (p i).2 * 4 = 4 * (p i).2 by omega] at this
    exact this
  · obtain ⟨b1, b2, b3, b4⟩ := h.bd i hi
    unfold sm
    simp only
    omega
end Go.Proofs.Ytficlmnjbbpicaa
