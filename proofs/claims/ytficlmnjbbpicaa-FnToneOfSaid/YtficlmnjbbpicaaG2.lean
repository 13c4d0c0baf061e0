/- Spectra of whole signals of 1, 2 or 4 points. -/
import Derived.Test.YtficlmnjbbpicaaG1
namespace Go.Proofs.Ytficlmnjbbpicaa
open Go.RowKit

theorem allT_all {f : Nat → Option C} {Q : Nat → C → Prop} : ∀ n, (∀ k, k < n → ∃ z, f k = some z ∧ Q k z) → ∃ l, allT f n = some l ∧ l.length = n ∧ ∀ k, k < n → Q k (nth l k)
  | 0, _ => ⟨[], rfl, rfl, fun k hk => absurd hk (Nat.not_lt_zero _)⟩
  | n + 1, h => by
    obtain ⟨l, e, hl, hq⟩ := allT_all n fun k hk => h k (by omega)
    obtain ⟨z, ez, hz⟩ := h n (by omega)
    refine ⟨l ++ [z], allT_step e ez, by rw [List.length_append, hl]; rfl, fun k hk => ?_⟩
    by_cases hkn : k < n
    · have : nth (l ++ [z]) k = nth l k := by rw [nth_eq (by rw [List.length_append]; simp; omega), nth_eq (by omega), List.getElem_append_left (by omega)]
      rw [this]; exact hq k hkn
    · have hke : k = n := by omega
      subst hke
      have : nth (l ++ [z]) k = z := by rw [nth_eq (by rw [List.length_append]; simp; omega), List.getElem_append_right (by omega)]; simp [hl]
      rw [this]; exact hz
/-- Quarter turns for each point. -/
def tk (n : Nat) (k : Int) : Int := 4 / (n : Int) * k
theorem bk_tk {n : Nat} (h : n = 1 ∨ n = 2 ∨ n = 4) (k : Int) : bk n k = 4 * tk n k := by
  unfold bk tk
  rcases h with rfl | rfl | rfl <;> omega
theorem tk_bd {n : Nat} (h : n = 1 ∨ n = 2 ∨ n = 4) {k : Int} (h1 : -(n : Int) ≤ k) (h2 : k ≤ n) : -16 ≤ tk n k ∧ tk n k ≤ 16 := by
  unfold tk
  rcases h with rfl | rfl | rfl <;> constructor <;> omega
/-- A whole signal, with its numbers. -/
structure WSig (xs : List C) (n : Nat) (p : Nat → Int × Int) (M : Int) : Prop where
  len : xs.length = n
  whl : ∀ i, i < n → WhlC (nth xs i) (p i).1 (p i).2
  bd : ∀ i, i < n → -M ≤ (p i).1 ∧ (p i).1 ≤ M ∧ -M ≤ (p i).2 ∧ (p i).2 ≤ M
theorem WSig.fin {xs : List C} {n : Nat} {p : Nat → Int × Int} {M : Int} (h : WSig xs n p M) : xs.all finB = true := List.all_eq_true.2 fun z hz => by
  obtain ⟨i, hi, rfl⟩ := List.getElem_of_mem hz
  have := h.whl i (by rw [← h.len]; exact hi)
  rw [nth_eq hi] at this
  exact whlC_fin this
theorem WSig.siz {xs : List C} {n : Nat} {p : Nat → Int × Int} {M : Int} (h : WSig xs n p M) (hn : n = 1 ∨ n = 2 ∨ n = 4) : sizB xs = true := by
  unfold sizB sigB
  rw [h.fin, h.len]
  rcases hn with rfl | rfl | rfl <;> rfl
theorem WSig.of {xs : List C} {M : Int} (h : ∀ i, i < xs.length → Wh (nth xs i) M) : ∃ p, WSig xs xs.length p M := by
  have : ∀ i, ∃ q : Int × Int, i < xs.length → WhlC (nth xs i) q.1 q.2 ∧ -M ≤ q.1 ∧ q.1 ≤ M ∧ -M ≤ q.2 ∧ q.2 ≤ M := fun i => by
    by_cases hi : i < xs.length
    · obtain ⟨a, b, h1, h2⟩ := h i hi
      exact ⟨(a, b), fun _ => ⟨h1, h2⟩⟩
    · exact ⟨(0, 0), fun h => absurd h hi⟩
  exact ⟨fun i => (this i).choose, rfl, fun i hi => ((this i).choose_spec hi).1, fun i hi => ((this i).choose_spec hi).2⟩
theorem WSig.prod {xs : List C} {n : Nat} {p : Nat → Int × Int} {M : Int} (h : WSig xs n p M) (hn : n = 1 ∨ n = 2 ∨ n = 4) (hM : M ≤ 8000) {s : Int} (hs : s = 1 ∨ s = -1) : ProdOk xs s := by
  intro k i hk hi
  rw [h.len] at hk hi ⊢
  have hsk : -(n : Int) ≤ s * (k : Int) ∧ s * (k : Int) ≤ n := by rcases hs with rfl | rfl <;> constructor <;> omega
  obtain ⟨t1, t2⟩ := tk_bd hn hsk.1 hsk.2
  rw [bk_tk hn]
  obtain ⟨b1, b2, b3, b4⟩ := h.bd i hi
  have hti : -64 ≤ tk n (s * (k : Int)) * (i : Int) ∧ tk n (s * (k : Int)) * (i : Int) ≤ 64 := by
    have : i = 0 ∨ i = 1 ∨ i = 2 ∨ i = 3 := by omega
    rcases this with rfl | rfl | rfl | rfl <;> constructor <;> omega
  unfold prodT
  rw [Int.mul_assoc]
  exact whlC_fin (mul_turn (h.whl i hi) (by omega) (by omega) (by omega) (by omega) (by omega) (by omega))
/-- The spectrum of a whole signal is whole. -/
theorem WSig.trans {xs : List C} {n : Nat} {p : Nat → Int × Int} {M : Int} (h : WSig xs n p M) (hn : n = 1 ∨ n = 2 ∨ n = 4) (hM : M ≤ 8000) :
    ∃ l, transF xs = some l ∧ WSig l n (fun k => gs p (tk n (-(k : Int))) n) (4 * M) := by
  have hM0 : 0 ≤ M := by obtain ⟨b1, b2, _⟩ := h.bd 0 (by omega); omega
  have hp : ∀ i, i < n → -8000 ≤ (p i).1 ∧ (p i).1 ≤ 8000 ∧ -8000 ≤ (p i).2 ∧ (p i).2 ≤ 8000 := fun i hi => by
    obtain ⟨b1, b2, b3, b4⟩ := h.bd i hi
    omega
  obtain ⟨l, e, hl, hq⟩ := allT_all (f := fun k => sumT xs (bk n (-(k : Int))) n) (Q := fun k z => WhlC z (gs p (tk n (-(k : Int))) n).1 (gs p (tk n (-(k : Int))) n).2) n fun k hk => by
    obtain ⟨t1, t2⟩ := tk_bd hn (k := -(k : Int)) (by omega) (by omega)
    obtain ⟨s, e, hs⟩ := sum_whl (xs := xs) (p := p) (t := tk n (-(k : Int))) (n := n) (by omega) t1 t2 h.whl hp n (Nat.le_refl _)
    exact ⟨s, by show sumT xs (bk n _) n = _; rw [bk_tk hn]; exact e, hs⟩
  refine ⟨l, by rw [transF_yes (h.siz hn) h.len]; exact e, hl, hq, fun k hk => ?_⟩
  obtain ⟨a1, a2, a3, a4⟩ := gs_bd (p := p) (t := tk n (-(k : Int))) (M := M) (n := n) h.bd n (Nat.le_refl _)
  have e4 : M * (n : Int) ≤ 4 * M := by rcases hn with rfl | rfl | rfl <;> omega
  show -(4 * M) ≤ (gs p (tk n (-(k : Int))) n).1 ∧ _
  generalize M * (n : Int) = Mn at *
  omega
end Go.Proofs.Ytficlmnjbbpicaa
