/- Halves of whole signals. -/
import Derived.Test.YtficlmnjbbpicaaG2
import Derived.Test.YtficlmnjbbpicaaE4
namespace Go.Proofs.Ytficlmnjbbpicaa
open Go.RowKit

theorem mul_div_int (p n : Int) (hn : 1 ≤ n) : (((n * p : Int) : Rat) / (n : Rat)) = (p : Rat) := by
  have h1 : ((1 : Int) : Rat) ≤ (n : Rat) := Rat.intCast_le_intCast.2 hn
  have c1 : ((1 : Int) : Rat) = 1 := rfl
  rw [c1] at h1
  rw [Rat.intCast_mul, Rat.mul_comm, Rat.mul_div_cancel (by grind)]
theorem quo_whl {a : C} {c32 c : Nat} {n p q : Int} (hc : P2W c32 c n) (ha : WhlC a (n * p) (n * q)) (h1 : p.natAbs < 16777216) (h2 : q.natAbs < 16777216) : WhlC (quoC a c) p q := by
  obtain ⟨_, e, f, r, s⟩ := quoC_rnd hc (whlC_fin ha)
  rw [ha.1.2, mul_div_int p n hc.pos] at e
  rw [ha.2.2, mul_div_int q n hc.pos] at f
  have we := rnd_int64 e (by omega)
  have wf := rnd_int64 f (by omega)
  rw [we.2] at r
  rw [wf.2] at s
  exact ⟨rnd_int32 r h1, rnd_int32 s h2⟩
theorem allT_fin {f : Nat → Option C} (h : ∀ k z, f k = some z → finB z = true) : ∀ {n : Nat} {l : List C}, allT f n = some l → l.all finB = true
  | 0, l, e => by injection e with e; rw [← e]; rfl
  | n + 1, l, e => by
    unfold allT at e
    cases h1 : allT f n with
    | none => rw [h1] at e; cases e
    | some m =>
      cases h2 : f n with
      | none => rw [h1, h2] at e; cases e
      | some z =>
        rw [h1, h2] at e
        injection e with e
        rw [← e, List.all_append, allT_fin h h1]
        simp [h n z h2]
theorem halS_fin (xs : List C) (half k : Nat) (z : C) (h : halS xs half k = some z) : finB z = true := by
  unfold halS at h
  split at h
  · rename_i hf
    injection h with h
    rw [← h]; exact (quoC_rnd p2w_2 hf).1
  · cases h
theorem halF_parts {xs : List C} {l : List C} (h : halF xs = some l) : sizB xs = true ∧ 2 ≤ xs.length ∧ l.length = xs.length / 2 ∧ l.all finB = true := by
  unfold halF at h
  split at h
  · rename_i hc
    rw [Bool.and_eq_true, decide_eq_true_eq] at hc
    exact ⟨hc.1, hc.2, allT_len h, allT_fin (halS_fin xs _) h⟩
  · cases h
/-- Halves of whole numbers of which each pair has an even sum. -/
theorem WSig.halves {xs : List C} {n half : Nat} {p q : Nat → Int × Int} {M : Int} (h : WSig xs n p M) (hs : sizB xs = true) (h2 : 2 ≤ n) (hh : half = n / 2) (hM : M ≤ 1000000) (hN : n % 2 = 0)
    (hq : ∀ k, k < half → (p k).1 + (p (k + half)).1 = 2 * (q k).1 ∧ (p k).2 + (p (k + half)).2 = 2 * (q k).2) :
    ∃ l, halF xs = some l ∧ l.length = half ∧ ∀ k, k < half → WhlC (nth l k) (q k).1 (q k).2 := by
  rw [halF_yes hs h.len h2, ← hh]
  refine allT_all (f := halS xs half) (Q := fun k z => WhlC z (q k).1 (q k).2) half fun k hk => ?_
  obtain ⟨b1, b2, b3, b4⟩ := h.bd k (by omega)
  obtain ⟨c1, c2, c3, c4⟩ := h.bd (k + half) (by omega)
  obtain ⟨e1, e2⟩ := hq k hk
  have ha := addC_whl (h.whl k (by omega)) (h.whl (k + half) (by omega)) (by omega) (by omega)
  rw [e1, e2] at ha
  refine ⟨quoC (addC (nth xs k) (nth xs (k + half))) 4611686018427387904, ?_, quo_whl p2w_2 ha (by omega) (by omega)⟩
  unfold halS
  rw [whlC_fin ha]; rfl
end Go.Proofs.Ytficlmnjbbpicaa
