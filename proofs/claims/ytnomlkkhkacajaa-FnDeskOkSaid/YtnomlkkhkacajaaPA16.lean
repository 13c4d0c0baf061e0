/- Texts on the way to a law (G1, G2), each with its own remark. -/
import Derived.Test.YtnomlkkhkacajaaPA15
namespace Go.Proofs.Ytnomlkkhkacajaa
open Go.RowKit

theorem whl1 : Whl Ieee.single 1065353216 1 := by
  have h := narrow_whl (int_whl (n := 1) (by decide)) (by decide)
  rwa [show narrow (floatOfInt .f64 1) = 1065353216 by decide] at h
theorem whlm1 : Whl Ieee.single 3212836864 (-1) := by
  have h := narrow_whl (int_whl (n := -1) (by decide)) (by decide)
  rwa [show narrow (floatOfInt .f64 (-1)) = 3212836864 by decide] at h
theorem whl0 : Whl Ieee.single 0 0 := ⟨zero32.1, by rw [zero32.2]; rfl⟩
/-- A quarter turn, so many times. -/
def rot (t : Int) : Int × Int := if t % 4 = 0 then (1, 0) else if t % 4 = 1 then (0, 1) else if t % 4 = 2 then (-1, 0) else (0, -1)
theorem rot_bd (t : Int) : (rot t = (1, 0) ∨ rot t = (0, 1) ∨ rot t = (-1, 0) ∨ rot t = (0, -1)) := by
  unfold rot; split
  · simp
  · split
    · simp
    · split <;> simp
theorem turn_whl {t : Int} (h1 : -2000 ≤ t) (h2 : t ≤ 2000) : WhlC (turnC (4 * t)) (rot t).1 (rot t).2 := by
  have hb : inB (4 * t) (-9999) 9999 = true := inB_true (by omega) (by omega)
  have e : turnC (4 * t) = nth turnL ((4 * t) % 16).toNat := by unfold turnC; rw [hb]; rfl
  rw [e]
  have m : t % 4 = 0 ∨ t % 4 = 1 ∨ t % 4 = 2 ∨ t % 4 = 3 := by omega
  unfold rot
  rcases m with h | h | h | h
  · rw [show (4 * t % 16).toNat = 0 by omega, h]; exact ⟨whl1, whl0⟩
  · rw [show (4 * t % 16).toNat = 4 by omega, h]; exact ⟨whl0, whl1⟩
  · rw [show (4 * t % 16).toNat = 8 by omega, h]; exact ⟨whlm1, whl0⟩
  · rw [show (4 * t % 16).toNat = 12 by omega, h]; exact ⟨whl0, whlm1⟩
theorem whlC_fin {z : C} {p q : Int} (h : WhlC z p q) : finB z = true := finB_iff.2 ⟨h.1.1, h.2.1⟩
theorem addC_whl {a b : C} {p q r s : Int} (ha : WhlC a p q) (hb : WhlC b r s) (h1 : (p + r).natAbs < 16777216) (h2 : (q + s).natAbs < 16777216) : WhlC (addC a b) (p + r) (q + s) := by
  obtain ⟨_, e1, e2⟩ := addC_spec (whlC_fin ha) (whlC_fin hb)
  rw [ha.1.2, hb.1.2, ← Rat.intCast_add] at e1
  rw [ha.2.2, hb.2.2, ← Rat.intCast_add] at e2
  exact ⟨rnd_int32 e1 h1, rnd_int32 e2 h2⟩
theorem m64_whl {x y : Nat} {p r : Int} (hx : Whl Ieee.single x p) (hy : Whl Ieee.single y r) (h : (p * r).natAbs < 9007199254740992) : Whl Ieee.double (m64 x y) (p * r) := by
  have := (m64_spec hx.1 hy.1).2.1
  rw [hx.2, hy.2, ← Rat.intCast_mul] at this
  exact rnd_int64 this h
theorem mulC_whl {a b : C} {p q r s : Int} (ha : WhlC a p q) (hb : WhlC b r s) (h1 : (p * r).natAbs < 4000000) (h2 : (q * s).natAbs < 4000000) (h3 : (p * s).natAbs < 4000000) (h4 : (q * r).natAbs < 4000000) :
    WhlC (mulC a b) (p * r - q * s) (p * s + q * r) := by
  have fa := whlC_fin ha
  have fb := whlC_fin hb
  have n1 := m64_whl ha.1 hb.1 (by omega)
  have n2 := m64_whl ha.2 hb.2 (by omega)
  have n3 := m64_whl ha.1 hb.2 (by omega)
  have n4 := m64_whl ha.2 hb.1 (by omega)
  have r1 := (re64_spec fa fb).2.1
  have r2 := (im64_spec fa fb).2.1
  rw [n1.2, n2.2, ← Rat.intCast_sub] at r1
  rw [n3.2, n4.2, ← Rat.intCast_add] at r2
  have w1 := rnd_int64 r1 (by omega)
  have w2 := rnd_int64 r2 (by omega)
  obtain ⟨s1, s2⟩ := mulC_rnd fa fb
  rw [w1.2] at s1
  rw [w2.2] at s2
  exact ⟨rnd_int32 s1 (by omega), rnd_int32 s2 (by omega)⟩
/-- A whole number, turned. -/
def gmul (p : Int × Int) (t : Int) : Int × Int := (p.1 * (rot t).1 - p.2 * (rot t).2, p.1 * (rot t).2 + p.2 * (rot t).1)
theorem gmul_bd {p : Int × Int} {M t : Int} (h1 : -M ≤ p.1) (h2 : p.1 ≤ M) (h3 : -M ≤ p.2) (h4 : p.2 ≤ M) : -M ≤ (gmul p t).1 ∧ (gmul p t).1 ≤ M ∧ -M ≤ (gmul p t).2 ∧ (gmul p t).2 ≤ M := by
  unfold gmul
  rcases rot_bd t with h | h | h | h <;> rw [h] <;> simp <;> omega
theorem mul_turn {z : C} {p : Int × Int} {t : Int} (hz : WhlC z p.1 p.2) (h1 : -1000000 ≤ p.1) (h2 : p.1 ≤ 1000000) (h3 : -1000000 ≤ p.2) (h4 : p.2 ≤ 1000000) (t1 : -2000 ≤ t) (t2 : t ≤ 2000) : WhlC (mulC z (turnC (4 * t))) (gmul p t).1 (gmul p t).2 := by
  refine mulC_whl hz (turn_whl t1 t2) ?_ ?_ ?_ ?_ <;> rcases rot_bd t with h | h | h | h <;> rw [h] <;> simp <;> omega
/-- The sum of the first whole numbers, turned. -/
def gs (p : Nat → Int × Int) (t : Int) : Nat → Int × Int
  | 0 => (0, 0)
  | i + 1 => ((gs p t i).1 + (gmul (p i) (t * i)).1, (gs p t i).2 + (gmul (p i) (t * i)).2)
theorem gs_bd {p : Nat → Int × Int} {t M : Int} {n : Nat} (hp : ∀ i, i < n → -M ≤ (p i).1 ∧ (p i).1 ≤ M ∧ -M ≤ (p i).2 ∧ (p i).2 ≤ M) :
    ∀ i, i ≤ n → -(M * i) ≤ (gs p t i).1 ∧ (gs p t i).1 ≤ M * i ∧ -(M * i) ≤ (gs p t i).2 ∧ (gs p t i).2 ≤ M * i
  | 0, _ => by simp [gs]
  | i + 1, h => by
    obtain ⟨a1, a2, a3, a4⟩ := gs_bd (t := t) hp i (by omega)
    obtain ⟨b1, b2, b3, b4⟩ := hp i (by omega)
    obtain ⟨c1, c2, c3, c4⟩ := gmul_bd (t := t * i) b1 b2 b3 b4
    have e : M * ((i + 1 : Nat) : Int) = M * i + M := by push_cast; rw [Int.mul_add, Int.mul_one]
    rw [e]
    unfold gs
    generalize M * (i : Int) = MI at *
    simp only
    omega
theorem sum_whl {xs : List C} {p : Nat → Int × Int} {t : Int} {n : Nat} (hn : n ≤ 4) (t1 : -16 ≤ t) (t2 : t ≤ 16) (hx : ∀ i, i < n → WhlC (nth xs i) (p i).1 (p i).2)
    (hp : ∀ i, i < n → -8000 ≤ (p i).1 ∧ (p i).1 ≤ 8000 ∧ -8000 ≤ (p i).2 ∧ (p i).2 ≤ 8000) :
    ∀ i, i ≤ n → ∃ s, sumT xs (4 * t) i = some s ∧ WhlC s (gs p t i).1 (gs p t i).2
  | 0, _ => ⟨(0, 0), rfl, whl0, whl0⟩
  | i + 1, h => by
    obtain ⟨s, e, hs⟩ := sum_whl hn t1 t2 hx hp i (by omega)
    obtain ⟨b1, b2, b3, b4⟩ := hp i (by omega)
    have hti : -64 ≤ t * (i : Int) ∧ t * (i : Int) ≤ 64 := by
      have : i = 0 ∨ i = 1 ∨ i = 2 ∨ i = 3 := by omega
      rcases this with rfl | rfl | rfl | rfl <;> constructor <;> omega
    have hm : WhlC (prodT xs (4 * t) i) (gmul (p i) (t * i)).1 (gmul (p i) (t * i)).2 := by
      unfold prodT
      rw [Int.mul_assoc]
      exact mul_turn (hx i (by omega)) (by omega) (by omega) (by omega) (by omega) (by omega) (by omega)
    obtain ⟨a1, a2, a3, a4⟩ := gs_bd (t := t) hp i (by omega)
    obtain ⟨c1, c2, c3, c4⟩ := gmul_bd (t := t * i) b1 b2 b3 b4
    have hi : (i : Int) ≤ 3 := by omega
    have hadd := addC_whl hs hm (by omega) (by omega)
    refine ⟨addC s (prodT xs (4 * t) i), ?_, hadd⟩
    show sumStep (sumT xs (4 * t) i) _ = _
    rw [e]
    unfold sumStep
    rw [Option.bind_some, whlC_fin hm, whlC_fin hadd]; rfl
end Go.Proofs.Ytnomlkkhkacajaa
namespace Go.Proofs.Ytnomlkkhkacajaa
open Go.RowKit

theorem allT_all {f : Nat → Option C} {Q : Nat → C → Prop} : ∀ n, (∀ k, k < n → ∃ z, f k = some z ∧ Q k z) → ∃ l, allT f n = some l ∧ l.length = n ∧ ∀ k, k < n → Q k (nth l k)
  | 0, _ => ⟨[], rfl, rfl, fun k hk => absurd hk (Nat.not_lt_zero _)⟩
  | n + 1, h => by
    obtain ⟨l, e, hl, hq⟩ := allT_all n fun k hk => h k (by omega)
    obtain ⟨z, ez, hz⟩ := h n (by omega)
    refine ⟨l ++ [z], allT_step e ez, by rw [List.length_append, hl]; rfl, fun k hk => ?_⟩
    by_cases hkn : k < n
    · have : nth (l ++ [z]) k = nth l k := by rw [nth_eq (by rw [List.length_append]; simp; omega), nth_eq (by omega), List.getElem_append_left (by omega)]
      rw [this]; exact hq k hkn
    · have hke : k = n := by omega
      subst hke
      have : nth (l ++ [z]) k = z := by rw [nth_eq (by rw [List.length_append]; simp; omega), List.getElem_append_right (by omega)]; simp [hl]
      rw [this]; exact hz
/-- Quarter turns for each point. -/
def tk (n : Nat) (k : Int) : Int := 4 / (n : Int) * k
theorem bk_tk {n : Nat} (h : n = 1 ∨ n = 2 ∨ n = 4) (k : Int) : bk n k = 4 * tk n k := by
  unfold bk tk
  rcases h with rfl | rfl | rfl <;> omega
theorem tk_bd {n : Nat} (h : n = 1 ∨ n = 2 ∨ n = 4) {k : Int} (h1 : -(n : Int) ≤ k) (h2 : k ≤ n) : -16 ≤ tk n k ∧ tk n k ≤ 16 := by
  unfold tk
  rcases h with rfl | rfl | rfl <;> constructor <;> omega
/-- A whole signal, with its numbers. -/
structure WSig (xs : List C) (n : Nat) (p : Nat → Int × Int) (M : Int) : Prop where
  len : xs.length = n
  whl : ∀ i, i < n → WhlC (nth xs i) (p i).1 (p i).2
  bd : ∀ i, i < n → -M ≤ (p i).1 ∧ (p i).1 ≤ M ∧ -M ≤ (p i).2 ∧ (p i).2 ≤ M
theorem WSig.fin {xs : List C} {n : Nat} {p : Nat → Int × Int} {M : Int} (h : WSig xs n p M) : xs.all finB = true := List.all_eq_true.2 fun z hz => by
  obtain ⟨i, hi, rfl⟩ := List.getElem_of_mem hz
  have := h.whl i (by rw [← h.len]; exact hi)
  rw [nth_eq hi] at this
  exact whlC_fin this
theorem WSig.siz {xs : List C} {n : Nat} {p : Nat → Int × Int} {M : Int} (h : WSig xs n p M) (hn : n = 1 ∨ n = 2 ∨ n = 4) : sizB xs = true := by
  unfold sizB sigB
  rw [h.fin, h.len]
  rcases hn with rfl | rfl | rfl <;> rfl
theorem WSig.of {xs : List C} {M : Int} (h : ∀ i, i < xs.length → Wh (nth xs i) M) : ∃ p, WSig xs xs.length p M := by
  have : ∀ i, ∃ q : Int × Int, i < xs.length → WhlC (nth xs i) q.1 q.2 ∧ -M ≤ q.1 ∧ q.1 ≤ M ∧ -M ≤ q.2 ∧ q.2 ≤ M := fun i => by
    by_cases hi : i < xs.length
    · obtain ⟨a, b, h1, h2⟩ := h i hi
      exact ⟨(a, b), fun _ => ⟨h1, h2⟩⟩
    · exact ⟨(0, 0), fun h => absurd h hi⟩
  exact ⟨fun i => (this i).choose, rfl, fun i hi => ((this i).choose_spec hi).1, fun i hi => ((this i).choose_spec hi).2⟩
theorem WSig.prod {xs : List C} {n : Nat} {p : Nat → Int × Int} {M : Int} (h : WSig xs n p M) (hn : n = 1 ∨ n = 2 ∨ n = 4) (hM : M ≤ 8000) {s : Int} (hs : s = 1 ∨ s = -1) : ProdOk xs s := by
  intro k i hk hi
  rw [h.len] at hk hi ⊢
  have hsk : -(n : Int) ≤ s * (k : Int) ∧ s * (k : Int) ≤ n := by rcases hs with rfl | rfl <;> constructor <;> omega
  obtain ⟨t1, t2⟩ := tk_bd hn hsk.1 hsk.2
  rw [bk_tk hn]
  obtain ⟨b1, b2, b3, b4⟩ := h.bd i hi
  have hti : -64 ≤ tk n (s * (k : Int)) * (i : Int) ∧ tk n (s * (k : Int)) * (i : Int) ≤ 64 := by
    have : i = 0 ∨ i = 1 ∨ i = 2 ∨ i = 3 := by omega
    rcases this with rfl | rfl | rfl | rfl <;> constructor <;> omega
  unfold prodT
  rw [Int.mul_assoc]
  exact whlC_fin (mul_turn (h.whl i hi) (by omega) (by omega) (by omega) (by omega) (by omega) (by omega))
/-- The spectrum of a whole signal is whole. -/
theorem WSig.trans {xs : List C} {n : Nat} {p : Nat → Int × Int} {M : Int} (h : WSig xs n p M) (hn : n = 1 ∨ n = 2 ∨ n = 4) (hM : M ≤ 8000) :
    ∃ l, transF xs = some l ∧ WSig l n (fun k => gs p (tk n (-(k : Int))) n) (4 * M) := by
  have hM0 : 0 ≤ M := by obtain ⟨b1, b2, _⟩ := h.bd 0 (by omega); omega
  have hp : ∀ i, i < n → -8000 ≤ (p i).1 ∧ (p i).1 ≤ 8000 ∧ -8000 ≤ (p i).2 ∧ (p i).2 ≤ 8000 := fun i hi => by
    obtain ⟨b1, b2, b3, b4⟩ := h.bd i hi
    omega
  obtain ⟨l, e, hl, hq⟩ := allT_all (f := fun k => sumT xs (bk n (-(k : Int))) n) (Q := fun k z => WhlC z (gs p (tk n (-(k : Int))) n).1 (gs p (tk n (-(k : Int))) n).2) n fun k hk => by
    obtain ⟨t1, t2⟩ := tk_bd hn (k := -(k : Int)) (by omega) (by omega)
    obtain ⟨s, e, hs⟩ := sum_whl (xs := xs) (p := p) (t := tk n (-(k : Int))) (n := n) (by omega) t1 t2 h.whl hp n (Nat.le_refl _)
    exact ⟨s, by show sumT xs (bk n _) n = _; rw [bk_tk hn]; exact e, hs⟩
  refine ⟨l, by rw [transF_yes (h.siz hn) h.len]; exact e, hl, hq, fun k hk => ?_⟩
  obtain ⟨a1, a2, a3, a4⟩ := gs_bd (p := p) (t := tk n (-(k : Int))) (M := M) (n := n) h.bd n (Nat.le_refl _)
  have e4 : M * (n : Int) ≤ 4 * M := by rcases hn with rfl | rfl | rfl <;> omega
  show -(4 * M) ≤ (gs p (tk n (-(k : Int))) n).1 ∧ _
  generalize M * (n : Int) = Mn at *
  omega
end Go.Proofs.Ytnomlkkhkacajaa
