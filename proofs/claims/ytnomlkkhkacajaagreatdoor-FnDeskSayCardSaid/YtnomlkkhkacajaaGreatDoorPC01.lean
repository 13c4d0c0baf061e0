/- Texts on the way to a law (Fl), each with its own remark. -/
import Ieee.Arith
import Derived.Laws.FloatBits
namespace Go.Proofs.YtnomlkkhkacajaaGreatDoor
open Ieee

/- powers of two -/
def p2 (k : Int) : Rat := (2 : Rat) ^ k
theorem rlt_trans {a b c : Rat} (h : a < b) (k : b < c) : a < c := by grind
theorem rlt_of_le' {a b c : Rat} (h : a ≤ b) (k : b < c) : a < c := by grind
theorem rlt_of_le {a b c : Rat} (h : a < b) (k : b ≤ c) : a < c := by grind
theorem p2_pos (k : Int) : 0 < p2 k := Rat.zpow_pos (by decide)
theorem p2_add (a b : Int) : p2 (a + b) = p2 a * p2 b := Rat.zpow_add (by decide) a b
theorem p2_zero : p2 0 = 1 := Rat.zpow_zero 2
theorem p2_nat (n : Nat) : p2 (n : Int) = ((2 ^ n : Nat) : Rat) := by
  unfold p2; rw [Rat.zpow_natCast, Rat.natCast_pow]; rfl
theorem p2_one : p2 1 = 2 := Rat.zpow_one 2
theorem p2_succ (k : Int) : p2 (k + 1) = 2 * p2 k := by rw [p2_add, p2_one, Rat.mul_comm]
theorem one_le_pow (n : Nat) : (1 : Rat) ≤ ((2 ^ n : Nat) : Rat) := by
  have h : (1 : Nat) ≤ 2 ^ n := Nat.one_le_two_pow
  exact Rat.natCast_le_natCast.2 h
theorem p2_mono {a b : Int} (h : a ≤ b) : p2 a ≤ p2 b := by
  obtain ⟨n, rfl⟩ : ∃ n : Nat, b = a + n := ⟨(b - a).toNat, by omega⟩
  rw [p2_add, p2_nat]
  have := Rat.mul_le_mul_of_nonneg_left (one_le_pow n) (Rat.le_of_lt (p2_pos a))
  simpa using this
theorem p2_lt {a b : Int} (h : a < b) : 2 * p2 a ≤ p2 b := by
  rw [← p2_succ]; exact p2_mono (by omega)

/- the value of a rung -/
section
variable (f : Format)
theorem binade_pos : 0 < f.binade := Nat.two_pow_pos _

/-- What a rung stands for. -/
def rv (r : Nat) : Rat :=
  if r < f.binade then (r : Rat) * p2 f.leastPlace
  else ((f.binade + r % f.binade : Nat) : Rat) * p2 (f.leastPlace + (r / f.binade - 1 : Nat))

/-- The unit of a binade. -/
def un (L : Nat) : Rat := p2 (f.leastPlace + L)
theorem un_pos (L : Nat) : 0 < un f L := p2_pos _
theorem un_lt {L M : Nat} (h : L < M) : 2 * un f L ≤ un f M := p2_lt (by omega)
theorem rv_form {L k : Nat} (hk : k ≤ 2 * f.binade) (h : L = 0 ∨ f.binade ≤ k) : rv f (L * f.binade + k) = (k : Rat) * un f L := by
  have hB := binade_pos f
  unfold rv un
  generalize f.binade = B at *
  rcases Nat.lt_or_ge k B with h1 | h1
  · have h0 : L = 0 := by omega
    subst h0
    simp [h1]
  · rcases Nat.lt_or_ge k (2 * B) with h2 | h2
    · obtain ⟨d, rfl⟩ : ∃ d, k = B + d := ⟨k - B, by omega⟩
      have e : L * B + (B + d) = d + B * (L + 1) := by rw [Nat.mul_add, Nat.mul_comm B L]; omega
      have hnot : ¬ (L * B + (B + d) < B) := by omega
      rw [if_neg hnot, e, Nat.add_mul_mod_self_left, Nat.mod_eq_of_lt (by omega), Nat.add_mul_div_left _ _ hB, Nat.div_eq_of_lt (by omega)]
      simp
    · have h3 : k = 2 * B := by omega
      subst h3
      have e : L * B + 2 * B = B * (L + 2) := by rw [Nat.mul_add, Nat.mul_comm B L, Nat.mul_comm 2 B]
      have hnot : ¬ (L * B + 2 * B < B) := by omega
      rw [if_neg hnot, e, Nat.mul_mod_right, Nat.mul_div_right _ hB]
      have e2 : f.leastPlace + ((L + 2 - 1 : Nat) : Int) = (f.leastPlace + (L : Int)) + 1 := by omega
      rw [e2, p2_succ]
      simp only [Nat.add_zero, Rat.natCast_mul]
      grind

/-- Every rung lies in a binade. -/
theorem rung_split (r : Nat) : ∃ L k, r = L * f.binade + k ∧ k < 2 * f.binade ∧ (L = 0 ∨ f.binade ≤ k) := by
  have hB := binade_pos f
  rcases Nat.lt_or_ge r f.binade with h | h
  · exact ⟨0, r, by omega, by omega, .inl rfl⟩
  · refine ⟨r / f.binade - 1, r - (r / f.binade - 1) * f.binade, ?_, ?_, .inr ?_⟩ <;>
    · have h1 := Nat.div_add_mod r f.binade
      have h2 := Nat.mod_lt r hB
      have h3 : 1 ≤ r / f.binade := (Nat.one_le_div_iff hB).2 h
      obtain ⟨d, hd⟩ : ∃ d, r / f.binade = d + 1 := ⟨r / f.binade - 1, by omega⟩
      rw [hd] at h1 ⊢
      simp only [Nat.add_sub_cancel]
      rw [Nat.mul_add, Nat.mul_comm f.binade d] at h1
      omega

theorem rv_succ (r : Nat) : rv f r < rv f (r + 1) := by
  obtain ⟨L, k, rfl, hk, h⟩ := rung_split f r
  rw [Nat.add_assoc, rv_form f (by omega) h, rv_form f (by omega) (by omega)]
  have := un_pos f L
  rw [Rat.natCast_add]
  grind
theorem rv_lt {r s : Nat} (h : r < s) : rv f r < rv f s := by
  induction h with
  | refl => exact rv_succ f r
  | step _ ih => exact rlt_trans ih (rv_succ f _)
theorem rv_le {r s : Nat} (h : r ≤ s) : rv f r ≤ rv f s := by
  rcases Nat.lt_or_ge r s with h1 | h1
  · exact Rat.le_of_lt (rv_lt f h1)
  · have : r = s := by omega
    subst this; exact Rat.le_refl
theorem rv_zero : rv f 0 = 0 := by
  unfold rv; rw [if_pos (binade_pos f)]; simp
theorem rv_nonneg (r : Nat) : 0 ≤ rv f r := by
  have := rv_le f (Nat.zero_le r); rwa [rv_zero] at this
theorem rv_inj {r s : Nat} (h : rv f r = rv f s) : r = s := by
  rcases Nat.lt_trichotomy r s with h1 | h1 | h1
  · have := rv_lt f h1; grind
  · exact h1
  · have := rv_lt f h1; grind
theorem rv_lt_iff {r s : Nat} : rv f r < rv f s ↔ r < s := by
  constructor
  · intro h
    rcases Nat.lt_or_ge r s with h1 | h1
    · exact h1
    · have := rv_le f h1; grind
  · exact rv_lt f
end

/- rounding -/
/-- Half a unit at most, and between two the even one (in natural numbers). -/
theorem cut_even (neg : Bool) (n drop : Nat) :
    let k := Toward.even.cut neg n drop
    2 * n ≤ (2 * k + 1) * 2 ^ drop ∧ 2 * k * 2 ^ drop ≤ 2 * n + 2 ^ drop ∧ ((2 * n = (2 * k + 1) * 2 ^ drop ∨ 2 * k * 2 ^ drop = 2 * n + 2 ^ drop) → k % 2 = 0) := by
  intro k
  have key : ∀ g : Nat, 0 < g → ∀ k : Nat, k = n / g + (decide (g < 2 * (n % g)) || (g == 2 * (n % g) && n / g % 2 == 1)).toNat →
      2 * n ≤ (2 * k + 1) * g ∧ 2 * k * g ≤ 2 * n + g ∧ ((2 * n = (2 * k + 1) * g ∨ 2 * k * g = 2 * n + g) → k % 2 = 0) := by
    intro g hg k hk
    have h1 := Nat.div_add_mod n g
    have h2 := Nat.mod_lt n hg
    generalize hq : n / g = q at *
    generalize hr : n % g = r at *
    have e1 : ∀ q : Nat, (2 * q + 1) * g = 2 * (g * q) + g := fun q => by rw [Nat.add_mul, Nat.one_mul, Nat.mul_assoc, Nat.mul_comm q g]
    have e2 : ∀ q : Nat, 2 * q * g = 2 * (g * q) := fun q => by rw [Nat.mul_assoc, Nat.mul_comm q g]
    have e3 : g * (q + 1) = g * q + g := by rw [Nat.mul_add, Nat.mul_one]
    rw [e1, e2]
    by_cases hc : g < 2 * r
    · have : k = q + 1 := by rw [hk]; simp [hc]
      subst this
      rw [e3]; refine ⟨by omega, by omega, fun h => ?_⟩; omega
    · by_cases he : g = 2 * r
      · by_cases ho : q % 2 = 1
        · have : k = q + 1 := by rw [hk]; simp [← he, ho]
          subst this
          rw [e3]; refine ⟨by omega, by omega, fun h => ?_⟩; omega
        · have : k = q := by rw [hk]; simp [← he, ho]
          subst this
          refine ⟨by omega, by omega, fun h => ?_⟩; omega
      · have : k = q := by rw [hk]; simp [hc, he]
        subst this
        refine ⟨by omega, by omega, fun h => ?_⟩; omega
  have hk : k = n / (1 <<< min drop (n.log2 + 2)) + (decide (1 <<< min drop (n.log2 + 2) < 2 * (n % (1 <<< min drop (n.log2 + 2)))) || (1 <<< min drop (n.log2 + 2) == 2 * (n % (1 <<< min drop (n.log2 + 2))) && n / (1 <<< min drop (n.log2 + 2)) % 2 == 1)).toNat := rfl
  rw [Nat.one_shiftLeft] at hk
  rcases Nat.le_total drop (n.log2 + 2) with hd | hd
  · rw [Nat.min_eq_left hd] at hk
    exact key _ (Nat.two_pow_pos _) k hk
  · rw [Nat.min_eq_right hd] at hk
    have hn : n < 2 ^ (n.log2 + 1) := Nat.lt_log2_self
    have hp : 2 ^ (n.log2 + 2) = 2 * 2 ^ (n.log2 + 1) := by rw [Nat.pow_succ 2 (n.log2 + 1), Nat.mul_comm]
    have h0 : k = 0 := by
      rw [hk, Nat.div_eq_of_lt (by omega), Nat.mod_eq_of_lt (by omega)]
      simp
      omega
    have hle : 2 ^ (n.log2 + 2) ≤ 2 ^ drop := Nat.pow_le_pow_right (by decide) hd
    rw [h0]
    refine ⟨by omega, by omega, fun _ => rfl⟩

section
variable (f : Format)
/-- The rung of the word nearest to 'mag * 2 ^ place'. -/
def rung (mag : Nat) (place : Int) : Nat :=
  if mag = 0 then 0 else
  let last := max (place + mag.log2 - f.fractionBits) f.leastPlace
  min ((last - f.leastPlace).toNat * f.binade + Toward.even.cut false (mag <<< (place - last).toNat) (last - place).toNat) f.infRung
theorem nearest_eq (neg : Bool) (mag : Nat) (place : Int) : f.nearest neg mag place = f.word neg (rung f mag place) := by
  unfold Format.nearest rung
  split <;> rfl

theorem mul_p2 (n : Nat) (d : Nat) (p : Int) : ((n * 2 ^ d : Nat) : Rat) * p2 p = (n : Rat) * p2 (p + d) := by
  rw [Rat.natCast_mul, p2_add, p2_nat]; grind

/-- How the nearest rung stands to the number. -/
theorem rung_spec {mag : Nat} (hm : mag ≠ 0) (place : Int) :
    ∃ L k, rung f mag place = min (L * f.binade + k) f.infRung ∧ k ≤ 2 * f.binade ∧ (L = 0 ∨ f.binade ≤ k) ∧
      2 * ((mag : Rat) * p2 place) ≤ (2 * (k : Rat) + 1) * un f L ∧ (2 * (k : Rat) - 1) * un f L ≤ 2 * ((mag : Rat) * p2 place) ∧
      ((2 * ((mag : Rat) * p2 place) = (2 * (k : Rat) + 1) * un f L ∨ (2 * (k : Rat) - 1) * un f L = 2 * ((mag : Rat) * p2 place)) → k % 2 = 0) ∧
      (L = 0 ∨ (f.binade : Rat) * un f L ≤ (mag : Rat) * p2 place) ∧ (mag : Rat) * p2 place < 2 * (f.binade : Rat) * un f L := by
  let last := max (place + mag.log2 - f.fractionBits) f.leastPlace
  let L := (last - f.leastPlace).toNat
  let n := mag <<< (place - last).toNat
  let drop := (last - place).toNat
  let k := Toward.even.cut false n drop
  have hlast : f.leastPlace ≤ last := Int.le_max_right _ _
  have hLl : f.leastPlace + (L : Int) = last := by show f.leastPlace + ((last - f.leastPlace).toNat : Int) = last; omega
  have hu : un f L = p2 last := by unfold un; rw [hLl]
  obtain ⟨c1, c2, c3⟩ := cut_even false n drop
  change 2 * n ≤ (2 * k + 1) * 2 ^ drop at c1
  change 2 * k * 2 ^ drop ≤ 2 * n + 2 ^ drop at c2
  change (2 * n = (2 * k + 1) * 2 ^ drop ∨ 2 * k * 2 ^ drop = 2 * n + 2 ^ drop) → k % 2 = 0 at c3
  -- n * 2 ^ (last - drop) is the number, 2 ^ drop * 2 ^ (last - drop) the unit
  have hval : (mag : Rat) * p2 place = (n : Rat) * p2 (last - drop) := by
    show _ = ((mag <<< (place - last).toNat : Nat) : Rat) * _
    rw [Nat.shiftLeft_eq, mul_p2]
    congr 2
    omega
  have hunit : p2 last = ((2 ^ drop : Nat) : Rat) * p2 (last - drop) := by
    have : last = (last - drop) + (drop : Int) := by omega
    rw [← p2_nat, Rat.mul_comm, ← p2_add, ← this]
  have hpos := p2_pos (last - drop)
  have hlog1 : 2 ^ mag.log2 ≤ mag := Nat.log2_self_le hm
  have hlog2 : mag < 2 ^ (mag.log2 + 1) := Nat.lt_log2_self
  -- the number lies below the next binade
  have hbn : (f.binade : Rat) = p2 f.fractionBits := by rw [p2_nat]; rfl
  have hhi : (mag : Rat) * p2 place < 2 * (f.binade : Rat) * un f L := by
    have h1 : (mag : Rat) < ((2 ^ (mag.log2 + 1) : Nat) : Rat) := Rat.natCast_lt_natCast.2 hlog2
    rw [← p2_nat] at h1
    have h2 := Rat.mul_lt_mul_of_pos_right h1 (p2_pos place)
    rw [← p2_add] at h2
    have h3 : 2 * (f.binade : Rat) * un f L = p2 (1 + f.fractionBits + last) := by
      rw [hbn, hu, p2_add, p2_add, p2_one]
    rw [h3]
    refine rlt_of_le h2 (p2_mono ?_)
    have : place + mag.log2 - f.fractionBits ≤ last := Int.le_max_left _ _
    omega
  have hlo : L = 0 ∨ (f.binade : Rat) * un f L ≤ (mag : Rat) * p2 place := by
    by_cases h : place + mag.log2 - f.fractionBits ≤ f.leastPlace
    · left
      have : last = f.leastPlace := Int.max_eq_right h
      show (last - f.leastPlace).toNat = 0
      omega
    · right
      have hl : last = place + mag.log2 - f.fractionBits := Int.max_eq_left (by omega)
      have h1 : ((2 ^ mag.log2 : Nat) : Rat) ≤ (mag : Rat) := Rat.natCast_le_natCast.2 hlog1
      rw [← p2_nat] at h1
      have h2 := Rat.mul_le_mul_of_nonneg_right h1 (Rat.le_of_lt (p2_pos place))
      rw [← p2_add] at h2
      rw [hbn, hu, ← p2_add]
      have : (f.fractionBits : Int) + last = (mag.log2 : Int) + place := by omega
      rw [this]; exact h2
  have r1 : 2 * (n : Rat) ≤ (2 * (k : Rat) + 1) * ((2 ^ drop : Nat) : Rat) := by
    have := Rat.natCast_le_natCast.2 c1
    simpa [Rat.natCast_mul, Rat.natCast_add] using this
  have r2 : 2 * (k : Rat) * ((2 ^ drop : Nat) : Rat) ≤ 2 * (n : Rat) + ((2 ^ drop : Nat) : Rat) := by
    have := Rat.natCast_le_natCast.2 c2
    simpa [Rat.natCast_mul, Rat.natCast_add] using this
  have s1 : 2 * ((mag : Rat) * p2 place) ≤ (2 * (k : Rat) + 1) * un f L := by
    have := Rat.mul_le_mul_of_nonneg_right r1 (Rat.le_of_lt hpos)
    rw [hu, hval, hunit]; grind
  have s2 : (2 * (k : Rat) - 1) * un f L ≤ 2 * ((mag : Rat) * p2 place) := by
    have := Rat.mul_le_mul_of_nonneg_right r2 (Rat.le_of_lt hpos)
    rw [hu, hval, hunit]; grind
  have hk2 : k ≤ 2 * f.binade := by
    have hupos := un_pos f L
    have h3 : (2 * (k : Rat) - 1) * un f L < (4 * (f.binade : Rat)) * un f L := by grind
    have h4 : 2 * (k : Rat) - 1 < 4 * (f.binade : Rat) := Rat.lt_of_mul_lt_mul_right h3 (Rat.le_of_lt hupos)
    have h5 : ((2 * k : Nat) : Rat) < ((4 * f.binade + 1 : Nat) : Rat) := by
      simp only [Rat.natCast_mul, Rat.natCast_add]; grind
    have := Rat.natCast_lt_natCast.1 h5
    omega
  have hk1 : L = 0 ∨ f.binade ≤ k := by
    rcases hlo with h | h
    · exact .inl h
    · right
      have hupos := un_pos f L
      have h3 : (2 * (f.binade : Rat)) * un f L ≤ (2 * (k : Rat) + 1) * un f L := by grind
      have h4 : 2 * (f.binade : Rat) ≤ 2 * (k : Rat) + 1 := Rat.le_of_mul_le_mul_right h3 hupos
      have h5 : ((2 * f.binade : Nat) : Rat) ≤ ((2 * k + 1 : Nat) : Rat) := by
        simp only [Rat.natCast_mul, Rat.natCast_add]; grind
      have := Rat.natCast_le_natCast.1 h5
      omega
  refine ⟨L, k, ?_, hk2, hk1, s1, s2, ?_, hlo, hhi⟩
  · unfold rung; rw [if_neg hm]
  · intro h
    refine c3 ?_
    have hne : p2 (last - drop) ≠ 0 := by grind
    rcases h with h | h
    · left
      rw [hu, hval, hunit] at h
      have h6 : (2 * (n : Rat)) * p2 (last - drop) = ((2 * (k : Rat) + 1) * ((2 ^ drop : Nat) : Rat)) * p2 (last - drop) := by grind
      have h7 : (2 * (n : Rat)) = (2 * (k : Rat) + 1) * ((2 ^ drop : Nat) : Rat) := by
        refine Rat.le_antisymm ?_ ?_
        · exact Rat.le_of_mul_le_mul_right (by rw [h6]; exact Rat.le_refl) hpos
        · exact Rat.le_of_mul_le_mul_right (by rw [h6]; exact Rat.le_refl) hpos
      apply Rat.natCast_inj.1
      simpa [Rat.natCast_mul, Rat.natCast_add] using h7
    · right
      rw [hu, hval, hunit] at h
      have h6 : (2 * (k : Rat) * ((2 ^ drop : Nat) : Rat)) * p2 (last - drop) = (2 * (n : Rat) + ((2 ^ drop : Nat) : Rat)) * p2 (last - drop) := by grind
      have h7 : (2 * (k : Rat) * ((2 ^ drop : Nat) : Rat)) = 2 * (n : Rat) + ((2 ^ drop : Nat) : Rat) := by
        refine Rat.le_antisymm ?_ ?_
        · exact Rat.le_of_mul_le_mul_right (by rw [h6]; exact Rat.le_refl) hpos
        · exact Rat.le_of_mul_le_mul_right (by rw [h6]; exact Rat.le_refl) hpos
      apply Rat.natCast_inj.1
      simpa [Rat.natCast_mul, Rat.natCast_add] using h7
end

/- the nearest rung: order, exactness, error -/
section
variable (f : Format)
theorem rung_zero (p : Int) : rung f 0 p = 0 := by simp [rung]
theorem rung_le_inf (m : Nat) (p : Int) : rung f m p ≤ f.infRung := by
  unfold rung; split
  · exact Nat.zero_le _
  · exact Nat.min_le_right _ _

theorem rung_mono {m m' : Nat} {p p' : Int} (h : (m : Rat) * p2 p ≤ (m' : Rat) * p2 p') : rung f m p ≤ rung f m' p' := by
  by_cases hm : m = 0
  · subst hm; rw [rung_zero]; exact Nat.zero_le _
  by_cases hm' : m' = 0
  · subst hm'
    have h1 : (0 : Rat) < (m : Rat) := Rat.natCast_pos.2 (by omega)
    have := Rat.mul_pos h1 (p2_pos p)
    simp at h
    grind
  obtain ⟨L, k, e, hk, hL, h1, h2, h3, h4, h5⟩ := rung_spec f hm p
  obtain ⟨L', k', e', hk', hL', h1', h2', h3', h4', h5'⟩ := rung_spec f hm' p'
  rw [e, e']
  generalize (m : Rat) * p2 p = q at *
  generalize (m' : Rat) * p2 p' = q' at *
  have hB := binade_pos f
  suffices L * f.binade + k ≤ L' * f.binade + k' by omega
  rcases Nat.lt_trichotomy L L' with hlt | heq | hgt
  · have hb : f.binade ≤ k' := by omega
    have : (L + 1) * f.binade ≤ L' * f.binade := Nat.mul_le_mul_right _ hlt
    rw [Nat.add_mul, Nat.one_mul] at this
    omega
  · subst heq
    rcases Nat.lt_or_ge k' k with hlt | hge
    · exfalso
      have hu := un_pos f L
      have hk1 : ((k' + 1 : Nat) : Rat) ≤ (k : Rat) := Rat.natCast_le_natCast.2 hlt
      rw [Rat.natCast_add] at hk1
      have hk2 := Rat.mul_le_mul_of_nonneg_right hk1 (Rat.le_of_lt hu)
      have t1 : 2 * q' = (2 * (k' : Rat) + 1) * un f L := by grind
      have t2 : (2 * (k : Rat) - 1) * un f L = 2 * q := by grind
      have ev' := h3' (.inl t1)
      have ev := h3 (.inr t2)
      have t3 : (k : Rat) * un f L = ((k' : Rat) + 1) * un f L := by grind
      have t4 : (k : Rat) = ((k' + 1 : Nat) : Rat) := by
        rw [Rat.natCast_add]
        refine Rat.le_antisymm ?_ ?_
        · exact Rat.le_of_mul_le_mul_right (by rw [t3]; exact Rat.le_refl) hu
        · exact Rat.le_of_mul_le_mul_right (by rw [t3]; exact Rat.le_refl) hu
      have t5 := Rat.natCast_inj.1 t4
      omega
    · omega
  · exfalso
    have hl : (f.binade : Rat) * un f L ≤ q := by
      rcases h4 with h | h
      · omega
      · exact h
    have hu := un_lt f hgt
    have hb : (0 : Rat) < (f.binade : Rat) := Rat.natCast_pos.2 hB
    have := Rat.mul_le_mul_of_nonneg_left hu (Rat.le_of_lt hb)
    grind

theorem rung_exact {m : Nat} {p : Int} {r : Nat} (h : (m : Rat) * p2 p = rv f r) : rung f m p = min r f.infRung := by
  by_cases hm : m = 0
  · subst hm
    have : rv f r = rv f 0 := by rw [rv_zero, ← h]; simp
    have := rv_inj f this
    subst this
    rw [rung_zero]; simp
  obtain ⟨L, k, e, hk, hL, h1, h2, h3, h4, h5⟩ := rung_spec f hm p
  rw [e, h] at *
  obtain ⟨L0, k0, rfl, hk0, hL0⟩ := rung_split f r
  rw [rv_form f (by omega) hL0] at *
  have hB := binade_pos f
  have hb : (0 : Rat) < (f.binade : Rat) := Rat.natCast_pos.2 hB
  have hu := un_pos f L
  have hu0 := un_pos f L0
  have hkB : (k0 : Rat) < 2 * (f.binade : Rat) := by
    have := Rat.natCast_lt_natCast.2 hk0
    simpa [Rat.natCast_mul] using this
  rcases Nat.lt_trichotomy L L0 with hlt | heq | hgt
  · exfalso
    have hb0 : f.binade ≤ k0 := by omega
    have h6 := un_lt f hlt
    have h7 : (f.binade : Rat) ≤ (k0 : Rat) := Rat.natCast_le_natCast.2 hb0
    have h8 := Rat.mul_le_mul_of_nonneg_right h7 (Rat.le_of_lt hu0)
    have h9 := Rat.mul_le_mul_of_nonneg_left h6 (Rat.le_of_lt hb)
    grind
  · subst heq
    have g1 : 2 * (k0 : Rat) ≤ 2 * (k : Rat) + 1 := Rat.le_of_mul_le_mul_right (by grind) hu
    have g2 : 2 * (k : Rat) - 1 ≤ 2 * (k0 : Rat) := Rat.le_of_mul_le_mul_right (by grind) hu
    have g3 : ((2 * k0 : Nat) : Rat) ≤ ((2 * k + 1 : Nat) : Rat) := by simp only [Rat.natCast_mul, Rat.natCast_add]; grind
    have g4 : ((2 * k : Nat) : Rat) ≤ ((2 * k0 + 1 : Nat) : Rat) := by simp only [Rat.natCast_mul, Rat.natCast_add]; grind
    have g5 := Rat.natCast_le_natCast.1 g3
    have g6 := Rat.natCast_le_natCast.1 g4
    have : k = k0 := by omega
    subst this; rfl
  · exfalso
    have hl : (f.binade : Rat) * un f L ≤ (k0 : Rat) * un f L0 := by
      rcases h4 with h | h
      · omega
      · exact h
    have h6 := un_lt f hgt
    have h8 := Rat.mul_lt_mul_of_pos_right hkB hu0
    have h9 := Rat.mul_le_mul_of_nonneg_left h6 (Rat.le_of_lt hb)
    grind

theorem rung_err {m : Nat} {p : Int} {E : Int} (hE : (m : Rat) * p2 p ≤ p2 E) (hl : f.leastPlace + f.fractionBits ≤ E) (hr : rung f m p < f.infRung) :
    rv f (rung f m p) - (m : Rat) * p2 p ≤ p2 (E - f.fractionBits - 1) ∧ (m : Rat) * p2 p - rv f (rung f m p) ≤ p2 (E - f.fractionBits - 1) := by
  by_cases hm : m = 0
  · subst hm
    rw [rung_zero, rv_zero]
    have := p2_pos (E - f.fractionBits - 1)
    constructor <;> simp <;> grind
  obtain ⟨L, k, e, hk, hL, h1, h2, h3, h4, h5⟩ := rung_spec f hm p
  have e2 : rung f m p = L * f.binade + k := by omega
  rw [e2, rv_form f hk hL]
  have hB := binade_pos f
  have hbn : (f.binade : Rat) = p2 f.fractionBits := by rw [p2_nat]; rfl
  have hu : un f L ≤ p2 (E - f.fractionBits) := by
    rcases h4 with h | h
    · subst h; exact p2_mono (by omega)
    · have h6 : p2 f.fractionBits * un f L ≤ p2 f.fractionBits * p2 (E - f.fractionBits) := by
        rw [← p2_add]
        have : (f.fractionBits : Int) + (E - f.fractionBits) = E := by omega
        rw [this, ← hbn]; exact Rat.le_trans h hE
      exact Rat.le_of_mul_le_mul_left h6 (p2_pos _)
  have hs : p2 (E - f.fractionBits) = 2 * p2 (E - f.fractionBits - 1) := by rw [← p2_succ]; congr 1; omega
  constructor <;> grind
theorem p2_lt_of {a b : Int} (h : p2 a < p2 b) : a < b := by
  rcases (show a < b ∨ b ≤ a by omega) with h1 | h1
  · exact h1
  · have := p2_mono h1; grind
theorem rung_err_lt {m : Nat} {p : Int} {E : Int} (hE : (m : Rat) * p2 p < p2 E) (hl : f.leastPlace + f.fractionBits + 1 ≤ E) (hr : rung f m p < f.infRung) :
    rv f (rung f m p) - (m : Rat) * p2 p ≤ p2 (E - f.fractionBits - 2) ∧ (m : Rat) * p2 p - rv f (rung f m p) ≤ p2 (E - f.fractionBits - 2) := by
  by_cases hm : m = 0
  · subst hm
    rw [rung_zero, rv_zero]
    have := p2_pos (E - f.fractionBits - 2)
    constructor <;> simp <;> grind
  obtain ⟨L, k, e, hk, hL, h1, h2, h3, h4, h5⟩ := rung_spec f hm p
  have e2 : rung f m p = L * f.binade + k := by omega
  rw [e2, rv_form f hk hL]
  have hbn : (f.binade : Rat) = p2 f.fractionBits := by rw [p2_nat]; rfl
  have hu : un f L ≤ p2 (E - f.fractionBits - 1) := by
    rcases h4 with h | h
    · subst h; exact p2_mono (by omega)
    · have h6 : p2 (f.fractionBits + (f.leastPlace + L)) < p2 E := by
        rw [p2_add, ← hbn]; exact rlt_of_le' h hE
      have := p2_lt_of h6
      exact p2_mono (by omega)
  have hs : p2 (E - f.fractionBits - 1) = 2 * p2 (E - f.fractionBits - 2) := by rw [← p2_succ]; congr 1; omega
  constructor <;> grind
end

/- words with a sign -/
/-- A number with its sign. -/
def sr (s : Bool) (q : Rat) : Rat := if s then -q else q
theorem sr_true (q : Rat) : sr true q = -q := rfl
theorem sr_false (q : Rat) : sr false q = q := rfl
theorem sr_not (s : Bool) (q : Rat) : sr (!s) q = -sr s q := by cases s <;> simp [sr]
theorem sr_zero (s : Bool) : sr s 0 = 0 := by cases s <;> simp [sr]
theorem sr_xor (s t : Bool) (q r : Rat) : sr (s ^^ t) (q * r) = sr s q * sr t r := by
  cases s <;> cases t <;> simp [sr] <;> grind

section
variable (f : Format)
def sg (x : Nat) : Bool := x / f.signWeight % 2 == 1
def rg (x : Nat) : Nat := x % f.signWeight
/-- The word stands for a number. -/
def Fin (x : Nat) : Prop := rg f x < f.infRung
instance (x : Nat) : Decidable (Fin f x) := inferInstanceAs (Decidable (_ < _))
/-- The number that it stands for. -/
def val (x : Nat) : Rat := sr (sg f x) (rv f (rg f x))

theorem sw_pos : 0 < f.signWeight := Nat.two_pow_pos _
theorem sg_word (s : Bool) {r : Nat} (h : r < f.signWeight) : sg f (f.word s r) = s := by
  unfold sg Format.word
  cases s
  · simp [Nat.div_eq_of_lt h]
  · simp [Nat.add_div_left _ (sw_pos f), Nat.div_eq_of_lt h]
theorem rg_word (s : Bool) {r : Nat} (h : r < f.signWeight) : rg f (f.word s r) = r := by
  unfold rg Format.word
  cases s
  · simp [Nat.mod_eq_of_lt h]
  · simp [Nat.mod_eq_of_lt h]

theorem read_fin {x : Nat} (h : Fin f x) : ∃ m p, f.read x = .number (sg f x) m p ∧ (m : Rat) * p2 p = rv f (rg f x) := by
  have e : f.read x = if rg f x < f.binade then .number (sg f x) (rg f x) f.leastPlace
      else if rg f x < f.infRung then .number (sg f x) (f.binade + rg f x % f.binade) (f.leastPlace + (rg f x / f.binade - 1 : Nat))
      else if rg f x = f.infRung then .infinity (sg f x) else .nan (sg f x) (rg f x - f.infRung) := rfl
  rw [e]
  unfold Fin at h
  by_cases h1 : rg f x < f.binade
  · rw [if_pos h1]
    exact ⟨_, _, rfl, by unfold rv; rw [if_pos h1]⟩
  · rw [if_neg h1, if_pos h]
    exact ⟨_, _, rfl, by unfold rv; rw [if_neg h1]⟩

/-- r is the word nearest to q. -/
def Rnd (q : Rat) (r : Nat) : Prop := ∃ s m p, r = f.nearest s m p ∧ q = sr s ((m : Rat) * p2 p)

theorem nearest_sg (s : Bool) (m : Nat) (p : Int) : sg f (f.nearest s m p) = s := by
  rw [nearest_eq]; exact sg_word f s (Nat.lt_of_le_of_lt (rung_le_inf f m p) f.infRung_lt)
theorem nearest_rg (s : Bool) (m : Nat) (p : Int) : rg f (f.nearest s m p) = rung f m p := by
  rw [nearest_eq]; exact rg_word f s (Nat.lt_of_le_of_lt (rung_le_inf f m p) f.infRung_lt)

theorem mag_nonneg (m : Nat) (p : Int) : 0 ≤ (m : Rat) * p2 p := Rat.mul_nonneg Rat.natCast_nonneg (Rat.le_of_lt (p2_pos p))

variable {f}
/-- A number between two words of the format, -z and z, is rounded to a number between them. -/
theorem Rnd.le {q : Rat} {r z : Nat} (h : Rnd f q r) (hz : z < f.infRung) (h1 : q ≤ rv f z) (h2 : -rv f z ≤ q) : Fin f r ∧ val f r ≤ rv f z ∧ -rv f z ≤ val f r := by
  obtain ⟨s, m, p, rfl, rfl⟩ := h
  have hq : (m : Rat) * p2 p ≤ rv f z := by cases s <;> simp [sr] at h1 h2 <;> grind
  have hr : rung f m p ≤ z := by
    have hz' := rung_exact f (m := 0) (p := 0) (r := 0) (by rw [rv_zero]; simp)
    obtain ⟨L, k, e, hk, hL⟩ := rung_split f z
    have e2 : (k : Rat) * p2 (f.leastPlace + L) = rv f z := by rw [e, rv_form f (by omega) hL]; rfl
    have := rung_mono f (m := m) (p := p) (m' := k) (p' := f.leastPlace + L) (by rw [e2]; exact hq)
    rw [rung_exact f e2] at this
    omega
  have hv := rv_le f hr
  have hn := rv_nonneg f (rung f m p)
  refine ⟨?_, ?_, ?_⟩
  · unfold Fin; rw [nearest_rg]; omega
  · unfold val; rw [nearest_rg, nearest_sg]; cases s <;> simp [sr] <;> grind
  · unfold val; rw [nearest_rg, nearest_sg]; cases s <;> simp [sr] <;> grind

/-- A number of the format is rounded to itself. -/
theorem Rnd.exact {q : Rat} {r : Nat} (h : Rnd f q r) {t : Bool} {z : Nat} (hz : z < f.infRung) (hq : q = sr t (rv f z)) : Fin f r ∧ val f r = q := by
  obtain ⟨s, m, p, rfl, hqs⟩ := h
  have hn := rv_nonneg f z
  have hn2 := mag_nonneg m p
  have hm : (m : Rat) * p2 p = rv f z := by
    rw [hq] at hqs
    cases s <;> cases t <;> simp [sr] at hqs <;> grind
  have he := rung_exact f hm
  have he2 : rung f m p = z := by omega
  refine ⟨?_, ?_⟩
  · unfold Fin; rw [nearest_rg]; omega
  · unfold val; rw [nearest_rg, nearest_sg, he2, hqs, hm]

theorem Rnd.mono {q q' : Rat} {r r' : Nat} (h : Rnd f q r) (h' : Rnd f q' r') (hle : q ≤ q') : val f r ≤ val f r' := by
  obtain ⟨s, m, p, rfl, rfl⟩ := h
  obtain ⟨s', m', p', rfl, rfl⟩ := h'
  have hn := mag_nonneg m p
  have hn' := mag_nonneg m' p'
  unfold val
  rw [nearest_rg, nearest_sg, nearest_rg, nearest_sg]
  have r0 := rv_nonneg f (rung f m p)
  have r0' := rv_nonneg f (rung f m' p')
  have z0 : (m : Rat) * p2 p ≤ 0 → rv f (rung f m p) = 0 := fun hz => by
    have : rung f m p ≤ rung f 0 0 := rung_mono f (by simpa using hz)
    rw [rung_zero] at this
    rw [Nat.le_zero.1 this, rv_zero]
  have z0' : (m' : Rat) * p2 p' ≤ 0 → rv f (rung f m' p') = 0 := fun hz => by
    have : rung f m' p' ≤ rung f 0 0 := rung_mono f (by simpa using hz)
    rw [rung_zero] at this
    rw [Nat.le_zero.1 this, rv_zero]
  cases s <;> cases s' <;> simp only [sr_true, sr_false] at hle ⊢
  · exact rv_le f (rung_mono f hle)
  · rw [z0 (by grind), z0' (by grind)]; grind
  · grind
  · have := rv_le f (rung_mono f (m := m') (p := p') (m' := m) (p' := p) (by grind)); grind

/-- How far the rounded number is off. -/
theorem Rnd.err {q : Rat} {r : Nat} {E : Int} (h : Rnd f q r) (h1 : q ≤ p2 E) (h2 : -p2 E ≤ q) (hl : f.leastPlace + f.fractionBits ≤ E) (hr : Fin f r) :
    val f r - q ≤ p2 (E - f.fractionBits - 1) ∧ q - val f r ≤ p2 (E - f.fractionBits - 1) := by
  obtain ⟨s, m, p, rfl, rfl⟩ := h
  unfold Fin at hr
  rw [nearest_rg] at hr
  have hq : (m : Rat) * p2 p ≤ p2 E := by cases s <;> simp [sr] at h1 h2 <;> grind
  have := rung_err f hq hl hr
  unfold val
  rw [nearest_rg, nearest_sg]
  cases s <;> simp only [sr_true, sr_false] <;> grind

theorem Rnd.err_lt {q : Rat} {r : Nat} {E : Int} (h : Rnd f q r) (h1 : q < p2 E) (h2 : -p2 E < q) (hl : f.leastPlace + f.fractionBits + 1 ≤ E) (hr : Fin f r) :
    val f r - q ≤ p2 (E - f.fractionBits - 2) ∧ q - val f r ≤ p2 (E - f.fractionBits - 2) := by
  obtain ⟨s, m, p, rfl, rfl⟩ := h
  unfold Fin at hr
  rw [nearest_rg] at hr
  have hq : (m : Rat) * p2 p < p2 E := by cases s <;> simp [sr] at h1 h2 <;> grind
  have := rung_err_lt f hq hl hr
  unfold val
  rw [nearest_rg, nearest_sg]
  cases s <;> simp only [sr_true, sr_false] <;> grind

end

/- sums, products, order -/
theorem signed_val (s : Bool) (m : Nat) {i base : Int} (h : base ≤ i) : ((signed s m (i - base).toNat : Int) : Rat) * p2 base = sr s ((m : Rat) * p2 i) := by
  have e : ((m <<< (i - base).toNat : Nat) : Rat) * p2 base = (m : Rat) * p2 i := by
    rw [Nat.shiftLeft_eq, mul_p2]; congr 2; omega
  unfold signed
  cases s
  · simp only [sr_false, Bool.false_eq_true, if_false]
    rw [Rat.intCast_natCast]; exact e
  · simp only [sr_true, if_true]
    rw [Rat.intCast_neg, Rat.intCast_natCast, Rat.neg_mul, e]

theorem abs_val (n : Int) (b : Bool) (p : Int) : sr (if n = 0 then b else decide (n < 0)) ((n.natAbs : Rat) * p2 p) = (n : Rat) * p2 p := by
  by_cases h0 : n = 0
  · subst h0; simp [sr_zero]
  · rw [if_neg h0]
    by_cases hn : n < 0
    · have e : (n : Rat) = -((n.natAbs : Nat) : Rat) := by
        rw [← Rat.intCast_natCast, ← Rat.intCast_neg]; congr 1; omega
      simp only [hn, decide_true, sr_true]
      rw [e, Rat.neg_mul]
    · have e : (n : Rat) = ((n.natAbs : Nat) : Rat) := by
        rw [← Rat.intCast_natCast]; congr 1; omega
      simp only [hn, decide_false, sr_false]
      rw [e]

theorem sum_val {s t : Bool} {m n : Nat} {i j : Int} : ∃ u k p, Datum.sum (.number s m i) (.number t n j) = some (.number u k p) ∧ sr u ((k : Rat) * p2 p) = sr s ((m : Rat) * p2 i) + sr t ((n : Rat) * p2 j) := by
  refine ⟨_, _, _, rfl, ?_⟩
  rw [abs_val, Rat.intCast_add, Rat.add_mul, signed_val s m (Int.min_le_left i j), signed_val t n (Int.min_le_right i j)]

section
variable {f : Format} {x y : Nat}
theorem add_spec (hx : Fin f x) (hy : Fin f y) : ∃ r, f.add x y = some r ∧ Rnd f (val f x + val f y) r := by
  obtain ⟨m, p, e1, e2⟩ := read_fin f hx
  obtain ⟨n, q, e3, e4⟩ := read_fin f hy
  obtain ⟨u, k, b, e5, e6⟩ := sum_val (s := sg f x) (t := sg f y) (m := m) (n := n) (i := p) (j := q)
  refine ⟨f.write (.number u k b), ?_, u, k, b, rfl, ?_⟩
  · unfold Format.add; rw [e1, e3, e5]; rfl
  · rw [e6, e2, e4]; rfl
theorem sub_spec (hx : Fin f x) (hy : Fin f y) : ∃ r, f.sub x y = some r ∧ Rnd f (val f x - val f y) r := by
  obtain ⟨m, p, e1, e2⟩ := read_fin f hx
  obtain ⟨n, q, e3, e4⟩ := read_fin f hy
  obtain ⟨u, k, b, e5, e6⟩ := sum_val (s := sg f x) (t := !sg f y) (m := m) (n := n) (i := p) (j := q)
  refine ⟨f.write (.number u k b), ?_, u, k, b, rfl, ?_⟩
  · unfold Format.sub; rw [e1, e3]; show ((Datum.sum _ (.number _ _ _)).map _) = _; rw [e5]; rfl
  · rw [e6, e2, e4, sr_not]; unfold val; grind
theorem mul_spec (hx : Fin f x) (hy : Fin f y) : ∃ r, f.mul x y = some r ∧ Rnd f (val f x * val f y) r := by
  obtain ⟨m, p, e1, e2⟩ := read_fin f hx
  obtain ⟨n, q, e3, e4⟩ := read_fin f hy
  refine ⟨f.write (.number (sg f x ^^ sg f y) (m * n) (p + q)), ?_, _, _, _, rfl, ?_⟩
  · unfold Format.mul; rw [e1, e3]; rfl
  · unfold val
    rw [← sr_xor, ← e2, ← e4, Rat.natCast_mul, p2_add]
    congr 1; grind
theorem order_spec (hx : Fin f x) (hy : Fin f y) : ∃ c, f.order x y = some c ∧ (c = .lt ↔ val f x < val f y) ∧ (c = .eq ↔ val f x = val f y) ∧ (c = .gt ↔ val f y < val f x) := by
  obtain ⟨m, p, e1, e2⟩ := read_fin f hx
  obtain ⟨n, q, e3, e4⟩ := read_fin f hy
  refine ⟨compare (signed (sg f x) m (p - min p q).toNat) (signed (sg f y) n (q - min p q).toNat), ?_, ?_⟩
  · unfold Format.order; rw [e1, e3]; rfl
  · have h1 : ((signed (sg f x) m (p - min p q).toNat : Int) : Rat) * p2 (min p q) = val f x := by rw [signed_val _ _ (Int.min_le_left p q), e2]; rfl
    have h2 : ((signed (sg f y) n (q - min p q).toNat : Int) : Rat) * p2 (min p q) = val f y := by rw [signed_val _ _ (Int.min_le_right p q), e4]; rfl
    rw [← h1, ← h2]
    generalize signed (sg f x) m (p - min p q).toNat = a
    generalize signed (sg f y) n (q - min p q).toNat = b
    have hp := p2_pos (min p q)
    have lt_iff : ∀ a b : Int, (a : Rat) * p2 (min p q) < (b : Rat) * p2 (min p q) ↔ a < b := fun a b => by rw [Rat.mul_lt_mul_right hp, Rat.intCast_lt_intCast]
    refine ⟨?_, ?_, ?_⟩
    · rw [lt_iff, Int.compare_eq_lt]
    · rw [Int.compare_eq_eq]
      constructor
      · intro h; rw [h]
      · intro h
        have g1 : ¬ a < b := fun hl => by have := (lt_iff a b).2 hl; rw [h] at this; exact Rat.lt_irrefl this
        have g2 : ¬ b < a := fun hl => by have := (lt_iff b a).2 hl; rw [h] at this; exact Rat.lt_irrefl this
        omega
    · rw [lt_iff, Int.compare_eq_gt]
end

/- numbers that a format has -/
section
variable (f : Format)
theorem binade_rat : (f.binade : Rat) = p2 f.fractionBits := by rw [p2_nat]; rfl

/-- A whole number of at most one digit more than the fraction field has, at a place of the format: the format has it. -/
theorem repr_ex {n : Nat} {e : Int} (hn : n < 2 * f.binade) (he : f.leastPlace ≤ e) (hlt : (n : Rat) * p2 e < rv f f.infRung) :
    ∃ r, r < f.infRung ∧ rv f r = (n : Rat) * p2 e := by
  by_cases h0 : n = 0
  · subst h0
    refine ⟨0, ?_, by rw [rv_zero]; simp⟩
    rcases Nat.eq_zero_or_pos f.infRung with h | h
    · rw [h, rv_zero] at hlt; exact absurd hlt (by simp)
    · exact h
  obtain ⟨L, k, e1, hk, hL, h1, h2, h3, h4, h5⟩ := rung_spec f h0 e
  have hB := binade_pos f
  have hu := un_pos f L
  -- the unit divides the place's
  have hle : f.leastPlace + (L : Int) ≤ e := by
    rcases h4 with h | h
    · omega
    · rcases (show e < f.leastPlace + L ∨ f.leastPlace + L ≤ e by omega) with hlt' | hge
      · exfalso
        have h6 : 2 * p2 e ≤ un f L := p2_lt hlt'
        have h7 : (n : Rat) < ((2 * f.binade : Nat) : Rat) := Rat.natCast_lt_natCast.2 hn
        have h8 := Rat.mul_lt_mul_of_pos_right h7 (p2_pos e)
        have hb : (0 : Rat) < (f.binade : Rat) := Rat.natCast_pos.2 hB
        have h9 := Rat.mul_le_mul_of_nonneg_left h6 (Rat.le_of_lt hb)
        rw [Rat.natCast_mul] at h8
        grind
      · omega
  obtain ⟨d, hd⟩ : ∃ d : Nat, e = f.leastPlace + (L : Int) + d := ⟨(e - (f.leastPlace + L)).toNat, by omega⟩
  have hq : (n : Rat) * p2 e = ((n * 2 ^ d : Nat) : Rat) * un f L := by rw [hd, ← mul_p2]; rfl
  rw [hq] at h1 h2
  have g1 : 2 * ((n * 2 ^ d : Nat) : Rat) ≤ 2 * (k : Rat) + 1 := Rat.le_of_mul_le_mul_right (by grind) hu
  have g2 : 2 * (k : Rat) - 1 ≤ 2 * ((n * 2 ^ d : Nat) : Rat) := Rat.le_of_mul_le_mul_right (by grind) hu
  generalize n * 2 ^ d = j at *
  have g3 : ((2 * j : Nat) : Rat) ≤ ((2 * k + 1 : Nat) : Rat) := by simp only [Rat.natCast_mul, Rat.natCast_add]; grind
  have g4 : ((2 * k : Nat) : Rat) ≤ ((2 * j + 1 : Nat) : Rat) := by simp only [Rat.natCast_mul, Rat.natCast_add]; grind
  have g5 := Rat.natCast_le_natCast.1 g3
  have g6 := Rat.natCast_le_natCast.1 g4
  have : j = k := by omega
  subst this
  have hrv : rv f (L * f.binade + j) = (n : Rat) * p2 e := by rw [rv_form f hk hL, hq]
  refine ⟨L * f.binade + j, ?_, hrv⟩
  rw [← rv_lt_iff f, hrv]; exact hlt

/-- What the rung of infinity would stand for. -/
theorem rv_inf (h : 1 ≤ f.exponentBits) : rv f f.infRung = p2 (f.fractionBits + f.leastPlace + (2 ^ f.exponentBits - 2 : Nat)) := by
  have hp : 2 ≤ 2 ^ f.exponentBits := by
    calc 2 = 2 ^ 1 := rfl
      _ ≤ 2 ^ f.exponentBits := Nat.pow_le_pow_right (by decide) h
  have e : f.infRung = (2 ^ f.exponentBits - 2) * f.binade + f.binade := by
    unfold Format.infRung
    obtain ⟨d, hd⟩ : ∃ d, 2 ^ f.exponentBits = d + 2 := ⟨2 ^ f.exponentBits - 2, by omega⟩
    rw [hd]
    have : d + 2 - 1 = (d + 2 - 2) + 1 := by omega
    rw [this, Nat.add_mul, Nat.one_mul]
  rw [e, rv_form f (by omega) (.inr (Nat.le_refl _)), binade_rat]
  unfold un
  rw [← p2_add]; congr 1; omega
end

theorem inf32 : rv single single.infRung = p2 128 := by rw [rv_inf single (by decide)]; rfl
theorem inf64 : rv double double.infRung = p2 1024 := by rw [rv_inf double (by decide)]; rfl

/-- Whatever a word stands for is less than infinity's rung. -/
theorem rv_lt_inf {f : Format} {r : Nat} (h : r < f.infRung) : rv f r < rv f f.infRung := rv_lt f h

/-- A float32 is a float64. -/
theorem repr_wide {r : Nat} (h : r < single.infRung) : ∃ z, z < double.infRung ∧ rv double z = rv single r := by
  obtain ⟨L, k, rfl, hk, hL⟩ := rung_split single r
  have hv := rv_lt_inf h
  rw [inf32] at hv
  rw [rv_form single (by omega) hL] at hv ⊢
  refine repr_ex double (n := k) (e := single.leastPlace + L) ?_ ?_ ?_
  · have : single.binade = 2 ^ 23 := rfl
    have : double.binade = 2 ^ 52 := rfl
    omega
  · have : single.leastPlace = -149 := by decide
    have : double.leastPlace = -1074 := by decide
    omega
  · rw [inf64]
    exact rlt_of_le hv (p2_mono (by decide))

/- whole numbers -/
/-- A word that stands for the whole number n. -/
def Whl (f : Format) (x : Nat) (n : Int) : Prop := Fin f x ∧ val f x = (n : Rat)

theorem sr_int (n : Int) : (n : Rat) = sr (decide (n < 0)) ((n.natAbs : Rat) * p2 0) := by
  rw [p2_zero, Rat.mul_one]
  by_cases h : n < 0
  · have e : (n : Rat) = -((n.natAbs : Nat) : Rat) := by
      rw [← Rat.intCast_natCast, ← Rat.intCast_neg]; congr 1; omega
    simp only [h, decide_true, sr_true]; exact e
  · have e : (n : Rat) = ((n.natAbs : Nat) : Rat) := by
      rw [← Rat.intCast_natCast]; congr 1; omega
    simp only [h, decide_false, sr_false]; exact e

theorem rnd_int {f : Format} {r : Nat} {n : Int} (h : Rnd f (n : Rat) r) (hn : n.natAbs < 2 * f.binade) (he : f.leastPlace ≤ 0) (hi : (n.natAbs : Rat) < rv f f.infRung) : Whl f r n := by
  obtain ⟨z, hz, hv⟩ := repr_ex f (n := n.natAbs) (e := 0) hn he (by rw [p2_zero, Rat.mul_one]; exact hi)
  exact h.exact (t := decide (n < 0)) hz (by rw [sr_int, hv])

theorem rnd_int32 {r : Nat} {n : Int} (h : Rnd single (n : Rat) r) (hn : n.natAbs < 16777216) : Whl single r n := by
  refine rnd_int h (by have : single.binade = 8388608 := rfl; omega) (by decide) ?_
  rw [inf32]
  have h1 : (n.natAbs : Rat) < ((2 ^ 24 : Nat) : Rat) := Rat.natCast_lt_natCast.2 (by omega)
  rw [← p2_nat] at h1
  exact rlt_of_le h1 (p2_mono (by decide))
theorem rnd_int64 {r : Nat} {n : Int} (h : Rnd double (n : Rat) r) (hn : n.natAbs < 9007199254740992) : Whl double r n := by
  refine rnd_int h (by have : double.binade = 4503599627370496 := rfl; omega) (by decide) ?_
  rw [inf64]
  have h1 : (n.natAbs : Rat) < ((2 ^ 53 : Nat) : Rat) := Rat.natCast_lt_natCast.2 (by omega)
  rw [← p2_nat] at h1
  exact rlt_of_le h1 (p2_mono (by decide))

/- conversions between the two kinds -/
theorem wide_spec {x : Nat} (h : Fin single x) : Fin double (double.write (single.read x)) ∧ val double (double.write (single.read x)) = val single x := by
  obtain ⟨m, p, e1, e2⟩ := read_fin single h
  obtain ⟨z, hz, hv⟩ := repr_wide h
  rw [e1]
  have hr : Rnd double (val single x) (double.write (.number (sg single x) m p)) := ⟨_, m, p, rfl, by unfold val; rw [e2]⟩
  exact hr.exact (t := sg single x) hz (by unfold val; rw [hv])
theorem narrow_spec {x : Nat} (h : Fin double x) : Rnd single (val double x) (single.write (double.read x)) := by
  obtain ⟨m, p, e1, e2⟩ := read_fin double h
  rw [e1]
  exact ⟨_, m, p, rfl, by unfold val; rw [e2]⟩

/- quotients -/
theorem neg_err {a Q e : Rat} (hQ : 0 ≤ Q) (h : a - Q ≤ Q * e ∧ Q - a ≤ Q * e) :
    -a - -Q ≤ (if -Q < 0 then - -Q else -Q) * e ∧ -Q - -a ≤ (if -Q < 0 then - -Q else -Q) * e := by
  by_cases hq : Q = 0
  · subst hq
    have hnn : ¬ (-0 : Rat) < 0 := by grind
    rw [if_neg hnn]
    constructor <;> grind
  · have hnn : -Q < 0 := by grind
    rw [if_pos hnn]
    constructor <;> grind
theorem quot_spec {f : Format} {x y : Nat} (hx : Fin f x) (hy : Fin f y) (h0 : val f y ≠ 0) :
    ∃ r q, f.div x y = some r ∧ Rnd f q r ∧
      (q - val f x / val f y ≤ (if val f x / val f y < 0 then -(val f x / val f y) else val f x / val f y) * p2 (-((f.fractionBits : Int) + 1)) ∧
       val f x / val f y - q ≤ (if val f x / val f y < 0 then -(val f x / val f y) else val f x / val f y) * p2 (-((f.fractionBits : Int) + 1))) := by
  obtain ⟨m, i, e1, e2⟩ := read_fin f hx
  obtain ⟨n, j, e3, e4⟩ := read_fin f hy
  have hn0 : n ≠ 0 := by
    rintro rfl
    apply h0; unfold val; rw [← e4]; simp [sr_zero]
  let D := f.fractionBits + 2
  let more := D + n.log2 - m.log2
  let dividend := m <<< more
  let k := 2 * (dividend / n) + (dividend % n != 0).toNat
  refine ⟨f.write (.number (sg f x ^^ sg f y) k (i - j - more - 1)), sr (sg f x ^^ sg f y) ((k : Rat) * p2 (i - j - more - 1)), ?_, ⟨_, _, _, rfl, rfl⟩, ?_⟩
  · unfold Format.div
    rw [e1, e3]
    show Option.map f.write (if n = 0 then _ else _) = _
    rw [if_neg hn0]; rfl
  have hnp : (0 : Rat) < (n : Rat) := Rat.natCast_pos.2 (by omega)
  have hpj := p2_pos j
  have hden : (0 : Rat) < (n : Rat) * p2 j := Rat.mul_pos hnp hpj
  -- the exact quotient of the two magnitudes
  obtain ⟨Q, hQ⟩ : ∃ Q, Q = ((m : Rat) * p2 i) / ((n : Rat) * p2 j) := ⟨_, rfl⟩
  have hQm : Q * ((n : Rat) * p2 j) = (m : Rat) * p2 i := by rw [hQ]; exact Rat.div_mul_cancel (by grind)
  have hQ0 : 0 ≤ Q := by
    rcases Rat.le_total (a := 0) (b := Q) with h | h
    · exact h
    · have h1 := mag_nonneg m i
      by_cases h2 : Q = 0
      · grind
      · have := Rat.mul_pos (a := -Q) (b := (n : Rat) * p2 j) (by grind) hden
        grind
  have hval : val f x / val f y = sr (sg f x ^^ sg f y) Q := by
    unfold val
    rw [← e2, ← e4]
    have hne : sr (sg f y) ((n : Rat) * p2 j) ≠ 0 := by cases sg f y <;> simp only [sr_true, sr_false] <;> grind
    have h1 : sr (sg f x ^^ sg f y) Q * sr (sg f y) ((n : Rat) * p2 j) = sr (sg f x) ((m : Rat) * p2 i) := by
      rw [← hQm]
      cases sg f x <;> cases sg f y <;> simp only [sr_true, sr_false, Bool.bne_false, Bool.bne_true, Bool.not_true, Bool.not_false] <;> grind
    rw [← h1, Rat.mul_div_cancel hne]
  -- in units of p2 (i - j - more - 1)
  have hup := p2_pos (i - j - more - 1)
  obtain ⟨T, hT⟩ : ∃ T, T = ((dividend : Nat) : Rat) / (n : Rat) := ⟨_, rfl⟩
  have hTn : T * (n : Rat) = (dividend : Rat) := by rw [hT]; exact Rat.div_mul_cancel (by grind)
  have hQT : Q = (2 * T) * p2 (i - j - more - 1) := by
    have h1 : ((2 * T) * p2 (i - j - more - 1)) * ((n : Rat) * p2 j) = Q * ((n : Rat) * p2 j) := by
      rw [hQm]
      have h2 : (dividend : Rat) = (m : Rat) * p2 more := by
        show ((m <<< more : Nat) : Rat) = _
        rw [Nat.shiftLeft_eq, Rat.natCast_mul, p2_nat]
      have h3 : p2 i = p2 more * (2 * p2 (i - j - more - 1)) * p2 j := by
        rw [← p2_succ, ← p2_add, ← p2_add]; congr 1; omega
      rw [h3]
      calc ((2 * T) * p2 (i - j - more - 1)) * ((n : Rat) * p2 j) = (T * (n : Rat)) * (2 * p2 (i - j - more - 1)) * p2 j := by grind
        _ = (m : Rat) * p2 more * (2 * p2 (i - j - more - 1)) * p2 j := by rw [hTn, h2]
        _ = _ := by grind
    have hne : (n : Rat) * p2 j ≠ 0 := by grind
    refine Rat.le_antisymm ?_ ?_
    · exact Rat.le_of_mul_le_mul_right (by rw [h1]; exact Rat.le_refl) hden
    · exact Rat.le_of_mul_le_mul_right (by rw [h1]; exact Rat.le_refl) hden
  have hdm := Nat.div_add_mod dividend n
  have hml := Nat.mod_lt dividend (show 0 < n by omega)
  have hdmR : (n : Rat) * ((dividend / n : Nat) : Rat) + ((dividend % n : Nat) : Rat) = (dividend : Rat) := by
    rw [← Rat.natCast_mul, ← Rat.natCast_add, hdm]
  have hmR : ((dividend % n : Nat) : Rat) < (n : Rat) := Rat.natCast_lt_natCast.2 hml
  have hmR0 : (0 : Rat) ≤ ((dividend % n : Nat) : Rat) := Rat.natCast_nonneg
  have hk1 : (k : Rat) - 2 * T ≤ 1 ∧ 2 * T - (k : Rat) ≤ 1 := by
    have hkc : (k : Rat) = 2 * ((dividend / n : Nat) : Rat) + (((dividend % n != 0).toNat : Nat) : Rat) := by
      show ((2 * (dividend / n) + (dividend % n != 0).toNat : Nat) : Rat) = _
      rw [Rat.natCast_add, Rat.natCast_mul]; rfl
    have hlow : ((dividend / n : Nat) : Rat) ≤ T := Rat.le_of_mul_le_mul_right (by rw [hTn]; grind) hnp
    have hhigh : T ≤ ((dividend / n : Nat) : Rat) + 1 := Rat.le_of_mul_le_mul_right (by rw [hTn]; grind) hnp
    by_cases hz : dividend % n = 0
    · have : (dividend % n != 0).toNat = 0 := by simp [hz]
      rw [this] at hkc
      have hTe : T = ((dividend / n : Nat) : Rat) := by
        rw [hz] at hdmR
        refine Rat.le_antisymm (Rat.le_of_mul_le_mul_right (by rw [hTn]; simp at hdmR; grind) hnp) hlow
      have z0 : ((0 : Nat) : Rat) = 0 := rfl
      rw [z0] at hkc
      grind
    · have : (dividend % n != 0).toNat = 1 := by simp [hz]
      rw [this] at hkc
      have z1 : ((1 : Nat) : Rat) = 1 := rfl
      rw [z1] at hkc
      grind
  -- how great the quotient's digits are
  have hbig : m = 0 ∨ p2 (D : Int) ≤ 2 * T := by
    by_cases hm : m = 0
    · exact .inl hm
    right
    have hlog1 : 2 ^ m.log2 ≤ m := Nat.log2_self_le hm
    have hlog2 : n < 2 ^ (n.log2 + 1) := Nat.lt_log2_self
    have hd1 : 2 ^ (D + n.log2) ≤ dividend := by
      show _ ≤ m <<< more
      rw [Nat.shiftLeft_eq]
      calc 2 ^ (D + n.log2) ≤ 2 ^ (m.log2 + more) := Nat.pow_le_pow_right (by decide) (by show _ ≤ m.log2 + (D + n.log2 - m.log2); omega)
        _ = 2 ^ m.log2 * 2 ^ more := Nat.pow_add _ _ _
        _ ≤ m * 2 ^ more := Nat.mul_le_mul_right _ hlog1
    have hd2 : 2 ^ D * n ≤ 2 * dividend := by
      calc 2 ^ D * n ≤ 2 ^ D * 2 ^ (n.log2 + 1) := Nat.mul_le_mul_left _ (Nat.le_of_lt hlog2)
        _ = 2 * 2 ^ (D + n.log2) := by rw [← Nat.pow_add, ← Nat.add_assoc, Nat.pow_succ, Nat.mul_comm]
        _ ≤ 2 * dividend := Nat.mul_le_mul_left _ hd1
    have hd3 : ((2 ^ D : Nat) : Rat) * (n : Rat) ≤ 2 * (dividend : Rat) := by
      have := Rat.natCast_le_natCast.2 hd2
      rw [Rat.natCast_mul, Rat.natCast_mul] at this
      exact this
    rw [p2_nat]
    exact Rat.le_of_mul_le_mul_right (by rw [Rat.mul_assoc 2 T, hTn]; exact hd3) hnp
  have hsmall : (k : Rat) * p2 (i - j - more - 1) - Q ≤ Q * p2 (-((f.fractionBits : Int) + 1)) ∧ Q - (k : Rat) * p2 (i - j - more - 1) ≤ Q * p2 (-((f.fractionBits : Int) + 1)) := by
    rcases hbig with hm | hb
    · -- nothing is divided
      have hdz : dividend = 0 := by show m <<< more = 0; rw [hm]; simp
      have hk0 : k = 0 := by show 2 * (dividend / n) + (dividend % n != 0).toNat = 0; rw [hdz]; simp
      have hQz : Q = 0 := by rw [hQ, hm]; simp [Rat.div_def]
      rw [hk0, hQz]
      have z0 : ((0 : Nat) : Rat) = 0 := rfl
      rw [z0]
      constructor <;> grind
    · have h1 : (1 : Rat) ≤ (2 * T) * p2 (-((f.fractionBits : Int) + 1)) := by
        have h2 : p2 (D : Int) * p2 (-((f.fractionBits : Int) + 1)) = 2 := by
          rw [← p2_add]
          have : (D : Int) + -((f.fractionBits : Int) + 1) = 1 := by show ((f.fractionBits + 2 : Nat) : Int) + _ = 1; omega
          rw [this, p2_one]
        have := Rat.mul_le_mul_of_nonneg_right hb (Rat.le_of_lt (p2_pos (-((f.fractionBits : Int) + 1))))
        grind
      have h3 := Rat.mul_le_mul_of_nonneg_right h1 (Rat.le_of_lt hup)
      have h4 := Rat.mul_le_mul_of_nonneg_right hk1.1 (Rat.le_of_lt hup)
      have h5 := Rat.mul_le_mul_of_nonneg_right hk1.2 (Rat.le_of_lt hup)
      rw [hQT]
      constructor <;> grind
  rw [hval]
  cases sg f x ^^ sg f y
  · simp only [sr_false]
    have hnn : ¬ Q < 0 := by grind
    simp only [hnn, if_false]
    exact hsmall
  · simp only [sr_true]
    exact neg_err hQ0 hsmall
end Go.Proofs.YtnomlkkhkacajaaGreatDoor
