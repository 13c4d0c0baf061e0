/- Quotients that come out even: exact ones. -/
import Derived.Test.YtficlmnjbbpicaaM1
namespace Go.Proofs.Ytficlmnjbbpicaa
open Ieee

/-- Where the digits come out even, the quotient is exact ahead of its rounding. -/
theorem quot_even {f : Format} {x y : Nat} (hx : Fin f x) (hy : Fin f y) (h0 : val f y ≠ 0)
    (hev : ∀ s m i t n j, f.read x = .number s m i → f.read y = .number t n j → (m <<< (f.fractionBits + 2 + n.log2 - m.log2)) % n = 0) :
    ∃ r, f.div x y = some r ∧ Rnd f (val f x / val f y) r := by
  obtain ⟨m, i, e1, e2⟩ := read_fin f hx
  obtain ⟨n, j, e3, e4⟩ := read_fin f hy
  have hz := hev _ m i _ n j e1 e3
  have hn0 : n ≠ 0 := by
    rintro rfl
    apply h0; unfold val; rw [← e4]; simp [sr_zero]
  let more := f.fractionBits + 2 + n.log2 - m.log2
  let dividend := m <<< more
  let k := 2 * (dividend / n) + (dividend % n != 0).toNat
  refine ⟨f.write (.number (sg f x ^^ sg f y) k (i - j - more - 1)), ?_, ⟨sg f x ^^ sg f y, k, i - j - more - 1, rfl, ?_⟩⟩
  · unfold Format.div
    rw [e1, e3]
    show Option.map f.write (if n = 0 then _ else _) = _
    rw [if_neg hn0]; rfl
  have hnp : (0 : Rat) < (n : Rat) := Rat.natCast_pos.2 (by omega)
  have hpj := p2_pos j
  have hden : (0 : Rat) < (n : Rat) * p2 j := Rat.mul_pos hnp hpj
  obtain ⟨Q, hQ⟩ : ∃ Q, Q = ((m : Rat) * p2 i) / ((n : Rat) * p2 j) := ⟨_, rfl⟩
  have hQm : Q * ((n : Rat) * p2 j) = (m : Rat) * p2 i := by rw [hQ]; exact Rat.div_mul_cancel (by grind)
  have hval : val f x / val f y = sr (sg f x ^^ sg f y) Q := by
    unfold val
    rw [← e2, ← e4]
    have hne : sr (sg f y) ((n : Rat) * p2 j) ≠ 0 := by cases sg f y <;> simp only [sr_true, sr_false] <;> grind
    have h1 : sr (sg f x ^^ sg f y) Q * sr (sg f y) ((n : Rat) * p2 j) = sr (sg f x) ((m : Rat) * p2 i) := by
      rw [← hQm]
      cases sg f x <;> cases sg f y <;> simp only [sr_true, sr_false, Bool.bne_false, Bool.bne_true, Bool.not_true, Bool.not_false] <;> grind
    rw [← h1, Rat.mul_div_cancel hne]
  rw [hval]
  congr 1
  obtain ⟨T, hT⟩ : ∃ T, T = ((dividend : Nat) : Rat) / (n : Rat) := ⟨_, rfl⟩
  have hTn : T * (n : Rat) = (dividend : Rat) := by rw [hT]; exact Rat.div_mul_cancel (by grind)
  have hQT : Q = (2 * T) * p2 (i - j - more - 1) := by
    have h1 : ((2 * T) * p2 (i - j - more - 1)) * ((n : Rat) * p2 j) = Q * ((n : Rat) * p2 j) := by
      rw [hQm]
      have h2 : (dividend : Rat) = (m : Rat) * p2 more := by
        show ((m <<< more : Nat) : Rat) = _
        rw [Nat.shiftLeft_eq, Rat.natCast_mul, p2_nat]
      have h3 : p2 i = p2 more * (2 * p2 (i - j - more - 1)) * p2 j := by
        rw [← p2_succ, ← p2_add, ← p2_add]; congr 1; omega
      rw [h3]
      calc ((2 * T) * p2 (i - j - more - 1)) * ((n : Rat) * p2 j) = (T * (n : Rat)) * (2 * p2 (i - j - more - 1)) * p2 j := by grind
        _ = (m : Rat) * p2 more * (2 * p2 (i - j - more - 1)) * p2 j := by rw [hTn, h2]
        _ = _ := by grind
    refine Rat.le_antisymm ?_ ?_
    · exact Rat.le_of_mul_le_mul_right (by rw [h1]; exact Rat.le_refl) hden
    · exact Rat.le_of_mul_le_mul_right (by rw [h1]; exact Rat.le_refl) hden
  have hdm := Nat.div_add_mod dividend n
  have hz' : dividend % n = 0 := hz
  have hdmR : (n : Rat) * ((dividend / n : Nat) : Rat) + ((dividend % n : Nat) : Rat) = (dividend : Rat) := by
    rw [← Rat.natCast_mul, ← Rat.natCast_add, hdm]
  have hTe : T = ((dividend / n : Nat) : Rat) := by
    rw [hz'] at hdmR
    simp at hdmR
    refine Rat.le_antisymm (Rat.le_of_mul_le_mul_right (by rw [hTn]; grind) hnp) (Rat.le_of_mul_le_mul_right (by rw [hTn]; grind) hnp)
  have hkc : (k : Rat) = 2 * T := by
    have h1 : k = 2 * (dividend / n) := by
      show 2 * (dividend / n) + (dividend % n != 0).toNat = _
      rw [hz']; rfl
    rw [h1, Rat.natCast_mul, hTe]; rfl
  rw [hQT, hkc]
theorem read_small {x : Nat} {s : Bool} {m : Nat} {i : Int} (h : double.read x = .number s m i) : m < 2 ^ 53 := by
  have e : double.read x = if rg double x < double.binade then .number (sg double x) (rg double x) double.leastPlace
      else if rg double x < double.infRung then .number (sg double x) (double.binade + rg double x % double.binade) (double.leastPlace + (rg double x / double.binade - 1 : Nat))
      else if rg double x = double.infRung then .infinity (sg double x) else .nan (sg double x) (rg double x - double.infRung) := rfl
  have hbn : double.binade = 4503599627370496 := rfl
  have h53 : (2 : Nat) ^ 53 = 9007199254740992 := by decide
  rw [h] at e
  split at e
  · injection e with _ h1 _
    omega
  · split at e
    · injection e with _ h1 _
      have := Nat.mod_lt (rg double x) (show 0 < double.binade by rw [hbn]; decide)
      omega
    · split at e <;> cases e
/-- By a power of two, in double precision. -/
theorem quot_pow {x y : Nat} (hx : Fin double x) (hfy : Fin double y) (t : Bool) (j : Int) (hy : double.read y = .number t 4503599627370496 j) :
    ∃ r, double.div x y = some r ∧ Rnd double (val double x / val double y) r := by
  obtain ⟨n, j', e3, e4⟩ := read_fin double hfy
  rw [hy] at e3
  injection e3 with e5 e6 e7
  have hv0 : val double y ≠ 0 := by
    unfold val
    rw [← e4, ← e6]
    have := p2_pos j'
    have c : ((4503599627370496 : Nat) : Rat) = 4503599627370496 := rfl
    rw [c]
    cases sg double y <;> simp only [sr_true, sr_false] <;> grind
  refine quot_even hx hfy hv0 ?_
  intro s m i t' n' j'' h1 h2
  rw [hy] at h2
  injection h2 with _ h3 _
  subst h3
  have hm : m < 2 ^ 53 := read_small h1
  have hl : m.log2 ≤ 52 := by
    rcases Nat.eq_zero_or_pos m with rfl | h
    · decide
    · have := Nat.log2_self_le (n := m) (by omega)
      have h53 : 2 ^ m.log2 < 2 ^ 53 := by omega
      have := (Nat.pow_lt_pow_iff_right (a := 2) (by decide)).1 h53
      omega
  have h52 : (4503599627370496 : Nat).log2 = 52 := by decide
  rw [h52, Nat.shiftLeft_eq]
  show m * 2 ^ (52 + 2 + 52 - m.log2) % 4503599627370496 = 0
  obtain ⟨d, hd⟩ : ∃ d, 52 + 2 + 52 - m.log2 = 52 + d := ⟨54 - m.log2, by omega⟩
  rw [hd, Nat.pow_add, show (2 : Nat) ^ 52 = 4503599627370496 by decide, ← Nat.mul_assoc, Nat.mul_comm m, Nat.mul_assoc]
  exact Nat.mul_mod_right _ _
end Go.Proofs.Ytficlmnjbbpicaa
