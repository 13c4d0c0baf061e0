/- Texts on the way to a law (S1), each with its own remark. -/
import Derived.Lib.AtoiTie
import Derived.Lib.AtoiAllCases
import Derived.Lib.ItoaLen
namespace Go.Proofs.Ytnomlkkhkacajaa
open Go.Lib

abbrev Txt := List UInt8
theorem u8_ofNat {d : Nat} (h : d < 208) : (UInt8.ofNat (48 + d)).toNat = 48 + d := by
  rw [UInt8.toNat_ofNat']
  omega
theorem u8_of_digit {c : UInt8} (h : 48 ≤ c.toNat) : UInt8.ofNat (48 + (c.toNat - 48)) = c := by
  apply UInt8.toNat_inj.1
  rw [UInt8.toNat_ofNat']
  have := c.toNat_lt
  omega
theorem decDigits_ne (u : Nat) : decDigits u ≠ [] := by
  intro h
  have h1 := decDigits_length u
  rw [h] at h1
  have h2 := nDigits_pos u
  simp at h1
  omega
/-- Every byte of a numeral is a digit. -/
theorem decDigits_digit (u : Nat) : ∀ c ∈ decDigits u, 48 ≤ c.toNat ∧ c.toNat ≤ 57 := by
  induction u using Nat.strongRecOn with
  | _ u ih =>
    intro c hc
    by_cases h : u < 10
    · rw [decDigits_one h, List.mem_singleton] at hc
      rw [hc, u8_ofNat (by omega)]; omega
    · rw [decDigits, dif_neg h, List.mem_append, List.mem_singleton] at hc
      rcases hc with hc | hc
      · exact ih (u / 10) (by omega) c hc
      · rw [hc, u8_ofNat (by omega)]; omega
theorem itoa_byte (n : Int) : ∀ c ∈ itoa n, c.toNat = 45 ∨ (48 ≤ c.toNat ∧ c.toNat ≤ 57) := by
  intro c hc
  unfold itoa at hc
  split at hc
  · rcases List.mem_cons.1 hc with h | h
    · left; rw [h]; rfl
    · exact .inr (decDigits_digit _ c h)
  · exact .inr (decDigits_digit _ c hc)
theorem itoa_ne (n : Int) : itoa n ≠ [] := by
  unfold itoa
  split
  · simp
  · exact decDigits_ne _
theorem nDigits_le : ∀ (k u : Nat), 1 ≤ k → u < 10 ^ k → nDigits u ≤ k
  | 0, _, h, _ => by omega
  | k + 1, u, _, hu => by
    by_cases h : u < 10
    · rw [nDigits_small h]; omega
    · rw [nDigits_big h]
      have hk : 1 ≤ k := by
        rcases Nat.eq_zero_or_pos k with h0 | h0
        · subst h0; simp at hu; omega
        · exact h0
      have := nDigits_le k (u / 10) hk (by rw [Nat.pow_succ] at hu; omega)
      omega
theorem decFrom_append : ∀ (a b : Txt) (acc : Nat), decFrom acc (a ++ b) = (decFrom acc a).bind fun v => decFrom v b
  | [], b, acc => rfl
  | c :: r, b, acc => by
    simp only [List.cons_append, decFrom]
    cases digitVal c with
    | none => rfl
    | some d => exact decFrom_append r b _
theorem digitVal_of {c : UInt8} (h1 : 48 ≤ c.toNat) (h2 : c.toNat ≤ 57) : digitVal c = some (c.toNat - 48) := by
  unfold digitVal; rw [if_pos ⟨h1, h2⟩]
theorem digitVal_some {c : UInt8} {d : Nat} (h : digitVal c = some d) : 48 ≤ c.toNat ∧ c.toNat ≤ 57 ∧ d = c.toNat - 48 := by
  unfold digitVal at h
  split at h
  · rename_i h1; cases h; exact ⟨h1.1, h1.2, rfl⟩
  · cases h
theorem decFrom_one (acc : Nat) (c : UInt8) (h1 : 48 ≤ c.toNat) (h2 : c.toNat ≤ 57) : decFrom acc [c] = some (acc * 10 + (c.toNat - 48)) := by
  simp [decFrom, digitVal_of h1 h2]
/-- A numeral spells its number. -/
theorem decFrom_dec (u : Nat) : decFrom 0 (decDigits u) = some u := by
  induction u using Nat.strongRecOn with
  | _ u ih =>
    by_cases h : u < 10
    · rw [decDigits_one h, decFrom_one 0 _ (by rw [u8_ofNat (by omega)]; omega) (by rw [u8_ofNat (by omega)]; omega), u8_ofNat (by omega)]
      congr 1; omega
    · rw [decDigits, dif_neg h, decFrom_append, ih (u / 10) (by omega)]
      show decFrom (u / 10) _ = _
      rw [decFrom_one _ _ (by rw [u8_ofNat (by omega)]; omega) (by rw [u8_ofNat (by omega)]; omega), u8_ofNat (by omega)]
      congr 1; omega
/-- What spells a number without a nought ahead is its numeral. -/
theorem dec_of_decFrom (l : Txt) : ∀ u, l ≠ [] → decFrom 0 l = some u → (∀ r, l = 48 :: r → r = []) → decDigits u = l := by
  induction hn : l.length using Nat.strongRecOn generalizing l with
  | _ n ih =>
    intro u hne hd hz
    obtain ⟨a, c, rfl⟩ : ∃ a c, l = a ++ [c] := ⟨l.dropLast, l.getLast hne, (List.dropLast_concat_getLast hne).symm⟩
    rw [decFrom_append] at hd
    cases ha : decFrom 0 a with
    | none => rw [ha] at hd; cases hd
    | some v =>
      rw [ha] at hd
      have hd' : decFrom v [c] = some u := hd
      have hc : ∃ d, digitVal c = some d := digit_of_decFrom [c] v u hd' 0 c rfl
      obtain ⟨d, hc⟩ := hc
      obtain ⟨h1, h2, h3⟩ := digitVal_some hc
      rw [decFrom_one v c h1 h2] at hd'
      injection hd' with hu
      by_cases hae : a = []
      · subst hae
        simp only [decFrom, Option.some.injEq] at ha
        subst ha
        rw [decDigits_one (by omega), show u = c.toNat - 48 by omega, u8_of_digit h1]
        rfl
      · have hav : decDigits v = a := ih a.length (by rw [← hn]; simp) a rfl v hae ha (by
          rintro r rfl
          have := hz (r ++ [c]) rfl
          simp at this)
        have hv : 1 ≤ v := by
          rcases Nat.eq_zero_or_pos v with h0 | h0
          · subst h0
            rw [decDigits_one (by omega)] at hav
            have := hz [c] (by rw [← hav]; rfl)
            simp at this
          · exact h0
        rw [decDigits, dif_neg (by omega), show u / 10 = v by omega, hav, show u % 10 = c.toNat - 48 by omega, u8_of_digit h1]
theorem parseUint10_append : ∀ (a b : Txt) (acc v : Nat), parseUint10 acc a = .ok v → parseUint10 acc (a ++ b) = parseUint10 v b
  | [], b, acc, v, h => by simp only [parseUint10, NumEnd.ok.injEq] at h; subst h; rfl
  | c :: r, b, acc, v, h => by
    simp only [List.cons_append, parseUint10] at h ⊢
    split at h
    · rename_i h1
      rw [if_pos h1]
      split at h
      · cases h
      · rename_i h2
        rw [if_neg h2]
        split at h
        · cases h
        · rename_i h3
          rw [if_neg h3]
          exact parseUint10_append r b _ v h
    · cases h
theorem parseUint10_one (acc : Nat) (c : UInt8) (h1 : 48 ≤ c.toNat) (h2 : c.toNat ≤ 57) (h3 : acc * 10 + (c.toNat - 48) < 18446744073709551616) : parseUint10 acc [c] = .ok (acc * 10 + (c.toNat - 48)) := by
  simp only [parseUint10]
  rw [if_pos ⟨h1, h2⟩, if_neg (by omega), if_neg (by omega)]
theorem parse_dec (u : Nat) (hu : u < 18446744073709551616) : parseUint10 0 (decDigits u) = .ok u := by
  induction u using Nat.strongRecOn with
  | _ u ih =>
    by_cases h : u < 10
    · rw [decDigits_one h, parseUint10_one 0 _ (by rw [u8_ofNat (by omega)]; omega) (by rw [u8_ofNat (by omega)]; omega) (by rw [u8_ofNat (by omega)]; omega), u8_ofNat (by omega)]
      congr 1; omega
    · rw [decDigits, dif_neg h, parseUint10_append _ _ _ _ (ih (u / 10) (by omega) (by omega)), parseUint10_one _ _ (by rw [u8_ofNat (by omega)]; omega) (by rw [u8_ofNat (by omega)]; omega) (by rw [u8_ofNat (by omega)]; omega), u8_ofNat (by omega)]
      congr 1; omega
theorem atoiAll_itoa (n : Int) (h0 : -9223372036854775808 ≤ n) (h1 : n ≤ 9223372036854775807) : atoiAll (itoa n) = .ok n := by
  by_cases hn : n < 0
  · unfold itoa
    rw [if_pos hn, atoiAll_minus]
    have hp : parseMag (decDigits n.natAbs) = .ok n.natAbs := by
      unfold parseMag
      rw [if_neg (decDigits_ne _), parse_dec _ (by omega)]
    rw [hp]
    simp only [signed]
    rw [if_neg (by omega)]
    exact congrArg NumEnd.ok (show -(n.natAbs : Int) = n by omega)
  · have e0 : itoa n = decDigits n.toNat := by unfold itoa; rw [if_neg hn]
    rw [e0]
    cases hd : decDigits n.toNat with
    | nil => exact absurd hd (decDigits_ne _)
    | cons c r =>
      have hc := decDigits_digit n.toNat c (by rw [hd]; exact List.mem_cons_self)
      have hp : parseMag (c :: r) = .ok n.toNat := by
        rw [← hd]
        unfold parseMag
        rw [if_neg (decDigits_ne _), parse_dec _ (by omega)]
      rw [atoiAll_plain c r (by omega) (by omega), hp]
      simp only [signless]
      rw [if_neg (by omega)]
      exact congrArg NumEnd.ok (show (n.toNat : Int) = n by omega)

/-- The number that a text is in decimal, from lo on and at most hi. -/
def whole? (l : Txt) (lo hi : Int) : Option Int := match atoiAll l with
  | .ok n => if lo ≤ n ∧ n ≤ hi ∧ itoa n = l then some n else none
  | _ => none
theorem whole?_iff {l : Txt} {lo hi n : Int} (hlo : -9223372036854775808 ≤ lo) (hhi : hi ≤ 9223372036854775807) : whole? l lo hi = some n ↔ l = itoa n ∧ lo ≤ n ∧ n ≤ hi := by
  constructor
  · intro h
    unfold whole? at h
    split at h
    · split at h
      · rename_i h1; cases h; exact ⟨h1.2.2.symm, h1.1, h1.2.1⟩
      · cases h
    · cases h
  · rintro ⟨rfl, h1, h2⟩
    unfold whole?
    rw [atoiAll_itoa n (by omega) (by omega)]
    simp [h1, h2]
/-- A number of one to seven digits, without noughts ahead. -/
def digs0 (l : Txt) : Option Nat := if l.length < 1 ∨ 7 < l.length ∨ (1 < l.length ∧ l.head? = some 48) then none else decFrom 0 l
def digs (l : Txt) : Option Int := if 1 < l.length ∧ l.head? = some 45 then (digs0 l.tail).bind fun u => if 0 < u then some (-(u : Int)) else none else (digs0 l).map Int.ofNat
theorem digs0_iff {l : Txt} {u : Nat} : digs0 l = some u ↔ l = decDigits u ∧ u < 10000000 := by
  unfold digs0
  constructor
  · intro h
    split at h
    · cases h
    · rename_i h1
      have hne : l ≠ [] := by rintro rfl; simp at h1
      have e := dec_of_decFrom l u hne h (by
        rintro r rfl
        cases r with
        | nil => rfl
        | cons b r => exact absurd (Or.inr (Or.inr ⟨by simp, rfl⟩)) h1)
      refine ⟨e.symm, ?_⟩
      have h2 := lt_pow_nDigits u
      rw [← decDigits_length, e] at h2
      have h3 : (10 : Nat) ^ l.length ≤ 10 ^ 7 := Nat.pow_le_pow_right (by omega) (by omega)
      have h4 : (10 : Nat) ^ 7 = 10000000 := by decide
      omega
  · rintro ⟨rfl, h1⟩
    rw [if_neg, decFrom_dec]
    rintro (h | h | h)
    · have := nDigits_pos u; rw [decDigits_length] at h; omega
    · have := nDigits_le 7 u (by omega) (by simpa using h1); rw [decDigits_length] at h; omega
    · have hu : ¬ u < 10 := by
        intro h2; rw [decDigits_one h2] at h; simp at h
      have : ∀ v, 1 ≤ v → (decDigits v).head? ≠ some 48 := by
        intro v
        induction v using Nat.strongRecOn with
        | _ v ih =>
          intro hv
          by_cases h2 : v < 10
          · rw [decDigits_one h2]
            intro h3
            simp only [List.head?_cons, Option.some.injEq] at h3
            have h4 := congrArg UInt8.toNat h3
            rw [u8_ofNat (by omega)] at h4
            have : (48 : UInt8).toNat = 48 := rfl
            omega
          · rw [decDigits, dif_neg h2]
            intro h3
            refine ih (v / 10) (by omega) (by omega) ?_
            cases hd : decDigits (v / 10) with
            | nil => exact absurd hd (decDigits_ne _)
            | cons b r => rw [hd] at h3; simpa using h3
      exact this u (by omega) h.2
theorem digs_iff {l : Txt} {n : Int} : digs l = some n ↔ l = itoa n ∧ -9999999 ≤ n ∧ n ≤ 9999999 := by
  unfold digs
  constructor
  · intro h
    split at h
    · rename_i h1
      cases l with
      | nil => simp at h1
      | cons c r =>
        simp only [List.head?_cons, Option.some.injEq, List.tail_cons] at h1 h
        obtain ⟨_, rfl⟩ := h1
        cases hd : digs0 r with
        | none => rw [hd] at h; cases h
        | some u =>
          rw [hd] at h
          simp only [Option.bind_some] at h
          split at h
          · cases h
            obtain ⟨h2, h3⟩ := digs0_iff.1 hd
            rw [itoa_neg u (by omega), h2]
            exact ⟨rfl, by omega, by omega⟩
          · cases h
    · cases hd : digs0 l with
      | none => rw [hd] at h; cases h
      | some u =>
        rw [hd] at h
        cases h
        obtain ⟨h2, h3⟩ := digs0_iff.1 hd
        show _ = itoa (u : Int) ∧ -9999999 ≤ (u : Int) ∧ (u : Int) ≤ 9999999
        rw [itoa_nonneg]
        exact ⟨h2, by omega, by omega⟩
  · rintro ⟨rfl, h1, h2⟩
    by_cases hn : n < 0
    · obtain ⟨u, rfl⟩ : ∃ u : Nat, n = -(u : Int) := ⟨n.natAbs, by omega⟩
      rw [itoa_neg u (by omega)]
      have hne : 1 < (45 :: decDigits u).length := by
        have := nDigits_pos u
        rw [List.length_cons, decDigits_length]; omega
      rw [if_pos ⟨hne, rfl⟩, List.tail_cons, digs0_iff.2 ⟨rfl, by omega⟩]
      simp only [Option.bind_some]
      rw [if_pos (by omega)]
    · obtain ⟨u, rfl⟩ : ∃ u : Nat, n = u := ⟨n.toNat, by omega⟩
      rw [itoa_nonneg, if_neg, digs0_iff.2 ⟨rfl, by omega⟩]
      · rfl
      · rintro ⟨_, h3⟩
        cases hd : decDigits u with
        | nil => exact decDigits_ne u hd
        | cons c r =>
          rw [hd] at h3
          have h4 := decDigits_digit u c (by rw [hd]; exact List.mem_cons_self)
          simp only [List.head?_cons, Option.some.injEq] at h3
          subst h3
          exact absurd h4.1 (by decide)
theorem itoa_inj {a b : Int} (h : itoa a = itoa b) (ha : -9223372036854775808 ≤ a ∧ a ≤ 9223372036854775807) (hb : -9223372036854775808 ≤ b ∧ b ≤ 9223372036854775807) : a = b := by
  have h1 := atoiAll_itoa a ha.1 ha.2
  rw [h, atoiAll_itoa b hb.1 hb.2] at h1
  cases h1; rfl
theorem whole?_digs (l : Txt) : whole? l (-9999999) 9999999 = digs l := by
  cases h : digs l with
  | some n => exact (whole?_iff (by omega) (by omega)).2 (digs_iff.1 h)
  | none =>
    cases h2 : whole? l (-9999999) 9999999 with
    | none => rfl
    | some n => rw [digs_iff.2 ((whole?_iff (by omega) (by omega)).1 h2)] at h; cases h
end Go.Proofs.Ytnomlkkhkacajaa
