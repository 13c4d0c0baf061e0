/- Texts on the way to a law (S1, S2), each with its own remark. -/
import Derived.Lib.AtoiTie
import Derived.Lib.AtoiAllCases
import Derived.Lib.ItoaLen
import Derived.Lib.Join
namespace Go.Proofs.YtnomlkkhkacajaaGreatDoor
open Go.Lib

abbrev Txt := List UInt8
theorem u8_ofNat {d : Nat} (h : d < 208) : (UInt8.ofNat (48 + d)).toNat = 48 + d := by
  rw [UInt8.toNat_ofNat']
  omega
theorem u8_of_digit {c : UInt8} (h : 48 ≤ c.toNat) : UInt8.ofNat (48 + (c.toNat - 48)) = c := by
  apply UInt8.toNat_inj.1
  rw [UInt8.toNat_ofNat']
  have := c.toNat_lt
  omega
theorem decDigits_ne (u : Nat) : decDigits u ≠ [] := by
  intro h
  have h1 := decDigits_length u
  rw [h] at h1
  have h2 := nDigits_pos u
  simp at h1
  omega
/-- Every byte of a numeral is a digit. -/
theorem decDigits_digit (u : Nat) : ∀ c ∈ decDigits u, 48 ≤ c.toNat ∧ c.toNat ≤ 57 := by
  induction u using Nat.strongRecOn with
  | _ u ih =>
    intro c hc
    by_cases h : u < 10
    · rw [decDigits_one h, List.mem_singleton] at hc
      rw [hc, u8_ofNat (by omega)]; omega
    · rw [decDigits, dif_neg h, List.mem_append, List.mem_singleton] at hc
      rcases hc with hc | hc
      · exact ih (u / 10) (by omega) c hc
      · rw [hc, u8_ofNat (by omega)]; omega
theorem itoa_byte (n : Int) : ∀ c ∈ itoa n, c.toNat = 45 ∨ (48 ≤ c.toNat ∧ c.toNat ≤ 57) := by
  intro c hc
  unfold itoa at hc
  split at hc
  · rcases List.mem_cons.1 hc with h | h
    · left; rw [h]; rfl
    · exact .inr (decDigits_digit _ c h)
  · exact .inr (decDigits_digit _ c hc)
theorem itoa_ne (n : Int) : itoa n ≠ [] := by
  unfold itoa
  split
  · simp
  · exact decDigits_ne _
theorem nDigits_le : ∀ (k u : Nat), 1 ≤ k → u < 10 ^ k → nDigits u ≤ k
  | 0, _, h, _ => by omega
  | k + 1, u, _, hu => by
    by_cases h : u < 10
    · rw [nDigits_small h]; omega
    · rw [nDigits_big h]
      have hk : 1 ≤ k := by
        rcases Nat.eq_zero_or_pos k with h0 | h0
        · subst h0; simp at hu; omega
        · exact h0
      have := nDigits_le k (u / 10) hk (by rw [Nat.pow_succ] at hu; omega)
      omega
theorem decFrom_append : ∀ (a b : Txt) (acc : Nat), decFrom acc (a ++ b) = (decFrom acc a).bind fun v => decFrom v b
  | [], b, acc => rfl
  | c :: r, b, acc => by
    simp only [List.cons_append, decFrom]
    cases digitVal c with
    | none => rfl
    | some d => exact decFrom_append r b _
theorem digitVal_of {c : UInt8} (h1 : 48 ≤ c.toNat) (h2 : c.toNat ≤ 57) : digitVal c = some (c.toNat - 48) := by
  unfold digitVal; rw [if_pos ⟨h1, h2⟩]
theorem digitVal_some {c : UInt8} {d : Nat} (h : digitVal c = some d) : 48 ≤ c.toNat ∧ c.toNat ≤ 57 ∧ d = c.toNat - 48 := by
  unfold digitVal at h
  split at h
  · rename_i h1; cases h; exact ⟨h1.1, h1.2, rfl⟩
  · cases h
theorem decFrom_one (acc : Nat) (c : UInt8) (h1 : 48 ≤ c.toNat) (h2 : c.toNat ≤ 57) : decFrom acc [c] = some (acc * 10 + (c.toNat - 48)) := by
  simp [decFrom, digitVal_of h1 h2]
/-- A numeral spells its number. -/
theorem decFrom_dec (u : Nat) : decFrom 0 (decDigits u) = some u := by
  induction u using Nat.strongRecOn with
  | _ u ih =>
    by_cases h : u < 10
    · rw [decDigits_one h, decFrom_one 0 _ (by rw [u8_ofNat (by omega)]; omega) (by rw [u8_ofNat (by omega)]; omega), u8_ofNat (by omega)]
      congr 1; omega
    · rw [decDigits, dif_neg h, decFrom_append, ih (u / 10) (by omega)]
      show decFrom (u / 10) _ = _
      rw [decFrom_one _ _ (by rw [u8_ofNat (by omega)]; omega) (by rw [u8_ofNat (by omega)]; omega), u8_ofNat (by omega)]
      congr 1; omega
/-- What spells a number without a nought ahead is its numeral. -/
theorem dec_of_decFrom (l : Txt) : ∀ u, l ≠ [] → decFrom 0 l = some u → (∀ r, l = 48 :: r → r = []) → decDigits u = l := by
  induction hn : l.length using Nat.strongRecOn generalizing l with
  | _ n ih =>
    intro u hne hd hz
    obtain ⟨a, c, rfl⟩ : ∃ a c, l = a ++ [c] := ⟨l.dropLast, l.getLast hne, (List.dropLast_concat_getLast hne).symm⟩
    rw [decFrom_append] at hd
    cases ha : decFrom 0 a with
    | none => rw [ha] at hd; cases hd
    | some v =>
      rw [ha] at hd
      have hd' : decFrom v [c] = some u := hd
      have hc : ∃ d, digitVal c = some d := digit_of_decFrom [c] v u hd' 0 c rfl
      obtain ⟨d, hc⟩ := hc
      obtain ⟨h1, h2, h3⟩ := digitVal_some hc
      rw [decFrom_one v c h1 h2] at hd'
      injection hd' with hu
      by_cases hae : a = []
      · subst hae
        simp only [decFrom, Option.some.injEq] at ha
        subst ha
        rw [decDigits_one (by omega), show u = c.toNat - 48 by omega, u8_of_digit h1]
        rfl
      · have hav : decDigits v = a := ih a.length (by rw [← hn]; simp) a rfl v hae ha (by
          rintro r rfl
          have := hz (r ++ [c]) rfl
          simp at this)
        have hv : 1 ≤ v := by
          rcases Nat.eq_zero_or_pos v with h0 | h0
          · subst h0
            rw [decDigits_one (by omega)] at hav
            have := hz [c] (by rw [← hav]; rfl)
            simp at this
          · exact h0
        rw [decDigits, dif_neg (by omega), show u / 10 = v by omega, hav, show u % 10 = c.toNat - 48 by omega, u8_of_digit h1]
theorem parseUint10_append : ∀ (a b : Txt) (acc v : Nat), parseUint10 acc a = .ok v → parseUint10 acc (a ++ b) = parseUint10 v b
  | [], b, acc, v, h => by simp only [parseUint10, NumEnd.ok.injEq] at h; subst h; rfl
  | c :: r, b, acc, v, h => by
    simp only [List.cons_append, parseUint10] at h ⊢
    split at h
    · rename_i h1
      rw [if_pos h1]
      split at h
      · cases h
      · rename_i h2
        rw [if_neg h2]
        split at h
        · cases h
        · rename_i h3
          rw [if_neg h3]
          exact parseUint10_append r b _ v h
    · cases h
theorem parseUint10_one (acc : Nat) (c : UInt8) (h1 : 48 ≤ c.toNat) (h2 : c.toNat ≤ 57) (h3 : acc * 10 + (c.toNat - 48) < 18446744073709551616) : parseUint10 acc [c] = .ok (acc * 10 + (c.toNat - 48)) := by
  simp only [parseUint10]
  rw [if_pos ⟨h1, h2⟩, if_neg (by omega), if_neg (by omega)]
theorem parse_dec (u : Nat) (hu : u < 18446744073709551616) : parseUint10 0 (decDigits u) = .ok u := by
  induction u using Nat.strongRecOn with
  | _ u ih =>
    by_cases h : u < 10
    · rw [decDigits_one h, parseUint10_one 0 _ (by rw [u8_ofNat (by omega)]; omega) (by rw [u8_ofNat (by omega)]; omega) (by rw [u8_ofNat (by omega)]; omega), u8_ofNat (by omega)]
      congr 1; omega
    · rw [decDigits, dif_neg h, parseUint10_append _ _ _ _ (ih (u / 10) (by omega) (by omega)), parseUint10_one _ _ (by rw [u8_ofNat (by omega)]; omega) (by rw [u8_ofNat (by omega)]; omega) (by rw [u8_ofNat (by omega)]; omega), u8_ofNat (by omega)]
      congr 1; omega
theorem atoiAll_itoa (n : Int) (h0 : -9223372036854775808 ≤ n) (h1 : n ≤ 9223372036854775807) : atoiAll (itoa n) = .ok n := by
  by_cases hn : n < 0
  · unfold itoa
    rw [if_pos hn, atoiAll_minus]
    have hp : parseMag (decDigits n.natAbs) = .ok n.natAbs := by
      unfold parseMag
      rw [if_neg (decDigits_ne _), parse_dec _ (by omega)]
    rw [hp]
    simp only [signed]
    rw [if_neg (by omega)]
    exact congrArg NumEnd.ok (show -(n.natAbs : Int) = n by omega)
  · have e0 : itoa n = decDigits n.toNat := by unfold itoa; rw [if_neg hn]
    rw [e0]
    cases hd : decDigits n.toNat with
    | nil => exact absurd hd (decDigits_ne _)
    | cons c r =>
      have hc := decDigits_digit n.toNat c (by rw [hd]; exact List.mem_cons_self)
      have hp : parseMag (c :: r) = .ok n.toNat := by
        rw [← hd]
        unfold parseMag
        rw [if_neg (decDigits_ne _), parse_dec _ (by omega)]
      rw [atoiAll_plain c r (by omega) (by omega), hp]
      simp only [signless]
      rw [if_neg (by omega)]
      exact congrArg NumEnd.ok (show (n.toNat : Int) = n by omega)

/-- The number that a text is in decimal, from lo on and at most hi. -/
def whole? (l : Txt) (lo hi : Int) : Option Int := match atoiAll l with
  | .ok n => if lo ≤ n ∧ n ≤ hi ∧ itoa n = l then some n else none
  | _ => none
theorem whole?_iff {l : Txt} {lo hi n : Int} (hlo : -9223372036854775808 ≤ lo) (hhi : hi ≤ 9223372036854775807) : whole? l lo hi = some n ↔ l = itoa n ∧ lo ≤ n ∧ n ≤ hi := by
  constructor
  · intro h
    unfold whole? at h
    split at h
    · split at h
      · rename_i h1; cases h; exact ⟨h1.2.2.symm, h1.1, h1.2.1⟩
      · cases h
    · cases h
  · rintro ⟨rfl, h1, h2⟩
    unfold whole?
    rw [atoiAll_itoa n (by omega) (by omega)]
    simp [h1, h2]
/-- A number of one to seven digits, without noughts ahead. -/
def digs0 (l : Txt) : Option Nat := if l.length < 1 ∨ 7 < l.length ∨ (1 < l.length ∧ l.head? = some 48) then none else decFrom 0 l
def digs (l : Txt) : Option Int := if 1 < l.length ∧ l.head? = some 45 then (digs0 l.tail).bind fun u => if 0 < u then some (-(u : Int)) else none else (digs0 l).map Int.ofNat
theorem digs0_iff {l : Txt} {u : Nat} : digs0 l = some u ↔ l = decDigits u ∧ u < 10000000 := by
  unfold digs0
  constructor
  · intro h
    split at h
    · cases h
    · rename_i h1
      have hne : l ≠ [] := by rintro rfl; simp at h1
      have e := dec_of_decFrom l u hne h (by
        rintro r rfl
        cases r with
        | nil => rfl
        | cons b r => exact absurd (Or.inr (Or.inr ⟨by simp, rfl⟩)) h1)
      refine ⟨e.symm, ?_⟩
      have h2 := lt_pow_nDigits u
      rw [← decDigits_length, e] at h2
      have h3 : (10 : Nat) ^ l.length ≤ 10 ^ 7 := Nat.pow_le_pow_right (by omega) (by omega)
      have h4 : (10 : Nat) ^ 7 = 10000000 := by decide
      omega
  · rintro ⟨rfl, h1⟩
    rw [if_neg, decFrom_dec]
    rintro (h | h | h)
    · have := nDigits_pos u; rw [decDigits_length] at h; omega
    · have := nDigits_le 7 u (by omega) (by simpa using h1); rw [decDigits_length] at h; omega
    · have hu : ¬ u < 10 := by
        intro h2; rw [decDigits_one h2] at h; simp at h
      have : ∀ v, 1 ≤ v → (decDigits v).head? ≠ some 48 := by
        intro v
        induction v using Nat.strongRecOn with
        | _ v ih =>
          intro hv
          by_cases h2 : v < 10
          · rw [decDigits_one h2]
            intro h3
            simp only [List.head?_cons, Option.some.injEq] at h3
            have h4 := congrArg UInt8.toNat h3
            rw [u8_ofNat (by omega)] at h4
            have : (48 : UInt8).toNat = 48 := rfl
            omega
          · rw [decDigits, dif_neg h2]
            intro h3
            refine ih (v / 10) (by omega) (by omega) ?_
            cases hd : decDigits (v / 10) with
            | nil => exact absurd hd (decDigits_ne _)
            | cons b r => rw [hd] at h3; simpa using h3
      exact this u (by omega) h.2
theorem digs_iff {l : Txt} {n : Int} : digs l = some n ↔ l = itoa n ∧ -9999999 ≤ n ∧ n ≤ 9999999 := by
  unfold digs
  constructor
  · intro h
    split at h
    · rename_i h1
      cases l with
      | nil => simp at h1
      | cons c r =>
        simp only [List.head?_cons, Option.some.injEq, List.tail_cons] at h1 h
        obtain ⟨_, rfl⟩ := h1
        cases hd : digs0 r with
        | none => rw [hd] at h; cases h
        | some u =>
          rw [hd] at h
          simp only [Option.bind_some] at h
          split at h
          · cases h
            obtain ⟨h2, h3⟩ := digs0_iff.1 hd
            rw [itoa_neg u (by omega), h2]
            exact ⟨rfl, by omega, by omega⟩
          · cases h
    · cases hd : digs0 l with
      | none => rw [hd] at h; cases h
      | some u =>
        rw [hd] at h
        cases h
        obtain ⟨h2, h3⟩ := digs0_iff.1 hd
        show _ = itoa (u : Int) ∧ -9999999 ≤ (u : Int) ∧ (u : Int) ≤ 9999999
        rw [itoa_nonneg]
        exact ⟨h2, by omega, by omega⟩
  · rintro ⟨rfl, h1, h2⟩
    by_cases hn : n < 0
    · obtain ⟨u, rfl⟩ : ∃ u : Nat, n = -(u : Int) := ⟨n.natAbs, by omega⟩
      rw [itoa_neg u (by omega)]
      have hne : 1 < (45 :: decDigits u).length := by
        have := nDigits_pos u
        rw [List.length_cons, decDigits_length]; omega
      rw [if_pos ⟨hne, rfl⟩, List.tail_cons, digs0_iff.2 ⟨rfl, by omega⟩]
      simp only [Option.bind_some]
      rw [if_pos (by omega)]
    · obtain ⟨u, rfl⟩ : ∃ u : Nat, n = u := ⟨n.toNat, by omega⟩
      rw [itoa_nonneg, if_neg, digs0_iff.2 ⟨rfl, by omega⟩]
      · rfl
      · rintro ⟨_, h3⟩
        cases hd : decDigits u with
        | nil => exact decDigits_ne u hd
        | cons c r =>
          rw [hd] at h3
          have h4 := decDigits_digit u c (by rw [hd]; exact List.mem_cons_self)
          simp only [List.head?_cons, Option.some.injEq] at h3
          subst h3
          exact absurd h4.1 (by decide)
theorem itoa_inj {a b : Int} (h : itoa a = itoa b) (ha : -9223372036854775808 ≤ a ∧ a ≤ 9223372036854775807) (hb : -9223372036854775808 ≤ b ∧ b ≤ 9223372036854775807) : a = b := by
  have h1 := atoiAll_itoa a ha.1 ha.2
  rw [h, atoiAll_itoa b hb.1 hb.2] at h1
  cases h1; rfl
theorem whole?_digs (l : Txt) : whole? l (-9999999) 9999999 = digs l := by
  cases h : digs l with
  | some n => exact (whole?_iff (by omega) (by omega)).2 (digs_iff.1 h)
  | none =>
    cases h2 : whole? l (-9999999) 9999999 with
    | none => rfl
    | some n => rw [digs_iff.2 ((whole?_iff (by omega) (by omega)).1 h2)] at h; cases h
end Go.Proofs.YtnomlkkhkacajaaGreatDoor
namespace Go.Proofs.YtnomlkkhkacajaaGreatDoor
open Go.Lib

/-- What stands between the bytes sep of a text. -/
def cutAll (sep : UInt8) : Txt → List Txt
  | [] => [[]]
  | c :: r => if c = sep then [] :: cutAll sep r else match cutAll sep r with
    | [] => [[c]]
    | h :: t => (c :: h) :: t
theorem cutAll_ne (sep : UInt8) (l : Txt) : cutAll sep l ≠ [] := by
  cases l with
  | nil => simp [cutAll]
  | cons c r =>
    unfold cutAll
    split
    · simp
    · split <;> simp
theorem cutAll_no {sep : UInt8} : ∀ {l : Txt}, sep ∉ l → cutAll sep l = [l]
  | [], _ => rfl
  | c :: r, h => by
    have h1 : c ≠ sep := fun e => h (e ▸ List.mem_cons_self)
    have h2 : sep ∉ r := fun e => h (List.mem_cons_of_mem _ e)
    simp only [cutAll, if_neg h1, cutAll_no h2]
theorem cutAll_at {sep : UInt8} : ∀ {a : Txt} (b : Txt), sep ∉ a → cutAll sep (a ++ sep :: b) = a :: cutAll sep b
  | [], b, _ => by simp [cutAll]
  | c :: r, b, h => by
    have h1 : c ≠ sep := fun e => h (e ▸ List.mem_cons_self)
    have h2 : sep ∉ r := fun e => h (List.mem_cons_of_mem _ e)
    simp only [List.cons_append, cutAll, if_neg h1, cutAll_at b h2]
theorem cut_cases (sep : UInt8) : ∀ l : Txt, sep ∉ l ∨ ∃ a b, l = a ++ sep :: b ∧ sep ∉ a
  | [] => .inl (by simp)
  | c :: r => by
    by_cases h : c = sep
    · subst h; exact .inr ⟨[], r, rfl, by simp⟩
    · rcases cut_cases sep r with h1 | ⟨a, b, rfl, h2⟩
      · refine .inl fun hm => ?_
        rcases List.mem_cons.1 hm with h3 | h3
        · exact h h3.symm
        · exact h1 h3
      · refine .inr ⟨c :: a, b, rfl, fun hm => ?_⟩
        rcases List.mem_cons.1 hm with h3 | h3
        · exact h h3.symm
        · exact h2 h3

abbrev Pr := Int × Int
/-- A word of a signal's text. -/
def pairOf (w : Txt) : Option Pr := match cutAll 44 w with
  | [a, b] => match digs a, digs b with
    | some x, some y => some (x, y)
    | _, _ => none
  | _ => none
def pairsOf : List Txt → Option (List Pr)
  | [] => some []
  | w :: r => match pairOf w with
    | none => none
    | some p => (pairsOf r).map (p :: ·)
/-- The signal that a text is, as the reference reads it. -/
def readSig (l : Txt) : Option (List Pr) := if l = [45] then some [] else match pairsOf (cutAll 59 l) with
  | none => none
  | some ps => if ps.length ≤ 16 then some ps else none
def pairText (p : Pr) : Txt := itoa p.1 ++ 44 :: itoa p.2
/-- The text of a signal. -/
def sigText (ps : List Pr) : Txt := if ps = [] then [45] else join (ps.map pairText) [59]
def InR (p : Pr) : Prop := -9999999 ≤ p.1 ∧ p.1 ≤ 9999999 ∧ -9999999 ≤ p.2 ∧ p.2 ≤ 9999999

theorem not_itoa {n : Int} {c : UInt8} (h1 : c.toNat ≠ 45) (h2 : ¬ (48 ≤ c.toNat ∧ c.toNat ≤ 57)) : c ∉ itoa n := fun h => by
  rcases itoa_byte n c h with h | h
  · exact h1 h
  · exact h2 h
theorem no44 (n : Int) : (44 : UInt8) ∉ itoa n := not_itoa (by decide) (by decide)
theorem no59 (n : Int) : (59 : UInt8) ∉ itoa n := not_itoa (by decide) (by decide)
theorem no59p (p : Pr) : (59 : UInt8) ∉ pairText p := by
  unfold pairText
  intro h
  rcases List.mem_append.1 h with h | h
  · exact no59 _ h
  · rcases List.mem_cons.1 h with h | h
    · exact absurd h (by decide)
    · exact no59 _ h
theorem pairOf_text {p : Pr} (h : InR p) : pairOf (pairText p) = some p := by
  unfold pairOf pairText
  rw [cutAll_at _ (no44 _), cutAll_no (no44 _)]
  simp only [digs_iff.2 ⟨rfl, h.1, h.2.1⟩, digs_iff.2 ⟨rfl, h.2.2.1, h.2.2.2⟩]
theorem cutAll_two {w a b : Txt} (h : cutAll 44 w = [a, b]) : w = a ++ 44 :: b := by
  rcases cut_cases 44 w with h1 | ⟨x, y, rfl, h1⟩
  · rw [cutAll_no h1] at h; cases h
  · rw [cutAll_at _ h1] at h
    injection h with h2 h3
    subst h2
    rcases cut_cases 44 y with h4 | ⟨x2, y2, rfl, h4⟩
    · rw [cutAll_no h4] at h3; cases h3; rfl
    · rw [cutAll_at _ h4] at h3
      injection h3 with h5 h6
      exact absurd h6 (cutAll_ne _ _)
theorem pairOf_some {w : Txt} {p : Pr} (h : pairOf w = some p) : w = pairText p ∧ InR p := by
  unfold pairOf at h
  split at h
  · rename_i a b hc
    split at h
    · rename_i x y hx hy
      cases h
      have h1 := digs_iff.1 hx
      have h2 := digs_iff.1 hy
      rw [cutAll_two hc, h1.1, h2.1]
      exact ⟨rfl, h1.2.1, h1.2.2, h2.2.1, h2.2.2⟩
    · cases h
  · cases h
theorem pairsOf_text : ∀ {ps : List Pr}, (∀ p ∈ ps, InR p) → pairsOf (ps.map pairText) = some ps
  | [], _ => rfl
  | p :: r, h => by
    simp only [List.map_cons, pairsOf, pairOf_text (h p List.mem_cons_self), pairsOf_text fun q hq => h q (List.mem_cons_of_mem _ hq), Option.map_some]
theorem pairsOf_some : ∀ {ws : List Txt} {ps : List Pr}, pairsOf ws = some ps → ws = ps.map pairText ∧ ∀ p ∈ ps, InR p
  | [], ps, h => by simp only [pairsOf, Option.some.injEq] at h; subst h; simp
  | w :: r, ps, h => by
    simp only [pairsOf] at h
    split at h
    · cases h
    · rename_i p hp
      cases hr : pairsOf r with
      | none => rw [hr] at h; cases h
      | some qs =>
        rw [hr] at h
        simp only [Option.map_some, Option.some.injEq] at h
        subst h
        obtain ⟨h1, h2⟩ := pairsOf_some hr
        obtain ⟨h3, h4⟩ := pairOf_some hp
        refine ⟨by rw [h1, h3]; rfl, fun q hq => ?_⟩
        rcases List.mem_cons.1 hq with rfl | hq
        · exact h4
        · exact h2 q hq
theorem join_cons2 (x y : Txt) (r : List Txt) (sep : UInt8) : join (x :: y :: r) [sep] = x ++ sep :: join (y :: r) [sep] := by
  rw [join_cons, join_cons]
  simp [joinTail]
/-- Words without the byte sep, joined by it, are cut again. -/
theorem cutAll_join (sep : UInt8) : ∀ (ws : List Txt), ws ≠ [] → (∀ w ∈ ws, sep ∉ w) → cutAll sep (join ws [sep]) = ws
  | [], h, _ => absurd rfl h
  | [x], _, h => by rw [join_one]; exact cutAll_no (h x List.mem_cons_self)
  | x :: y :: r, _, h => by
    rw [join_cons2, cutAll_at _ (h x List.mem_cons_self), cutAll_join sep (y :: r) (by simp) fun w hw => h w (List.mem_cons_of_mem _ hw)]
theorem join_cutAll (sep : UInt8) : ∀ (l : Txt), join (cutAll sep l) [sep] = l := by
  intro l
  induction hn : l.length using Nat.strongRecOn generalizing l with
  | _ n ih =>
    rcases cut_cases sep l with h | ⟨a, b, rfl, h⟩
    · rw [cutAll_no h, join_one]
    · rw [cutAll_at _ h]
      have hb := ih b.length (by rw [← hn]; simp; omega) b rfl
      cases hc : cutAll sep b with
      | nil => exact absurd hc (cutAll_ne _ _)
      | cons y r => rw [join_cons2, ← hc, hb]
theorem sig_ne (ps : List Pr) (h : ps ≠ []) : join (ps.map pairText) [59] ≠ [45] := by
  intro he
  have h44 : (44 : UInt8) ∈ join (ps.map pairText) [59] := by
    cases ps with
    | nil => exact absurd rfl h
    | cons p r =>
      rw [List.map_cons, join_cons]
      exact List.mem_append_left _ (by unfold pairText; exact List.mem_append_right _ List.mem_cons_self)
  rw [he] at h44
  exact absurd h44 (by decide)
/-- A signal's text is read. -/
theorem readSig_text {ps : List Pr} (h : ∀ p ∈ ps, InR p) (hl : ps.length ≤ 16) : readSig (sigText ps) = some ps := by
  unfold readSig sigText
  by_cases h0 : ps = []
  · subst h0; rfl
  · rw [if_neg h0, if_neg (sig_ne ps h0), cutAll_join 59 _ (by simpa using h0) (by
      intro w hw
      obtain ⟨p, _, rfl⟩ := List.mem_map.1 hw
      exact no59p p), pairsOf_text h]
    exact if_pos hl
/-- A text that is read is the signal's text. -/
theorem readSig_some {l : Txt} {ps : List Pr} (h : readSig l = some ps) : sigText ps = l ∧ (∀ p ∈ ps, InR p) ∧ ps.length ≤ 16 := by
  unfold readSig at h
  split at h
  · rename_i h1; cases h; exact ⟨h1.symm, by simp, by simp⟩
  · split at h
    · cases h
    · rename_i ps2 h2
      split at h
      · rename_i h3
        cases h
        obtain ⟨h4, h5⟩ := pairsOf_some h2
        refine ⟨?_, h5, h3⟩
        unfold sigText
        rw [if_neg (by rintro rfl; exact cutAll_ne 59 l h4), ← h4, join_cutAll]
      · cases h
theorem cutAll_last (sep : UInt8) (l : Txt) : ∃ ws, cutAll sep (l ++ [sep]) = ws ++ [[]] := by
  induction hn : l.length using Nat.strongRecOn generalizing l with
  | _ n ih =>
    rcases cut_cases sep l with h | ⟨a, b, rfl, h⟩
    · exact ⟨[l], by rw [cutAll_at [] h]; rfl⟩
    · obtain ⟨ws, hw⟩ := ih b.length (by rw [← hn]; simp; omega) b rfl
      exact ⟨a :: ws, by rw [List.append_assoc, List.cons_append, cutAll_at _ h, hw]; rfl⟩
theorem pairsOf_bad : ∀ (ws : List Txt), pairsOf (ws ++ [[]]) = none
  | [] => rfl
  | w :: r => by
    simp only [List.cons_append, pairsOf, pairsOf_bad r]
    cases pairOf w <;> rfl
/-- With a semicolon behind it no text is read. -/
theorem readSig_more (l : Txt) : readSig (l ++ [59]) = none := by
  unfold readSig
  rw [if_neg]
  · obtain ⟨ws, hw⟩ := cutAll_last 59 l
    rw [hw, pairsOf_bad]
  · intro h
    have : (59 : UInt8) ∈ l ++ [59] := by simp
    rw [h] at this
    exact absurd this (by decide)

/-- How the program goes through a text, with a semicolon behind it: what is left, the bytes of the number that is begun, the numbers so far. -/
def scan : Txt → Txt → List Int → Option (List Int)
  | [], cur, parts => if cur = [] then some parts else none
  | c :: r, cur, parts =>
    if c.toNat = 45 ∨ (48 ≤ c.toNat ∧ c.toNat ≤ 57) then scan r (cur ++ [c]) parts
    else if (c.toNat = 44 ∧ parts.length % 2 = 0) ∨ (c.toNat = 59 ∧ parts.length % 2 = 1) then match digs cur with
      | none => none
      | some n => if parts.length = 32 then none else scan r [] (parts ++ [n])
    else none
def NumB (c : UInt8) : Prop := c.toNat = 45 ∨ (48 ≤ c.toNat ∧ c.toNat ≤ 57)
theorem scan_word : ∀ (a r cur : Txt) (parts : List Int), (∀ c ∈ a, NumB c) → scan (a ++ r) cur parts = scan r (cur ++ a) parts
  | [], r, cur, parts, _ => by simp
  | c :: a, r, cur, parts, h => by
    rw [List.cons_append, scan, if_pos (show c.toNat = 45 ∨ (48 ≤ c.toNat ∧ c.toNat ≤ 57) from h c List.mem_cons_self), scan_word a r _ parts fun d hd => h d (List.mem_cons_of_mem _ hd)]
    simp
/-- The first byte that no number has. -/
theorem split_num : ∀ l : Txt, (∀ c ∈ l, NumB c) ∨ ∃ a c r, l = a ++ c :: r ∧ (∀ d ∈ a, NumB d) ∧ ¬ NumB c
  | [] => .inl (by simp)
  | c :: l => by
    by_cases h : NumB c
    · rcases split_num l with h1 | ⟨a, d, r, rfl, h2, h3⟩
      · exact .inl fun d hd => by
          rcases List.mem_cons.1 hd with rfl | hd
          · exact h
          · exact h1 d hd
      · exact .inr ⟨c :: a, d, r, rfl, fun e he => by
          rcases List.mem_cons.1 he with rfl | he
          · exact h
          · exact h2 e he, h3⟩
    · exact .inr ⟨[], c, l, rfl, by simp, h⟩
theorem scan_at (a r : Txt) (c : UInt8) (parts : List Int) (h : ∀ d ∈ a, NumB d) (hc : ¬ NumB c) :
    scan (a ++ c :: r) [] parts = if (c.toNat = 44 ∧ parts.length % 2 = 0) ∨ (c.toNat = 59 ∧ parts.length % 2 = 1) then match digs a with
      | none => none
      | some n => if parts.length = 32 then none else scan r [] (parts ++ [n])
    else none := by
  rw [scan_word a _ [] parts h, List.nil_append, scan, if_neg (show ¬ (c.toNat = 45 ∨ (48 ≤ c.toNat ∧ c.toNat ≤ 57)) from hc)]
theorem scan_len : ∀ (l cur : Txt) (parts out : List Int), parts.length ≤ 32 → scan l cur parts = some out → out.length ≤ 32
  | [], cur, parts, out, hp, h => by
    unfold scan at h
    split at h
    · cases h; exact hp
    · cases h
  | c :: r, cur, parts, out, hp, h => by
    unfold scan at h
    split at h
    · exact scan_len r _ _ _ hp h
    · split at h
      · split at h
        · cases h
        · split at h
          · cases h
          · exact scan_len r _ _ _ (by rw [List.length_append]; simp; omega) h
      · cases h
def flat : List Pr → List Int
  | [] => []
  | p :: r => p.1 :: p.2 :: flat r
theorem flat_length : ∀ ps : List Pr, (flat ps).length = 2 * ps.length
  | [] => rfl
  | p :: r => by simp [flat, flat_length r]; omega
theorem numB_itoa (n : Int) : ∀ c ∈ itoa n, NumB c := itoa_byte n
/-- The program reads what the reference reads .. -/
theorem scan_yes : ∀ (ps : List Pr) (parts : List Int), ps ≠ [] → (∀ p ∈ ps, InR p) → parts.length % 2 = 0 → parts.length + 2 * ps.length ≤ 32 →
    scan (join (ps.map pairText) [59] ++ [59]) [] parts = some (parts ++ flat ps)
  | [], _, h, _, _, _ => absurd rfl h
  | p :: r, parts, _, h, h2, hl => by
    have hp := h p List.mem_cons_self
    have step : ∀ rest, scan (pairText p ++ 59 :: rest) [] parts = scan rest [] (parts ++ [p.1, p.2]) := by
      intro rest
      unfold pairText
      rw [List.append_assoc, List.cons_append, scan_at _ _ 44 _ (numB_itoa _) (by unfold NumB; decide), if_pos (.inl ⟨rfl, h2⟩), digs_iff.2 ⟨rfl, hp.1, hp.2.1⟩]
      have hl2 : parts.length ≠ 32 := by simp at hl; omega
      simp only [if_neg hl2]
      rw [scan_at _ _ 59 _ (numB_itoa _) (by unfold NumB; decide), if_pos (.inr ⟨rfl, by simp; omega⟩), digs_iff.2 ⟨rfl, hp.2.2.1, hp.2.2.2⟩]
      have hl3 : (parts ++ [p.1]).length ≠ 32 := by simp at hl ⊢; omega
      simp only [if_neg hl3]
      rw [List.append_assoc]
      rfl
    cases r with
    | nil =>
      rw [List.map_cons, List.map_nil, join_one, step []]
      simp [scan, flat]
    | cons q r2 =>
      rw [List.map_cons, List.map_cons, join_cons2, List.append_assoc, List.cons_append, step]
      have := scan_yes (q :: r2) (parts ++ [p.1, p.2]) (by simp) (fun x hx => h x (List.mem_cons_of_mem _ hx)) (by simp; omega) (by simp at hl ⊢; omega)
      rw [List.map_cons] at this
      rw [this]
      simp [flat]
/-- .. and nothing else. -/
theorem scan_some : ∀ (l : Txt) (parts out : List Int), parts.length % 2 = 0 → parts.length ≤ 32 → scan (l ++ [59]) [] parts = some out →
    ∃ ps, ps ≠ [] ∧ (∀ p ∈ ps, InR p) ∧ l = join (ps.map pairText) [59] ∧ out = parts ++ flat ps := by
  intro l
  induction hn : l.length using Nat.strongRecOn generalizing l with
  | _ n ih =>
    intro parts out h2 h32 h
    rcases split_num l with h1 | ⟨a, c, r, rfl, h1, hc⟩
    · rw [scan_at l [] 59 parts h1 (by unfold NumB; decide), if_neg (by
        rintro (⟨h3, _⟩ | ⟨_, h3⟩)
        · exact absurd h3 (by decide)
        · omega)] at h; cases h
    · rw [List.append_assoc, List.cons_append, scan_at a _ c parts h1 hc] at h
      split at h
      · rename_i hcc
        cases hd : digs a with
        | none => rw [hd] at h; cases h
        | some x =>
          rw [hd] at h
          simp only at h
          split at h
          · cases h
          · rename_i hp32
            have hc44 : c.toNat = 44 := by omega
            have hc' : c = 44 := UInt8.toNat_inj.1 hc44
            subst hc'
            obtain ⟨ha, hx1, hx2⟩ := digs_iff.1 hd
            have hpl : (parts ++ [x]).length % 2 = 1 := by simp; omega
            rcases split_num r with h3 | ⟨b, c2, r2, rfl, h3, hc2⟩
            · rw [scan_at r [] 59 _ h3 (by unfold NumB; decide), if_pos (.inr ⟨rfl, hpl⟩)] at h
              cases hd2 : digs r with
              | none => rw [hd2] at h; cases h
              | some y =>
                rw [hd2] at h
                simp only at h
                split at h
                · cases h
                · obtain ⟨hb, hy1, hy2⟩ := digs_iff.1 hd2
                  simp only [scan, if_true, Option.some.injEq] at h
                  refine ⟨[(x, y)], by simp, ?_, ?_, ?_⟩
                  · intro p hp
                    rw [List.mem_singleton.1 hp]
                    exact ⟨hx1, hx2, hy1, hy2⟩
                  · rw [List.map_cons, List.map_nil, join_one, ha, hb]; rfl
                  · rw [← h]; simp [flat]
            · rw [List.append_assoc, List.cons_append, scan_at b _ c2 _ h3 hc2] at h
              split at h
              · rename_i hcc2
                cases hd2 : digs b with
                | none => rw [hd2] at h; cases h
                | some y =>
                  rw [hd2] at h
                  simp only at h
                  split at h
                  · cases h
                  · rename_i hp33
                    have hc59 : c2.toNat = 59 := by omega
                    have hc2' : c2 = 59 := UInt8.toNat_inj.1 hc59
                    subst hc2'
                    obtain ⟨hb, hy1, hy2⟩ := digs_iff.1 hd2
                    have hl3 : (parts ++ [x] ++ [y]).length ≤ 32 := by simp at hp33 hp32 ⊢; omega
                    obtain ⟨ps, h4, h5, h6, h7⟩ := ih r2.length (by rw [← hn]; simp; omega) r2 rfl (parts ++ [x] ++ [y]) out (by simp; omega) hl3 h
                    refine ⟨(x, y) :: ps, by simp, ?_, ?_, ?_⟩
                    · intro p hp
                      rcases List.mem_cons.1 hp with rfl | hp
                      · exact ⟨hx1, hx2, hy1, hy2⟩
                      · exact h5 p hp
                    · cases ps with
                      | nil => exact absurd rfl h4
                      | cons q qs =>
                        rw [List.map_cons, List.map_cons, join_cons2, ← List.map_cons, ← h6, ha, hb]
                        simp [pairText]
                    · rw [h7]; simp [flat]
              · cases h
      · cases h
/-- The two ways of reading agree. -/
theorem scan_readSig (l : Txt) (hl : l ≠ [45]) : scan (l ++ [59]) [] [] = (readSig l).map flat := by
  cases hr : readSig l with
  | some ps =>
    obtain ⟨h1, h2, h3⟩ := readSig_some hr
    have h0 : ps ≠ [] := by rintro rfl; exact hl h1.symm
    unfold sigText at h1
    rw [if_neg h0] at h1
    rw [← h1, scan_yes ps [] h0 h2 rfl (by simp; omega)]
    rfl
  | none =>
    cases hs : scan (l ++ [59]) [] [] with
    | none => rfl
    | some out =>
      obtain ⟨ps, h0, h2, h3, h4⟩ := scan_some l [] out rfl (by simp) hs
      have h5 := scan_len _ _ _ _ (by simp) hs
      have h6 : ps.length ≤ 16 := by rw [h4] at h5; simp [flat_length] at h5; omega
      have := readSig_text h2 h6
      unfold sigText at this
      rw [if_neg h0, ← h3, hr] at this
      cases this
end Go.Proofs.YtnomlkkhkacajaaGreatDoor
