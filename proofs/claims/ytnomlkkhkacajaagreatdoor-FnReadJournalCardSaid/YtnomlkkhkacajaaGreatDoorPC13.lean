/- Texts on the way to a law (Lv, H14, S1), each with its own remark. -/
import Derived.Test.YtnomlkkhkacajaaGreatDoorPC12
import Derived.Test.YtnomlkkhkacajaaGreatDoorPC05
import Derived.Test.YtnomlkkhkacajaaGreatDoorPC11
import Derived.Test.YtnomlkkhkacajaaGreatDoorPC07
import Derived.Lib.AtoiTie
import Derived.Lib.AtoiAllCases
import Derived.Lib.ItoaLen
namespace Go.Proofs.YtnomlkkhkacajaaGreatDoor
open Go.RowKit

/-- Rounding does not pass a bound that is a word. -/
theorem rnd_le {f : Ieee.Format} {q : Rat} {r n : Nat} {e : Int} (h : Rnd f q r) (hn : n < 2 * f.binade) (he : f.leastPlace ≤ e) (hlt : (n : Rat) * p2 e < rv f f.infRung) (h1 : q ≤ (n : Rat) * p2 e) (h2 : -((n : Rat) * p2 e) ≤ q) :
    Fin f r ∧ val f r ≤ (n : Rat) * p2 e ∧ -((n : Rat) * p2 e) ≤ val f r := by
  obtain ⟨z, hz, hv⟩ := repr_ex f hn he hlt
  have := h.le hz (by rw [hv]; exact h1) (by rw [hv]; exact h2)
  rw [hv] at this
  exact this
theorem le_p2 {n : Nat} {a : Int} {k : Nat} (h : n ≤ 2 ^ k) : (n : Rat) * p2 a ≤ p2 (a + k) := by
  rw [p2_add, p2_nat, Rat.mul_comm]
  exact Rat.mul_le_mul_of_nonneg_left (Rat.natCast_le_natCast.2 h) (Rat.le_of_lt (p2_pos a))
theorem lt_inf32 {n : Nat} {a : Int} (h : n ≤ 16) (ha : a ≤ 123) : (n : Rat) * p2 a < rv Ieee.single Ieee.single.infRung := by
  rw [inf32]
  have h1 : (n : Rat) * p2 a ≤ p2 (a + (4 : Nat)) := le_p2 (by omega)
  have h2 : 2 * p2 (a + (4 : Nat)) ≤ p2 128 := p2_lt (by omega)
  have := p2_pos (a + (4 : Nat))
  grind
theorem lt_inf64 {n : Nat} {a : Int} (h : n ≤ 16) (ha : a ≤ 1000) : (n : Rat) * p2 a < rv Ieee.double Ieee.double.infRung := by
  rw [inf64]
  have h1 : (n : Rat) * p2 a ≤ p2 (a + (4 : Nat)) := le_p2 (by omega)
  have h2 : 2 * p2 (a + (4 : Nat)) ≤ p2 1024 := p2_lt (by omega)
  have := p2_pos (a + (4 : Nat))
  grind
/-- Both parts are words, and n times a power of two at most. -/
def Pb (z : C) (n : Nat) (a : Int) : Prop := finB z = true ∧ (val Ieee.single z.1 ≤ (n : Rat) * p2 a ∧ -((n : Rat) * p2 a) ≤ val Ieee.single z.1) ∧ (val Ieee.single z.2 ≤ (n : Rat) * p2 a ∧ -((n : Rat) * p2 a) ≤ val Ieee.single z.2)
theorem one_mul_p2 (a : Int) : ((1 : Nat) : Rat) * p2 a = p2 a := by
  have : ((1 : Nat) : Rat) = 1 := rfl
  rw [this, Rat.one_mul]
theorem Pb.up {z : C} {n : Nat} {a b : Int} {k : Nat} (h : Pb z n a) (hn : n ≤ 2 ^ k) (hb : a + k ≤ b) : Pb z 1 b := by
  obtain ⟨hf, ⟨h1, h2⟩, ⟨h3, h4⟩⟩ := h
  have l1 : (n : Rat) * p2 a ≤ p2 (a + k) := le_p2 hn
  have l2 : p2 (a + k) ≤ p2 b := p2_mono hb
  unfold Pb
  rw [one_mul_p2]
  exact ⟨hf, ⟨by grind, by grind⟩, ⟨by grind, by grind⟩⟩
theorem Pb.mono {z : C} {a b : Int} (h : Pb z 1 a) (hb : a ≤ b) : Pb z 1 b := h.up (k := 0) (by decide) (by omega)
/-- Of a turn no part is more than 1. -/
theorem turn_part (k : Int) : (val Ieee.single (turnC k).1 ≤ 1 ∧ -1 ≤ val Ieee.single (turnC k).1) ∧ (val Ieee.single (turnC k).2 ≤ 1 ∧ -1 ≤ val Ieee.single (turnC k).2) := by
  unfold turnC
  split
  · have h0 := Int.emod_nonneg k (show (16 : Int) ≠ 0 by decide)
    have h1 := Int.emod_lt_of_pos k (show (0 : Int) < 16 by decide)
    obtain ⟨j, hj⟩ : ∃ j, j = (k % 16).toNat := ⟨_, rfl⟩
    rw [← hj]
    have : j = 0 ∨ j = 1 ∨ j = 2 ∨ j = 3 ∨ j = 4 ∨ j = 5 ∨ j = 6 ∨ j = 7 ∨ j = 8 ∨ j = 9 ∨ j = 10 ∨ j = 11 ∨ j = 12 ∨ j = 13 ∨ j = 14 ∨ j = 15 := by omega
    rcases this with rfl | rfl | rfl | rfl | rfl | rfl | rfl | rfl | rfl | rfl | rfl | rfl | rfl | rfl | rfl | rfl <;> simp only [nth, turnL, List.getD_cons_succ, List.getD_cons_zero, w_one.2, w_mone.2, w_c.2, w_mc.2, w_d.2, w_md.2, w_e.2, w_me.2, zero32.2] <;> decide +kernel
  · simp only [zero32.2]; decide +kernel
theorem mul_part {x t B : Rat} (h1 : x ≤ B) (h2 : -B ≤ x) (t1 : t ≤ 1) (t2 : -1 ≤ t) : x * t ≤ B ∧ -B ≤ x * t := by
  have k1 := Rat.mul_nonneg (show 0 ≤ B - x by grind) (show 0 ≤ 1 + t by grind)
  have k2 := Rat.mul_nonneg (show 0 ≤ B + x by grind) (show 0 ≤ 1 - t by grind)
  have k3 := Rat.mul_nonneg (show 0 ≤ B - x by grind) (show 0 ≤ 1 - t by grind)
  have k4 := Rat.mul_nonneg (show 0 ≤ B + x by grind) (show 0 ≤ 1 + t by grind)
  constructor <;> grind
/-- A product in double precision with a part of at most 1. -/
theorem m64_pb {x y : Nat} {a : Int} (hx : Fin Ieee.single x) (hy : Fin Ieee.single y) (ha : -149 ≤ a) (ha2 : a ≤ 1000) (h1 : val Ieee.single x ≤ p2 a) (h2 : -p2 a ≤ val Ieee.single x) (t1 : val Ieee.single y ≤ 1) (t2 : -1 ≤ val Ieee.single y) :
    Fin Ieee.double (m64 x y) ∧ val Ieee.double (m64 x y) ≤ p2 a ∧ -p2 a ≤ val Ieee.double (m64 x y) := by
  obtain ⟨_, r, _⟩ := m64_spec hx hy
  obtain ⟨q1, q2⟩ := mul_part h1 h2 t1 t2
  have := rnd_le (n := 1) (e := a) r (by decide) (Int.le_trans (by decide) ha) (lt_inf64 (by decide) ha2) (by rw [one_mul_p2]; exact q1) (by rw [one_mul_p2]; exact q2)
  rw [one_mul_p2] at this
  exact this
theorem mul_pb {z t : C} {a : Int} (hz : Pb z 1 a) (ht : finB t = true) (t1 : val Ieee.single t.1 ≤ 1 ∧ -1 ≤ val Ieee.single t.1) (t2 : val Ieee.single t.2 ≤ 1 ∧ -1 ≤ val Ieee.single t.2) (h1 : -149 ≤ a) (h2 : a ≤ 122) : Pb (mulC z t) 1 (a + 1) := by
  obtain ⟨hf, ⟨z1, z2⟩, ⟨z3, z4⟩⟩ := hz
  rw [one_mul_p2] at z1 z2 z3 z4
  obtain ⟨fa, fb⟩ := finB_iff.1 hf
  obtain ⟨fc, fd⟩ := finB_iff.1 ht
  obtain ⟨_, rr, fr⟩ := re64_spec hf ht
  obtain ⟨_, ri, fi⟩ := im64_spec hf ht
  obtain ⟨nr, ni⟩ := mulC_rnd hf ht
  obtain ⟨_, a1, a2⟩ := m64_pb fa fc h1 (by omega) z1 z2 t1.1 t1.2
  obtain ⟨_, b1, b2⟩ := m64_pb fb fd h1 (by omega) z3 z4 t2.1 t2.2
  obtain ⟨_, c1, c2⟩ := m64_pb fa fd h1 (by omega) z1 z2 t2.1 t2.2
  obtain ⟨_, d1, d2⟩ := m64_pb fb fc h1 (by omega) z3 z4 t1.1 t1.2
  have e1 : p2 (a + 1) = 2 * p2 a := p2_succ a
  have k1 := rnd_le (n := 1) (e := a + 1) rr (by decide) (Int.le_trans (by decide) (show -149 ≤ a + 1 by omega)) (lt_inf64 (by decide) (by omega)) (by rw [one_mul_p2, e1]; grind) (by rw [one_mul_p2, e1]; grind)
  have k2 := rnd_le (n := 1) (e := a + 1) ri (by decide) (Int.le_trans (by decide) (show -149 ≤ a + 1 by omega)) (lt_inf64 (by decide) (by omega)) (by rw [one_mul_p2, e1]; grind) (by rw [one_mul_p2, e1]; grind)
  have l1 := rnd_le (n := 1) (e := a + 1) nr (by decide) (Int.le_trans (by decide) (show -149 ≤ a + 1 by omega)) (lt_inf32 (by decide) (by omega)) k1.2.1 k1.2.2
  have l2 := rnd_le (n := 1) (e := a + 1) ni (by decide) (Int.le_trans (by decide) (show -149 ≤ a + 1 by omega)) (lt_inf32 (by decide) (by omega)) k2.2.1 k2.2.2
  exact ⟨finB_iff.2 ⟨l1.1, l2.1⟩, l1.2, l2.2⟩
theorem add_pb {s p : C} {i : Nat} {a : Int} (hs : Pb s i a) (hp : Pb p 1 a) (hi : i < 16) (h1 : -149 ≤ a) (h2 : a ≤ 123) : Pb (addC s p) (i + 1) a := by
  obtain ⟨fs, ⟨s1, s2⟩, ⟨s3, s4⟩⟩ := hs
  obtain ⟨fp, ⟨p1, p2'⟩, ⟨p3, p4⟩⟩ := hp
  obtain ⟨_, r1, r2⟩ := addC_spec fs fp
  have e : ((i + 1 : Nat) : Rat) * p2 a = (i : Rat) * p2 a + ((1 : Nat) : Rat) * p2 a := by
    have c : ((i + 1 : Nat) : Rat) = (i : Rat) + 1 := by push_cast; rfl
    have c1 : ((1 : Nat) : Rat) = 1 := rfl
    rw [c, c1]; grind
  have hb : i + 1 < 2 * Ieee.single.binade := Nat.lt_of_lt_of_le (show i + 1 < 17 by omega) (by decide)
  have k1 := rnd_le (n := i + 1) (e := a) r1 hb (Int.le_trans (by decide) h1) (lt_inf32 (by omega) h2) (by rw [e]; grind) (by rw [e]; grind)
  have k2 := rnd_le (n := i + 1) (e := a) r2 hb (Int.le_trans (by decide) h1) (lt_inf32 (by omega) h2) (by rw [e]; grind) (by rw [e]; grind)
  exact ⟨finB_iff.2 ⟨k1.1, k2.1⟩, k1.2, k2.2⟩
/-- No number of a signal has a part that is more than a power of two. -/
def Lv (xs : List C) (a : Int) : Prop := ∀ i, i < xs.length → Pb (nth xs i) 1 a
theorem Lv.mono {xs : List C} {a b : Int} (h : Lv xs a) (hb : a ≤ b) : Lv xs b := fun i hi => (h i hi).mono hb
theorem Lv.prod {xs : List C} {a : Int} (h : Lv xs a) (h1 : -149 ≤ a) (h2 : a ≤ 122) {b : Int} {i : Nat} (hi : i < xs.length) : Pb (prodT xs b i) 1 (a + 1) :=
  mul_pb (h i hi) (turnC_fin _) (turn_part _).1 (turn_part _).2 h1 h2
theorem Lv.sum {xs : List C} {a : Int} (h : Lv xs a) (hl : xs.length ≤ 16) (h1 : -149 ≤ a) (h2 : a ≤ 122) {b : Int} : ∀ i, i ≤ xs.length → ∃ s, sumT xs b i = some s ∧ Pb s i (a + 1)
  | 0, _ => ⟨(0, 0), rfl, by decide, by simp only [zero32.2]; have := p2_pos (a + 1); have c : ((0 : Nat) : Rat) = 0 := rfl; rw [c]; constructor <;> grind, by simp only [zero32.2]; have := p2_pos (a + 1); have c : ((0 : Nat) : Rat) = 0 := rfl; rw [c]; constructor <;> grind⟩
  | i + 1, hi => by
    obtain ⟨s, e, hs⟩ := h.sum hl h1 h2 (b := b) i (by omega)
    have hp := h.prod h1 h2 (b := b) (i := i) (by omega)
    have ha := add_pb hs hp (by omega) (by omega) (by omega)
    refine ⟨addC s (prodT xs b i), ?_, ha⟩
    show sumStep (sumT xs b i) _ = _
    rw [e]
    unfold sumStep
    rw [Option.bind_some, hp.1, ha.1]; rfl
theorem Lv.prodOk {xs : List C} {a : Int} (h : Lv xs a) (h1 : -149 ≤ a) (h2 : a ≤ 122) (s : Int) : ProdOk xs s := fun _ _ _ hi => (h.prod h1 h2 hi).1
theorem Lv.trans {xs : List C} {a : Int} (h : Lv xs a) (h1 : -149 ≤ a) (h2 : a ≤ 122) (hs : sizB xs = true) : ∃ l, transF xs = some l ∧ l.length = xs.length ∧ Lv l (a + 5) := by
  obtain ⟨_, _, _, hl, _⟩ := siz_parts hs
  obtain ⟨l, e, hll, hq⟩ := allT_all (f := fun k => sumT xs (bk xs.length (-(k : Int))) xs.length) (Q := fun _ z => Pb z 1 (a + 5)) xs.length fun k _ => by
    obtain ⟨s, e, hs⟩ := h.sum hl h1 h2 (b := bk xs.length (-(k : Int))) xs.length (Nat.le_refl _)
    exact ⟨s, e, hs.up (k := 4) hl (by omega)⟩
  exact ⟨l, by rw [transF_yes hs rfl]; exact e, hll, fun i hi => hq i (by omega)⟩
theorem quo_part {v : Rat} {n : Int} {B : Rat} (hn : 1 ≤ n) (h1 : v ≤ B) (h2 : -B ≤ v) : v / (n : Rat) ≤ B ∧ -B ≤ v / (n : Rat) := by
  have h := div_absR (v := v) hn
  have l1 := le_absR (v / (n : Rat))
  have l2 := neg_le_absR (v / (n : Rat))
  have l3 := absR_le h1 h2
  constructor <;> grind
theorem quo_pb {z : C} {c32 c : Nat} {n : Int} {a : Int} (hc : P2W c32 c n) (hz : Pb z 1 a) (h1 : -149 ≤ a) (h2 : a ≤ 123) : Pb (quoC z c) 1 a := by
  obtain ⟨hf, ⟨z1, z2⟩, ⟨z3, z4⟩⟩ := hz
  obtain ⟨hq, r1, r2, n1, n2⟩ := quoC_rnd hc hf
  obtain ⟨q1, q2⟩ := quo_part hc.pos z1 z2
  obtain ⟨q3, q4⟩ := quo_part hc.pos z3 z4
  have k1 := rnd_le (n := 1) (e := a) r1 (by decide) (Int.le_trans (by decide) h1) (lt_inf64 (by decide) (by omega)) q1 q2
  have k2 := rnd_le (n := 1) (e := a) r2 (by decide) (Int.le_trans (by decide) h1) (lt_inf64 (by decide) (by omega)) q3 q4
  have l1 := rnd_le (n := 1) (e := a) n1 (by decide) (Int.le_trans (by decide) h1) (lt_inf32 (by decide) h2) k1.2.1 k1.2.2
  have l2 := rnd_le (n := 1) (e := a) n2 (by decide) (Int.le_trans (by decide) h1) (lt_inf32 (by decide) h2) k2.2.1 k2.2.2
  exact ⟨hq, l1.2, l2.2⟩
theorem Lv.back {xs : List C} {a : Int} (h : Lv xs a) (h1 : -149 ≤ a) (h2 : a ≤ 118) (hs : sizB xs = true) : ∃ l, backF xs = some l ∧ l.length = xs.length ∧ Lv l (a + 5) := by
  obtain ⟨hp, _, _, hl, _⟩ := siz_parts hs
  obtain ⟨l, e, hll, hq⟩ := allT_all (f := bakZ xs xs.length) (Q := fun _ z => Pb z 1 (a + 5)) xs.length fun k _ => by
    obtain ⟨s, e, hs⟩ := h.sum hl h1 (by omega) (b := bk xs.length (k : Int)) xs.length (Nat.le_refl _)
    exact ⟨_, bakZ_some e, quo_pb (p2w_of hp) (hs.up (k := 4) hl (by omega)) (by omega) (by omega)⟩
  exact ⟨l, by rw [backF_yes hs rfl]; exact e, hll, fun i hi => hq i (by omega)⟩
theorem Lv.fin {xs : List C} {a : Int} (h : Lv xs a) : xs.all finB = true := List.all_eq_true.2 fun z hz => by
  obtain ⟨i, hi, rfl⟩ := List.mem_iff_getElem.1 hz
  have := (h i hi).1
  rw [nth_eq hi] at this
  exact this
theorem Pb.md {z : C} {a : Int} (h : Pb z 1 a) (ha : a ≤ 126) : Md z K1 := by
  obtain ⟨hf, ⟨z1, z2⟩, ⟨z3, z4⟩⟩ := h
  rw [one_mul_p2] at z1 z2 z3 z4
  have l1 : p2 a ≤ p2 126 := p2_mono ha
  have l2 : p2 126 = 67108864 * U := U_of 26
  have hU := U_pos
  refine md_parts (a := p2 126) (b := p2 126) hf (by grind) (by grind) (by grind) (by grind) (by unfold K1; grind) ?_
  rw [l2]
  unfold K1
  have := sq_nn U
  grind
theorem Lv.small {xs : List C} {a : Int} (h : Lv xs a) (ha : a ≤ 126) : Small xs := fun i hi => (h i hi).md ha
theorem Lv.good {xs : List C} {a : Int} (h : Lv xs a) (h1 : -149 ≤ a) (h2 : a ≤ 121) : Good xs := fun hs => by
  obtain ⟨l, e, hll, hq⟩ := h.trans h1 (by omega) hs
  exact ⟨h.prodOk h1 (by omega) _, l, e, hll, fun i hi => (hq i (by omega)).md (by omega)⟩
theorem Lv.rng {f : Nat → C} {n : Nat} {a : Int} (h : ∀ i, i < n → Pb (f i) 1 a) : Lv (rngL f n) a := fun i hi => by
  rw [rngL_len] at hi
  rw [rngL_nth hi]
  exact h i hi
theorem Lv.mov {xs : List C} {a : Int} (h : Lv xs a) (b : Int) : Lv (movL xs xs.length b) a := Lv.rng fun i hi => by
  refine h _ ?_
  have hn : (0 : Int) < (xs.length : Int) := by omega
  have h1 := Int.emod_nonneg ((i : Int) - b) (show (xs.length : Int) ≠ 0 by omega)
  have h2 := Int.emod_lt_of_pos ((i : Int) - b) hn
  omega
theorem Lv.nil (a : Int) : Lv [] a := fun i hi => absurd hi (by simp)
/-- Read thousandths are small. -/
theorem milli_pb (a b : Int) : Pb (milli a b) 1 14 := by
  have h14 : p2 14 = 16384 := by rw [show (14 : Int) = ((14 : Nat) : Int) from rfl, p2_nat]; rfl
  unfold Pb
  rw [one_mul_p2, h14]
  by_cases h : (milB a && milB b) = true
  · have e : milli a b = (mp a, mp b) := by unfold milli; rw [if_pos h]
    rw [Bool.and_eq_true] at h
    obtain ⟨a1, a2⟩ := inB_iff.1 h.1
    obtain ⟨b1, b2⟩ := inB_iff.1 h.2
    obtain ⟨fa, _, _, va1, va2⟩ := mp_spec a1 a2
    obtain ⟨fb, _, _, vb1, vb2⟩ := mp_spec b1 b2
    rw [e]
    exact ⟨finB_iff.2 ⟨fa, fb⟩, ⟨by show val Ieee.single (mp a) ≤ _; grind, by show _ ≤ val Ieee.single (mp a); grind⟩, ⟨by show val Ieee.single (mp b) ≤ _; grind, by show _ ≤ val Ieee.single (mp b); grind⟩⟩
  · have e : milli a b = (0, 0) := by unfold milli; rw [if_neg h]
    rw [e]
    exact ⟨by decide, ⟨by simp only [zero32.2]; decide +kernel, by simp only [zero32.2]; decide +kernel⟩, ⟨by simp only [zero32.2]; decide +kernel, by simp only [zero32.2]; decide +kernel⟩⟩
theorem Lv.ord {xs : List C} (h : ∀ z ∈ xs, Ord z) : Lv xs 14 := fun i hi => by
  obtain ⟨a, b, _, _, _, _, e⟩ := h (nth xs i) (by rw [nth_eq hi]; exact List.getElem_mem hi)
  rw [e]; exact milli_pb a b
theorem Lv.shift {xs l : List C} {a k : Int} (h : Lv xs a) (h1 : -149 ≤ a) (h2 : a ≤ 122) (he : shiF xs k = some l) : l.length = xs.length ∧ Lv l (a + 1) := by
  unfold shiF at he
  split at he
  · rename_i hc
    cases he
    rw [Bool.and_eq_true, Bool.and_eq_true] at hc
    obtain ⟨hp, _, _, _, _⟩ := siz_parts hc.1.1
    refine ⟨by unfold shiL; rw [rngL_len], ?_⟩
    unfold shiL
    refine Lv.rng fun i hi => ?_
    obtain ⟨b, hb⟩ : ∃ b, nth (tonL xs.length (16 / (xs.length : Int) * k)) i = turnC b := ⟨_, tonL_nth _ hi⟩
    rw [hb]
    exact mul_pb (h i hi) (turnC_fin _) (turn_part _).1 (turn_part _).2 h1 h2
  · cases he
end Go.Proofs.YtnomlkkhkacajaaGreatDoor
namespace Go.Proofs.YtnomlkkhkacajaaGreatDoor
open Go.RowKit

def gtB (x y : Nat) : Bool := FloatKind.f64.format.order x y == some .gt
/-- The number of the greatest one of words, the first one of the same. -/
def greT (ps : List Nat) : Nat → Nat
  | 0 => 0
  | k + 1 => if gtB (fth ps k) (fth ps (greT ps k)) then k else greT ps k
theorem greT_lt (ps : List Nat) {n : Nat} (h : 0 < n) : ∀ k, k ≤ n → greT ps k < n
  | 0, _ => h
  | k + 1, hk => by
    unfold greT
    split
    · omega
    · exact greT_lt ps h k (by omega)
theorem gtB_self {x : Nat} (h : Fin Ieee.double x) : gtB x x = false := by
  have e : Ieee.double.order x x = some .eq := order_self h
  unfold gtB
  show (Ieee.double.order x x == some .gt) = false
  rw [e]; rfl
theorem gtB_iff {x y : Nat} (hx : Fin Ieee.double x) (hy : Fin Ieee.double y) : gtB x y = true ↔ val Ieee.double y < val Ieee.double x := by
  obtain ⟨c, e, _, _, h⟩ := order_spec hx hy
  unfold gtB
  show (Ieee.double.order x y == some .gt) = true ↔ _
  rw [e, beq_iff_eq]
  exact ⟨fun q => h.1 (Option.some.inj q), fun q => congrArg some (h.2 q)⟩
theorem greT_one {ps : List Nat} (h : Fin Ieee.double (fth ps 0)) : greT ps 1 = 0 := by
  show (if gtB (fth ps 0) (fth ps 0) then 0 else greT ps 0) = 0
  rw [gtB_self h]; rfl
theorem greT_same {ps qs : List Nat} {n : Nat} (hn : 0 < n) (hp : ∀ i, i < n → Fin Ieee.double (fth ps i)) (hq : ∀ i, i < n → Fin Ieee.double (fth qs i)) (hv : ∀ i, i < n → val Ieee.double (fth ps i) = val Ieee.double (fth qs i)) : ∀ k, k ≤ n → greT ps k = greT qs k
  | 0, _ => rfl
  | k + 1, hk => by
    have ih := greT_same hn hp hq hv k (by omega)
    have hl := greT_lt qs hn k (by omega)
    have e : gtB (fth ps k) (fth ps (greT qs k)) = gtB (fth qs k) (fth qs (greT qs k)) := by
      have h1 := gtB_iff (hp k (by omega)) (hp _ hl)
      have h2 := gtB_iff (hq k (by omega)) (hq _ hl)
      rw [hv k (by omega), hv _ hl, ← h2] at h1
      exact Bool.eq_iff_iff.2 h1
    unfold greT
    rw [ih, e]
/-- The number of the greatest power, if the powers are told. -/
def greO (f : C → Nat) (xs : List C) : Option Nat := (transF xs).map fun l => greT (pwL f l) l.length
theorem greO_same {xs : List C} (hg : Good xs) : greO pwS xs = greO pwI xs := by
  unfold greO
  cases hs : sizB xs
  · rw [transF_no hs]; rfl
  · obtain ⟨_, l, hl, hll, hmd⟩ := hg hs
    rw [hl]
    have hlen := (siz_parts hs).2.2.2.2
    show some _ = some _
    congr 1
    refine greT_same (n := l.length) (by omega) (fun i hi => ?_) (fun i hi => ?_) (fun i hi => ?_) l.length (Nat.le_refl _)
    · rw [fth_pwL hi]; exact (pwS_spec (hmd i (by omega)).1).2.2.1.1
    · rw [fth_pwL hi]; exact (pwI_spec (hmd i (by omega)).1).2.1.1
    · rw [fth_pwL hi, fth_pwL hi]; exact (pwS_spec (hmd i (by omega)).1).2.2.2
/-- A number, and whether it is told. -/
def RetNO (w : World) (o : Option Nat) (e : Ending) (w' : World) : Prop := ∃ v : Int, e = .returned (.tuple #[.int .i64 v, .bool o.isSome]) ∧ (∀ k, o = some k → v = (k : Int)) ∧ -1 ≤ v ∧ v ≤ 16 ∧ Below w.heap.size w w'

set_option maxHeartbeats 2000000 in
set_option maxRecDepth 100000 in
theorem iGreatest (A : Option Addr) (n c : Nat) (xs : List C) (w : World) (hn : n ≤ 1048576) (hx : Cs w A n xs) (hg : Good xs) :
    Calls Tryz.prog 95 #[.slice A n c] w (RetNO w (greO pwI xs)) := by
  have HP : Hid (∀ w, Cs w A n xs → Calls Tryz.prog 124 #[.slice A n c] w (RetF w (pwL pwI ((transF xs).getD [])) (transF xs).isSome)) := fun w h => iPowers A n c xs w hn h hg
  cases ht : transF xs with
  | none =>
    have HN : Hid (greO pwI xs = none) := by show _ = _; unfold greO; rw [ht]; rfl
    rw [ht] at HP
    clear ht hg
    go_enter Tryz.func95, Tryz.ntmps95
    go_wp2_with fail
    refine (HP.out w hx).mono ?_
    rintro e w1 ⟨A1, c1, rfl, ho1, hb1⟩
    have HB1 := Lib.hid hb1
    clear ho1 hb1
    simp only [Option.isSome_none]
    go_wp2_with fail
    go_ret2
    rw [HN.out]
    exact ⟨_, rfl, (fun k h => by cases h), by omega, by omega, HB1.out⟩
  | some l =>
    have HN : Hid (greO pwI xs = some (greT (pwL pwI l) l.length)) := by show _ = _; unfold greO; rw [ht]; rfl
    have hs : sizB xs = true := by
      cases h : sizB xs
      · rw [transF_no h] at ht; cases ht
      · rfl
    obtain ⟨_, l', hl', hll, hmd⟩ := hg hs
    obtain rfl : l = l' := by rw [ht] at hl'; exact Option.some.inj hl'
    obtain ⟨_, _, _, s4, s5⟩ := siz_parts hs
    obtain ⟨N, hN⟩ : ∃ N, N = l.length := ⟨_, rfl⟩
    have h16 : N ≤ 16 := by omega
    have h0 : 0 < N := by omega
    obtain ⟨ps, hps⟩ : ∃ ps, ps = pwL pwI l := ⟨_, rfl⟩
    have hpl : ps.length = N := by rw [hps, pwL_len, hN]
    rw [ht] at HP
    have HPP : Hid (∀ w, Cs w A n xs → Calls Tryz.prog 124 #[.slice A n c] w (RetF w ps true)) := by rw [hps]; exact HP.out
    rw [← hps, ← hN] at HN
    have HPL := Lib.hid hpl
    clear ht hg hmd hs hl' hll s4 s5 hps hN HP hpl
    go_enter Tryz.func95, Tryz.ntmps95
    go_wp2_with fail
    refine (HPP.out w hx).mono ?_
    rintro e w1 ⟨A1, c1, rfl, ho1, hb1⟩
    rw [HPL.out] at ho1 ⊢
    have HX1 : Hid (Sl w1 A1 N (ps.map fv)) := ho1.sl
    have HB1 := Lib.hid hb1
    clear ho1 hb1 hx
    obtain ⟨b, o, rfl, hbl, hc⟩ := HX1.out.flt_at h0
    have HC := Lib.hid hc
    clear hc
    go_wp2_with fail
    go_loopw [6, 18] (fun v i wr => ∃ k : Nat, k ≤ N ∧ i = .int .i64 k ∧ v = .int .i64 (greT ps k) ∧ wr = w1) (fun _ i _ => N - (intOf i).toNat)
    case atStart => first | exact ⟨0, by omega, rfl, rfl, rfl⟩ | ((repeat apply Exists.intro); exact ⟨by omega, rfl, rfl, rfl⟩)
    case round =>
      obtain ⟨k, hk, rfl, rfl, rfl⟩ := hrel
      obtain ⟨g, hge⟩ : ∃ g, g = greT ps k := ⟨_, rfl⟩
      have hgl : g < N := by rw [hge]; exact greT_lt ps h0 k hk
      rw [← hge]
      by_cases hlt : k < N
      · have hck := HC.out k hlt
        have hcg := HC.out g hgl
        have hgi : (g : Int) < (N : Int) := by omega
        cases hgt : gtB (fth ps k) (fth ps g)
        · have HS : Hid (greT ps (k + 1) = g) := by show (if gtB (fth ps k) (fth ps (greT ps k)) then k else greT ps k) = g; rw [← hge, hgt]; rfl
          have q1 : (FloatKind.f64.format.order (fth ps k) (fth ps g) == some .gt) = false := hgt
          clear hgt hge
          generalize fth ps k = u1 at *
          generalize fth ps g = u2 at *
          go_wp2_with fail
          go_roundw
          case rel => exact ⟨k + 1, by omega, by go_num, by rw [HS.out], trivial⟩
          case measure => simp [intOf]; omega
        · have HS : Hid (greT ps (k + 1) = k) := by show (if gtB (fth ps k) (fth ps (greT ps k)) then k else greT ps k) = k; rw [← hge, hgt]; rfl
          have q1 : (FloatKind.f64.format.order (fth ps k) (fth ps g) == some .gt) = true := hgt
          clear hgt hge
          generalize fth ps k = u1 at *
          generalize fth ps g = u2 at *
          go_wp2_with fail
          go_roundw
          case rel => exact ⟨k + 1, by omega, by go_num, by rw [HS.out], trivial⟩
          case measure => simp [intOf]; omega
      · obtain rfl : k = N := by omega
        have HGE := Lib.hid hge
        clear hge
        go_wp2_with fail
        go_ret2
        rw [HN.out]
        exact ⟨_, rfl, (fun j h => by rw [← Option.some.inj h, HGE.out]), by omega, by omega, HB1.out⟩

set_option maxHeartbeats 2000000 in
set_option maxRecDepth 100000 in
theorem sGreatest (A : Option Addr) (n c : Nat) (xs : List C) (w : World) (hn : n ≤ 1048576) (hx : Cs w A n xs) (hg : Good xs) :
    Calls Tryz.prog 55 #[.slice A n c] w (RetNO w (greO pwS xs)) := by
  have HP : Hid (∀ w, Cs w A n xs → Calls Tryz.prog 100 #[.slice A n c] w (RetF w (pwL pwS ((transF xs).getD [])) (transF xs).isSome)) := fun w h => sPowers A n c xs w hn h hg
  cases ht : transF xs with
  | none =>
    have HN : Hid (greO pwS xs = none) := by show _ = _; unfold greO; rw [ht]; rfl
    rw [ht] at HP
    clear ht hg
    go_enter Tryz.func55, Tryz.ntmps55
    go_wp2_with fail
    refine (HP.out w hx).mono ?_
    rintro e w1 ⟨A1, c1, rfl, ho1, hb1⟩
    have HB1 := Lib.hid hb1
    clear ho1 hb1
    simp only [Option.isSome_none]
    go_wp2_with fail
    go_ret2
    rw [HN.out]
    exact ⟨_, rfl, (fun k h => by cases h), by omega, by omega, HB1.out⟩
  | some l =>
    have HN : Hid (greO pwS xs = some (greT (pwL pwS l) l.length)) := by show _ = _; unfold greO; rw [ht]; rfl
    have hs : sizB xs = true := by
      cases h : sizB xs
      · rw [transF_no h] at ht; cases ht
      · rfl
    obtain ⟨_, l', hl', hll, hmd⟩ := hg hs
    obtain rfl : l = l' := by rw [ht] at hl'; exact Option.some.inj hl'
    obtain ⟨_, _, _, s4, s5⟩ := siz_parts hs
    obtain ⟨N, hN⟩ : ∃ N, N = l.length := ⟨_, rfl⟩
    have h16 : N ≤ 16 := by omega
    have h0 : 0 < N := by omega
    obtain ⟨ps, hps⟩ : ∃ ps, ps = pwL pwS l := ⟨_, rfl⟩
    have hpl : ps.length = N := by rw [hps, pwL_len, hN]
    have HF0 : Hid (greT ps 1 = 0) := greT_one (by rw [hps, fth_pwL (by omega)]; exact (pwS_spec (hmd 0 (by omega)).1).2.2.1.1)
    rw [ht] at HP
    have HPP : Hid (∀ w, Cs w A n xs → Calls Tryz.prog 100 #[.slice A n c] w (RetF w ps true)) := by rw [hps]; exact HP.out
    rw [← hps, ← hN] at HN
    have HPL := Lib.hid hpl
    clear ht hg hmd hs hl' hll s4 s5 hps hN HP hpl
    go_enter Tryz.func55, Tryz.ntmps55
    go_wp2_with fail
    refine (HPP.out w hx).mono ?_
    rintro e w1 ⟨A1, c1, rfl, ho1, hb1⟩
    rw [HPL.out] at ho1 ⊢
    have HX1 : Hid (Sl w1 A1 N (ps.map fv)) := ho1.sl
    have HB1 := Lib.hid hb1
    clear ho1 hb1 hx
    obtain ⟨b, o, rfl, hbl, hc⟩ := HX1.out.flt_at h0
    have HC := Lib.hid hc
    clear hc
    go_wp2_with fail
    go_loopw [6, 7] (fun v i wr => ∃ k : Nat, 1 ≤ k ∧ k ≤ N ∧ i = .int .i64 k ∧ v = .int .i64 (greT ps k) ∧ ∃ m, wr = w1.drewN m) (fun _ i _ => N - (intOf i).toNat)
    case atStart => first | exact ⟨1, by omega, by omega, rfl, by rw [HF0.out]; rfl, 0, rfl⟩ | ((repeat apply Exists.intro); exact ⟨by omega, by omega, rfl, by rw [HF0.out]; rfl, rfl⟩)
    case round =>
      obtain ⟨k, hk1, hk, rfl, rfl, m, rfl⟩ := hrel
      obtain ⟨g, hge⟩ : ∃ g, g = greT ps k := ⟨_, rfl⟩
      have hgl : g < N := by rw [hge]; exact greT_lt ps h0 k hk
      rw [← hge]
      by_cases hlt : k < N
      · have hck : (w1.drewN m).cell? ⟨b, o + k, none⟩ = some (.float .f64 (fth ps k)) := HC.out k hlt
        have hcg : (w1.drewN m).cell? ⟨b, o + g, none⟩ = some (.float .f64 (fth ps g)) := HC.out g hgl
        have hgi : (g : Int) < (N : Int) := by omega
        obtain ⟨wr, hwr⟩ : ∃ wr, wr = w1.drewN m := ⟨_, rfl⟩
        rw [← hwr] at hck hcg ⊢
        have HW := Lib.hid hwr
        clear hwr
        cases hgt : gtB (fth ps k) (fth ps g)
        · have HS : Hid (greT ps (k + 1) = g) := by show (if gtB (fth ps k) (fth ps (greT ps k)) then k else greT ps k) = g; rw [← hge, hgt]; rfl
          have q1 : (FloatKind.f64.format.order (fth ps k) (fth ps g) == some .gt) = false := hgt
          clear hgt hge
          generalize fth ps k = u1 at *
          generalize fth ps g = u2 at *
          go_wp2_with fail
          go_quiet (fail)
          go_wp2_with fail
          go_roundw
          case rel => exact ⟨k + 1, by omega, by omega, by go_num, by rw [HS.out], m + nq, by rw [HW.out, World.drewN_drewN]⟩
          case measure => simp [intOf]; omega
        · have HS : Hid (greT ps (k + 1) = k) := by show (if gtB (fth ps k) (fth ps (greT ps k)) then k else greT ps k) = k; rw [← hge, hgt]; rfl
          have q1 : (FloatKind.f64.format.order (fth ps k) (fth ps g) == some .gt) = true := hgt
          clear hgt hge
          generalize fth ps k = u1 at *
          generalize fth ps g = u2 at *
          go_wp2_with fail
          go_quiet (fail)
          go_wp2_with fail
          go_roundw
          case rel => exact ⟨k + 1, by omega, by omega, by go_num, by rw [HS.out], m + nq, by rw [HW.out, World.drewN_drewN]⟩
          case measure => simp [intOf]; omega
      · obtain rfl : k = N := by omega
        have HGE := Lib.hid hge
        clear hge
        go_wp2_with fail
        go_ret2
        rw [HN.out]
        exact ⟨_, rfl, (fun j h => by rw [← Option.some.inj h, HGE.out]), by omega, by omega, below_drewN HB1.out m⟩
end Go.Proofs.YtnomlkkhkacajaaGreatDoor
namespace Go.Proofs.YtnomlkkhkacajaaGreatDoor
open Go.Lib

abbrev Txt := List UInt8
theorem u8_ofNat {d : Nat} (h : d < 208) : (UInt8.ofNat (48 + d)).toNat = 48 + d := by
  rw [UInt8.toNat_ofNat']
  omega
theorem u8_of_digit {c : UInt8} (h : 48 ≤ c.toNat) : UInt8.ofNat (48 + (c.toNat - 48)) = c := by
  apply UInt8.toNat_inj.1
  rw [UInt8.toNat_ofNat']
  have := c.toNat_lt
  omega
theorem decDigits_ne (u : Nat) : decDigits u ≠ [] := by
  intro h
  have h1 := decDigits_length u
  rw [h] at h1
  have h2 := nDigits_pos u
  simp at h1
  omega
/-- Every byte of a numeral is a digit. -/
theorem decDigits_digit (u : Nat) : ∀ c ∈ decDigits u, 48 ≤ c.toNat ∧ c.toNat ≤ 57 := by
  induction u using Nat.strongRecOn with
  | _ u ih =>
    intro c hc
    by_cases h : u < 10
    · rw [decDigits_one h, List.mem_singleton] at hc
      rw [hc, u8_ofNat (by omega)]; omega
    · rw [decDigits, dif_neg h, List.mem_append, List.mem_singleton] at hc
      rcases hc with hc | hc
      · exact ih (u / 10) (by omega) c hc
      · rw [hc, u8_ofNat (by omega)]; omega
theorem itoa_byte (n : Int) : ∀ c ∈ itoa n, c.toNat = 45 ∨ (48 ≤ c.toNat ∧ c.toNat ≤ 57) := by
  intro c hc
  unfold itoa at hc
  split at hc
  · rcases List.mem_cons.1 hc with h | h
    · left; rw [h]; rfl
    · exact .inr (decDigits_digit _ c h)
  · exact .inr (decDigits_digit _ c hc)
theorem itoa_ne (n : Int) : itoa n ≠ [] := by
  unfold itoa
  split
  · simp
  · exact decDigits_ne _
theorem nDigits_le : ∀ (k u : Nat), 1 ≤ k → u < 10 ^ k → nDigits u ≤ k
  | 0, _, h, _ => by omega
  | k + 1, u, _, hu => by
    by_cases h : u < 10
    · rw [nDigits_small h]; omega
    · rw [nDigits_big h]
      have hk : 1 ≤ k := by
        rcases Nat.eq_zero_or_pos k with h0 | h0
        · subst h0; simp at hu; omega
        · exact h0
      have := nDigits_le k (u / 10) hk (by rw [Nat.pow_succ] at hu; omega)
      omega
theorem decFrom_append : ∀ (a b : Txt) (acc : Nat), decFrom acc (a ++ b) = (decFrom acc a).bind fun v => decFrom v b
  | [], b, acc => rfl
  | c :: r, b, acc => by
    simp only [List.cons_append, decFrom]
    cases digitVal c with
    | none => rfl
    | some d => exact decFrom_append r b _
theorem digitVal_of {c : UInt8} (h1 : 48 ≤ c.toNat) (h2 : c.toNat ≤ 57) : digitVal c = some (c.toNat - 48) := by
  unfold digitVal; rw [if_pos ⟨h1, h2⟩]
theorem digitVal_some {c : UInt8} {d : Nat} (h : digitVal c = some d) : 48 ≤ c.toNat ∧ c.toNat ≤ 57 ∧ d = c.toNat - 48 := by
  unfold digitVal at h
  split at h
  · rename_i h1; cases h; exact ⟨h1.1, h1.2, rfl⟩
  · cases h
theorem decFrom_one (acc : Nat) (c : UInt8) (h1 : 48 ≤ c.toNat) (h2 : c.toNat ≤ 57) : decFrom acc [c] = some (acc * 10 + (c.toNat - 48)) := by
  simp [decFrom, digitVal_of h1 h2]
/-- A numeral spells its number. -/
theorem decFrom_dec (u : Nat) : decFrom 0 (decDigits u) = some u := by
  induction u using Nat.strongRecOn with
  | _ u ih =>
    by_cases h : u < 10
    · rw [decDigits_one h, decFrom_one 0 _ (by rw [u8_ofNat (by omega)]; omega) (by rw [u8_ofNat (by omega)]; omega), u8_ofNat (by omega)]
      congr 1; omega
    · rw [decDigits, dif_neg h, decFrom_append, ih (u / 10) (by omega)]
      show decFrom (u / 10) _ = _
      rw [decFrom_one _ _ (by rw [u8_ofNat (by omega)]; omega) (by rw [u8_ofNat (by omega)]; omega), u8_ofNat (by omega)]
      congr 1; omega
/-- What spells a number without a nought ahead is its numeral. -/
theorem dec_of_decFrom (l : Txt) : ∀ u, l ≠ [] → decFrom 0 l = some u → (∀ r, l = 48 :: r → r = []) → decDigits u = l := by
  induction hn : l.length using Nat.strongRecOn generalizing l with
  | _ n ih =>
    intro u hne hd hz
    obtain ⟨a, c, rfl⟩ : ∃ a c, l = a ++ [c] := ⟨l.dropLast, l.getLast hne, (List.dropLast_concat_getLast hne).symm⟩
    rw [decFrom_append] at hd
    cases ha : decFrom 0 a with
    | none => rw [ha] at hd; cases hd
    | some v =>
      rw [ha] at hd
      have hd' : decFrom v [c] = some u := hd
      have hc : ∃ d, digitVal c = some d := digit_of_decFrom [c] v u hd' 0 c rfl
      obtain ⟨d, hc⟩ := hc
      obtain ⟨h1, h2, h3⟩ := digitVal_some hc
      rw [decFrom_one v c h1 h2] at hd'
      injection hd' with hu
      by_cases hae : a = []
      · subst hae
        simp only [decFrom, Option.some.injEq] at ha
        subst ha
        rw [decDigits_one (by omega), show u = c.toNat - 48 by omega, u8_of_digit h1]
        rfl
      · have hav : decDigits v = a := ih a.length (by rw [← hn]; simp) a rfl v hae ha (by
          rintro r rfl
          have := hz (r ++ [c]) rfl
          simp at this)
        have hv : 1 ≤ v := by
          rcases Nat.eq_zero_or_pos v with h0 | h0
          · subst h0
            rw [decDigits_one (by omega)] at hav
            have := hz [c] (by rw [← hav]; rfl)
            simp at this
          · exact h0
        rw [decDigits, dif_neg (by omega), show u / 10 = v by omega, hav, show u % 10 = c.toNat - 48 by omega, u8_of_digit h1]
theorem parseUint10_append : ∀ (a b : Txt) (acc v : Nat), parseUint10 acc a = .ok v → parseUint10 acc (a ++ b) = parseUint10 v b
  | [], b, acc, v, h => by simp only [parseUint10, NumEnd.ok.injEq] at h; subst h; rfl
  | c :: r, b, acc, v, h => by
    simp only [List.cons_append, parseUint10] at h ⊢
    split at h
    · rename_i h1
      rw [if_pos h1]
      split at h
      · cases h
      · rename_i h2
        rw [if_neg h2]
        split at h
        · cases h
        · rename_i h3
          rw [if_neg h3]
          exact parseUint10_append r b _ v h
    · cases h
theorem parseUint10_one (acc : Nat) (c : UInt8) (h1 : 48 ≤ c.toNat) (h2 : c.toNat ≤ 57) (h3 : acc * 10 + (c.toNat - 48) < 18446744073709551616) : parseUint10 acc [c] = .ok (acc * 10 + (c.toNat - 48)) := by
  simp only [parseUint10]
  rw [if_pos ⟨h1, h2⟩, if_neg (by omega), if_neg (by omega)]
theorem parse_dec (u : Nat) (hu : u < 18446744073709551616) : parseUint10 0 (decDigits u) = .ok u := by
  induction u using Nat.strongRecOn with
  | _ u ih =>
    by_cases h : u < 10
    · rw [decDigits_one h, parseUint10_one 0 _ (by rw [u8_ofNat (by omega)]; omega) (by rw [u8_ofNat (by omega)]; omega) (by rw [u8_ofNat (by omega)]; omega), u8_ofNat (by omega)]
      congr 1; omega
    · rw [decDigits, dif_neg h, parseUint10_append _ _ _ _ (ih (u / 10) (by omega) (by omega)), parseUint10_one _ _ (by rw [u8_ofNat (by omega)]; omega) (by rw [u8_ofNat (by omega)]; omega) (by rw [u8_ofNat (by omega)]; omega), u8_ofNat (by omega)]
      congr 1; omega
theorem atoiAll_itoa (n : Int) (h0 : -9223372036854775808 ≤ n) (h1 : n ≤ 9223372036854775807) : atoiAll (itoa n) = .ok n := by
  by_cases hn : n < 0
  · unfold itoa
    rw [if_pos hn, atoiAll_minus]
    have hp : parseMag (decDigits n.natAbs) = .ok n.natAbs := by
      unfold parseMag
      rw [if_neg (decDigits_ne _), parse_dec _ (by omega)]
    rw [hp]
    simp only [signed]
    rw [if_neg (by omega)]
    exact congrArg NumEnd.ok (show -(n.natAbs : Int) = n by omega)
  · have e0 : itoa n = decDigits n.toNat := by unfold itoa; rw [if_neg hn]
    rw [e0]
    cases hd : decDigits n.toNat with
    | nil => exact absurd hd (decDigits_ne _)
    | cons c r =>
      have hc := decDigits_digit n.toNat c (by rw [hd]; exact List.mem_cons_self)
      have hp : parseMag (c :: r) = .ok n.toNat := by
        rw [← hd]
        unfold parseMag
        rw [if_neg (decDigits_ne _), parse_dec _ (by omega)]
      rw [atoiAll_plain c r (by omega) (by omega), hp]
      simp only [signless]
      rw [if_neg (by omega)]
      exact congrArg NumEnd.ok (show (n.toNat : Int) = n by omega)

/-- The number that a text is in decimal, from lo on and at most hi. -/
def whole? (l : Txt) (lo hi : Int) : Option Int := match atoiAll l with
  | .ok n => if lo ≤ n ∧ n ≤ hi ∧ itoa n = l then some n else none
  | _ => none
theorem whole?_iff {l : Txt} {lo hi n : Int} (hlo : -9223372036854775808 ≤ lo) (hhi : hi ≤ 9223372036854775807) : whole? l lo hi = some n ↔ l = itoa n ∧ lo ≤ n ∧ n ≤ hi := by
  constructor
  · intro h
    unfold whole? at h
    split at h
    · split at h
      · rename_i h1; cases h; exact ⟨h1.2.2.symm, h1.1, h1.2.1⟩
      · cases h
    · cases h
  · rintro ⟨rfl, h1, h2⟩
    unfold whole?
    rw [atoiAll_itoa n (by omega) (by omega)]
    simp [h1, h2]
/-- A number of one to seven digits, without noughts ahead. -/
def digs0 (l : Txt) : Option Nat := if l.length < 1 ∨ 7 < l.length ∨ (1 < l.length ∧ l.head? = some 48) then none else decFrom 0 l
def digs (l : Txt) : Option Int := if 1 < l.length ∧ l.head? = some 45 then (digs0 l.tail).bind fun u => if 0 < u then some (-(u : Int)) else none else (digs0 l).map Int.ofNat
theorem digs0_iff {l : Txt} {u : Nat} : digs0 l = some u ↔ l = decDigits u ∧ u < 10000000 := by
  unfold digs0
  constructor
  · intro h
    split at h
    · cases h
    · rename_i h1
      have hne : l ≠ [] := by rintro rfl; simp at h1
      have e := dec_of_decFrom l u hne h (by
        rintro r rfl
        cases r with
        | nil => rfl
        | cons b r => exact absurd (Or.inr (Or.inr ⟨by simp, rfl⟩)) h1)
      refine ⟨e.symm, ?_⟩
      have h2 := lt_pow_nDigits u
      rw [← decDigits_length, e] at h2
      have h3 : (10 : Nat) ^ l.length ≤ 10 ^ 7 := Nat.pow_le_pow_right (by omega) (by omega)
      have h4 : (10 : Nat) ^ 7 = 10000000 := by decide
      omega
  · rintro ⟨rfl, h1⟩
    rw [if_neg, decFrom_dec]
    rintro (h | h | h)
    · have := nDigits_pos u; rw [decDigits_length] at h; omega
    · have := nDigits_le 7 u (by omega) (by simpa using h1); rw [decDigits_length] at h; omega
    · have hu : ¬ u < 10 := by
        intro h2; rw [decDigits_one h2] at h; simp at h
      have : ∀ v, 1 ≤ v → (decDigits v).head? ≠ some 48 := by
        intro v
        induction v using Nat.strongRecOn with
        | _ v ih =>
          intro hv
          by_cases h2 : v < 10
          · rw [decDigits_one h2]
            intro h3
            simp only [List.head?_cons, Option.some.injEq] at h3
            have h4 := congrArg UInt8.toNat h3
            rw [u8_ofNat (by omega)] at h4
            have : (48 : UInt8).toNat = 48 := rfl
            omega
          · rw [decDigits, dif_neg h2]
            intro h3
            refine ih (v / 10) (by omega) (by omega) ?_
            cases hd : decDigits (v / 10) with
            | nil => exact absurd hd (decDigits_ne _)
            | cons b r => rw [hd] at h3; simpa using h3
      exact this u (by omega) h.2
theorem digs_iff {l : Txt} {n : Int} : digs l = some n ↔ l = itoa n ∧ -9999999 ≤ n ∧ n ≤ 9999999 := by
  unfold digs
  constructor
  · intro h
    split at h
    · rename_i h1
      cases l with
      | nil => simp at h1
      | cons c r =>
        simp only [List.head?_cons, Option.some.injEq, List.tail_cons] at h1 h
        obtain ⟨_, rfl⟩ := h1
        cases hd : digs0 r with
        | none => rw [hd] at h; cases h
        | some u =>
          rw [hd] at h
          simp only [Option.bind_some] at h
          split at h
          · cases h
            obtain ⟨h2, h3⟩ := digs0_iff.1 hd
            rw [itoa_neg u (by omega), h2]
            exact ⟨rfl, by omega, by omega⟩
          · cases h
    · cases hd : digs0 l with
      | none => rw [hd] at h; cases h
      | some u =>
        rw [hd] at h
        cases h
        obtain ⟨h2, h3⟩ := digs0_iff.1 hd
        show _ = itoa (u : Int) ∧ -9999999 ≤ (u : Int) ∧ (u : Int) ≤ 9999999
        rw [itoa_nonneg]
        exact ⟨h2, by omega, by omega⟩
  · rintro ⟨rfl, h1, h2⟩
    by_cases hn : n < 0
    · obtain ⟨u, rfl⟩ : ∃ u : Nat, n = -(u : Int) := ⟨n.natAbs, by omega⟩
      rw [itoa_neg u (by omega)]
      have hne : 1 < (45 :: decDigits u).length := by
        have := nDigits_pos u
        rw [List.length_cons, decDigits_length]; omega
      rw [if_pos ⟨hne, rfl⟩, List.tail_cons, digs0_iff.2 ⟨rfl, by omega⟩]
      simp only [Option.bind_some]
      rw [if_pos (by omega)]
    · obtain ⟨u, rfl⟩ : ∃ u : Nat, n = u := ⟨n.toNat, by omega⟩
      rw [itoa_nonneg, if_neg, digs0_iff.2 ⟨rfl, by omega⟩]
      · rfl
      · rintro ⟨_, h3⟩
        cases hd : decDigits u with
        | nil => exact decDigits_ne u hd
        | cons c r =>
          rw [hd] at h3
          have h4 := decDigits_digit u c (by rw [hd]; exact List.mem_cons_self)
          simp only [List.head?_cons, Option.some.injEq] at h3
          subst h3
          exact absurd h4.1 (by decide)
theorem whole?_digs (l : Txt) : whole? l (-9999999) 9999999 = digs l := by
  cases h : digs l with
  | some n => exact (whole?_iff (by omega) (by omega)).2 (digs_iff.1 h)
  | none =>
    cases h2 : whole? l (-9999999) 9999999 with
    | none => rfl
    | some n => rw [digs_iff.2 ((whole?_iff (by omega) (by omega)).1 h2)] at h; cases h
end Go.Proofs.YtnomlkkhkacajaaGreatDoor
