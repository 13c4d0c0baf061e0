/- Texts on the way to a law (Lv, O1, O2), each with its own remark. -/
import Derived.Test.YtnomlkkhkacajaaGreatDoorPB16
import Derived.Test.YtnomlkkhkacajaaGreatDoorPB17
import Derived.Test.YtnomlkkhkacajaaGreatDoorPB12
namespace Go.Proofs.YtnomlkkhkacajaaGreatDoor
open Go.RowKit

/-- Rounding does not pass a bound that is a word. -/
theorem rnd_le {f : Ieee.Format} {q : Rat} {r n : Nat} {e : Int} (h : Rnd f q r) (hn : n < 2 * f.binade) (he : f.leastPlace ≤ e) (hlt : (n : Rat) * p2 e < rv f f.infRung) (h1 : q ≤ (n : Rat) * p2 e) (h2 : -((n : Rat) * p2 e) ≤ q) :
    Fin f r ∧ val f r ≤ (n : Rat) * p2 e ∧ -((n : Rat) * p2 e) ≤ val f r := by
  obtain ⟨z, hz, hv⟩ := repr_ex f hn he hlt
  have := h.le hz (by rw [hv]; exact h1) (by rw [hv]; exact h2)
  rw [hv] at this
  exact this
theorem le_p2 {n : Nat} {a : Int} {k : Nat} (h : n ≤ 2 ^ k) : (n : Rat) * p2 a ≤ p2 (a + k) := by
  rw [p2_add, p2_nat, Rat.mul_comm]
  exact Rat.mul_le_mul_of_nonneg_left (Rat.natCast_le_natCast.2 h) (Rat.le_of_lt (p2_pos a))
theorem lt_inf32 {n : Nat} {a : Int} (h : n ≤ 16) (ha : a ≤ 123) : (n : Rat) * p2 a < rv Ieee.single Ieee.single.infRung := by
  rw [inf32]
  have h1 : (n : Rat) * p2 a ≤ p2 (a + (4 : Nat)) := le_p2 (by omega)
  have h2 : 2 * p2 (a + (4 : Nat)) ≤ p2 128 := p2_lt (by omega)
  have := p2_pos (a + (4 : Nat))
  grind
theorem lt_inf64 {n : Nat} {a : Int} (h : n ≤ 16) (ha : a ≤ 1000) : (n : Rat) * p2 a < rv Ieee.double Ieee.double.infRung := by
  rw [inf64]
  have h1 : (n : Rat) * p2 a ≤ p2 (a + (4 : Nat)) := le_p2 (by omega)
  have h2 : 2 * p2 (a + (4 : Nat)) ≤ p2 1024 := p2_lt (by omega)
  have := p2_pos (a + (4 : Nat))
  grind
/-- Both parts are words, and n times a power of two at most. -/
def Pb (z : C) (n : Nat) (a : Int) : Prop := finB z = true ∧ (val Ieee.single z.1 ≤ (n : Rat) * p2 a ∧ -((n : Rat) * p2 a) ≤ val Ieee.single z.1) ∧ (val Ieee.single z.2 ≤ (n : Rat) * p2 a ∧ -((n : Rat) * p2 a) ≤ val Ieee.single z.2)
theorem one_mul_p2 (a : Int) : ((1 : Nat) : Rat) * p2 a = p2 a := by
  have : ((1 : Nat) : Rat) = 1 := rfl
  rw [this, Rat.one_mul]
theorem Pb.up {z : C} {n : Nat} {a b : Int} {k : Nat} (h : Pb z n a) (hn : n ≤ 2 ^ k) (hb : a + k ≤ b) : Pb z 1 b := by
  obtain ⟨hf, ⟨h1, h2⟩, ⟨h3, h4⟩⟩ := h
  have l1 : (n : Rat) * p2 a ≤ p2 (a + k) := le_p2 hn
  have l2 : p2 (a + k) ≤ p2 b := p2_mono hb
  unfold Pb
  rw [one_mul_p2]
  exact ⟨hf, ⟨by grind, by grind⟩, ⟨by grind, by grind⟩⟩
theorem Pb.mono {z : C} {a b : Int} (h : Pb z 1 a) (hb : a ≤ b) : Pb z 1 b := h.up (k := 0) (by decide) (by omega)
/-- Of a turn no part is more than 1. -/
theorem turn_part (k : Int) : (val Ieee.single (turnC k).1 ≤ 1 ∧ -1 ≤ val Ieee.single (turnC k).1) ∧ (val Ieee.single (turnC k).2 ≤ 1 ∧ -1 ≤ val Ieee.single (turnC k).2) := by
  unfold turnC
  split
  · have h0 := Int.emod_nonneg k (show (16 : Int) ≠ 0 by decide)
    have h1 := Int.emod_lt_of_pos k (show (0 : Int) < 16 by decide)
    obtain ⟨j, hj⟩ : ∃ j, j = (k % 16).toNat := ⟨_, rfl⟩
    rw [← hj]
    have : j = 0 ∨ j = 1 ∨ j = 2 ∨ j = 3 ∨ j = 4 ∨ j = 5 ∨ j = 6 ∨ j = 7 ∨ j = 8 ∨ j = 9 ∨ j = 10 ∨ j = 11 ∨ j = 12 ∨ j = 13 ∨ j = 14 ∨ j = 15 := by omega
    rcases this with rfl | rfl | rfl | rfl | rfl | rfl | rfl | rfl | rfl | rfl | rfl | rfl | rfl | rfl | rfl | rfl <;> simp only [nth, turnL, List.getD_cons_succ, List.getD_cons_zero, w_one.2, w_mone.2, w_c.2, w_mc.2, w_d.2, w_md.2, w_e.2, w_me.2, zero32.2] <;> decide +kernel
  · simp only [zero32.2]; decide +kernel
theorem mul_part {x t B : Rat} (h1 : x ≤ B) (h2 : -B ≤ x) (t1 : t ≤ 1) (t2 : -1 ≤ t) : x * t ≤ B ∧ -B ≤ x * t := by
  have k1 := Rat.mul_nonneg (show 0 ≤ B - x by grind) (show 0 ≤ 1 + t by grind)
  have k2 := Rat.mul_nonneg (show 0 ≤ B + x by grind) (show 0 ≤ 1 - t by grind)
  have k3 := Rat.mul_nonneg (show 0 ≤ B - x by grind) (show 0 ≤ 1 - t by grind)
  have k4 := Rat.mul_nonneg (show 0 ≤ B + x by grind) (show 0 ≤ 1 + t by grind)
  constructor <;> grind
/-- A product in double precision with a part of at most 1. -/
theorem m64_pb {x y : Nat} {a : Int} (hx : Fin Ieee.single x) (hy : Fin Ieee.single y) (ha : -149 ≤ a) (ha2 : a ≤ 1000) (h1 : val Ieee.single x ≤ p2 a) (h2 : -p2 a ≤ val Ieee.single x) (t1 : val Ieee.single y ≤ 1) (t2 : -1 ≤ val Ieee.single y) :
    Fin Ieee.double (m64 x y) ∧ val Ieee.double (m64 x y) ≤ p2 a ∧ -p2 a ≤ val Ieee.double (m64 x y) := by
  obtain ⟨_, r, _⟩ := m64_spec hx hy
  obtain ⟨q1, q2⟩ := mul_part h1 h2 t1 t2
  have := rnd_le (n := 1) (e := a) r (by decide) (Int.le_trans (by decide) ha) (lt_inf64 (by decide) ha2) (by rw [one_mul_p2]; exact q1) (by rw [one_mul_p2]; exact q2)
  rw [one_mul_p2] at this
  exact this
theorem mul_pb {z t : C} {a : Int} (hz : Pb z 1 a) (ht : finB t = true) (t1 : val Ieee.single t.1 ≤ 1 ∧ -1 ≤ val Ieee.single t.1) (t2 : val Ieee.single t.2 ≤ 1 ∧ -1 ≤ val Ieee.single t.2) (h1 : -149 ≤ a) (h2 : a ≤ 122) : Pb (mulC z t) 1 (a + 1) := by
  obtain ⟨hf, ⟨z1, z2⟩, ⟨z3, z4⟩⟩ := hz
  rw [one_mul_p2] at z1 z2 z3 z4
  obtain ⟨fa, fb⟩ := finB_iff.1 hf
  obtain ⟨fc, fd⟩ := finB_iff.1 ht
  obtain ⟨_, rr, fr⟩ := re64_spec hf ht
  obtain ⟨_, ri, fi⟩ := im64_spec hf ht
  obtain ⟨nr, ni⟩ := mulC_rnd hf ht
  obtain ⟨_, a1, a2⟩ := m64_pb fa fc h1 (by omega) z1 z2 t1.1 t1.2
  obtain ⟨_, b1, b2⟩ := m64_pb fb fd h1 (by omega) z3 z4 t2.1 t2.2
  obtain ⟨_, c1, c2⟩ := m64_pb fa fd h1 (by omega) z1 z2 t2.1 t2.2
  obtain ⟨_, d1, d2⟩ := m64_pb fb fc h1 (by omega) z3 z4 t1.1 t1.2
  have e1 : p2 (a + 1) = 2 * p2 a := p2_succ a
  have k1 := rnd_le (n := 1) (e := a + 1) rr (by decide) (Int.le_trans (by decide) (show -149 ≤ a + 1 by omega)) (lt_inf64 (by decide) (by omega)) (by rw [one_mul_p2, e1]; grind) (by rw [one_mul_p2, e1]; grind)
  have k2 := rnd_le (n := 1) (e := a + 1) ri (by decide) (Int.le_trans (by decide) (show -149 ≤ a + 1 by omega)) (lt_inf64 (by decide) (by omega)) (by rw [one_mul_p2, e1]; grind) (by rw [one_mul_p2, e1]; grind)
  have l1 := rnd_le (n := 1) (e := a + 1) nr (by decide) (Int.le_trans (by decide) (show -149 ≤ a + 1 by omega)) (lt_inf32 (by decide) (by omega)) k1.2.1 k1.2.2
  have l2 := rnd_le (n := 1) (e := a + 1) ni (by decide) (Int.le_trans (by decide) (show -149 ≤ a + 1 by omega)) (lt_inf32 (by decide) (by omega)) k2.2.1 k2.2.2
  exact ⟨finB_iff.2 ⟨l1.1, l2.1⟩, l1.2, l2.2⟩
theorem add_pb {s p : C} {i : Nat} {a : Int} (hs : Pb s i a) (hp : Pb p 1 a) (hi : i < 16) (h1 : -149 ≤ a) (h2 : a ≤ 123) : Pb (addC s p) (i + 1) a := by
  obtain ⟨fs, ⟨s1, s2⟩, ⟨s3, s4⟩⟩ := hs
  obtain ⟨fp, ⟨p1, p2'⟩, ⟨p3, p4⟩⟩ := hp
  obtain ⟨_, r1, r2⟩ := addC_spec fs fp
  have e : ((i + 1 : Nat) : Rat) * p2 a = (i : Rat) * p2 a + ((1 : Nat) : Rat) * p2 a := by
    have c : ((i + 1 : Nat) : Rat) = (i : Rat) + 1 := by push_cast; rfl
    have c1 : ((1 : Nat) : Rat) = 1 := rfl
    rw [c, c1]; grind
  have hb : i + 1 < 2 * Ieee.single.binade := Nat.lt_of_lt_of_le (show i + 1 < 17 by omega) (by decide)
  have k1 := rnd_le (n := i + 1) (e := a) r1 hb (Int.le_trans (by decide) h1) (lt_inf32 (by omega) h2) (by rw [e]; grind) (by rw [e]; grind)
  have k2 := rnd_le (n := i + 1) (e := a) r2 hb (Int.le_trans (by decide) h1) (lt_inf32 (by omega) h2) (by rw [e]; grind) (by rw [e]; grind)
  exact ⟨finB_iff.2 ⟨k1.1, k2.1⟩, k1.2, k2.2⟩
/-- No number of a signal has a part that is more than a power of two. -/
def Lv (xs : List C) (a : Int) : Prop := ∀ i, i < xs.length → Pb (nth xs i) 1 a
theorem Lv.mono {xs : List C} {a b : Int} (h : Lv xs a) (hb : a ≤ b) : Lv xs b := fun i hi => (h i hi).mono hb
theorem Lv.prod {xs : List C} {a : Int} (h : Lv xs a) (h1 : -149 ≤ a) (h2 : a ≤ 122) {b : Int} {i : Nat} (hi : i < xs.length) : Pb (prodT xs b i) 1 (a + 1) :=
  mul_pb (h i hi) (turnC_fin _) (turn_part _).1 (turn_part _).2 h1 h2
theorem Lv.sum {xs : List C} {a : Int} (h : Lv xs a) (hl : xs.length ≤ 16) (h1 : -149 ≤ a) (h2 : a ≤ 122) {b : Int} : ∀ i, i ≤ xs.length → ∃ s, sumT xs b i = some s ∧ Pb s i (a + 1)
  | 0, _ => ⟨(0, 0), rfl, by decide, by simp only [zero32.2]; have := p2_pos (a + 1); have c : ((0 : Nat) : Rat) = 0 := rfl; rw [c]; constructor <;> grind, by simp only [zero32.2]; have := p2_pos (a + 1); have c : ((0 : Nat) : Rat) = 0 := rfl; rw [c]; constructor <;> grind⟩
  | i + 1, hi => by
    obtain ⟨s, e, hs⟩ := h.sum hl h1 h2 (b := b) i (by omega)
    have hp := h.prod h1 h2 (b := b) (i := i) (by omega)
    have ha := add_pb hs hp (by omega) (by omega) (by omega)
    refine ⟨addC s (prodT xs b i), ?_, ha⟩
    show sumStep (sumT xs b i) _ = _
    rw [e]
    unfold sumStep
    rw [Option.bind_some, hp.1, ha.1]; rfl
theorem Lv.prodOk {xs : List C} {a : Int} (h : Lv xs a) (h1 : -149 ≤ a) (h2 : a ≤ 122) (s : Int) : ProdOk xs s := fun _ _ _ hi => (h.prod h1 h2 hi).1
theorem Lv.trans {xs : List C} {a : Int} (h : Lv xs a) (h1 : -149 ≤ a) (h2 : a ≤ 122) (hs : sizB xs = true) : ∃ l, transF xs = some l ∧ l.length = xs.length ∧ Lv l (a + 5) := by
  obtain ⟨_, _, _, hl, _⟩ := siz_parts hs
  obtain ⟨l, e, hll, hq⟩ := allT_all (f := fun k => sumT xs (bk xs.length (-(k : Int))) xs.length) (Q := fun _ z => Pb z 1 (a + 5)) xs.length fun k _ => by
    obtain ⟨s, e, hs⟩ := h.sum hl h1 h2 (b := bk xs.length (-(k : Int))) xs.length (Nat.le_refl _)
    exact ⟨s, e, hs.up (k := 4) hl (by omega)⟩
  exact ⟨l, by rw [transF_yes hs rfl]; exact e, hll, fun i hi => hq i (by omega)⟩
theorem quo_part {v : Rat} {n : Int} {B : Rat} (hn : 1 ≤ n) (h1 : v ≤ B) (h2 : -B ≤ v) : v / (n : Rat) ≤ B ∧ -B ≤ v / (n : Rat) := by
  have h := div_absR (v := v) hn
  have l1 := le_absR (v / (n : Rat))
  have l2 := neg_le_absR (v / (n : Rat))
  have l3 := absR_le h1 h2
  constructor <;> grind
theorem quo_pb {z : C} {c32 c : Nat} {n : Int} {a : Int} (hc : P2W c32 c n) (hz : Pb z 1 a) (h1 : -149 ≤ a) (h2 : a ≤ 123) : Pb (quoC z c) 1 a := by
  obtain ⟨hf, ⟨z1, z2⟩, ⟨z3, z4⟩⟩ := hz
  obtain ⟨hq, r1, r2, n1, n2⟩ := quoC_rnd hc hf
  obtain ⟨q1, q2⟩ := quo_part hc.pos z1 z2
  obtain ⟨q3, q4⟩ := quo_part hc.pos z3 z4
  have k1 := rnd_le (n := 1) (e := a) r1 (by decide) (Int.le_trans (by decide) h1) (lt_inf64 (by decide) (by omega)) q1 q2
  have k2 := rnd_le (n := 1) (e := a) r2 (by decide) (Int.le_trans (by decide) h1) (lt_inf64 (by decide) (by omega)) q3 q4
  have l1 := rnd_le (n := 1) (e := a) n1 (by decide) (Int.le_trans (by decide) h1) (lt_inf32 (by decide) h2) k1.2.1 k1.2.2
  have l2 := rnd_le (n := 1) (e := a) n2 (by decide) (Int.le_trans (by decide) h1) (lt_inf32 (by decide) h2) k2.2.1 k2.2.2
  exact ⟨hq, l1.2, l2.2⟩
theorem Lv.back {xs : List C} {a : Int} (h : Lv xs a) (h1 : -149 ≤ a) (h2 : a ≤ 118) (hs : sizB xs = true) : ∃ l, backF xs = some l ∧ l.length = xs.length ∧ Lv l (a + 5) := by
  obtain ⟨hp, _, _, hl, _⟩ := siz_parts hs
  obtain ⟨l, e, hll, hq⟩ := allT_all (f := bakZ xs xs.length) (Q := fun _ z => Pb z 1 (a + 5)) xs.length fun k _ => by
    obtain ⟨s, e, hs⟩ := h.sum hl h1 (by omega) (b := bk xs.length (k : Int)) xs.length (Nat.le_refl _)
    exact ⟨_, bakZ_some e, quo_pb (p2w_of hp) (hs.up (k := 4) hl (by omega)) (by omega) (by omega)⟩
  exact ⟨l, by rw [backF_yes hs rfl]; exact e, hll, fun i hi => hq i (by omega)⟩
theorem Lv.fin {xs : List C} {a : Int} (h : Lv xs a) : xs.all finB = true := List.all_eq_true.2 fun z hz => by
  obtain ⟨i, hi, rfl⟩ := List.mem_iff_getElem.1 hz
  have := (h i hi).1
  rw [nth_eq hi] at this
  exact this
theorem Pb.md {z : C} {a : Int} (h : Pb z 1 a) (ha : a ≤ 126) : Md z K1 := by
  obtain ⟨hf, ⟨z1, z2⟩, ⟨z3, z4⟩⟩ := h
  rw [one_mul_p2] at z1 z2 z3 z4
  have l1 : p2 a ≤ p2 126 := p2_mono ha
  have l2 : p2 126 = 67108864 * U := U_of 26
  have hU := U_pos
  refine md_parts (a := p2 126) (b := p2 126) hf (by grind) (by grind) (by grind) (by grind) (by unfold K1; grind) ?_
  rw [l2]
  unfold K1
  have := sq_nn U
  grind
theorem Lv.small {xs : List C} {a : Int} (h : Lv xs a) (ha : a ≤ 126) : Small xs := fun i hi => (h i hi).md ha
theorem Lv.good {xs : List C} {a : Int} (h : Lv xs a) (h1 : -149 ≤ a) (h2 : a ≤ 121) : Good xs := fun hs => by
  obtain ⟨l, e, hll, hq⟩ := h.trans h1 (by omega) hs
  exact ⟨h.prodOk h1 (by omega) _, l, e, hll, fun i hi => (hq i (by omega)).md (by omega)⟩
theorem Lv.rng {f : Nat → C} {n : Nat} {a : Int} (h : ∀ i, i < n → Pb (f i) 1 a) : Lv (rngL f n) a := fun i hi => by
  rw [rngL_len] at hi
  rw [rngL_nth hi]
  exact h i hi
theorem Lv.mov {xs : List C} {a : Int} (h : Lv xs a) (b : Int) : Lv (movL xs xs.length b) a := Lv.rng fun i hi => by
  refine h _ ?_
  have hn : (0 : Int) < (xs.length : Int) := by omega
  have h1 := Int.emod_nonneg ((i : Int) - b) (show (xs.length : Int) ≠ 0 by omega)
  have h2 := Int.emod_lt_of_pos ((i : Int) - b) hn
  omega
theorem Lv.nil (a : Int) : Lv [] a := fun i hi => absurd hi (by simp)
/-- Read thousandths are small. -/
theorem milli_pb (a b : Int) : Pb (milli a b) 1 14 := by
  have h14 : p2 14 = 16384 := by rw [show (14 : Int) = ((14 : Nat) : Int) from rfl, p2_nat]; rfl
  unfold Pb
  rw [one_mul_p2, h14]
  by_cases h : (milB a && milB b) = true
  · have e : milli a b = (mp a, mp b) := by unfold milli; rw [if_pos h]
    rw [Bool.and_eq_true] at h
    obtain ⟨a1, a2⟩ := inB_iff.1 h.1
    obtain ⟨b1, b2⟩ := inB_iff.1 h.2
    obtain ⟨fa, _, _, va1, va2⟩ := mp_spec a1 a2
    obtain ⟨fb, _, _, vb1, vb2⟩ := mp_spec b1 b2
    rw [e]
    exact ⟨finB_iff.2 ⟨fa, fb⟩, ⟨by show val Ieee.single (mp a) ≤ _; grind, by show _ ≤ val Ieee.single (mp a); grind⟩, ⟨by show val Ieee.single (mp b) ≤ _; grind, by show _ ≤ val Ieee.single (mp b); grind⟩⟩
  · have e : milli a b = (0, 0) := by unfold milli; rw [if_neg h]
    rw [e]
    exact ⟨by decide, ⟨by simp only [zero32.2]; decide +kernel, by simp only [zero32.2]; decide +kernel⟩, ⟨by simp only [zero32.2]; decide +kernel, by simp only [zero32.2]; decide +kernel⟩⟩
theorem Lv.ord {xs : List C} (h : ∀ z ∈ xs, Ord z) : Lv xs 14 := fun i hi => by
  obtain ⟨a, b, _, _, _, _, e⟩ := h (nth xs i) (by rw [nth_eq hi]; exact List.getElem_mem hi)
  rw [e]; exact milli_pb a b
theorem Lv.shift {xs l : List C} {a k : Int} (h : Lv xs a) (h1 : -149 ≤ a) (h2 : a ≤ 122) (he : shiF xs k = some l) : l.length = xs.length ∧ Lv l (a + 1) := by
  unfold shiF at he
  split at he
  · rename_i hc
    cases he
    rw [Bool.and_eq_true, Bool.and_eq_true] at hc
    obtain ⟨hp, _, _, _, _⟩ := siz_parts hc.1.1
    refine ⟨by unfold shiL; rw [rngL_len], ?_⟩
    unfold shiL
    refine Lv.rng fun i hi => ?_
    obtain ⟨b, hb⟩ : ∃ b, nth (tonL xs.length (16 / (xs.length : Int) * k)) i = turnC b := ⟨_, tonL_nth _ hi⟩
    rw [hb]
    exact mul_pb (h i hi) (turnC_fin _) (turn_part _).1 (turn_part _).2 h1 h2
  · cases he
end Go.Proofs.YtnomlkkhkacajaaGreatDoor
namespace Go.Proofs.YtnomlkkhkacajaaGreatDoor
open Go.RowKit

def triD (n k : Nat) : Nat := (floatBits .quo .f32 (floatOfInt .f32 (2 * (k : Int))) (floatOfInt .f32 (n : Int))).getD 0
def triE (n k : Nat) : Nat := (floatBits .sub .f32 1073741824 (triD n k)).getD 0
def smoH (n k : Nat) : Nat := (floatBits .mul .f32 (turnC (16 / (n : Int) * (k : Int))).1 1056964608).getD 0
def smoW (n k : Nat) : Nat := (floatBits .sub .f32 1056964608 (smoH n k)).getD 0
/-- The words of a window. -/
def winW (kind : Int) (n k : Nat) : Nat := if kind = 0 then 1056964608 else if kind = 1 then (if n / 2 ≤ k then triE n k else triD n k) else smoW n k
def winN (n : Nat) : Bool := n == 2 || n == 4 || n == 8 || n == 16
theorem winN_iff {n : Nat} : winN n = true ↔ n = 2 ∨ n = 4 ∨ n = 8 ∨ n = 16 := by unfold winN; simp [or_assoc]
def winOk (kind : Int) (n : Nat) : Bool := winN n && decide (0 ≤ kind) && decide (kind ≤ 2)
theorem winOk_iff {kind : Int} {n : Nat} : winOk kind n = true ↔ (n = 2 ∨ n = 4 ∨ n = 8 ∨ n = 16) ∧ 0 ≤ kind ∧ kind ≤ 2 := by
  unfold winOk; rw [Bool.and_eq_true, Bool.and_eq_true, winN_iff, decide_eq_true_eq, decide_eq_true_eq]
  exact ⟨fun h => ⟨h.1.1, h.1.2, h.2⟩, fun h => ⟨⟨h.1, h.2.1⟩, h.2.2⟩⟩
def winChk (n k : Nat) : Bool :=
  floatBits .quo .f32 (floatOfInt .f32 (2 * (k : Int))) (floatOfInt .f32 (n : Int)) == some (triD n k) &&
  floatBits .sub .f32 1073741824 (triD n k) == some (triE n k) &&
  floatBits .mul .f32 (turnC (16 / (n : Int) * (k : Int))).1 1056964608 == some (smoH n k) &&
  floatBits .quo .f32 (turnC (16 / (n : Int) * (k : Int))).1 1073741824 == some (smoH n k) &&
  floatBits .sub .f32 1056964608 (smoH n k) == some (smoW n k) &&
  decide (rg Ieee.single (winW 0 n k) ≤ 1065353216) && decide (rg Ieee.single (winW 1 n k) ≤ 1065353216) && decide (rg Ieee.single (winW 2 n k) ≤ 1065353216)
theorem win_tab : ([2, 4, 8, 16].all fun n => (List.range n).all (winChk n)) = true := by decide +kernel
/-- How a word of a window comes. -/
structure WinS (n k : Nat) : Prop where
  d : floatBits .quo .f32 (floatOfInt .f32 (2 * (k : Int))) (floatOfInt .f32 (n : Int)) = some (triD n k)
  e : floatBits .sub .f32 1073741824 (triD n k) = some (triE n k)
  h : floatBits .mul .f32 (turnC (16 / (n : Int) * (k : Int))).1 1056964608 = some (smoH n k)
  q : floatBits .quo .f32 (turnC (16 / (n : Int) * (k : Int))).1 1073741824 = some (smoH n k)
  w : floatBits .sub .f32 1056964608 (smoH n k) = some (smoW n k)
  b0 : rg Ieee.single (winW 0 n k) ≤ 1065353216
  b1 : rg Ieee.single (winW 1 n k) ≤ 1065353216
  b2 : rg Ieee.single (winW 2 n k) ≤ 1065353216
theorem winS {n k : Nat} (hn : n = 2 ∨ n = 4 ∨ n = 8 ∨ n = 16) (hk : k < n) : WinS n k := by
  have h1 := List.all_eq_true.1 win_tab n (by rcases hn with rfl | rfl | rfl | rfl <;> decide)
  have h2 := List.all_eq_true.1 h1 k (List.mem_range.2 hk)
  simp only [winChk, Bool.and_eq_true, beq_iff_eq, decide_eq_true_eq] at h2
  obtain ⟨⟨⟨⟨⟨⟨⟨a, b⟩, c⟩, d⟩, e⟩, f⟩, g⟩, h⟩ := h2
  exact ⟨a, b, c, d, e, f, g, h⟩
theorem part_of_rg {x : Nat} (h : rg Ieee.single x ≤ 1065353216) : Fin Ieee.single x ∧ val Ieee.single x ≤ 1 ∧ -1 ≤ val Ieee.single x := by
  have h1 : rv Ieee.single (rg Ieee.single x) ≤ rv Ieee.single 1065353216 := rv_le _ h
  have h2 : rv Ieee.single 1065353216 = 1 := w_one.2
  have h3 := rv_nonneg Ieee.single (rg Ieee.single x)
  rw [h2] at h1
  refine ⟨Nat.lt_of_le_of_lt h (by decide), ?_⟩
  unfold val
  cases sg Ieee.single x
  · rw [sr_false]; constructor <;> grind
  · rw [sr_true]; constructor <;> grind
theorem winW_part {kind : Int} {n k : Nat} (h : winOk kind n = true) (hk : k < n) : Fin Ieee.single (winW kind n k) ∧ val Ieee.single (winW kind n k) ≤ 1 ∧ -1 ≤ val Ieee.single (winW kind n k) := by
  obtain ⟨hn, k0, k1⟩ := winOk_iff.1 h
  have hs := winS hn hk
  refine part_of_rg ?_
  have : kind = 0 ∨ kind = 1 ∨ kind = 2 := by omega
  rcases this with rfl | rfl | rfl
  · exact hs.b0
  · exact hs.b1
  · exact hs.b2
/-- The words of a window, if there is one. -/
def winL (kind : Int) (n : Nat) : List Nat := if winOk kind n then (List.range n).map (winW kind n) else []
theorem winL_no {kind : Int} {n : Nat} (h : winOk kind n = false) : winL kind n = [] := by unfold winL; rw [h]; rfl
theorem winL_yes {kind : Int} {n : Nat} (h : winOk kind n = true) : winL kind n = (List.range n).map (winW kind n) := by unfold winL; rw [h]; rfl
theorem winL_len {kind : Int} {n : Nat} (h : winOk kind n = true) : (winL kind n).length = n := by rw [winL_yes h, List.length_map, List.length_range]
def mulS (x u : Nat) : Nat := (floatBits .mul .f32 x u).getD 0
theorem mulS_spec {x u : Nat} (hx : Fin Ieee.single x) (hu : Fin Ieee.single u) : floatBits .mul .f32 x u = some (mulS x u) ∧ Rnd Ieee.single (val Ieee.single x * val Ieee.single u) (mulS x u) := by
  obtain ⟨r, e, hr⟩ := mul_spec hx hu
  have e' : floatBits .mul .f32 x u = some r := e
  unfold mulS
  rw [e']
  exact ⟨rfl, hr⟩
def lessC (z : C) (u : Nat) : C := (mulS z.1 u, mulS z.2 u)
/-- A signal times a window. -/
def winM (xs : List C) (kind : Int) (n : Nat) : List C := rngL (fun i => lessC (nth xs i) (winW kind n i)) n
def winF (xs : List C) (kind : Int) : Option (List C) := if sigB xs && winOk kind xs.length then some (winM xs kind xs.length) else none
theorem winF_no {xs : List C} {kind : Int} (h : sigB xs = false ∨ winOk kind xs.length = false) : winF xs kind = none := by
  unfold winF
  rcases h with h | h
  · rw [h]; rfl
  · rw [h, Bool.and_false]; rfl
theorem winF_yes {xs : List C} {kind : Int} {n : Nat} (hl : xs.length = n) (h : sigB xs = true) (h2 : winOk kind n = true) : winF xs kind = some (winM xs kind n) := by
  unfold winF; rw [hl, h, h2]; rfl
/-- A product with a part of at most 1 is a word. -/
theorem mulS_pb {x u : Nat} {a : Int} (hx : Fin Ieee.single x) (hu : Fin Ieee.single u) (h1 : val Ieee.single x ≤ p2 a) (h2 : -p2 a ≤ val Ieee.single x) (u1 : val Ieee.single u ≤ 1) (u2 : -1 ≤ val Ieee.single u) (ha : -149 ≤ a) (hb : a ≤ 123) :
    Fin Ieee.single (mulS x u) ∧ val Ieee.single (mulS x u) ≤ p2 a ∧ -p2 a ≤ val Ieee.single (mulS x u) := by
  obtain ⟨_, r⟩ := mulS_spec hx hu
  obtain ⟨q1, q2⟩ := mul_part h1 h2 u1 u2
  have := rnd_le (n := 1) (e := a) r (by decide) (Int.le_trans (by decide) ha) (lt_inf32 (by decide) hb) (by rw [one_mul_p2]; exact q1) (by rw [one_mul_p2]; exact q2)
  rw [one_mul_p2] at this
  exact this
theorem Lv.win {xs l : List C} {a kind : Int} (h : Lv xs a) (h1 : -149 ≤ a) (h2 : a ≤ 123) (he : winF xs kind = some l) : l.length = xs.length ∧ Lv l a := by
  unfold winF at he
  split at he
  · rename_i hc
    cases he
    rw [Bool.and_eq_true] at hc
    refine ⟨by unfold winM; rw [rngL_len], ?_⟩
    unfold winM
    refine Lv.rng fun i hi => ?_
    obtain ⟨hf, ⟨z1, z2⟩, ⟨z3, z4⟩⟩ := h i hi
    rw [one_mul_p2] at z1 z2 z3 z4
    obtain ⟨fa, fb⟩ := finB_iff.1 hf
    obtain ⟨u0, u1, u2⟩ := winW_part hc.2 hi
    obtain ⟨a1, a2, a3⟩ := mulS_pb fa u0 z1 z2 u1 u2 h1 h2
    obtain ⟨b1, b2, b3⟩ := mulS_pb fb u0 z3 z4 u1 u2 h1 h2
    unfold Pb
    rw [one_mul_p2]
    exact ⟨finB_iff.2 ⟨a1, b1⟩, ⟨a2, a3⟩, ⟨b2, b3⟩⟩
  · cases he
/-- The signal moved round, where that is told. -/
def movF (xs : List C) (b : Int) : List C := if sigB xs && inB b (-99) 99 then movL xs xs.length b else []
theorem movF_no {xs : List C} {b : Int} (h : sigB xs = false ∨ inB b (-99) 99 = false) : movF xs b = [] := by
  unfold movF
  rcases h with h | h
  · rw [h]; rfl
  · rw [h, Bool.and_false]; rfl
theorem movF_yes {xs : List C} {b : Int} {n : Nat} (hl : xs.length = n) (h : sigB xs = true) (h2 : inB b (-99) 99 = true) : movF xs b = movL xs n b := by
  unfold movF; rw [h, h2, hl]; rfl
end Go.Proofs.YtnomlkkhkacajaaGreatDoor
namespace Go.Proofs.YtnomlkkhkacajaaGreatDoor
open Go.RowKit

theorem Tryz.eG : Elem Tryz.prog 134 131 (.float .f32 0) 4 := Elem.mk' Tryz.underlying134 (by kernel_rfl) rfl
def gv (x : Nat) : Value := .float .f32 x
/-- A list of words of single precision. -/
def RetWn (w : World) (ws : List Nat) (e : Ending) (w' : World) : Prop :=
  ∃ (A : Option Addr) (c : Nat), e = .returned (.slice A ws.length c) ∧ Ow w' w.heap.size 131 (.slice A ws.length c) ws.length (ws.map gv) ∧ Below w.heap.size w w'
theorem win_snoc (f : Nat → Nat) (k : Nat) : ((List.range k).map f).map gv ++ [gv (f k)] = ((List.range (k + 1)).map f).map gv := by rw [List.range_succ, List.map_append, List.map_append]; rfl
theorem sWindow_no (kind : Int) (n : Nat) (w : World) (hn : n ≤ 1048576) (h : winOk kind n = false) : Calls Tryz.prog 118 #[.int .i64 kind, .int .i64 n] w (RetWn w []) := by
  have HE := Lib.hid (Ow.empty w 131)
  have HB0 := Lib.hid (below_alloc w (.cells #[] 131))
  cases hw : winN n
  · have h2 : ¬ (n : Int) = 2 := by intro e; rw [show n = 2 by omega] at hw; exact absurd hw (by decide)
    have h4 : ¬ (n : Int) = 4 := by intro e; rw [show n = 4 by omega] at hw; exact absurd hw (by decide)
    have h8 : ¬ (n : Int) = 8 := by intro e; rw [show n = 8 by omega] at hw; exact absurd hw (by decide)
    have h16 : ¬ (n : Int) = 16 := by intro e; rw [show n = 16 by omega] at hw; exact absurd hw (by decide)
    clear h hw hn
    go_enter Tryz.func118, Tryz.ntmps118
    go_wp2_with fail
    go_ret
    exact ⟨_, _, rfl, HE.out, HB0.out⟩
  · have hin : inB kind 0 2 = false := by
      unfold winOk at h; rw [hw] at h
      rw [inB_false_iff]
      simp only [Bool.true_and, Bool.and_eq_false_iff, decide_eq_false_iff_not] at h
      omega
    have HIN := Lib.hid hin
    obtain ⟨N, hN⟩ : ∃ N : Int, N = (n : Int) := ⟨_, rfl⟩
    have hc : N = 2 ∨ N = 4 ∨ N = 8 ∨ N = 16 := by have := winN_iff.1 hw; omega
    rw [← hN]
    clear h hw hn hin hN
    rcases hc with rfl | rfl | rfl | rfl
    all_goals
      go_enter Tryz.func118, Tryz.ntmps118
      go_wp2_with fail
      refine (l1In_any _ _ _ _).mono ?_
      rintro e w' ⟨rfl, rfl⟩
      rw [HIN.out]
      go_wp2_with fail
      go_ret
      exact ⟨_, _, rfl, HE.out, HB0.out⟩

set_option maxHeartbeats 8000000 in
set_option maxRecDepth 100000 in
theorem sWindow0 (n : Nat) (w : World) (hn : n = 2 ∨ n = 4 ∨ n = 8 ∨ n = 16) : Calls Tryz.prog 118 #[.int .i64 0, .int .i64 n] w (RetWn w ((List.range n).map (winW 0 n))) := by
  have HE : Hid (Ow (w.alloc (.cells #[] 131)) w.heap.size 131 (.slice (some ⟨w.heap.size, 0, none⟩) 0 0) 0 (((List.range 0).map (winW 0 n)).map gv)) := Lib.hid (Ow.empty w 131)
  have HB0 := Lib.hid (below_alloc w (.cells #[] 131))
  obtain ⟨N, hN⟩ : ∃ N : Int, N = (n : Int) := ⟨_, rfl⟩
  have hc : N = 2 ∨ N = 4 ∨ N = 8 ∨ N = 16 := by omega
  have h16 : n ≤ 16 := by omega
  rw [← hN]
  clear hn
  rcases hc with rfl | rfl | rfl | rfl
  all_goals
    have HNn := Lib.hid hN
    clear hN
    go_enter Tryz.func118, Tryz.ntmps118
    go_wp2_with fail
    refine (l1In_any _ _ _ _).mono ?_
    rintro e w' ⟨rfl, rfl⟩
    rw [show inB 0 0 2 = true from rfl]
    go_wp2_with fail
    go_loopw [5, 6] (fun v i wr => ∃ k : Nat, k ≤ n ∧ i = .int .i64 k ∧ Ow wr w.heap.size 131 v k (((List.range k).map (winW 0 n)).map gv) ∧ Below w.heap.size w wr) (fun _ i _ => n - (intOf i).toNat)
    case atStart => first | exact ⟨0, by omega, rfl, HE.out, HB0.out⟩ | ((repeat apply Exists.intro); exact ⟨by omega, rfl, HE.out, HB0.out⟩)
    case round =>
      obtain ⟨k, hk, rfl, ho, hb⟩ := hrel
      have HO := Lib.hid ho
      have HB := Lib.hid hb
      have hsz := hb.size
      clear ho hb
      by_cases hlt : k < n
      · have hlN := Int.lt_of_lt_of_le (Int.ofNat_lt.2 hlt) (Int.le_of_eq HNn.out.symm)
        have HN := Lib.hid (win_snoc (winW 0 n) k)
        have hw : winW 0 n k = 1056964608 := rfl
        rw [hw] at HN
        clear hw
        go_wp2_with (at_builtin; refine wl_appB w.heap.size [.float .f32 1056964608] hsz rfl (.tmp 61) (.tmp 63) 134 rfl Tryz.eG _ k _ rfl HO.out rfl (by simp [Value.oneCell']) (by simp [maxLen]; omega) (by simp; omega) ?_; intro v' w4 ho4 hb4)
        have HO4 : Hid (Ow w4 w.heap.size 131 v' (k + 1) (((List.range (k + 1)).map (winW 0 n)).map gv)) := by
          show Ow _ _ _ _ _ _
          rw [← HN.out]; exact ho4
        have HB4 : Hid (Below w.heap.size w w4) := HB.out.trans hb4
        clear ho4 hb4
        go_roundw
        case rel => first | exact ⟨k + 1, by omega, by go_num, HO4.out, HB4.out⟩ | ((repeat apply Exists.intro); exact ⟨⟨k + 1, by omega, by go_num, HO4.out, HB4.out⟩, rfl⟩)
        case measure => simp [intOf]; omega
      · obtain rfl : k = n := by omega
        have hlN := Int.not_lt.2 (Int.le_of_eq HNn.out)
        obtain ⟨A2, c2, rfl⟩ := HO.out.shape
        have HR : Hid (RetWn w ((List.range k).map (winW 0 k)) (.returned (.slice A2 k c2)) wr) := by
          have e : ((List.range k).map (winW 0 k)).length = k := by rw [List.length_map, List.length_range]
          exact ⟨_, _, by rw [e], by rw [e]; exact HO.out, HB.out⟩
        go_wp2_with fail
        go_ret
        exact HR.out
end Go.Proofs.YtnomlkkhkacajaaGreatDoor
