/- Texts on the way to a law (M1, T2, T3), each with its own remark. -/
import Derived.Test.YtnomlkkhkacajaaPA09
import Derived.Test.YtnomlkkhkacajaaPA08
import Derived.Deep.RegionLaw
namespace Go.Proofs.Ytnomlkkhkacajaa
open Go.RowKit

/-- The words of a sum. -/
def addC (a b : C) : C := ((Ieee.single.add a.1 b.1).getD 0, (Ieee.single.add a.2 b.2).getD 0)
def subC (a b : C) : C := ((Ieee.single.sub a.1 b.1).getD 0, (Ieee.single.sub a.2 b.2).getD 0)
/-- The words of a product in double precision, and of the product. -/
def m64 (x y : Nat) : Nat := (Ieee.double.mul (wide x) (wide y)).getD 0
def re64 (a b : C) : Nat := (Ieee.double.sub (m64 a.1 b.1) (m64 a.2 b.2)).getD 0
def im64 (a b : C) : Nat := (Ieee.double.add (m64 a.1 b.2) (m64 a.2 b.1)).getD 0
def mulC (a b : C) : C := (narrow (re64 a b), narrow (im64 a b))
theorem getD_some {α : Type} {o : Option α} {r d : α} (h : o = some r) : o.getD d = r := by rw [h]; rfl
theorem absR_mul (x y : Rat) : absR (x * y) = absR x * absR y := by
  unfold absR
  by_cases hx : x < 0 <;> by_cases hy : y < 0
  · have : ¬ x * y < 0 := by have := Rat.mul_nonneg (show 0 ≤ -x by grind) (show 0 ≤ -y by grind); grind
    rw [if_neg this, if_pos hx, if_pos hy]; grind
  · by_cases h0 : x * y < 0
    · rw [if_pos h0, if_pos hx, if_neg hy]; grind
    · have h1 := Rat.mul_nonneg (show 0 ≤ -x by grind) (show 0 ≤ y by grind)
      rw [if_neg h0, if_pos hx, if_neg hy]; grind
  · by_cases h0 : x * y < 0
    · rw [if_pos h0, if_neg hx, if_pos hy]; grind
    · have h1 := Rat.mul_nonneg (show 0 ≤ x by grind) (show 0 ≤ -y by grind)
      rw [if_neg h0, if_neg hx, if_pos hy]; grind
  · have h1 := Rat.mul_nonneg (show 0 ≤ x by grind) (show 0 ≤ y by grind)
    rw [if_neg (by grind), if_neg hx, if_neg hy]
theorem rmul_le {a b c d : Rat} (ha : 0 ≤ a) (hb : 0 ≤ b) (h1 : a ≤ c) (h2 : b ≤ d) : a * b ≤ c * d :=
  Rat.le_trans (Rat.mul_le_mul_of_nonneg_right h1 hb) (Rat.mul_le_mul_of_nonneg_left h2 (Rat.le_trans ha h1))
theorem le_absR (x : Rat) : x ≤ absR x := by unfold absR; split <;> grind
theorem neg_le_absR (x : Rat) : -absR x ≤ x := by unfold absR; split <;> grind
section
variable {a b : C}
theorem addC_spec (ha : finB a = true) (hb : finB b = true) :
    cSumBits .add .f32 a.1 a.2 b.1 b.2 = some ((addC a b).1, (addC a b).2) ∧ Rnd Ieee.single (val Ieee.single a.1 + val Ieee.single b.1) (addC a b).1 ∧ Rnd Ieee.single (val Ieee.single a.2 + val Ieee.single b.2) (addC a b).2 := by
  obtain ⟨a1, a2⟩ := finB_iff.1 ha
  obtain ⟨b1, b2⟩ := finB_iff.1 hb
  obtain ⟨r, e1, h1⟩ := add_spec a1 b1
  obtain ⟨s, e2, h2⟩ := add_spec a2 b2
  have f1 : (addC a b).1 = r := getD_some e1
  have f2 : (addC a b).2 = s := getD_some e2
  rw [f1, f2]
  refine ⟨?_, h1, h2⟩
  have e1' : floatBits .add .f32 a.1 b.1 = some r := e1
  have e2' : floatBits .add .f32 a.2 b.2 = some s := e2
  unfold cSumBits
  rw [e1', e2']; rfl
theorem p2_128 : absR (0 : Rat) = 0 := by unfold absR; split <;> grind
/-- The product of two words of single precision, in double precision: exact. -/
theorem m64_spec {x y : Nat} (hx : Fin Ieee.single x) (hy : Fin Ieee.single y) :
    floatBits .mul .f64 (wide x) (wide y) = some (m64 x y) ∧ Rnd Ieee.double (val Ieee.single x * val Ieee.single y) (m64 x y) ∧ Fin Ieee.double (m64 x y) := by
  have wx := wide_spec hx
  have wy := wide_spec hy
  obtain ⟨r, e, h⟩ := mul_spec wx.1 wy.1
  rw [wx.2, wy.2] at h
  have f : m64 x y = r := getD_some e
  rw [f]
  refine ⟨e, h, ?_⟩
  have v1 := val32_lt hx
  have v2 := val32_lt hy
  obtain ⟨z, hz, hvz⟩ := repr_ex Ieee.double (n := 1) (e := 256) (by decide) (by decide) (by
    have c1 : ((1 : Nat) : Rat) = 1 := rfl
    rw [inf64, c1, Rat.one_mul]
    have := p2_lt (show (256 : Int) < 1024 by decide)
    have := p2_pos 256
    grind)
  have c1 : ((1 : Nat) : Rat) = 1 := rfl
  rw [c1, Rat.one_mul] at hvz
  have e256 : p2 256 = p2 128 * p2 128 := by rw [← p2_add]; rfl
  have hp := p2_pos 128
  have key : absR (val Ieee.single x * val Ieee.single y) ≤ p2 128 * p2 128 := by
    rw [absR_mul]
    exact rmul_le (absR_nonneg _) (absR_nonneg _) (Rat.le_of_lt v1) (Rat.le_of_lt v2)
  exact (h.le hz (by rw [hvz, e256]; exact Rat.le_trans (le_absR _) key) (by rw [hvz, e256]; have := neg_le_absR (val Ieee.single x * val Ieee.single y); grind)).1
theorem le257 {q : Rat} {r : Nat} (h : Rnd Ieee.double q r) (h1 : absR q ≤ p2 257) : Fin Ieee.double r := by
  obtain ⟨z, hz, hvz⟩ := repr_ex Ieee.double (n := 1) (e := 257) (by decide) (by decide) (by
    have c1 : ((1 : Nat) : Rat) = 1 := rfl
    rw [inf64, c1, Rat.one_mul]
    have := p2_lt (show (257 : Int) < 1024 by decide)
    have := p2_pos 257
    grind)
  have c1 : ((1 : Nat) : Rat) = 1 := rfl
  rw [c1, Rat.one_mul] at hvz
  exact (h.le hz (by rw [hvz]; exact Rat.le_trans (le_absR _) h1) (by rw [hvz]; have := neg_le_absR q; grind)).1
theorem m64_le {x y : Nat} (hx : Fin Ieee.single x) (hy : Fin Ieee.single y) : absR (val Ieee.double (m64 x y)) ≤ p2 256 := by
  obtain ⟨_, h, _⟩ := m64_spec hx hy
  have v1 := val32_lt hx
  have v2 := val32_lt hy
  obtain ⟨z, hz, hvz⟩ := repr_ex Ieee.double (n := 1) (e := 256) (by decide) (by decide) (by
    have c1 : ((1 : Nat) : Rat) = 1 := rfl
    rw [inf64, c1, Rat.one_mul]
    have := p2_lt (show (256 : Int) < 1024 by decide)
    have := p2_pos 256
    grind)
  have c1 : ((1 : Nat) : Rat) = 1 := rfl
  rw [c1, Rat.one_mul] at hvz
  have e256 : p2 256 = p2 128 * p2 128 := by rw [← p2_add]; rfl
  have key : absR (val Ieee.single x * val Ieee.single y) ≤ p2 128 * p2 128 := by
    rw [absR_mul]
    exact rmul_le (absR_nonneg _) (absR_nonneg _) (Rat.le_of_lt v1) (Rat.le_of_lt v2)
  obtain ⟨_, l1, l2⟩ := h.le hz (by rw [hvz, e256]; exact Rat.le_trans (le_absR _) key) (by rw [hvz, e256]; have := neg_le_absR (val Ieee.single x * val Ieee.single y); grind)
  rw [hvz] at l1 l2
  exact absR_le l1 l2
theorem absR_add (x y : Rat) : absR (x + y) ≤ absR x + absR y := by unfold absR; split <;> split <;> split <;> grind
theorem absR_sub (x y : Rat) : absR (x - y) ≤ absR x + absR y := by unfold absR; split <;> split <;> split <;> grind
theorem p2_257 : p2 257 = p2 256 + p2 256 := by rw [show (257 : Int) = 256 + 1 from rfl, p2_succ]; grind
theorem re64_spec (ha : finB a = true) (hb : finB b = true) :
    floatBits .sub .f64 (m64 a.1 b.1) (m64 a.2 b.2) = some (re64 a b) ∧ Rnd Ieee.double (val Ieee.double (m64 a.1 b.1) - val Ieee.double (m64 a.2 b.2)) (re64 a b) ∧ Fin Ieee.double (re64 a b) := by
  obtain ⟨a1, a2⟩ := finB_iff.1 ha
  obtain ⟨b1, b2⟩ := finB_iff.1 hb
  obtain ⟨r, e, h⟩ := sub_spec (m64_spec a1 b1).2.2 (m64_spec a2 b2).2.2
  have f : re64 a b = r := getD_some e
  rw [f]
  refine ⟨e, h, le257 h ?_⟩
  have l1 := m64_le a1 b1
  have l2 := m64_le a2 b2
  have := absR_sub (val Ieee.double (m64 a.1 b.1)) (val Ieee.double (m64 a.2 b.2))
  rw [p2_257]; grind
theorem im64_spec (ha : finB a = true) (hb : finB b = true) :
    floatBits .add .f64 (m64 a.1 b.2) (m64 a.2 b.1) = some (im64 a b) ∧ Rnd Ieee.double (val Ieee.double (m64 a.1 b.2) + val Ieee.double (m64 a.2 b.1)) (im64 a b) ∧ Fin Ieee.double (im64 a b) := by
  obtain ⟨a1, a2⟩ := finB_iff.1 ha
  obtain ⟨b1, b2⟩ := finB_iff.1 hb
  obtain ⟨r, e, h⟩ := add_spec (m64_spec a1 b2).2.2 (m64_spec a2 b1).2.2
  have f : im64 a b = r := getD_some e
  rw [f]
  refine ⟨e, h, le257 h ?_⟩
  have l1 := m64_le a1 b2
  have l2 := m64_le a2 b1
  have := absR_add (val Ieee.double (m64 a.1 b.2)) (val Ieee.double (m64 a.2 b.1))
  rw [p2_257]; grind
theorem mulC_rnd (ha : finB a = true) (hb : finB b = true) : Rnd Ieee.single (val Ieee.double (re64 a b)) (mulC a b).1 ∧ Rnd Ieee.single (val Ieee.double (im64 a b)) (mulC a b).2 :=
  ⟨narrow_spec (re64_spec ha hb).2.2, narrow_spec (im64_spec ha hb).2.2⟩
theorem run_cconv (P : Program) (w : World) {s k : FloatKind} {x r : Nat} (hne : s ≠ k) (h : floatToFloatBits s x k = some r) : (Op.Complex.conv s x k).run P w = .ok r w := by
  simp [Op.Complex.conv, hne, run_floatToFloat w h]
/-- The product, run. -/
theorem mulC_run (P : Program) (t : TypeId) (ha : finB a = true) (hb : finB b = true) (hm : finB (mulC a b) = true) (w : World) :
    (binOp .mul t (.complex .f32 a.1 a.2) (.complex .f32 b.1 b.2)).run P w = .ok (.complex .f32 (mulC a b).1 (mulC a b).2) w := by
  obtain ⟨a1, a2⟩ := finB_iff.1 ha
  obtain ⟨b1, b2⟩ := finB_iff.1 hb
  obtain ⟨m1, m2⟩ := finB_iff.1 hm
  have n1 : floatToFloatBits .f64 (re64 a b) .f32 = some (mulC a b).1 := conv_narrow (re64_spec ha hb).2.2 m1
  have n2 : floatToFloatBits .f64 (im64 a b) .f32 = some (mulC a b).2 := conv_narrow (im64_spec ha hb).2.2 m2
  have x1 := (m64_spec a1 b1).1
  have x2 := (m64_spec a2 b2).1
  have x3 := (m64_spec a1 b2).1
  have x4 := (m64_spec a2 b1).1
  have x5 := (re64_spec ha hb).1
  have x6 := (im64_spec ha hb).1
  simp [binOp, Op.complexOp, Op.Complex.product, Op.Complex.mul, Op.Complex.sub, Op.Complex.add, run_cconv P w (by decide) (conv_wide a1), run_cconv P w (by decide) (conv_wide a2), run_cconv P w (by decide) (conv_wide b1), run_cconv P w (by decide) (conv_wide b2), run_carith w x1, run_carith w x2, run_carith w x3, run_carith w x4, run_carith w x5, run_carith w x6, run_cconv P w (by decide) n1, run_cconv P w (by decide) n2]
theorem addC_run (P : Program) (t : TypeId) (ha : finB a = true) (hb : finB b = true) (w : World) :
    (binOp .add t (.complex .f32 a.1 a.2) (.complex .f32 b.1 b.2)).run P w = .ok (.complex .f32 (addC a b).1 (addC a b).2) w :=
  run_complex_sum w .add (.inl rfl) t .f32 a.1 a.2 b.1 b.2 _ _ (addC_spec ha hb).1
end
end Go.Proofs.Ytnomlkkhkacajaa
namespace Go.Proofs.Ytnomlkkhkacajaa
open Go.RowKit

theorem turnL_fin (j : Nat) (h : j < 16) : finB (nth turnL j) = true := by
  have : j = 0 ∨ j = 1 ∨ j = 2 ∨ j = 3 ∨ j = 4 ∨ j = 5 ∨ j = 6 ∨ j = 7 ∨ j = 8 ∨ j = 9 ∨ j = 10 ∨ j = 11 ∨ j = 12 ∨ j = 13 ∨ j = 14 ∨ j = 15 := by omega
  rcases this with rfl | rfl | rfl | rfl | rfl | rfl | rfl | rfl | rfl | rfl | rfl | rfl | rfl | rfl | rfl | rfl <;> decide
theorem turnC_fin (k : Int) : finB (turnC k) = true := by
  unfold turnC
  split
  · exact turnL_fin _ (by have := Int.emod_lt_of_pos k (show (0 : Int) < 16 by decide); have := Int.emod_nonneg k (show (16 : Int) ≠ 0 by decide); omega)
  · decide
/-- One product more. -/
def sumStep (s : Option C) (p : C) : Option C := s.bind fun s => if finB p && finB (addC s p) then some (addC s p) else none
def prodT (xs : List C) (b : Int) (i : Nat) : C := mulC (nth xs i) (turnC (b * i))
/-- The sum of the first i products. -/
def sumT (xs : List C) (b : Int) : Nat → Option C
  | 0 => some (0, 0)
  | i + 1 => sumStep (sumT xs b i) (prodT xs b i)
theorem sumT_none {xs : List C} {b : Int} {i : Nat} (h : sumT xs b i = none) : ∀ j, i ≤ j → sumT xs b j = none := by
  intro j hj
  obtain ⟨d, rfl⟩ : ∃ d, j = i + d := ⟨j - i, by omega⟩
  clear hj
  induction d with
  | zero => exact h
  | succ d ih => show sumStep (sumT xs b (i + d)) _ = none; rw [ih]; rfl
theorem sumT_fin {xs : List C} {b : Int} : ∀ {i : Nat} {s : C}, sumT xs b i = some s → finB s = true
  | 0, s, h => by injection h with h; rw [← h]; decide
  | i + 1, s, h => by
    unfold sumT sumStep at h
    cases hs : sumT xs b i with
    | none => rw [hs] at h; cases h
    | some t =>
      rw [hs] at h
      simp only [Option.bind_some] at h
      split at h
      · rename_i hc
        injection h with h
        rw [Bool.and_eq_true] at hc
        rw [← h]; exact hc.2
      · cases h
/-- A number, and whether there is one. -/
def RetQ2 (w : World) (o : Option C) (e : Ending) (w' : World) : Prop := e = .returned (.tuple #[cv (o.getD (0, 0)), .bool o.isSome]) ∧ Below w.heap.size w w'
theorem mul_bd {b : Int} {i : Nat} (h1 : -256 ≤ b) (h2 : b ≤ 256) (hi : i ≤ 16) : -4096 ≤ b * (i : Int) ∧ b * (i : Int) ≤ 4096 := by
  have : i = 0 ∨ i = 1 ∨ i = 2 ∨ i = 3 ∨ i = 4 ∨ i = 5 ∨ i = 6 ∨ i = 7 ∨ i = 8 ∨ i = 9 ∨ i = 10 ∨ i = 11 ∨ i = 12 ∨ i = 13 ∨ i = 14 ∨ i = 15 ∨ i = 16 := by omega
  rcases this with rfl | rfl | rfl | rfl | rfl | rfl | rfl | rfl | rfl | rfl | rfl | rfl | rfl | rfl | rfl | rfl | rfl <;> omega

end Go.Proofs.Ytnomlkkhkacajaa
namespace Go.Proofs.Ytnomlkkhkacajaa
open Go.RowKit

set_option maxHeartbeats 2000000 in
set_option maxRecDepth 100000 in
theorem sSum (A : Option Addr) (n c : Nat) (xs : List C) (b : Int) (w : World) (hn2 : n ≤ 16) (hx : Cs w A n xs) (hf : xs.all finB = true) (hb1 : -256 ≤ b) (hb2 : b ≤ 256)
    (hp : ∀ i, i < n → finB (prodT xs b i) = true) :
    Calls Try.prog 38 #[.slice A n c, .int .i64 b] w (RetQ2 w (sumT xs b n)) := by
  have HL := Lib.hid hx.len
  have HF := Lib.hid hf
  have HPR := Lib.hid hp
  clear hf hp
  go_enter Try.func38, Try.ntmps38
  go_wp2_with fail
  go_loopw [6, 7] (fun v i wr => ∃ (j : Nat) (s : C), j ≤ n ∧ i = .int .i64 j ∧ v = .complex .f32 s.1 s.2 ∧ sumT xs b j = some s ∧ Below w.heap.size w wr) (fun _ i _ => n - (intOf i).toNat)
  case atStart => exact ⟨0, (0, 0), by omega, rfl, rfl, rfl, Below.refl _ _⟩
  case round =>
    obtain ⟨j, s, hj, rfl, rfl, hs, hbw⟩ := hrel
    have HS := Lib.hid hs
    have HB := Lib.hid hbw
    clear hs
    by_cases hlt : j < n
    · obtain ⟨bl, o, rfl, hbl, hc⟩ := hx.at_ hlt
      have hck : wr.drew.cell? ⟨bl, o + j, none⟩ = some (cv (nth xs j)) := (hbw.cell (p := ⟨bl, o + j, none⟩) hbl).trans (hc j hlt)
      have HBL : Hid (bl < w.heap.size) := hbl
      have hz := all_fin_nth HF.out (by rw [HL.out]; exact hlt : j < xs.length)
      have hz' := finB_iff.2 hz
      have hm : finB (mulC (nth xs j) (turnC (b * j))) = true := HPR.out j hlt
      have HNX : Hid (sumT xs b (j + 1) = sumStep (some s) (mulC (nth xs j) (turnC (b * j)))) := by show sumStep (sumT xs b j) _ = _; rw [HS.out]; rfl
      obtain ⟨d1, d2⟩ := mul_bd (i := j) hb1 hb2 (by omega)
      have e2 : IntKind.i64.wrap (b * (j : Int)) = b * (j : Int) := IntWalk.i64_in _ (by omega)
      clear hc hx hz hbw d1 d2 hbl
      generalize nth xs j = z at *
      obtain ⟨t, ht⟩ : ∃ t, t = turnC (b * (j : Int)) := ⟨_, rfl⟩
      have hT := turnC_fin (b * (j : Int))
      have HTC : Hid (∀ w, Calls Try.prog 45 #[.int .i64 (b * (j : Int))] w (RetQ w t)) := fun w => by rw [ht]; exact sTurn _ w
      rw [← ht] at hm HNX hT
      clear ht
      have q1 := mulC_run Try.prog 35 hz' hT hm
      have q2 := addC_run Try.prog 35 (a := s) (b := mulC z t) (sumT_fin HS.out) hm
      have C1 : Hid (∀ w, Calls Try.prog 25 #[.complex .f32 (mulC z t).1 (mulC z t).2] w fun e w' => e = .returned (.bool true) ∧ Dr w w') := fun w => by have := sFinite (mulC z t) w; rw [hm] at this; exact this
      have C2 : Hid (∀ w, Calls Try.prog 25 #[.complex .f32 (addC s (mulC z t)).1 (addC s (mulC z t)).2] w fun e w' => e = .returned (.bool (finB (addC s (mulC z t)))) ∧ Dr w w') := fun w => sFinite (addC s (mulC z t)) w
      have HN : Hid (sumT xs b (j + 1) = if finB (addC s (mulC z t)) then some (addC s (mulC z t)) else none) := by
        show _ = _
        rw [HNX.out]
        unfold sumStep; rw [hm]; simp
      clear hz' hT hm HNX
      generalize addC s (mulC z t) = u at *
      generalize mulC z t = p at *
      obtain ⟨z1, z2⟩ := z
      obtain ⟨t1, t2⟩ := t
      unfold cv at hck
      go_wp2_with fail
      go_region_law ((go_simp; go_at_call 45; (with_reducible refine Calls.mono (HTC.out _) ?_); rintro e w1 ⟨rfl, hb1w⟩; have hck1 : w1.cell? ⟨bl, o + j, none⟩ = some (.complex .f32 z1 z2) := ((hb1w.cell (p := ⟨bl, o + j, none⟩) (Nat.lt_of_lt_of_le HBL.out HB.out.size)).trans hck); have HB1 : Hid (Below w.heap.size w w1) := (HB.out.drew.trans (hb1w.mono HB.out.size)); clear hb1w; unfold cv))
      all_goals
        go_wp2_with fail
        refine (C1.out _).mono ?_
        rintro e w' ⟨rfl, m, rfl⟩
        go_wp2_with fail
        refine (C2.out _).mono ?_
        rintro e w' ⟨rfl, m2, rfl⟩
        cases hu : finB u
        · have HNN := Lib.hid (sumT_none (by rw [HN.out, hu]; rfl : sumT xs b (j + 1) = none) n (by omega))
          clear hu
          go_wp2_with fail
          go_ret2
          rw [HNN.out]
          exact ⟨rfl, below_drewN HB1.out _⟩
        · have HN2 : Hid (sumT xs b (j + 1) = some u) := by show _ = _; rw [HN.out, hu]; rfl
          clear hu
          go_wp2_with fail
          go_roundw
          case rel => exact ⟨j + 1, u, by omega, by go_num, rfl, HN2.out, below_drewN HB1.out _⟩
          case measure => simp [intOf]; omega
    · obtain rfl : j = n := by omega
      clear hx hbw
      go_wp2_with fail
      go_ret2
      rw [HS.out]
      exact ⟨rfl, HB.out⟩
end Go.Proofs.Ytnomlkkhkacajaa
