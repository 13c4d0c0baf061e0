/- Texts on the way to a law (M3, W1, W2, E1), each with its own remark. -/
import Derived.Test.YtnomlkkhkacajaaPA11
import Derived.Laws.ComplexQuo
import Derived.Test.YtnomlkkhkacajaaPA08
namespace Go.Proofs.Ytnomlkkhkacajaa
open Go.RowKit

/-- The words of a power of two, and what the quotient asks of them. -/
structure P2W (c32 c : Nat) (n : Int) : Prop where
  fin : Fin Ieee.single c32
  wid : floatToFloatBits .f32 c32 .f64 = some c
  whl : Whl Ieee.double c n
  pos : 1 ≤ n
  rd : ∃ t j, Ieee.double.read c = .number t 4503599627370496 j
  rat : floatBits .quo .f64 0 c = some 0
  den : floatBits .add .f64 c 0 = some c
  ge : (FloatKind.f64.format.order (Op.Complex.abs c) (Op.Complex.abs 0) == some .gt || FloatKind.f64.format.order (Op.Complex.abs c) (Op.Complex.abs 0) == some .eq) = true
  ne : (FloatKind.f64.format.order c 0 == some .eq) = false
theorem p2w_1 : P2W 1065353216 4607182418800017408 1 := ⟨by unfold Fin; decide, by kernel_rfl, by have h := int_whl (n := 1) (by decide); rwa [show floatOfInt .f64 1 = 4607182418800017408 by decide] at h, by decide, ⟨false, -52, by kernel_rfl⟩, by kernel_rfl, by kernel_rfl, by kernel_rfl, by kernel_rfl⟩
theorem p2w_2 : P2W 1073741824 4611686018427387904 2 := ⟨by unfold Fin; decide, by kernel_rfl, by have h := int_whl (n := 2) (by decide); rwa [show floatOfInt .f64 2 = 4611686018427387904 by decide] at h, by decide, ⟨false, -51, by kernel_rfl⟩, by kernel_rfl, by kernel_rfl, by kernel_rfl, by kernel_rfl⟩
theorem p2w_4 : P2W 1082130432 4616189618054758400 4 := ⟨by unfold Fin; decide, by kernel_rfl, by have h := int_whl (n := 4) (by decide); rwa [show floatOfInt .f64 4 = 4616189618054758400 by decide] at h, by decide, ⟨false, -50, by kernel_rfl⟩, by kernel_rfl, by kernel_rfl, by kernel_rfl, by kernel_rfl⟩
theorem p2w_8 : P2W 1090519040 4620693217682128896 8 := ⟨by unfold Fin; decide, by kernel_rfl, by have h := int_whl (n := 8) (by decide); rwa [show floatOfInt .f64 8 = 4620693217682128896 by decide] at h, by decide, ⟨false, -49, by kernel_rfl⟩, by kernel_rfl, by kernel_rfl, by kernel_rfl, by kernel_rfl⟩
theorem p2w_16 : P2W 1098907648 4625196817309499392 16 := ⟨by unfold Fin; decide, by kernel_rfl, by have h := int_whl (n := 16) (by decide); rwa [show floatOfInt .f64 16 = 4625196817309499392 by decide] at h, by decide, ⟨false, -48, by kernel_rfl⟩, by kernel_rfl, by kernel_rfl, by kernel_rfl, by kernel_rfl⟩

theorem mul_zero64 {x : Nat} (h : Fin Ieee.double x) : ∃ r, floatBits .mul .f64 x 0 = some r ∧ Fin Ieee.double r ∧ val Ieee.double r = 0 := by
  obtain ⟨r, e, hr⟩ := mul_spec h zero64.1
  have h0 : val Ieee.double x * val Ieee.double 0 = 0 := by rw [zero64.2]; grind
  have := hr.exact (t := false) (z := 0) (by decide) (by rw [rv_zero, h0]; rfl)
  exact ⟨r, e, this.1, by rw [this.2]; exact h0⟩
theorem rnd_self {f : Ieee.Format} {x r : Nat} (h : Fin f x) (hr : Rnd f (val f x) r) : Fin f r ∧ val f r = val f x :=
  hr.exact (t := sg f x) (z := rg f x) h rfl
/-- One part of the quotient. -/
theorem part_quot {x y c : Nat} {n : Int} {c32 : Nat} (hc : P2W c32 c n) (hx : Fin Ieee.single x) (hy : Fin Ieee.single y) :
    ∃ z a b e f, floatBits .mul .f64 (wide y) 0 = some z ∧ floatBits .add .f64 (wide x) z = some a ∧ floatBits .sub .f64 (wide x) z = some b ∧ floatBits .quo .f64 a c = some e ∧ floatBits .quo .f64 b c = some f ∧
      Rnd Ieee.double (val Ieee.single x / (n : Rat)) e ∧ Rnd Ieee.double (val Ieee.single x / (n : Rat)) f := by
  have wx := wide_spec hx
  have wy := wide_spec hy
  obtain ⟨z, ez, fz, vz⟩ := mul_zero64 wy.1
  obtain ⟨a, ea, ha⟩ := add_spec wx.1 fz
  obtain ⟨b, eb, hb⟩ := sub_spec wx.1 fz
  rw [vz, show val Ieee.double (Ieee.double.write (Ieee.single.read x)) + 0 = val Ieee.double (Ieee.double.write (Ieee.single.read x)) by grind] at ha
  rw [vz, show val Ieee.double (Ieee.double.write (Ieee.single.read x)) - 0 = val Ieee.double (Ieee.double.write (Ieee.single.read x)) by grind] at hb
  obtain ⟨fa, va⟩ := rnd_self wx.1 ha
  obtain ⟨fb, vb⟩ := rnd_self wx.1 hb
  obtain ⟨t, j, hr⟩ := hc.rd
  obtain ⟨e, ee, he⟩ := quot_pow fa hc.whl.1 t j hr
  obtain ⟨f, ef, hf⟩ := quot_pow fb hc.whl.1 t j hr
  rw [va, wx.2, hc.whl.2] at he
  rw [vb, wx.2, hc.whl.2] at hf
  exact ⟨z, a, b, e, f, ez, ea, eb, ee, ef, he, hf⟩
theorem div_absR {v : Rat} {n : Int} (hn : 1 ≤ n) : absR (v / (n : Rat)) ≤ absR v := by
  have h1 : ((1 : Int) : Rat) ≤ (n : Rat) := Rat.intCast_le_intCast.2 hn
  have c1 : ((1 : Int) : Rat) = 1 := rfl
  rw [c1] at h1
  obtain ⟨q, hq⟩ : ∃ q, q = v / (n : Rat) := ⟨_, rfl⟩
  have hv : q * (n : Rat) = v := by rw [hq]; exact Rat.div_mul_cancel (by grind)
  rw [← hq, ← hv, absR_mul]
  have h2 := absR_nonneg q
  have h3 : (1 : Rat) ≤ absR (n : Rat) := by unfold absR; split <;> grind
  have := Rat.mul_le_mul_of_nonneg_left h3 h2
  grind
/-- No quotient is farther off than the number. -/
theorem quot_fin {x e : Nat} {n : Int} (hn : 1 ≤ n) (hx : Fin Ieee.single x) (he : Rnd Ieee.double (val Ieee.single x / (n : Rat)) e) : Fin Ieee.double e ∧ Fin Ieee.single (narrow e) := by
  have wx := wide_spec hx
  have hv := div_absR (v := val Ieee.single x) hn
  have hvd : absR (val Ieee.single x) = rv Ieee.double (rg Ieee.double (Ieee.double.write (Ieee.single.read x))) := by
    rw [← wx.2]
    have hn := rv_nonneg Ieee.double (rg Ieee.double (Ieee.double.write (Ieee.single.read x)))
    unfold val
    cases sg Ieee.double (Ieee.double.write (Ieee.single.read x))
    · rw [sr_false]; unfold absR; rw [if_neg (by grind)]
    · rw [sr_true]; unfold absR; split <;> grind
  have hvs : absR (val Ieee.single x) = rv Ieee.single (rg Ieee.single x) := by
    have hn := rv_nonneg Ieee.single (rg Ieee.single x)
    unfold val
    cases sg Ieee.single x
    · rw [sr_false]; unfold absR; rw [if_neg (by grind)]
    · rw [sr_true]; unfold absR; split <;> grind
  obtain ⟨fe, l1, l2⟩ := he.le wx.1 (by rw [← hvd]; exact Rat.le_trans (le_absR _) hv) (by rw [← hvd]; have := neg_le_absR (val Ieee.single x / (n : Rat)); grind)
  rw [← hvd, hvs] at l1 l2
  exact ⟨fe, ((narrow_spec fe).le hx l1 l2).1⟩
def qe64 (a : C) (c : Nat) : Nat := (Ieee.double.div ((Ieee.double.add (wide a.1) ((Ieee.double.mul (wide a.2) 0).getD 0)).getD 0) c).getD 0
def qf64 (a : C) (c : Nat) : Nat := (Ieee.double.div ((Ieee.double.sub (wide a.2) ((Ieee.double.mul (wide a.1) 0).getD 0)).getD 0) c).getD 0
def quoC (a : C) (c : Nat) : C := (narrow (qe64 a c), narrow (qf64 a c))
theorem quoC_rnd {a : C} {c32 c : Nat} {n : Int} (hc : P2W c32 c n) (ha : finB a = true) :
    finB (quoC a c) = true ∧ Rnd Ieee.double (val Ieee.single a.1 / (n : Rat)) (qe64 a c) ∧ Rnd Ieee.double (val Ieee.single a.2 / (n : Rat)) (qf64 a c) ∧ Rnd Ieee.single (val Ieee.double (qe64 a c)) (quoC a c).1 ∧ Rnd Ieee.single (val Ieee.double (qf64 a c)) (quoC a c).2 := by
  obtain ⟨a1, a2⟩ := finB_iff.1 ha
  obtain ⟨z, p, _, e, _, e1, e2, _, e3, _, he, _⟩ := part_quot hc a1 a2
  obtain ⟨z', _, q, _, f, f1, _, f2, _, f3, _, hf⟩ := part_quot hc a2 a1
  have ee : qe64 a c = e := by
    unfold qe64
    rw [getD_some (show Ieee.double.mul (wide a.2) 0 = some z from e1), getD_some (show Ieee.double.add (wide a.1) z = some p from e2)]
    exact getD_some e3
  have ef : qf64 a c = f := by
    unfold qf64
    rw [getD_some (show Ieee.double.mul (wide a.1) 0 = some z' from f1), getD_some (show Ieee.double.sub (wide a.2) z' = some q from f2)]
    exact getD_some f3
  obtain ⟨g1, g2⟩ := quot_fin hc.pos a1 he
  obtain ⟨h1, h2⟩ := quot_fin hc.pos a2 hf
  unfold quoC
  rw [ee, ef]
  exact ⟨finB_iff.2 ⟨g2, h2⟩, he, hf, narrow_spec g1, narrow_spec h1⟩
theorem fin_nan {x : Nat} (h : Fin Ieee.double x) : Op.Complex.isNaN x = false := by
  obtain ⟨m, p, e, _⟩ := read_fin Ieee.double h
  have e' : FloatKind.f64.decode x = .number (sg Ieee.double x) m p := e
  unfold Op.Complex.isNaN
  rw [e']; rfl
theorem run_complex_quo32 (P : Program) (t : TypeId) (w : World) {a b c d A B C D e f r s : Nat} (h1 : floatToFloatBits .f32 a .f64 = some A) (h2 : floatToFloatBits .f32 b .f64 = some B) (h3 : floatToFloatBits .f32 c .f64 = some C) (h4 : floatToFloatBits .f32 d .f64 = some D)
    (hq : (Op.Complex.quotient A B C D).run P w = .ok (e, f) w) (n1 : floatToFloatBits .f64 e .f32 = some r) (n2 : floatToFloatBits .f64 f .f32 = some s) :
    (binOp .quo t (.complex .f32 a b) (.complex .f32 c d)).run P w = .ok (.complex .f32 r s) w := by
  simp [binOp, Op.complexOp, run_cconv P w (by decide) h1, run_cconv P w (by decide) h2, run_cconv P w (by decide) h3, run_cconv P w (by decide) h4, hq, run_cconv P w (by decide) n1, run_cconv P w (by decide) n2]
theorem quoC_run {a : C} {c32 c : Nat} {n : Int} (hc : P2W c32 c n) (ha : finB a = true) (P : Program) (t : TypeId) (w : World) :
    (binOp .quo t (.complex .f32 a.1 a.2) (.complex .f32 c32 0)).run P w = .ok (.complex .f32 (quoC a c).1 (quoC a c).2) w := by
  obtain ⟨a1, a2⟩ := finB_iff.1 ha
  obtain ⟨z, p, _, e, _, e1, e2, _, e3, _, he, _⟩ := part_quot hc a1 a2
  obtain ⟨z', _, q, _, f, f1, _, f2, _, f3, _, hf⟩ := part_quot hc a2 a1
  have ee : qe64 a c = e := by
    unfold qe64
    rw [getD_some (show Ieee.double.mul (wide a.2) 0 = some z from e1), getD_some (show Ieee.double.add (wide a.1) z = some p from e2)]
    exact getD_some e3
  have ef : qf64 a c = f := by
    unfold qf64
    rw [getD_some (show Ieee.double.mul (wide a.1) 0 = some z' from f1), getD_some (show Ieee.double.sub (wide a.2) z' = some q from f2)]
    exact getD_some f3
  obtain ⟨g1, g2⟩ := quot_fin hc.pos a1 he
  obtain ⟨h1, h2⟩ := quot_fin hc.pos a2 hf
  have n1 : floatToFloatBits .f64 e .f32 = some (quoC a c).1 := by unfold quoC; rw [ee]; exact conv_narrow g1 g2
  have n2 : floatToFloatBits .f64 f .f32 = some (quoC a c).2 := by unfold quoC; rw [ef]; exact conv_narrow h1 h2
  have k0 : floatToFloatBits .f32 0 .f64 = some 0 := by kernel_rfl
  have m00 : floatBits .mul .f64 0 0 = some 0 := by kernel_rfl
  have nn := fin_nan g1
  have hge := hc.ge
  have hge' : absGe c 0 = true := hge
  exact run_complex_quo32 P t w (conv_wide a1) (conv_wide a2) hc.wid k0 (run_quotient_ge (P := P) w hge' hc.rat m00 hc.den e1 e2 e3 f1 f2 f3 (by rw [nn]; rfl)) n1 n2
end Go.Proofs.Ytnomlkkhkacajaa
namespace Go.Proofs.Ytnomlkkhkacajaa
open Go.RowKit

theorem mp_word_all : ∀ k : _root_.Fin 2001, mp (1000 * ((k.val : Int) - 1000)) = narrow (floatOfInt .f64 ((k.val : Int) - 1000)) := by decide +kernel
theorem mp_whole {p : Int} (h1 : -1000 ≤ p) (h2 : p ≤ 1000) : Whl Ieee.single (mp (1000 * p)) p := by
  have h := mp_word_all ⟨(p + 1000).toNat, by omega⟩
  have e : (((p + 1000).toNat : Nat) : Int) - 1000 = p := by omega
  simp only [e] at h
  rw [h]
  exact narrow_whl (int_whl (by omega)) (by omega)
/-- Both parts are whole. -/
def WhlC (z : C) (p q : Int) : Prop := Whl Ieee.single z.1 p ∧ Whl Ieee.single z.2 q
def Wh (z : C) (most : Int) : Prop := ∃ p q : Int, WhlC z p q ∧ -most ≤ p ∧ p ≤ most ∧ -most ≤ q ∧ q ≤ most
def RetWh (w : World) (z : C) (most : Int) (e : Ending) (w' : World) : Prop := ∃ b, e = .returned (.bool b) ∧ (b = true → Wh z most) ∧ Dr w w'
theorem whl_part {x : Nat} {re most : Int} (m0 : most ≤ 1000) (hx : Fin Ieee.single x) (hr : re.tmod 1000 = 0) (ho : (FloatKind.f32.format.order x (mp re) == some .eq) = true) (h1 : -1000 * most ≤ re) (h2 : re ≤ 1000 * most) :
    ∃ p, Whl Ieee.single x p ∧ -most ≤ p ∧ p ≤ most := by
  obtain ⟨p, rfl⟩ := Int.dvd_of_tmod_eq_zero hr
  have hw := mp_whole (p := p) (by omega) (by omega)
  have ho' : (Ieee.single.order x (mp (1000 * p)) == some .eq) = true := ho
  rw [eq_iff hx hw.1, decide_eq_true_eq] at ho'
  exact ⟨p, ⟨hx, ho'.trans hw.2⟩, by omega, by omega⟩

theorem tmod_beq (x : Int) : (x % 1000 == 0) = (x.tmod 1000 == 0) := by
  by_cases h : x % 1000 = 0
  · have : x.tmod 1000 = 0 := Int.tmod_eq_zero_of_dvd (Int.dvd_of_emod_eq_zero h)
    rw [h, this]
  · have h2 : ¬ x.tmod 1000 = 0 := fun h3 => h (Int.emod_eq_zero_of_dvd (Int.dvd_of_tmod_eq_zero h3))
    rw [beq_eq_false_iff_ne.2 h, beq_eq_false_iff_ne.2 h2]
end Go.Proofs.Ytnomlkkhkacajaa
namespace Go.Proofs.Ytnomlkkhkacajaa
open Go.RowKit

def RetWS (w : World) (xs : List C) (most : Int) (e : Ending) (w' : World) : Prop := ∃ b, e = .returned (.bool b) ∧ (b = true → ∀ i, i < xs.length → Wh (nth xs i) most) ∧ Dr w w'
end Go.Proofs.Ytnomlkkhkacajaa
namespace Go.Proofs.Ytnomlkkhkacajaa
open Go.RowKit

def evT (xs : List C) (j : Nat) : List C := (List.range j).map fun i => nth xs (2 * i)
theorem evT_succ (xs : List C) (j : Nat) : evT xs (j + 1) = evT xs j ++ [nth xs (2 * j)] := by unfold evT; rw [List.range_succ, List.map_append]; rfl
theorem evT_len (xs : List C) (j : Nat) : (evT xs j).length = j := by simp [evT]
/-- The numbers at even places. -/
def evs (xs : List C) : List C := if sigB xs then evT xs ((xs.length + 1) / 2) else []
theorem evs_no {xs : List C} (h : sigB xs = false) : evs xs = [] := by unfold evs; rw [h]; rfl
theorem evs_yes {xs : List C} {n : Nat} (h : sigB xs = true) (hl : xs.length = n) : evs xs = evT xs ((n + 1) / 2) := by unfold evs; rw [h, hl]; rfl
theorem RetS.empty {w w' : World} {c : Nat} {g : Nat} (ho : Ow w' w.heap.size 35 (.slice (some ⟨g, 0, none⟩) 0 c) 0 []) (h : Below w.heap.size w w') : RetS w [] (.returned (.slice (some ⟨g, 0, none⟩) 0 c)) w' := ⟨_, _, _, rfl, ho, h⟩

end Go.Proofs.Ytnomlkkhkacajaa
