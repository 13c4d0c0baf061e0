/- Texts on the way to a law (Num, Base, A1, A2), each with its own remark. -/
import Derived.Test.YtnomlkkhkacajaaGreatDoorPC01
import Derived.Laws.ComplexQuo
import Derived.Test.YtnomlkkhkacajaaGreatDoorRows
import Derived.WalkKit
import Derived.WalkSpells
import Derived.WalkLawsBesides
import Derived.Deep.QuietTactic
import Derived.BigQuiet
import Derived.Lib.Hide
import Derived.Deep.DeepFit
import Derived.Deep.DeepMust
namespace Go.Proofs.YtnomlkkhkacajaaGreatDoor

/-- A NaN. -/
def NaN (k : FloatKind) (b : Nat) : Prop := k.format.infRung < rg k.format b
theorem read_nan {k : FloatKind} {x : Nat} (h : NaN k x) : ∃ s n, k.format.read x = .nan s n := by
  unfold NaN at h
  have e : k.format.read x = if rg k.format x < k.format.binade then .number (sg k.format x) (rg k.format x) k.format.leastPlace
      else if rg k.format x < k.format.infRung then .number (sg k.format x) (k.format.binade + rg k.format x % k.format.binade) (k.format.leastPlace + (rg k.format x / k.format.binade - 1 : Nat))
      else if rg k.format x = k.format.infRung then .infinity (sg k.format x) else .nan (sg k.format x) (rg k.format x - k.format.infRung) := rfl
  have hb : k.format.binade ≤ k.format.infRung := by cases k <;> decide
  rw [e, if_neg (by omega), if_neg (by omega), if_neg (by omega)]
  exact ⟨_, _, rfl⟩
theorem order_nan_l {k : FloatKind} {x : Nat} (h : NaN k x) (y : Nat) : k.format.order x y = none := by
  obtain ⟨s, n, e⟩ := read_nan h
  unfold Ieee.Format.order
  rw [e]; rfl
theorem nan_cut32 (t : Nat) : NaN .f32 ((t % 2) * 2 ^ 31 + 0x7f800000 + 1 + (t / 2) % (2 ^ 23 - 1)) := by
  show (2139095040 : Nat) < (_ % 2147483648)
  have := Nat.mod_lt (t / 2) (show 0 < 2 ^ 23 - 1 by decide)
  generalize t / 2 % (2 ^ 23 - 1) = r at *
  rcases Nat.mod_two_eq_zero_or_one t with h | h <;> rw [h] <;> omega
theorem nan_cut64 (t : Nat) : NaN .f64 ((t % 2) * 2 ^ 63 + 0x7ff0000000000000 + 1 + (t / 2) % (2 ^ 52 - 1)) := by
  show (9218868437227405312 : Nat) < (_ % 9223372036854775808)
  have := Nat.mod_lt (t / 2) (show 0 < 2 ^ 52 - 1 by decide)
  generalize t / 2 % (2 ^ 52 - 1) = r at *
  rcases Nat.mod_two_eq_zero_or_one t with h | h <;> rw [h] <;> omega

/-- The difference of a word and itself. -/
theorem sub_self_fin {k : FloatKind} {x : Nat} (h : Fin k.format x) : ∃ r, floatBits .sub k x x = some r ∧ k.format.order r 0 = some .eq := by
  obtain ⟨r, e, hr⟩ := sub_spec h h
  have hz : (0 : Nat) < k.format.infRung := by cases k <;> decide
  obtain ⟨h1, h2⟩ := hr.exact (t := false) (z := 0) hz (by rw [rv_zero]; show val k.format x - val k.format x = 0; grind)
  have h0 : Fin k.format 0 := by unfold Fin rg; rw [Nat.zero_mod]; exact hz
  have v0 : val k.format 0 = 0 := by
    unfold val rg; rw [Nat.zero_mod, rv_zero, sr_zero]
  obtain ⟨c, e2, _, hc, _⟩ := order_spec h1 h0
  refine ⟨r, e, ?_⟩
  rw [e2, hc.2 (by rw [h2, v0]; grind)]
theorem sub_self_not {k : FloatKind} {x : Nat} (h : ¬ Fin k.format x) : floatBits .sub k x x = none := by
  have e : k.format.read x = if rg k.format x < k.format.binade then .number (sg k.format x) (rg k.format x) k.format.leastPlace
      else if rg k.format x < k.format.infRung then .number (sg k.format x) (k.format.binade + rg k.format x % k.format.binade) (k.format.leastPlace + (rg k.format x / k.format.binade - 1 : Nat))
      else if rg k.format x = k.format.infRung then .infinity (sg k.format x) else .nan (sg k.format x) (rg k.format x - k.format.infRung) := rfl
  have hb : k.format.binade ≤ k.format.infRung := by cases k <;> decide
  unfold Fin at h
  rw [if_neg (by omega), if_neg (by omega)] at e
  show Option.map _ (Ieee.Datum.sum (k.format.read x) (k.format.read x).opposite) = none
  rw [e]
  split
  · simp only [Ieee.Datum.opposite, Ieee.Datum.sum]
    cases sg k.format x <;> rfl
  · rfl

/- Conversions of finite words. -/
def wide (x : Nat) : Nat := Ieee.double.write (Ieee.single.read x)
def narrow (x : Nat) : Nat := Ieee.single.write (Ieee.double.read x)
theorem fin_not_inf {f : Ieee.Format} {x : Nat} (h : Fin f x) : (f.read x).isInfinity = false := by
  obtain ⟨m, p, e, _⟩ := read_fin f h
  rw [e]; rfl
theorem conv_wide {x : Nat} (h : Fin Ieee.single x) : floatToFloatBits .f32 x .f64 = some (wide x) := by
  have h2 := fin_not_inf (wide_spec h).1
  obtain ⟨m, p, e, _⟩ := read_fin Ieee.single h
  have e' : FloatKind.f32.decode x = .number (sg Ieee.single x) m p := e
  unfold floatToFloatBits wide
  rw [if_neg (by decide), e']
  rw [e] at h2 ⊢
  show (if (Ieee.double.read (Ieee.double.write (.number _ m p))).isInfinity = true then none else some (Ieee.double.write (.number _ m p))) = _
  rw [if_neg (by rw [h2]; decide)]
theorem conv_narrow {x : Nat} (h : Fin Ieee.double x) (hf : Fin Ieee.single (narrow x)) : floatToFloatBits .f64 x .f32 = some (narrow x) := by
  have h2 := fin_not_inf hf
  unfold narrow at h2 ⊢
  obtain ⟨m, p, e, _⟩ := read_fin Ieee.double h
  have e' : FloatKind.f64.decode x = .number (sg Ieee.double x) m p := e
  unfold floatToFloatBits
  rw [if_neg (by decide), e']
  rw [e] at h2 ⊢
  show (if (Ieee.single.read (Ieee.single.write (.number _ m p))).isInfinity = true then none else some (Ieee.single.write (.number _ m p))) = _
  rw [if_neg (by rw [h2]; decide)]
theorem cconv_narrow {x y : Nat} (hx : Fin Ieee.double x) (hx' : Fin Ieee.single (narrow x)) (hy : Fin Ieee.double y) (hy' : Fin Ieee.single (narrow y)) : cConvBits .f64 x y .f32 = some (narrow x, narrow y) := by
  unfold cConvBits; rw [conv_narrow hx hx', conv_narrow hy hy']; rfl
theorem int_whl {n : Int} (h : n.natAbs < 9007199254740992) : Whl Ieee.double (floatOfInt .f64 n) n := by
  refine rnd_int64 ⟨decide (n < 0), n.natAbs, 0, rfl, sr_int n⟩ h
theorem narrow_whl {x : Nat} {n : Int} (h : Whl Ieee.double x n) (hn : n.natAbs < 16777216) : Whl Ieee.single (narrow x) n := by
  have := narrow_spec h.1
  rw [h.2] at this
  exact rnd_int32 this hn
theorem order_self {f : Ieee.Format} {x : Nat} (h : Fin f x) : f.order x x = some .eq := by
  obtain ⟨c, e, _, hc, _⟩ := order_spec h h
  rw [e, hc.2 rfl]


/- Thousandths: float64(n) / 1000, and the float32 of it. -/
def mq (n : Int) : Nat := (Ieee.double.div (floatOfInt .f64 n) 4652007308841189376).getD 0
def mp (n : Int) : Nat := narrow (mq n)
theorem k1000 : Whl Ieee.double 4652007308841189376 1000 := by
  have h := int_whl (n := 1000) (by decide)
  rw [show floatOfInt .f64 1000 = 4652007308841189376 by decide] at h
  exact h
theorem p2_14 : p2 14 = 16384 := by rw [show (14 : Int) = ((14 : Nat) : Int) from rfl, p2_nat]; rfl
theorem mq_spec {n : Int} (h1 : -9999999 ≤ n) (h2 : n ≤ 9999999) :
    Ieee.double.div (floatOfInt .f64 n) 4652007308841189376 = some (mq n) ∧ Fin Ieee.double (mq n) ∧ val Ieee.double (mq n) - (n : Rat) / 1000 ≤ p2 (-38) ∧ (n : Rat) / 1000 - val Ieee.double (mq n) ≤ p2 (-38) ∧
      val Ieee.double (mq n) ≤ 10000 ∧ -10000 ≤ val Ieee.double (mq n) := by
  have hw := int_whl (n := n) (by omega)
  have hk := k1000
  have h0 : val Ieee.double 4652007308841189376 ≠ 0 := by rw [hk.2]; decide
  obtain ⟨r, q, e, hr, he1, he2⟩ := quot_spec hw.1 hk.1 h0
  rw [hw.2, hk.2] at he1 he2
  have hq : mq n = r := by unfold mq; rw [e]; rfl
  rw [hq]
  have hn1 : ((-9999999 : Int) : Rat) ≤ (n : Rat) := Rat.intCast_le_intCast.2 h1
  have hn2 : (n : Rat) ≤ ((9999999 : Int) : Rat) := Rat.intCast_le_intCast.2 h2
  have c1 : ((-9999999 : Int) : Rat) = -9999999 := rfl
  have c2 : ((9999999 : Int) : Rat) = 9999999 := rfl
  have c3 : ((1000 : Int) : Rat) = 1000 := rfl
  rw [c1] at hn1
  rw [c2] at hn2
  rw [c3] at he1 he2
  have e53 : p2 (-((Ieee.double.fractionBits : Int) + 1)) = p2 (-53) := rfl
  rw [e53] at he1 he2
  have hp : p2 (-39) = 16384 * p2 (-53) := by rw [← p2_14, ← p2_add]; rfl
  have hp2 : p2 (-38) = 2 * p2 (-39) := by rw [← p2_succ]; rfl
  have hpos := p2_pos (-53)
  obtain ⟨y, hy⟩ : ∃ y, y = (n : Rat) / 1000 := ⟨_, rfl⟩
  have hy2 : 1000 * y = (n : Rat) := by rw [hy]; grind
  rw [← hy] at he1 he2 ⊢
  have hm : (if y < 0 then -y else y) ≤ 10000 := by split <;> grind
  have hm2 := Rat.mul_le_mul_of_nonneg_right hm (Rat.le_of_lt hpos)
  have hq1 : q - y ≤ p2 (-39) := by grind
  have hq2 : y - q ≤ p2 (-39) := by grind
  have hsm : p2 (-39) ≤ 1 / 2048 := by
    have h3 : p2 (-39) * 2048 = p2 (-28) := by
      have : (2048 : Rat) = p2 11 := by rw [show (11 : Int) = ((11 : Nat) : Int) from rfl, p2_nat]; rfl
      rw [this, ← p2_add]; rfl
    have h4 : p2 (-28) ≤ p2 0 := p2_mono (by decide)
    rw [p2_zero] at h4
    grind
  have c10 : ((10000 : Nat) : Rat) = 10000 := rfl
  obtain ⟨z, hz, hv⟩ := repr_ex Ieee.double (n := 10000) (e := 0) (by decide) (by decide) (by rw [inf64]; exact rlt_of_le (b := p2 14) (by rw [p2_zero, p2_14, c10]; grind) (p2_mono (by decide)))
  have hv' : rv Ieee.double z = 10000 := by rw [hv, p2_zero, c10]; grind
  have hb := hr.le hz (by rw [hv']; grind) (by rw [hv']; grind)
  rw [hv'] at hb
  have her := hr.err_lt (E := 14) (by rw [p2_14]; grind) (by rw [p2_14]; grind) (by decide) hb.1
  have e40 : p2 (14 - (Ieee.double.fractionBits : Int) - 2) = p2 (-40) := rfl
  rw [e40] at her
  have hp3 : p2 (-39) = 2 * p2 (-40) := by rw [← p2_succ]; rfl
  refine ⟨e, hb.1, by grind, by grind, hb.2.1, hb.2.2⟩

/-- The float32 of so many thousandths: finite, and not farther than half a unit, and a little, from them. -/
theorem mp_spec {n : Int} (h1 : -9999999 ≤ n) (h2 : n ≤ 9999999) :
    Fin Ieee.single (mp n) ∧ 1000 * val Ieee.single (mp n) - (n : Rat) ≤ 49 / 100 ∧ (n : Rat) - 1000 * val Ieee.single (mp n) ≤ 49 / 100 ∧ val Ieee.single (mp n) ≤ 10000 ∧ -10000 ≤ val Ieee.single (mp n) := by
  obtain ⟨_, hf, he1, he2, hl1, hl2⟩ := mq_spec h1 h2
  have hr := narrow_spec hf
  have c10 : ((10000 : Nat) : Rat) = 10000 := rfl
  obtain ⟨z, hz, hv⟩ := repr_ex Ieee.single (n := 10000) (e := 0) (by decide) (by decide) (by rw [inf32]; exact rlt_of_le (b := p2 14) (by rw [p2_zero, p2_14, c10]; grind) (p2_mono (by decide)))
  have hv' : rv Ieee.single z = 10000 := by rw [hv, p2_zero, c10]; grind
  have hb := hr.le hz (by rw [hv']; exact hl1) (by rw [hv']; exact hl2)
  rw [hv'] at hb
  have her := hr.err_lt (E := 14) (by rw [p2_14]; grind) (by rw [p2_14]; grind) (by decide) hb.1
  have e11 : p2 (14 - (Ieee.single.fractionBits : Int) - 2) = p2 (-11) := rfl
  rw [e11] at her
  have h11 : p2 (-11) * 2048 = 1 := by
    have : (2048 : Rat) = p2 11 := by rw [show (11 : Int) = ((11 : Nat) : Int) from rfl, p2_nat]; rfl
    rw [this, ← p2_add]; exact p2_zero
  have h38 : p2 (-38) * 134217728 = p2 (-11) := by
    have : (134217728 : Rat) = p2 27 := by rw [show (27 : Int) = ((27 : Nat) : Int) from rfl, p2_nat]; rfl
    rw [this, ← p2_add]; rfl
  change Fin Ieee.single (mp n) ∧ val Ieee.single (mp n) ≤ _ ∧ _ ≤ val Ieee.single (mp n) at hb
  change val Ieee.single (mp n) - _ ≤ _ ∧ _ - val Ieee.single (mp n) ≤ _ at her
  generalize val Ieee.single (mp n) = v at *
  generalize val Ieee.double (mq n) = u at *
  obtain ⟨y, hy⟩ : ∃ y, y = (n : Rat) / 1000 := ⟨_, rfl⟩
  have hy2 : 1000 * y = (n : Rat) := by rw [hy]; grind
  rw [← hy] at he1 he2
  rw [← hy2]
  have hpos := p2_pos (-11)
  generalize p2 (-11) = e at *
  generalize p2 (-38) = d at *
  refine ⟨hb.1, ?_, ?_, hb.2.1, hb.2.2⟩ <;> grind
end Go.Proofs.YtnomlkkhkacajaaGreatDoor
namespace Go.Proofs.YtnomlkkhkacajaaGreatDoor
open Go.RowKit

@[go_sem] theorem run_store_float (P : Program) (w : World) (a : Addr) (m : Mode) (k : FloatKind) (b : Nat) : (store a (.float k b) m).run P w = stored P w a (.float k b) m := run_store P w a _ m rfl
@[go_sem] theorem run_store_complex (P : Program) (w : World) (a : Addr) (m : Mode) (k : FloatKind) (x y : Nat) : (store a (.complex k x y) m).run P w = stored P w a (.complex k x y) m := run_store P w a _ m rfl

/-- An operation that is not valid: a NaN, whose bits the tape says. -/
theorem run_float_nan (P : Program) {op : BinOp} (hop : op = .add ∨ op = .sub ∨ op = .mul ∨ op = .quo) (t : TypeId) {k : FloatKind} {x y : Nat} (h : floatBits op k x y = none) :
    ∃ b : World → Nat, (∀ w, NaN k (b w)) ∧ ∀ w, (binOp op t (.float k x) (.float k y)).run P w = .ok (.float k (b w)) w.drew := by
  refine ⟨fun w => Question.cut (.nanBits k x y) (w.tape w.drawn (.nanBits k x y)), ?_, ?_⟩
  · intro w
    cases k
    · exact nan_cut32 _
    · exact nan_cut64 _
  · intro w
    unfold floatBits at h
    rcases hop with rfl | rfl | rfl | rfl <;> simp only at h <;> simp [binOp, Op.floatArith, h] <;> exact fun h => by cases h

/-- A complex64. -/
abbrev C := Nat × Nat
def cv (z : C) : Value := .complex .f32 z.1 z.2
@[go_sem] theorem run_store_cv (P : Program) (w : World) (a : Addr) (m : Mode) (z : C) : (store a (cv z) m).run P w = stored P w a (cv z) m := run_store P w a _ m rfl

/-- Neither part is infinite or a NaN. -/
def finB (z : C) : Bool := decide (Fin Ieee.single z.1) && decide (Fin Ieee.single z.2)

/- A slice value that reads as a list of one-cell values. -/
def Sl (w : World) (A : Option Addr) (n : Nat) (vs : List Value) : Prop :=
  vs.length = n ∧ (n = 0 ∨ ∃ b o, A = some ⟨b, o, none⟩ ∧ b < w.heap.size ∧ ∀ k v, vs[k]? = some v → w.cell? ⟨b, o + k, none⟩ = some v)
theorem Sl.len {w : World} {A : Option Addr} {n : Nat} {vs : List Value} (h : Sl w A n vs) : vs.length = n := h.1
theorem Sl.at_ {w : World} {A : Option Addr} {n k : Nat} {vs : List Value} (h : Sl w A n vs) (hk : k < n) :
    ∃ b o, A = some ⟨b, o, none⟩ ∧ b < w.heap.size ∧ ∀ k v, vs[k]? = some v → w.cell? ⟨b, o + k, none⟩ = some v := by
  rcases h.2 with h0 | h0
  · omega
  · exact h0
theorem Sl.keep {w w' : World} {A : Option Addr} {n : Nat} {vs : List Value} (h : Sl w A n vs) (hs : w.heap.size ≤ w'.heap.size) (hk : ∀ b, b < w.heap.size → ∀ o, w'.cell? ⟨b, o, none⟩ = w.cell? ⟨b, o, none⟩) : Sl w' A n vs := by
  refine ⟨h.1, ?_⟩
  rcases h.2 with h0 | ⟨b, o, rfl, hb, hc⟩
  · exact .inl h0
  · exact .inr ⟨b, o, rfl, by omega, fun k v hv => by rw [hk b hb]; exact hc k v hv⟩
theorem Sl.below {w w' : World} {A : Option Addr} {n : Nat} {vs : List Value} (h : Sl w A n vs) (hb : Below w.heap.size w w') : Sl w' A n vs :=
  h.keep hb.size fun _ hlt o => hb.cell (p := ⟨_, o, none⟩) hlt
theorem Sl.drewN {w : World} {A : Option Addr} {n : Nat} {vs : List Value} (h : Sl w A n vs) (m : Nat) : Sl (w.drewN m) A n vs := h
theorem Sl.nil_ (w : World) (A : Option Addr) : Sl w A 0 [] := ⟨rfl, .inl rfl⟩
theorem below_drewN {B : Nat} {a w : World} (h : Below B a w) (n : Nat) : Below B a (w.drewN n) := ⟨h.os, h.tape, h.output, h.size, h.block⟩

/-- The number at a place. -/
def nth (xs : List C) (k : Nat) : C := xs.getD k (0, 0)
theorem nth_eq {xs : List C} {k : Nat} (h : k < xs.length) : nth xs k = xs[k] := by
  unfold nth; rw [List.getD_eq_getElem?_getD, List.getElem?_eq_getElem h]; rfl

/-- A slice of complex64. -/
def Cs (w : World) (A : Option Addr) (n : Nat) (xs : List C) : Prop := Sl w A n (xs.map cv)
theorem Cs.len {w : World} {A : Option Addr} {n : Nat} {xs : List C} (h : Cs w A n xs) : xs.length = n := by have := Sl.len h; simpa using this
theorem Cs.at_ {w : World} {A : Option Addr} {n k : Nat} {xs : List C} (h : Cs w A n xs) (hk : k < n) :
    ∃ b o, A = some ⟨b, o, none⟩ ∧ b < w.heap.size ∧ ∀ j, j < n → w.cell? ⟨b, o + j, none⟩ = some (cv (nth xs j)) := by
  obtain ⟨b, o, hA, hb, hc⟩ := Sl.at_ h hk
  refine ⟨b, o, hA, hb, fun j hj => hc j _ ?_⟩
  have hl := h.len
  rw [List.getElem?_map, nth_eq (by omega), List.getElem?_eq_getElem (by omega)]
  rfl
theorem Cs.below {w w' : World} {A : Option Addr} {n : Nat} {xs : List C} (h : Cs w A n xs) (hb : Below w.heap.size w w') : Cs w' A n xs := Sl.below h hb
theorem Cs.drewN {w : World} {A : Option Addr} {n : Nat} {xs : List C} (h : Cs w A n xs) (m : Nat) : Cs (w.drewN m) A n xs := h

/-- Whether a signal is one. -/
def sigB (xs : List C) : Bool := decide (xs.length ≤ 16) && xs.all finB
theorem all_take_succ {xs : List C} {k : Nat} (hk : k < xs.length) (p : C → Bool) : (xs.take (k + 1)).all p = ((xs.take k).all p && p (nth xs k)) := by
  rw [List.take_succ_eq_append_getElem hk, List.all_append, nth_eq hk]
  simp
theorem all_false_of {xs : List C} {k : Nat} (hk : k < xs.length) {p : C → Bool} (h : p (nth xs k) = false) : xs.all p = false := by
  rw [nth_eq hk] at h
  exact List.all_eq_false.2 ⟨xs[k], List.getElem_mem hk, by simpa using h⟩

/- Slices of the call's own: a row of one-cell elements that may be written. -/
structure Elem (P : Program) (T E : TypeId) (z : Value) (bytes : Nat) : Prop where
  und : P.underlying T = some (.slice E)
  info : ∃ i, P.info? E = some i ∧ i.zero = some z ∧ i.size = 1 ∧ i.bytes = bytes
  one : z.cells = #[z]
theorem Elem.mk' {P : Program} {T E : TypeId} {z : Value} {bytes : Nat} (h1 : P.underlying T = some (.slice E)) (h2 : (P.info? E).map (fun i => (i.zero, i.size, i.bytes)) = some (some z, 1, bytes)) (h3 : z.cells = #[z]) : Elem P T E z bytes :=
  ⟨h1, info_parts h2, h3⟩

def Ow (w : World) (B : Nat) (E : TypeId) (v : Value) (n : Nat) (vs : List Value) : Prop := w.ownsRow B E 1 v n vs
section
variable {w w' : World} {B n : Nat} {E : TypeId} {v : Value} {vs : List Value}
theorem Ow.len (h : Ow w B E v n vs) : vs.length = n := by have := h.1; simpa using this
theorem Ow.nil_ (w : World) (B : Nat) (E : TypeId) : Ow w B E (.slice none 0 0) 0 [] := World.ownsRow_nil w B E 1
theorem Ow.shape (h : Ow w B E v n vs) : ∃ A c, v = .slice A n c := by
  rcases h.2 with ⟨rfl, rfl⟩ | ⟨g, cap, cur, rfl, _⟩
  · exact ⟨_, _, rfl⟩
  · exact ⟨_, _, rfl⟩
theorem Ow.below (h : Ow w B E v n vs) (hb : Below w.heap.size w w') : Ow w' B E v n vs := by
  refine ⟨h.1, ?_⟩
  rcases h.2 with hn | ⟨g, cap, cur, hv, hg, hh, r⟩
  · exact .inl hn
  · exact .inr ⟨g, cap, cur, hv, hg, by rw [hb.block g (Array.getElem?_eq_some_iff.1 hh).1]; exact hh, r⟩
theorem Ow.drewN (h : Ow w B E v n vs) (m : Nat) : Ow (w.drewN m) B E v n vs := h
theorem Ow.mono (h : Ow w B E v n vs) {B' : Nat} (hB : B' ≤ B) : Ow w B' E v n vs := by
  refine ⟨h.1, ?_⟩
  rcases h.2 with hn | ⟨g, cap, cur, hv, hg, r⟩
  · exact .inl hn
  · exact .inr ⟨g, cap, cur, hv, by omega, r⟩
theorem Ow.sl {A : Option Addr} {c : Nat} (h : Ow w B E (.slice A n c) n vs) : Sl w A n vs := by
  refine ⟨h.len, ?_⟩
  have h' := h
  rcases h.2 with ⟨hv, hn⟩ | ⟨g, cap, cur, hv, hg, hh, r⟩
  · exact .inl hn
  · injection hv with h1 _ h3
    subst h1
    subst h3
    refine .inr ⟨g, 0, rfl, (Array.getElem?_eq_some_iff.1 hh).1, fun k u hu => ?_⟩
    have hk : k < n := by
      have := (List.getElem?_eq_some_iff.1 hu).1
      have := h'.len
      omega
    rw [Nat.zero_add, World.ownsRow.cellAt h' k (by omega)]
    exact hu
theorem Ow.at_ {A : Option Addr} {c : Nat} (h : Ow w B E (.slice A n c) n vs) {k : Nat} (hk : k < n) :
    ∃ g, A = some ⟨g, 0, none⟩ ∧ B ≤ g ∧ g < w.heap.size ∧ (∀ j, j < n → w.cell? ⟨g, j, none⟩ = vs[j]?) ∧ (∀ j, w.frozen? ⟨g, j, none⟩ = false) ∧
      (∀ j u, Ow (w.setCell ⟨g, j, none⟩ u) B E (.slice (some ⟨g, 0, none⟩) n c) n (vs.set j u)) := by
  have h' := h
  rcases h.2 with ⟨hv, hn⟩ | ⟨g, cap, cur, hv, hg, hh, r⟩
  · omega
  · injection hv with h1 _ h3
    subst h1
    subst h3
    exact ⟨g, rfl, hg, (Array.getElem?_eq_some_iff.1 hh).1, fun j hj => World.ownsRow.cellAt h' j (by omega), fun j => World.ownsRow.frozenAt h' j, fun j u => (World.ownsRow.stored h' j u).1⟩
end

section
variable {P : Program} {w w0 : World} {ops : Array Oper} {rest : List Oper} {o : Oper} {a : Act} {Q : Exit → Act → World → Prop}
/-- make([]T, 0, n) -/
theorem wl_make0 (hg : o.guard = none) (l c : Operand) (t : TypeId) (hop : o.op = Op.makeSlice t l c) {E : TypeId} {z : Value} {bytes : Nat} (he : Elem P t E z bytes)
    (kl kc : IntKind) (m : Nat) (C : Int) (hl : a.eval l = .int kl 0) (hc : a.eval c = .int kc C) (hC : C = (m : Int)) (b2 : bytes * m ≤ 281474976710656) (b3 : m ≤ maxLen)
    (hb : Below w0.heap.size w0 w)
    (hK : ∀ w', Ow w' w0.heap.size E (.slice (some ⟨w.heap.size, 0, none⟩) 0 m) 0 [] → Below w0.heap.size w0 w' → Below w.heap.size w w' → wpList P ops Q rest (a.put o.dst (.slice (some ⟨w.heap.size, 0, none⟩) 0 m)) w') :
    wpList P ops Q (o :: rest) a w := by
  obtain ⟨i, h2, h3, h4, h5⟩ := he.info
  subst h5
  refine wpList_make_own w hg l c t hop w0.heap.size E i z 1 he.und h2 h3 h4 kl kc C m hl hc hC b2 b3 hb.size ?_
  intro w' h1 h2
  exact hK w' h1 (hb.grown h2 hb.size (by simp)) ((Below.refl _ _).grown h2 (Nat.le_refl _) (by simp))
/-- make([]T, n) -/
theorem wl_make (hg : o.guard = none) (l c : Operand) (t : TypeId) (hop : o.op = Op.makeSlice t l c) {E : TypeId} {z : Value} {bytes : Nat} (he : Elem P t E z bytes)
    (kl kc : IntKind) (m : Nat) (L C : Int) (hl : a.eval l = .int kl L) (hc : a.eval c = .int kc C) (hL : L = (m : Int)) (hC : C = (m : Int)) (b2 : bytes * m ≤ 281474976710656) (b3 : m ≤ maxLen)
    (hb : Below w0.heap.size w0 w)
    (hK : ∀ w', Ow w' w0.heap.size E (.slice (some ⟨w.heap.size, 0, none⟩) m m) m (List.replicate m z) → Below w0.heap.size w0 w' → Below w.heap.size w w' → wpList P ops Q rest (a.put o.dst (.slice (some ⟨w.heap.size, 0, none⟩) m m)) w') :
    wpList P ops Q (o :: rest) a w := by
  obtain ⟨i, h2, h3, h4, h5⟩ := he.info
  subst h5
  refine wpList_make_full w hg l c t hop w0.heap.size E i z 1 he.und h2 h3 h4 kl kc L C m hl hc hL hC b2 b3 hb.size ?_
  intro w' h1 h2
  rw [he.one, Nat.mul_one, toList_madeCells_one] at h1
  exact hK w' h1 (hb.grown h2 hb.size (by simp)) ((Below.refl _ _).grown h2 (Nat.le_refl _) (by simp))
end

section
variable {P : Program} {w w0 : World} {ops : Array Oper} {o : Oper} {a : Act} {Q : Exit → Act → World → Prop} {K : Act → World → Prop} {X : Prop}
/-- append(out, u), as one step of a region that draws its order. -/
theorem st_app1 (hgd : o.guard = none) (s x : Operand) (t : TypeId) (ho : o.op = .call { callee := .builtin .append, args := #[s, x], argTypes := #[t, t] })
    {E : TypeId} {z : Value} {bytes : Nat} (he : Elem P t E z bytes) (v : Value) (n : Nat) (vs : List Value) (hs : a.eval s = v) (hown : Ow w w0.heap.size E v n vs)
    (u : Value) (hx : a.eval x = .slice (some ⟨w.heap.size, 0, none⟩) 1 1) (hu : u.oneCell' = true) (h63 : n + 1 ≤ maxLen) (hbytes : (n + 1) * bytes ≤ 140737488355328) (hb : Below w0.heap.size w0 w)
    (h : ∀ v' w', Ow w' w0.heap.size E v' (n + 1) (vs ++ [u]) → Below w0.heap.size w0 w' → K (a.put o.dst v') w') :
    if Region.wanted o (yielded ops a.tmps) = true then Oper.wp P o a (w.alloc (.cells #[u] E)) K Q else X := by
  have hw : Region.wanted o (yielded ops a.tmps) = true := by simp [Region.wanted, hgd]
  rw [if_pos hw]
  obtain ⟨i, h2, h3, h4, h5⟩ := he.info
  subst h5
  refine wp_append_own (w.alloc (.cells #[u] E)) s x t ho w0.heap.size E i z 1 i.bytes he.und h2 h3 h4 rfl (by rw [he.one]; rfl) (by decide) v n vs hs (World.ownsRow.alloc hown _) ⟨w.heap.size, 0, none⟩ 1 1 [u] hx rfl ?_ ?_ h63 hbytes ?_ ?_
  · intro j u' hj
    match j, hj with
    | 0, hj =>
      simp at hj
      subst hj
      rw [show (⟨w.heap.size, 0, none⟩ : Addr).add 0 = ⟨w.heap.size, 0, none⟩ from rfl, World.cell?_alloc_at _ _ _ _ rfl]
      rfl
  · intro u' hu'
    simp at hu'
    subst hu'
    exact hu
  · have := hb.size
    simp
    omega
  · intro v' w' h1 h2 _
    refine h v' w' h1 ((hb.alloc hb.size _).grown h2 (by have := hb.size; simp; omega) ?_)
    intro k hk
    exact (World.ownsRow.lt hown k hk).1
end

/- A list being filled from its head. -/
def fill (vs : List Value) (n k : Nat) (z : Value) : List Value := vs.take k ++ List.replicate (n - k) z
theorem fill_zero (vs : List Value) (n : Nat) (z : Value) : fill vs n 0 z = List.replicate n z := by simp [fill]
theorem fill_full {vs : List Value} {n : Nat} (h : vs.length = n) (z : Value) : fill vs n n z = vs := by
  unfold fill; rw [Nat.sub_self, List.take_of_length_le (by omega)]; simp
theorem fill_get {vs : List Value} {n k : Nat} (h : vs.length = n) (hk : k < n) (z : Value) : (fill vs n k z)[k]? = some z := by
  unfold fill
  have hl : (vs.take k).length = k := by simp; omega
  rw [List.getElem?_append_right (by omega), hl, Nat.sub_self, List.getElem?_replicate, if_pos (by omega)]
theorem fill_set {vs : List Value} {n k : Nat} (h : vs.length = n) (hk : k < n) (z u : Value) (hu : vs[k]? = some u) : (fill vs n k z).set k u = fill vs n (k + 1) z := by
  unfold fill
  have hl : (vs.take k).length = k := by simp; omega
  obtain ⟨d, hd⟩ : ∃ d, n - k = d + 1 := ⟨n - k - 1, by omega⟩
  have hd2 : n - (k + 1) = d := by omega
  rw [List.set_append_right _ _ (by omega), hl, Nat.sub_self, hd, hd2, List.replicate_succ, List.set_cons_zero]
  have hk2 : k < vs.length := by omega
  rw [List.getElem?_eq_getElem hk2] at hu
  injection hu with hu
  rw [List.take_succ_eq_append_getElem hk2, hu, List.append_assoc]
  rfl

/- Only one block is another. -/
structure Only (w w' : World) (A : Option Addr) : Prop where
  os : w'.os = w.os
  tape : w'.tape = w.tape
  output : w'.output = w.output
  size : w'.heap.size = w.heap.size
  block : ∀ i, (∀ a, A = some a → i ≠ a.block) → w'.heap[i]? = w.heap[i]?
theorem Only.refl (w : World) (A : Option Addr) : Only w w A := ⟨rfl, rfl, rfl, rfl, fun _ _ => rfl⟩
theorem Only.trans {a b c : World} {A : Option Addr} (h : Only a b A) (k : Only b c A) : Only a c A :=
  ⟨k.os.trans h.os, k.tape.trans h.tape, k.output.trans h.output, k.size.trans h.size, fun i hi => (k.block i hi).trans (h.block i hi)⟩
theorem Only.drewN {a b : World} {A : Option Addr} (h : Only a b A) (m : Nat) : Only a (b.drewN m) A := ⟨h.os, h.tape, h.output, h.size, h.block⟩
theorem Only.setCell {a b : World} {g : Nat} {o : Nat} (h : Only a b (some ⟨g, o, none⟩)) (j : Nat) (u : Value) : Only a (b.setCell ⟨g, j, none⟩ u) (some ⟨g, o, none⟩) :=
  h.trans ⟨rfl, rfl, rfl, by simp [World.setCell], fun i hi => Below.heap_setCell b _ u i (hi ⟨g, o, none⟩ rfl)⟩
theorem Only.below {w w' : World} {A : Option Addr} {B : Nat} (h : Only w w' A) (hA : ∀ a, A = some a → B ≤ a.block) : Below B w w' :=
  ⟨h.os, h.tape, h.output, by rw [h.size]; exact Nat.le_refl _, fun k hk => h.block k fun a ha => by have := hA a ha; omega⟩
/-- Two slices that share no block. -/
def Apart (A A' : Option Addr) : Prop := ∀ a a', A = some a → A' = some a' → a.block ≠ a'.block
theorem Sl.only {w w' : World} {A A' : Option Addr} {n : Nat} {vs : List Value} (h : Sl w A n vs) (ho : Only w w' A') (hne : Apart A A') : Sl w' A n vs := by
  refine ⟨h.1, ?_⟩
  rcases h.2 with h0 | ⟨b, o, rfl, hb, hc⟩
  · exact .inl h0
  · refine .inr ⟨b, o, rfl, by rw [ho.size]; exact hb, fun k v hv => ?_⟩
    have := ho.block b (fun a ha => by have := hne _ a rfl ha; exact this)
    rw [← hc k v hv]
    exact World.cell?_of_block (w := w) this
theorem Ow.ge {w : World} {B n c : Nat} {E : TypeId} {A : Option Addr} {vs : List Value} (h : Ow w B E (.slice A n c) n vs) : ∀ a, A = some a → B ≤ a.block ∧ a.block < w.heap.size := by
  intro a ha
  subst ha
  exact World.ownsRow.lt h a.block rfl
theorem Ow.only {w w' : World} {B n c : Nat} {E : TypeId} {A A' : Option Addr} {vs : List Value} (h : Ow w B E (.slice A n c) n vs) (ho : Only w w' A') (hne : Apart A A') : Ow w' B E (.slice A n c) n vs := by
  refine ⟨h.1, ?_⟩
  rcases h.2 with hn | ⟨g, cap, cur, hv, hg, hh, r⟩
  · exact .inl hn
  · refine .inr ⟨g, cap, cur, hv, hg, ?_, r⟩
    injection hv with h1 _ _
    rw [ho.block g (fun a ha => hne ⟨g, 0, none⟩ a h1 ha)]
    exact hh
def Dr (w w' : World) : Prop := ∃ m, w' = w.drewN m
theorem Dr.refl (w : World) : Dr w w := ⟨0, rfl⟩
theorem Dr.drewN {a b : World} (h : Dr a b) (m : Nat) : Dr a (b.drewN m) := by
  obtain ⟨k, rfl⟩ := h
  exact ⟨k + m, by rw [World.drewN_drewN]⟩
theorem Dr.trans {a b c : World} (h : Dr a b) (k : Dr b c) : Dr a c := by
  obtain ⟨m, rfl⟩ := k
  exact h.drewN m
theorem Dr.cell {a b : World} (h : Dr a b) (p : Addr) : b.cell? p = a.cell? p := by obtain ⟨m, rfl⟩ := h; rfl
theorem Dr.below {a b : World} (h : Dr a b) : Below a.heap.size a b := by obtain ⟨m, rfl⟩ := h; exact below_drewN (Below.refl _ _) m

/- Slices of whole numbers. -/
def iv (n : Int) : Value := .int .i64 n
def inth (xs : List Int) (k : Nat) : Int := xs.getD k 0
theorem inth_eq {xs : List Int} {k : Nat} (h : k < xs.length) : inth xs k = xs[k] := by
  unfold inth; rw [List.getD_eq_getElem?_getD, List.getElem?_eq_getElem h]; rfl
theorem Sl.int_at {w : World} {A : Option Addr} {n k : Nat} {xs : List Int} (h : Sl w A n (xs.map iv)) (hk : k < n) :
    ∃ b o, A = some ⟨b, o, none⟩ ∧ b < w.heap.size ∧ ∀ j, j < n → w.cell? ⟨b, o + j, none⟩ = some (.int .i64 (inth xs j)) := by
  obtain ⟨b, o, hA, hb, hc⟩ := Sl.at_ h hk
  have hl := h.len
  rw [List.length_map] at hl
  refine ⟨b, o, hA, hb, fun j hj => hc j _ ?_⟩
  rw [List.getElem?_map, inth_eq (by omega), List.getElem?_eq_getElem (by omega)]
  rfl
theorem Ow.empty (w : World) (E : TypeId) : Ow (w.alloc (.cells #[] E)) w.heap.size E (.slice (some ⟨w.heap.size, 0, none⟩) 0 0) 0 [] :=
  World.ownsRow_lit w #[] 0 (Nat.le_refl _) (Nat.zero_le _) rfl
theorem below_alloc (w : World) (o : Obj) : Below w.heap.size w (w.alloc o) := (Below.refl _ _).alloc (Nat.le_refl _) o
/-- A new slice of complex64, and whether there is one. -/
def RetC (w : World) (ys : List C) (ok : Bool) (e : Ending) (w' : World) : Prop :=
  ∃ A m c, e = .returned (.tuple #[.slice A m c, .bool ok]) ∧ Ow w' w.heap.size 73 (.slice A m c) m (ys.map cv) ∧ Below w.heap.size w w'
def RetO (w : World) (o : Option (List C)) (e : Ending) (w' : World) : Prop := RetC w (o.getD []) o.isSome e w'
/-- A new slice of complex64. -/
def RetS (w : World) (ys : List C) (e : Ending) (w' : World) : Prop :=
  ∃ A m c, e = .returned (.slice A m c) ∧ Ow w' w.heap.size 73 (.slice A m c) m (ys.map cv) ∧ Below w.heap.size w w'
theorem RetC.nil_ {w w' : World} (h : Below w.heap.size w w') : RetC w [] false (.returned (.tuple #[.slice none 0 0, .bool false])) w' := ⟨_, _, _, rfl, Ow.nil_ _ _ _, h⟩
theorem RetS.nil_ {w w' : World} (h : Below w.heap.size w w') : RetS w [] (.returned (.slice none 0 0)) w' := ⟨_, _, _, rfl, Ow.nil_ _ _ _, h⟩
end Go.Proofs.YtnomlkkhkacajaaGreatDoor
namespace Go.Proofs.YtnomlkkhkacajaaGreatDoor
open Go.RowKit


set_option maxHeartbeats 400000 in
theorem iFinite (z : C) (w : World) :
    Calls Tryz.prog 88 #[cv z] w fun e w' => e = .returned (.bool (finB z)) ∧ Dr w w' := by
  obtain ⟨x, y⟩ := z
  unfold cv
  by_cases hx : Fin Ieee.single x
  · obtain ⟨r1, e1, o1⟩ := sub_self_fin (k := .f32) hx
    have q1 := fun w => run_float_arith (P := Tryz.prog) w .sub 131 .f32 x x r1 e1
    by_cases hy : Fin Ieee.single y
    · obtain ⟨r2, e2, o2⟩ := sub_self_fin (k := .f32) hy
      have q2 := fun w => run_float_arith (P := Tryz.prog) w .sub 131 .f32 y y r2 e2
      clear e1 e2
      rw [show finB (x, y) = true by simp [finB, hx, hy]]
      clear hx hy
      go_enter Tryz.func88, Tryz.ntmps88
      go_wp2
      go_ret
      exact ⟨rfl, 0, rfl⟩
    · obtain ⟨b, hb, q2⟩ := run_float_nan Tryz.prog (.inr (.inl rfl)) 131 (sub_self_not (k := .f32) hy)
      have o2 := fun w => order_nan_l (hb w) 0
      clear e1 hb
      rw [show finB (x, y) = false by simp [finB, hx, hy]]
      clear hx hy
      go_enter Tryz.func88, Tryz.ntmps88
      go_wp2
      go_ret
      exact ⟨rfl, 1, rfl⟩
  · obtain ⟨b, hb, q1⟩ := run_float_nan Tryz.prog (.inr (.inl rfl)) 131 (sub_self_not (k := .f32) hx)
    have o1 := fun w => order_nan_l (hb w) 0
    clear hb
    rw [show finB (x, y) = false by simp [finB, hx]]
    clear hx
    go_enter Tryz.func88, Tryz.ntmps88
    go_wp2
    go_ret
    exact ⟨rfl, 1, rfl⟩

set_option maxHeartbeats 400000 in
theorem sFinite (z : C) (w : World) :
    Calls Tryz.prog 115 #[cv z] w fun e w' => e = .returned (.bool (finB z)) ∧ Dr w w' := by
  obtain ⟨x, y⟩ := z
  unfold cv
  by_cases hx : Fin Ieee.single x
  · obtain ⟨r1, e1, o1⟩ := sub_self_fin (k := .f32) hx
    have q1 := fun w => run_float_arith (P := Tryz.prog) w .sub 131 .f32 x x r1 e1
    by_cases hy : Fin Ieee.single y
    · obtain ⟨r2, e2, o2⟩ := sub_self_fin (k := .f32) hy
      have q2 := fun w => run_float_arith (P := Tryz.prog) w .sub 131 .f32 y y r2 e2
      clear e1 e2
      rw [show finB (x, y) = true by simp [finB, hx, hy]]
      clear hx hy
      go_enter Tryz.func115, Tryz.ntmps115
      go_wp2
      go_ret
      exact ⟨rfl, 0, rfl⟩
    · obtain ⟨b, hb, q2⟩ := run_float_nan Tryz.prog (.inr (.inl rfl)) 131 (sub_self_not (k := .f32) hy)
      have o2 := fun w => order_nan_l (hb w) 0
      clear e1 hb
      rw [show finB (x, y) = false by simp [finB, hx, hy]]
      clear hx hy
      go_enter Tryz.func115, Tryz.ntmps115
      go_wp2
      go_ret
      exact ⟨rfl, 1, rfl⟩
  · obtain ⟨b, hb, q1⟩ := run_float_nan Tryz.prog (.inr (.inl rfl)) 131 (sub_self_not (k := .f32) hx)
    have o1 := fun w => order_nan_l (hb w) 0
    clear hb
    rw [show finB (x, y) = false by simp [finB, hx]]
    clear hx
    go_enter Tryz.func115, Tryz.ntmps115
    go_wp2
    go_ret
    exact ⟨rfl, 1, rfl⟩

theorem ret_int {k : IntKind} {a b : Int} (h : a = b) : Ending.returned (.int k a) = .returned (.int k b) := by rw [h]
theorem ret_bool {a b : Bool} (h : a = b) : Ending.returned (.bool a) = .returned (.bool b) := by rw [h]

set_option maxHeartbeats 400000 in
theorem iSignalOk (A : Option Addr) (n c : Nat) (xs : List C) (w : World) (hn : n ≤ 9223372036854775807) (hx : Cs w A n xs) :
    Calls Tryz.prog 43 #[.slice A n c] w fun e w' => e = .returned (.bool (sigB xs)) ∧ Dr w w' := by
  have hl := hx.len
  by_cases h16 : n ≤ 16
  · have hs : sigB xs = xs.all finB := by unfold sigB; simp [hl, h16]
    rw [hs]
    have HL := Lib.hid hl
    clear hl hs
    go_enter Tryz.func43, Tryz.ntmps43
    go_wp2_with fail
    go_loopw [10] (fun i wr => ∃ k : Nat, k ≤ n ∧ i = .int .i64 k ∧ (xs.take k).all finB = true ∧ ∃ m, wr = w.drewN m) (fun i _ => n - (intOf i).toNat)
    case atStart => exact ⟨0, by omega, rfl, rfl, 0, rfl⟩
    case round =>
      obtain ⟨k, hk, rfl, hf, m, rfl⟩ := hrel
      have HF := Lib.hid hf
      clear hf
      by_cases hlt : k < n
      · obtain ⟨b, o, rfl, hb, hc⟩ := hx.at_ hlt
        have hck := hc k hlt
        clear hc hx
        by_cases hfin : finB (nth xs k) = true
        · go_wp2_with (go_at_call 88; refine (iFinite _ _).mono ?_; rintro e w' ⟨rfl, m', rfl⟩)
          go_roundw
          case rel => exact ⟨k + 1, by omega, by go_num, by rw [all_take_succ (by rw [HL.out]; omega), HF.out, hfin]; rfl, _, rfl⟩
          case measure => simp [intOf]; omega
        · have hfin' : finB (nth xs k) = false := by simpa using hfin
          clear hfin
          go_wp2_with (go_at_call 88; refine (iFinite _ _).mono ?_; rintro e w' ⟨rfl, m', rfl⟩)
          go_ret
          exact ⟨ret_bool (all_false_of (by rw [HL.out]; omega) hfin').symm, _, rfl⟩
      · go_wp2_with fail
        go_ret
        exact ⟨ret_bool (by rw [← HF.out, List.take_of_length_le (by rw [HL.out]; omega)]), _, rfl⟩
  · have hs : sigB xs = false := by unfold sigB; simp [hl, h16]
    rw [hs]
    clear hl hs hx
    go_enter Tryz.func43, Tryz.ntmps43
    go_wp2_with fail
    go_ret
    exact ⟨rfl, 0, rfl⟩
end Go.Proofs.YtnomlkkhkacajaaGreatDoor
namespace Go.Proofs.YtnomlkkhkacajaaGreatDoor
open Go.RowKit

theorem Tryz.eI : Elem Tryz.prog 92 3 (.int .i64 0) 8 := Elem.mk' Tryz.underlying92 (by kernel_rfl) rfl
theorem Tryz.eC : Elem Tryz.prog 23 73 (.complex .f32 0 0) 8 := Elem.mk' Tryz.underlying23 (by kernel_rfl) rfl

theorem finB_iff {z : C} : finB z = true ↔ Fin Ieee.single z.1 ∧ Fin Ieee.single z.2 := by simp [finB]
theorem all_fin_nth {xs : List C} {k : Nat} (h : xs.all finB = true) (hk : k < xs.length) : Fin Ieee.single (nth xs k).1 ∧ Fin Ieee.single (nth xs k).2 := by
  rw [nth_eq hk]
  exact finB_iff.1 (List.all_eq_true.1 h _ (List.getElem_mem hk))
end Go.Proofs.YtnomlkkhkacajaaGreatDoor
