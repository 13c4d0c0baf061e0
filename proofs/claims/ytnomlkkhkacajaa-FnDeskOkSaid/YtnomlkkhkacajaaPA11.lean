/- Texts on the way to a law (T4, T5, K5, M2), each with its own remark. -/
import Derived.Test.YtnomlkkhkacajaaPA10
import Derived.Test.YtnomlkkhkacajaaPA04
import Derived.Test.YtnomlkkhkacajaaPA08
namespace Go.Proofs.Ytnomlkkhkacajaa
open Go.RowKit

def p2B (n : Nat) : Bool := n == 1 || n == 2 || n == 4 || n == 8 || n == 16
theorem p2B_iff {n : Nat} : p2B n = true ↔ n = 1 ∨ n = 2 ∨ n = 4 ∨ n = 8 ∨ n = 16 := by simp [p2B]; omega
def sizB (xs : List C) : Bool := p2B xs.length && sigB xs
set_option maxHeartbeats 400000 in
theorem sSizeOk (A : Option Addr) (n c : Nat) (xs : List C) (w : World) (hn : n ≤ 1048576) (hx : Cs w A n xs) :
    Calls Try.prog 37 #[.slice A n c] w fun e w' => e = .returned (.bool (sizB xs)) ∧ Dr w w' := by
  have hl := hx.len
  have HS : Hid (sizB xs = (p2B n && sigB xs)) := by show _ = _; unfold sizB; rw [hl]
  rw [HS.out]
  clear hl
  cases hs : sigB xs
  · have HC : Hid (∀ w, Cs w A n xs → Calls Try.prog 11 #[.slice A n c] w fun e w' => e = .returned (.bool false) ∧ Dr w w') := fun w h => by rw [← hs]; exact sSignalOk A n c xs w (by omega) h
    go_enter Try.func37, Try.ntmps37
    go_wp2_with fail
    refine (HC.out _ hx).mono ?_
    rintro e w' ⟨rfl, m, rfl⟩
    go_wp2_with fail
    go_ret
    exact ⟨by simp, m, rfl⟩
  · have HC : Hid (∀ w, Cs w A n xs → Calls Try.prog 11 #[.slice A n c] w fun e w' => e = .returned (.bool true) ∧ Dr w w') := fun w h => by rw [← hs]; exact sSignalOk A n c xs w (by omega) h
    by_cases hb : p2B n = true
    · rw [hb]
      rcases p2B_iff.1 hb with rfl | rfl | rfl | rfl | rfl
      all_goals
        go_enter Try.func37, Try.ntmps37
        go_wp2_with fail
        refine (HC.out _ hx).mono ?_
        rintro e w' ⟨rfl, m, rfl⟩
        go_wp2_with fail
        go_ret
        exact ⟨by simp, m, rfl⟩
    · have hb' : p2B n = false := by simpa using hb
      rw [hb']
      have hn : ¬ (n = 1 ∨ n = 2 ∨ n = 4 ∨ n = 8 ∨ n = 16) := fun h => hb (p2B_iff.2 h)
      have c1 : ((n : Int) == 1) = false := by rw [beq_eq_false_iff_ne]; omega
      have c2 : ((n : Int) == 2) = false := by rw [beq_eq_false_iff_ne]; omega
      have c3 : ((n : Int) == 4) = false := by rw [beq_eq_false_iff_ne]; omega
      have c4 : ((n : Int) == 8) = false := by rw [beq_eq_false_iff_ne]; omega
      have c5 : ((n : Int) == 16) = false := by rw [beq_eq_false_iff_ne]; omega
      clear hb hb' hn
      go_enter Try.func37, Try.ntmps37
      go_wp2_with fail
      refine (HC.out _ hx).mono ?_
      rintro e w' ⟨rfl, m, rfl⟩
      go_wp2_with fail
      go_ret
      exact ⟨by simp, m, rfl⟩

/-- All numbers, or none. -/
def allT (f : Nat → Option C) : Nat → Option (List C)
  | 0 => some []
  | k + 1 => (allT f k).bind fun l => (f k).bind fun z => some (l ++ [z])
theorem allT_len {f : Nat → Option C} : ∀ {k : Nat} {l : List C}, allT f k = some l → l.length = k
  | 0, l, h => by injection h with h; rw [← h]; rfl
  | k + 1, l, h => by
    unfold allT at h
    cases h1 : allT f k with
    | none => rw [h1] at h; cases h
    | some m =>
      cases h2 : f k with
      | none => rw [h1, h2] at h; cases h
      | some z =>
        rw [h1, h2] at h
        injection h with h
        rw [← h, List.length_append, allT_len h1]; rfl
theorem allT_none {f : Nat → Option C} {k : Nat} (h : allT f k = none) : ∀ j, k ≤ j → allT f j = none := by
  intro j hj
  obtain ⟨d, rfl⟩ : ∃ d, j = k + d := ⟨j - k, by omega⟩
  clear hj
  induction d with
  | zero => exact h
  | succ d ih => show (allT f (k + d)).bind _ = none; rw [ih]; rfl
theorem allT_step {f : Nat → Option C} {k : Nat} {l : List C} (h : allT f k = some l) {z : C} (hz : f k = some z) : allT f (k + 1) = some (l ++ [z]) := by
  show (allT f k).bind _ = _; rw [h]; show (f k).bind _ = _; rw [hz]; rfl
theorem allT_stop {f : Nat → Option C} {k : Nat} {l : List C} (h : allT f k = some l) (hz : f k = none) : allT f (k + 1) = none := by
  show (allT f k).bind _ = _; rw [h]; show (f k).bind _ = _; rw [hz]; rfl
theorem fil_set (l : List Value) {n k : Nat} (hl : l.length = k) (hk : k < n) (z u : Value) : (l ++ List.replicate (n - k) z).set k u = (l ++ [u]) ++ List.replicate (n - (k + 1)) z := by
  obtain ⟨d, hd⟩ : ∃ d, n - k = d + 1 := ⟨n - k - 1, by omega⟩
  have hd2 : n - (k + 1) = d := by omega
  rw [List.set_append_right _ _ (by omega), hl, Nat.sub_self, hd, hd2, List.replicate_succ, List.set_cons_zero, List.append_assoc]
  rfl
theorem fil_get (l : List Value) {n k : Nat} (hl : l.length = k) (hk : k < n) (z : Value) : (l ++ List.replicate (n - k) z)[k]? = some z := by
  rw [List.getElem?_append_right (by omega), hl, Nat.sub_self, List.getElem?_replicate, if_pos (by omega)]
/-- The turn of a number for each point. -/
def bk (n : Nat) (k : Int) : Int := 16 / (n : Int) * k
theorem bk_bd {n : Nat} (hn : p2B n = true) {k : Int} (h1 : -16 ≤ k) (h2 : k ≤ 16) : -256 ≤ bk n k ∧ bk n k ≤ 256 := by
  unfold bk
  rcases p2B_iff.1 hn with rfl | rfl | rfl | rfl | rfl <;> constructor <;> omega
/-- The spectrum. -/
def transF (xs : List C) : Option (List C) := if sizB xs then allT (fun k => sumT xs (bk xs.length (-(k : Int))) xs.length) xs.length else none
/-- No product passes single precision. -/
def ProdOk (xs : List C) (s : Int) : Prop := ∀ k i, k < xs.length → i < xs.length → finB (prodT xs (bk xs.length (s * (k : Int))) i) = true
theorem transF_no {xs : List C} (h : sizB xs = false) : transF xs = none := by unfold transF; rw [h]; rfl
theorem transF_yes {xs : List C} {n : Nat} (h : sizB xs = true) (hl : xs.length = n) : transF xs = allT (fun k => sumT xs (bk n (-(k : Int))) n) n := by unfold transF; rw [h, hl]; rfl
theorem siz_parts {xs : List C} (h : sizB xs = true) : p2B xs.length = true ∧ sigB xs = true ∧ xs.all finB = true ∧ xs.length ≤ 16 ∧ 1 ≤ xs.length := by
  unfold sizB at h
  rw [Bool.and_eq_true] at h
  have h3 := h.2
  unfold sigB at h3
  rw [Bool.and_eq_true, decide_eq_true_eq] at h3
  have := p2B_iff.1 h.1
  exact ⟨h.1, h.2, h3.2, h3.1, by omega⟩

end Go.Proofs.Ytnomlkkhkacajaa
namespace Go.Proofs.Ytnomlkkhkacajaa
open Go.RowKit

set_option maxHeartbeats 2000000 in
set_option maxRecDepth 100000 in
theorem sTransform (A : Option Addr) (n c : Nat) (xs : List C) (w : World) (hn : n ≤ 1048576) (hx : Cs w A n xs) (hp : sizB xs = true → ProdOk xs (-1)) :
    Calls Try.prog 29 #[.slice A n c] w (RetO w (transF xs)) := by
  have hl := hx.len
  have he := Ow.empty w 35
  have hb0 := below_alloc w (.cells #[] 35)
  have hx0 : Cs (w.alloc (.cells #[] 35)) A n xs := hx.below hb0
  cases hs : sizB xs
  · have HN := Lib.hid (transF_no hs)
    have HC : Hid (∀ w, Cs w A n xs → Calls Try.prog 37 #[.slice A n c] w fun e w' => e = .returned (.bool false) ∧ Dr w w') := fun w h => by rw [← hs]; exact sSizeOk A n c xs w hn h
    clear hl hs hp
    go_enter Try.func29, Try.ntmps29
    go_wp2_with fail
    refine (HC.out _ hx0).mono ?_
    rintro e w' ⟨rfl, m, rfl⟩
    go_wp2_with fail
    go_ret2
    rw [HN.out]
    exact RetC.empty he (below_drewN hb0 m)
  · have HC : Hid (∀ w, Cs w A n xs → Calls Try.prog 37 #[.slice A n c] w fun e w' => e = .returned (.bool true) ∧ Dr w w') := fun w h => by rw [← hs]; exact sSizeOk A n c xs w hn h
    obtain ⟨s1, s2, s3, s4, s5⟩ := siz_parts hs
    rw [hl] at s1 s4 s5
    have HY := Lib.hid (transF_yes hs hl)
    have HT : Hid (∀ (k : Nat) w', k < n → Cs w' A n xs → Calls Try.prog 38 #[.slice A n c, .int .i64 (bk n (-(k : Int)))] w' (RetQ2 w' (sumT xs (bk n (-(k : Int))) n))) := fun k w' hk h => by
      obtain ⟨b1, b2⟩ := bk_bd s1 (k := -(k : Int)) (by omega) (by omega)
      refine sSum A n c xs (bk n (-(k : Int))) w' s4 h s3 b1 b2 fun i hi => ?_
      have := hp hs k i (by omega) (by omega)
      rw [hl, show (-1 : Int) * (k : Int) = -(k : Int) by omega] at this
      exact this
    have HBK : Hid (∀ k : Nat, k < n → IntKind.i64.wrap (-(k : Int) * (16 / (n : Int))) = bk n (-(k : Int))) := fun k hk => by
      obtain ⟨b1, b2⟩ := bk_bd s1 (k := -(k : Int)) (by omega) (by omega)
      have : -(k : Int) * (16 / (n : Int)) = bk n (-(k : Int)) := by unfold bk; exact Int.mul_comm _ _
      rw [this]; exact IntWalk.i64_in _ (by omega)
    have HE := Lib.hid he
    have HB0 := Lib.hid hb0
    clear hl hs hp s1 s2 s3 he hb0
    go_enter Try.func29, Try.ntmps29
    go_wp2_with fail
    refine (HC.out _ hx0).mono ?_
    rintro e w' ⟨rfl, m, rfl⟩
    have HO1 : Hid (Ow ((w.alloc (.cells #[] 35)).drewN m) w.heap.size 35 (.slice (some ⟨w.heap.size, 0, none⟩) 0 0) 0 []) := HE.out.drewN m
    have HB1 : Hid (Below w.heap.size w ((w.alloc (.cells #[] 35)).drewN m)) := below_drewN HB0.out m
    clear hx0
    go_wp2_with fail
    go_loopw [4, 5] (fun v i wr => ∃ (k : Nat) (l : List C), k ≤ n ∧ i = .int .i64 k ∧ allT (fun k => sumT xs (bk n (-(k : Int))) n) k = some l ∧ Ow wr w.heap.size 35 v k (l.map cv) ∧ Below w.heap.size w wr) (fun _ i _ => n - (intOf i).toNat)
    case atStart => exact ⟨0, [], by omega, rfl, rfl, HO1.out, HB1.out⟩
    case round =>
      obtain ⟨k, l, hk, rfl, hal, ho, hb⟩ := hrel
      have HA := Lib.hid hal
      have HO := Lib.hid ho
      have HB := Lib.hid hb
      clear hal ho hb
      by_cases hlt : k < n
      · have e1 : IntKind.i64.wrap (-(k : Int)) = -(k : Int) := IntWalk.i64_in _ (by omega)
        have e2 := HBK.out k hlt
        go_wp2_with fail
        refine (HT.out k wr hlt (hx.below HB.out)).mono ?_
        rintro e w2 ⟨rfl, hb2⟩
        have HB2 : Hid (Below w.heap.size w w2) := HB.out.trans (hb2.mono HB.out.size)
        have HO2 := Lib.hid (HO.out.below hb2)
        clear hb2
        cases hz : sumT xs (bk n (-(k : Int))) n with
        | none =>
          have HN : Hid (transF xs = none) := by show _ = _; rw [HY.out]; exact allT_none (allT_stop HA.out hz) n (by omega)
          clear hz
          simp only [Option.getD_none, Option.isSome_none]
          go_wp2_with fail
          go_ret2
          rw [HN.out]
          exact RetC.empty ((Ow.empty w2 35).mono HB2.out.size) (HB2.out.alloc HB2.out.size _)
        | some z =>
          have HNX := Lib.hid (allT_step HA.out hz)
          clear hz
          simp only [Option.getD_some, Option.isSome_some]
          unfold cv
          have hsz := HB2.out.size
          go_wp2_with (at_builtin; refine wl_appB w.heap.size [.complex .f32 z.1 z.2] hsz rfl (.tmp 33) (.tmp 35) 23 rfl Try.eC _ k _ rfl HO2.out rfl (by simp [Value.oneCell']) (by simp [maxLen]; omega) (by simp; omega) ?_; intro v' w4 ho4 hb4)
          go_roundw
          case rel => exact ⟨k + 1, l ++ [z], by omega, by go_num, HNX.out, by rw [List.map_append]; exact ho4, HB2.out.trans hb4⟩
          case measure => simp [intOf]; omega
      · obtain rfl : k = n := by omega
        have HR : Hid (transF xs = some l) := by show _ = _; rw [HY.out]; exact HA.out
        obtain ⟨A2, c2, rfl⟩ := HO.out.shape
        go_wp2_with fail
        go_ret2
        rw [HR.out]
        exact ⟨_, _, _, rfl, HO.out, HB.out⟩
end Go.Proofs.Ytnomlkkhkacajaa
namespace Go.Proofs.Ytnomlkkhkacajaa
open Go.RowKit

theorem fin_mk {xs : List C} {i : Nat} (h : sigB xs = true) (hi : i < xs.length) : finB (nth xs i) = true := by
  unfold sigB at h
  rw [Bool.and_eq_true] at h
  exact finB_iff.2 (all_fin_nth h.2 hi)
theorem sig_len {xs : List C} (h : sigB xs = true) : xs.length ≤ 16 := by
  unfold sigB at h
  rw [Bool.and_eq_true, decide_eq_true_eq] at h
  exact h.1
/-- A list that is filled from its head. -/
def rngL (f : Nat → C) (k : Nat) : List C := (List.range k).map f
theorem rngL_len (f : Nat → C) (k : Nat) : (rngL f k).length = k := by simp [rngL]
theorem rngL_succ (f : Nat → C) (k : Nat) : rngL f (k + 1) = rngL f k ++ [f k] := by unfold rngL; rw [List.range_succ, List.map_append]; rfl
theorem rngL_nth {f : Nat → C} {k i : Nat} (h : i < k) : nth (rngL f k) i = f i := by
  rw [nth_eq (by rw [rngL_len]; exact h)]; simp [rngL]

end Go.Proofs.Ytnomlkkhkacajaa

namespace Go.Proofs.Ytnomlkkhkacajaa
open Go.RowKit

end Go.Proofs.Ytnomlkkhkacajaa
namespace Go.Proofs.Ytnomlkkhkacajaa
open Ieee

/-- Where the digits come out even, the quotient is exact ahead of its rounding. -/
theorem quot_even {f : Format} {x y : Nat} (hx : Fin f x) (hy : Fin f y) (h0 : val f y ≠ 0)
    (hev : ∀ s m i t n j, f.read x = .number s m i → f.read y = .number t n j → (m <<< (f.fractionBits + 2 + n.log2 - m.log2)) % n = 0) :
    ∃ r, f.div x y = some r ∧ Rnd f (val f x / val f y) r := by
  obtain ⟨m, i, e1, e2⟩ := read_fin f hx
  obtain ⟨n, j, e3, e4⟩ := read_fin f hy
  have hz := hev _ m i _ n j e1 e3
  have hn0 : n ≠ 0 := by
    rintro rfl
    apply h0; unfold val; rw [← e4]; simp [sr_zero]
  let more := f.fractionBits + 2 + n.log2 - m.log2
  let dividend := m <<< more
  let k := 2 * (dividend / n) + (dividend % n != 0).toNat
  refine ⟨f.write (.number (sg f x ^^ sg f y) k (i - j - more - 1)), ?_, ⟨sg f x ^^ sg f y, k, i - j - more - 1, rfl, ?_⟩⟩
  · unfold Format.div
    rw [e1, e3]
    show Option.map f.write (if n = 0 then _ else _) = _
    rw [if_neg hn0]; rfl
  have hnp : (0 : Rat) < (n : Rat) := Rat.natCast_pos.2 (by omega)
  have hpj := p2_pos j
  have hden : (0 : Rat) < (n : Rat) * p2 j := Rat.mul_pos hnp hpj
  obtain ⟨Q, hQ⟩ : ∃ Q, Q = ((m : Rat) * p2 i) / ((n : Rat) * p2 j) := ⟨_, rfl⟩
  have hQm : Q * ((n : Rat) * p2 j) = (m : Rat) * p2 i := by rw [hQ]; exact Rat.div_mul_cancel (by grind)
  have hval : val f x / val f y = sr (sg f x ^^ sg f y) Q := by
    unfold val
    rw [← e2, ← e4]
    have hne : sr (sg f y) ((n : Rat) * p2 j) ≠ 0 := by cases sg f y <;> simp only [sr_true, sr_false] <;> grind
    have h1 : sr (sg f x ^^ sg f y) Q * sr (sg f y) ((n : Rat) * p2 j) = sr (sg f x) ((m : Rat) * p2 i) := by
      rw [← hQm]
      cases sg f x <;> cases sg f y <;> simp only [sr_true, sr_false, Bool.bne_false, Bool.bne_true, Bool.not_true, Bool.not_false] <;> grind
    rw [← h1, Rat.mul_div_cancel hne]
  rw [hval]
  congr 1
  obtain ⟨T, hT⟩ : ∃ T, T = ((dividend : Nat) : Rat) / (n : Rat) := ⟨_, rfl⟩
  have hTn : T * (n : Rat) = (dividend : Rat) := by rw [hT]; exact Rat.div_mul_cancel (by grind)
  have hQT : Q = (2 * T) * p2 (i - j - more - 1) := by
    have h1 : ((2 * T) * p2 (i - j - more - 1)) * ((n : Rat) * p2 j) = Q * ((n : Rat) * p2 j) := by
      rw [hQm]
      have h2 : (dividend : Rat) = (m : Rat) * p2 more := by
        show ((m <<< more : Nat) : Rat) = _
        rw [Nat.shiftLeft_eq, Rat.natCast_mul, p2_nat]
      have h3 : p2 i = p2 more * (2 * p2 (i - j - more - 1)) * p2 j := by
        rw [← p2_succ, ← p2_add, ← p2_add]; congr 1; omega
      rw [h3]
      calc ((2 * T) * p2 (i - j - more - 1)) * ((n : Rat) * p2 j) = (T * (n : Rat)) * (2 * p2 (i - j - more - 1)) * p2 j := by grind
        _ = (m : Rat) * p2 more * (2 * p2 (i - j - more - 1)) * p2 j := by rw [hTn, h2]
        _ = _ := by grind
    refine Rat.le_antisymm ?_ ?_
    · exact Rat.le_of_mul_le_mul_right (by rw [h1]; exact Rat.le_refl) hden
    · exact Rat.le_of_mul_le_mul_right (by rw [h1]; exact Rat.le_refl) hden
  have hdm := Nat.div_add_mod dividend n
  have hz' : dividend % n = 0 := hz
  have hdmR : (n : Rat) * ((dividend / n : Nat) : Rat) + ((dividend % n : Nat) : Rat) = (dividend : Rat) := by
    rw [← Rat.natCast_mul, ← Rat.natCast_add, hdm]
  have hTe : T = ((dividend / n : Nat) : Rat) := by
    rw [hz'] at hdmR
    simp at hdmR
    refine Rat.le_antisymm (Rat.le_of_mul_le_mul_right (by rw [hTn]; grind) hnp) (Rat.le_of_mul_le_mul_right (by rw [hTn]; grind) hnp)
  have hkc : (k : Rat) = 2 * T := by
    have h1 : k = 2 * (dividend / n) := by
      show 2 * (dividend / n) + (dividend % n != 0).toNat = _
      rw [hz']; rfl
    rw [h1, Rat.natCast_mul, hTe]; rfl
  rw [hQT, hkc]
theorem read_small {x : Nat} {s : Bool} {m : Nat} {i : Int} (h : double.read x = .number s m i) : m < 2 ^ 53 := by
  have e : double.read x = if rg double x < double.binade then .number (sg double x) (rg double x) double.leastPlace
      else if rg double x < double.infRung then .number (sg double x) (double.binade + rg double x % double.binade) (double.leastPlace + (rg double x / double.binade - 1 : Nat))
      else if rg double x = double.infRung then .infinity (sg double x) else .nan (sg double x) (rg double x - double.infRung) := rfl
  have hbn : double.binade = 4503599627370496 := rfl
  have h53 : (2 : Nat) ^ 53 = 9007199254740992 := by decide
  rw [h] at e
  split at e
  · injection e with _ h1 _
    omega
  · split at e
    · injection e with _ h1 _
      have := Nat.mod_lt (rg double x) (show 0 < double.binade by rw [hbn]; decide)
      omega
    · split at e <;> cases e
/-- By a power of two, in double precision. -/
theorem quot_pow {x y : Nat} (hx : Fin double x) (hfy : Fin double y) (t : Bool) (j : Int) (hy : double.read y = .number t 4503599627370496 j) :
    ∃ r, double.div x y = some r ∧ Rnd double (val double x / val double y) r := by
  obtain ⟨n, j', e3, e4⟩ := read_fin double hfy
  rw [hy] at e3
  injection e3 with e5 e6 e7
  have hv0 : val double y ≠ 0 := by
    unfold val
    rw [← e4, ← e6]
    have := p2_pos j'
    have c : ((4503599627370496 : Nat) : Rat) = 4503599627370496 := rfl
    rw [c]
    cases sg double y <;> simp only [sr_true, sr_false] <;> grind
  refine quot_even hx hfy hv0 ?_
  intro s m i t' n' j'' h1 h2
  rw [hy] at h2
  injection h2 with _ h3 _
  subst h3
  have hm : m < 2 ^ 53 := read_small h1
  have hl : m.log2 ≤ 52 := by
    rcases Nat.eq_zero_or_pos m with rfl | h
    · decide
    · have := Nat.log2_self_le (n := m) (by omega)
      have h53 : 2 ^ m.log2 < 2 ^ 53 := by omega
      have := (Nat.pow_lt_pow_iff_right (a := 2) (by decide)).1 h53
      omega
  have h52 : (4503599627370496 : Nat).log2 = 52 := by decide
  rw [h52, Nat.shiftLeft_eq]
  show m * 2 ^ (52 + 2 + 52 - m.log2) % 4503599627370496 = 0
  obtain ⟨d, hd⟩ : ∃ d, 52 + 2 + 52 - m.log2 = 52 + d := ⟨54 - m.log2, by omega⟩
  rw [hd, Nat.pow_add, show (2 : Nat) ^ 52 = 4503599627370496 by decide, ← Nat.mul_assoc, Nat.mul_comm m, Nat.mul_assoc]
  exact Nat.mul_mod_right _ _
end Go.Proofs.Ytnomlkkhkacajaa
