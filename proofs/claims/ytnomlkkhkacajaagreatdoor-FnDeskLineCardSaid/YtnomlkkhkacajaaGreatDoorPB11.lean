/- Texts on the way to a law (T5, K5, M2, M3, W1, W2, E1), each with its own remark. -/
import Derived.Test.YtnomlkkhkacajaaGreatDoorPB10
import Derived.Test.YtnomlkkhkacajaaGreatDoorPB08
import Derived.Test.YtnomlkkhkacajaaGreatDoorPB09
import Derived.Laws.ComplexQuo
namespace Go.Proofs.YtnomlkkhkacajaaGreatDoor
open Go.RowKit

set_option maxHeartbeats 2000000 in
set_option maxRecDepth 100000 in
theorem sTransform (A : Option Addr) (n c : Nat) (xs : List C) (w : World) (hn : n ≤ 1048576) (hx : Cs w A n xs) (hp : sizB xs = true → ProdOk xs (-1)) :
    Calls Tryz.prog 82 #[.slice A n c] w (RetO w (transF xs)) := by
  have hl := hx.len
  have he := Ow.empty w 73
  have hb0 := below_alloc w (.cells #[] 73)
  have hx0 : Cs (w.alloc (.cells #[] 73)) A n xs := hx.below hb0
  cases hs : sizB xs
  · have HN := Lib.hid (transF_no hs)
    have HC : Hid (∀ w, Cs w A n xs → Calls Tryz.prog 101 #[.slice A n c] w fun e w' => e = .returned (.bool false) ∧ Dr w w') := fun w h => by rw [← hs]; exact sSizeOk A n c xs w hn h
    clear hl hs hp
    go_enter Tryz.func82, Tryz.ntmps82
    go_wp2_with fail
    refine (HC.out _ hx0).mono ?_
    rintro e w' ⟨rfl, m, rfl⟩
    go_wp2_with fail
    go_ret2
    rw [HN.out]
    exact RetC.empty he (below_drewN hb0 m)
  · have HC : Hid (∀ w, Cs w A n xs → Calls Tryz.prog 101 #[.slice A n c] w fun e w' => e = .returned (.bool true) ∧ Dr w w') := fun w h => by rw [← hs]; exact sSizeOk A n c xs w hn h
    obtain ⟨s1, s2, s3, s4, s5⟩ := siz_parts hs
    rw [hl] at s1 s4 s5
    have HY := Lib.hid (transF_yes hs hl)
    have HT : Hid (∀ (k : Nat) w', k < n → Cs w' A n xs → Calls Tryz.prog 102 #[.slice A n c, .int .i64 (bk n (-(k : Int)))] w' (RetQ2 w' (sumT xs (bk n (-(k : Int))) n))) := fun k w' hk h => by
      obtain ⟨b1, b2⟩ := bk_bd s1 (k := -(k : Int)) (by omega) (by omega)
      refine sSum A n c xs (bk n (-(k : Int))) w' s4 h s3 b1 b2 fun i hi => ?_
      have := hp hs k i (by omega) (by omega)
      rw [hl, show (-1 : Int) * (k : Int) = -(k : Int) by omega] at this
      exact this
    have HBK : Hid (∀ k : Nat, k < n → IntKind.i64.wrap (-(k : Int) * (16 / (n : Int))) = bk n (-(k : Int))) := fun k hk => by
      obtain ⟨b1, b2⟩ := bk_bd s1 (k := -(k : Int)) (by omega) (by omega)
      have : -(k : Int) * (16 / (n : Int)) = bk n (-(k : Int)) := by unfold bk; exact Int.mul_comm _ _
      rw [this]; exact IntWalk.i64_in _ (by omega)
    have HE := Lib.hid he
    have HB0 := Lib.hid hb0
    clear hl hs hp s1 s2 s3 he hb0
    go_enter Tryz.func82, Tryz.ntmps82
    go_wp2_with fail
    refine (HC.out _ hx0).mono ?_
    rintro e w' ⟨rfl, m, rfl⟩
    have HO1 : Hid (Ow ((w.alloc (.cells #[] 73)).drewN m) w.heap.size 73 (.slice (some ⟨w.heap.size, 0, none⟩) 0 0) 0 []) := HE.out.drewN m
    have HB1 : Hid (Below w.heap.size w ((w.alloc (.cells #[] 73)).drewN m)) := below_drewN HB0.out m
    clear hx0
    go_wp2_with fail
    go_loopw [4, 5] (fun v i wr => ∃ (k : Nat) (l : List C), k ≤ n ∧ i = .int .i64 k ∧ allT (fun k => sumT xs (bk n (-(k : Int))) n) k = some l ∧ Ow wr w.heap.size 73 v k (l.map cv) ∧ Below w.heap.size w wr) (fun _ i _ => n - (intOf i).toNat)
    case atStart => exact ⟨0, [], by omega, rfl, rfl, HO1.out, HB1.out⟩
    case round =>
      obtain ⟨k, l, hk, rfl, hal, ho, hb⟩ := hrel
      have HA := Lib.hid hal
      have HO := Lib.hid ho
      have HB := Lib.hid hb
      clear hal ho hb
      by_cases hlt : k < n
      · have e1 : IntKind.i64.wrap (-(k : Int)) = -(k : Int) := IntWalk.i64_in _ (by omega)
        have e2 := HBK.out k hlt
        go_wp2_with fail
        refine (HT.out k wr hlt (hx.below HB.out)).mono ?_
        rintro e w2 ⟨rfl, hb2⟩
        have HB2 : Hid (Below w.heap.size w w2) := HB.out.trans (hb2.mono HB.out.size)
        have HO2 := Lib.hid (HO.out.below hb2)
        clear hb2
        cases hz : sumT xs (bk n (-(k : Int))) n with
        | none =>
          have HN : Hid (transF xs = none) := by show _ = _; rw [HY.out]; exact allT_none (allT_stop HA.out hz) n (by omega)
          clear hz
          simp only [Option.getD_none, Option.isSome_none]
          go_wp2_with fail
          go_ret2
          rw [HN.out]
          exact RetC.empty ((Ow.empty w2 73).mono HB2.out.size) (HB2.out.alloc HB2.out.size _)
        | some z =>
          have HNX := Lib.hid (allT_step HA.out hz)
          clear hz
          simp only [Option.getD_some, Option.isSome_some]
          unfold cv
          have hsz := HB2.out.size
          go_wp2_with (at_builtin; refine wl_appB w.heap.size [.complex .f32 z.1 z.2] hsz rfl (.tmp 33) (.tmp 35) 23 rfl Tryz.eC _ k _ rfl HO2.out rfl (by simp [Value.oneCell']) (by simp [maxLen]; omega) (by simp; omega) ?_; intro v' w4 ho4 hb4)
          go_roundw
          case rel => exact ⟨k + 1, l ++ [z], by omega, by go_num, HNX.out, by rw [List.map_append]; exact ho4, HB2.out.trans hb4⟩
          case measure => simp [intOf]; omega
      · obtain rfl : k = n := by omega
        have HR : Hid (transF xs = some l) := by show _ = _; rw [HY.out]; exact HA.out
        obtain ⟨A2, c2, rfl⟩ := HO.out.shape
        go_wp2_with fail
        go_ret2
        rw [HR.out]
        exact ⟨_, _, _, rfl, HO.out, HB.out⟩
end Go.Proofs.YtnomlkkhkacajaaGreatDoor
namespace Go.Proofs.YtnomlkkhkacajaaGreatDoor
open Go.RowKit

theorem fin_mk {xs : List C} {i : Nat} (h : sigB xs = true) (hi : i < xs.length) : finB (nth xs i) = true := by
  unfold sigB at h
  rw [Bool.and_eq_true] at h
  exact finB_iff.2 (all_fin_nth h.2 hi)
theorem sig_len {xs : List C} (h : sigB xs = true) : xs.length ≤ 16 := by
  unfold sigB at h
  rw [Bool.and_eq_true, decide_eq_true_eq] at h
  exact h.1
/-- A list that is filled from its head. -/
def rngL (f : Nat → C) (k : Nat) : List C := (List.range k).map f
theorem rngL_len (f : Nat → C) (k : Nat) : (rngL f k).length = k := by simp [rngL]
theorem rngL_succ (f : Nat → C) (k : Nat) : rngL f (k + 1) = rngL f k ++ [f k] := by unfold rngL; rw [List.range_succ, List.map_append]; rfl
theorem rngL_nth {f : Nat → C} {k i : Nat} (h : i < k) : nth (rngL f k) i = f i := by
  rw [nth_eq (by rw [rngL_len]; exact h)]; simp [rngL]

end Go.Proofs.YtnomlkkhkacajaaGreatDoor

namespace Go.Proofs.YtnomlkkhkacajaaGreatDoor
open Go.RowKit

set_option maxHeartbeats 2000000 in
set_option maxRecDepth 100000 in
theorem iEach (A A' : Option Addr) (n c c' : Nat) (xs ys : List C) (w : World) (hx : Cs w A n xs) (hy : Cs w A' n ys) (hs : sigB xs = true) (hs2 : sigB ys = true) (hp : ∀ i, i < n → finB (mulC (nth xs i) (nth ys i)) = true) :
    Calls Tryz.prog 138 #[.slice A n c, .slice A' n c'] w (RetC w (rngL (fun i => mulC (nth xs i) (nth ys i)) n) true) := by
  have hl := hx.len
  have hl2 := hy.len
  have h16 : n ≤ 16 := by rw [← hl]; exact sig_len hs
  have HC : Hid (∀ w, Cs w A n xs → Calls Tryz.prog 43 #[.slice A n c] w fun e w' => e = .returned (.bool true) ∧ Dr w w') := fun w h => by rw [← hs]; exact iSignalOk A n c xs w (by omega) h
  have HC2 : Hid (∀ w, Cs w A' n ys → Calls Tryz.prog 43 #[.slice A' n c'] w fun e w' => e = .returned (.bool true) ∧ Dr w w') := fun w h => by rw [← hs2]; exact iSignalOk A' n c' ys w (by omega) h
  have HM : Hid (∀ i, i < n → (∀ w, (binOp .mul 73 (.complex .f32 (nth xs i).1 (nth xs i).2) (.complex .f32 (nth ys i).1 (nth ys i).2)).run Tryz.prog w = .ok (.complex .f32 (mulC (nth xs i) (nth ys i)).1 (mulC (nth xs i) (nth ys i)).2) w) ∧
      ∀ w, Calls Tryz.prog 88 #[.complex .f32 (mulC (nth xs i) (nth ys i)).1 (mulC (nth xs i) (nth ys i)).2] w fun e w' => e = .returned (.bool true) ∧ Dr w w') := fun i hi =>
    ⟨mulC_run Tryz.prog _ (fin_mk hs (by omega)) (fin_mk hs2 (by omega)) (hp i hi), fun w => by have := iFinite (mulC (nth xs i) (nth ys i)) w; rw [hp i hi] at this; exact this⟩
  clear hs hs2 hp hl hl2
  go_enter Tryz.func138, Tryz.ntmps138
  go_wp2_with fail
  refine (HC.out _ hx).mono ?_
  rintro e w' ⟨rfl, m, rfl⟩
  go_wp2_with fail
  refine (HC2.out _ (hy.drewN m)).mono ?_
  rintro e w' ⟨rfl, m2, rfl⟩
  obtain ⟨w0, hw0⟩ : ∃ w0, w0 = (w.drewN m).drewN m2 := ⟨_, rfl⟩
  have HB0 : Hid (Below w.heap.size w w0) := by rw [hw0]; exact below_drewN (below_drewN (Below.refl _ _) m) m2
  have HX0 : Hid (Cs w0 A n xs) := hx.below HB0.out
  have HY0 : Hid (Cs w0 A' n ys) := hy.below HB0.out
  have HZ0 : Hid (w0.heap.size = w.heap.size) := by rw [hw0]; rfl
  rw [← hw0]
  clear hw0
  go_wp2_with (at_make; refine wl_make (w0 := w0) rfl (.tmp 25) (.tmp 25) 23 rfl Tryz.eC .i64 .i64 n _ _ rfl rfl rfl rfl (by omega) (by unfold maxLen; omega) (Below.refl _ _) ?_; intro w1 hown hb1 _)
  have HO1 : Hid (Ow w1 w0.heap.size 73 (.slice (some ⟨w0.heap.size, 0, none⟩) n n) n ((rngL (fun i => mulC (nth xs i) (nth ys i)) 0).map cv ++ List.replicate (n - 0) (.complex .f32 0 0))) := hown
  have HB1 : Hid (Below w0.heap.size w0 w1) := hb1
  clear hown hb1 hx hy
  go_loopw [29] (fun i wr => ∃ k : Nat, k ≤ n ∧ i = .int .i64 k ∧ Ow wr w0.heap.size 73 (.slice (some ⟨w0.heap.size, 0, none⟩) n n) n ((rngL (fun i => mulC (nth xs i) (nth ys i)) k).map cv ++ List.replicate (n - k) (.complex .f32 0 0)) ∧ Below w0.heap.size w0 wr) (fun i _ => n - (intOf i).toNat)
  case atStart => exact ⟨0, by omega, rfl, HO1.out, HB1.out⟩
  case round =>
    obtain ⟨k, hk, rfl, ho, hb⟩ := hrel
    have HO := Lib.hid ho
    have HB := Lib.hid hb
    clear ho
    by_cases hlt : k < n
    · obtain ⟨b, o, rfl, hbl, hc⟩ := HX0.out.at_ hlt
      obtain ⟨b', o', rfl, hbl', hc'⟩ := HY0.out.at_ hlt
      have hck : wr.cell? ⟨b, o + k, none⟩ = some (cv (nth xs k)) := (hb.cell (p := ⟨b, o + k, none⟩) hbl).trans (hc k hlt)
      have hck' : wr.cell? ⟨b', o' + k, none⟩ = some (cv (nth ys k)) := (hb.cell (p := ⟨b', o' + k, none⟩) hbl').trans (hc' k hlt)
      obtain ⟨q1, q2⟩ := HM.out k hlt
      have C2 := Lib.hid q2
      have HN : Hid (rngL (fun i => mulC (nth xs i) (nth ys i)) (k + 1) = rngL (fun i => mulC (nth xs i) (nth ys i)) k ++ [mulC (nth xs k) (nth ys k)]) := rngL_succ _ _
      have HLL : Hid (((rngL (fun i => mulC (nth xs i) (nth ys i)) k).map cv).length = k) := by show _ = _; rw [List.length_map, rngL_len]
      obtain ⟨g, hg, hge, hgl, hcell, hfr, hst⟩ := Ow.at_ HO.out hlt
      injection hg with hg
      injection hg with hg
      subst hg
      have hck2 : wr.cell? ⟨w0.heap.size, k, none⟩ = some (.complex .f32 0 0) := (hcell k hlt).trans (fil_get _ HLL.out hlt _)
      have hfr2 := hfr k
      have hst2 := hst k (cv (mulC (nth xs k) (nth ys k)))
      rw [fil_set _ HLL.out hlt] at hst2
      have HS := Lib.hid hst2
      clear hst2 hcell hfr hst hb hc hc' q2
      generalize mulC (nth xs k) (nth ys k) = p at *
      generalize nth xs k = x at *
      generalize nth ys k = y at *
      unfold cv at hck hck' HS
      go_wp2_with fail
      refine (C2.out _).mono ?_
      rintro e w' ⟨rfl, m3, rfl⟩
      go_wp2_with fail
      go_roundw
      case rel => exact ⟨k + 1, by omega, by go_num, by rw [HN.out, List.map_append]; exact HS.out.drewN m3, below_drewN (HB.out.setCell (Nat.le_refl _) _) m3⟩
      case measure => simp [intOf]; omega
    · obtain rfl : k = n := by omega
      clear hb
      go_wp2_with fail
      go_ret2
      refine ⟨_, _, _, rfl, ?_, HB0.out.trans (HB.out.mono (by rw [HZ0.out]; exact Nat.le_refl _))⟩
      have := HO.out
      rw [Nat.sub_self, List.replicate_zero, List.append_nil] at this
      exact this.mono (by rw [HZ0.out]; exact Nat.le_refl _)
end Go.Proofs.YtnomlkkhkacajaaGreatDoor
namespace Go.Proofs.YtnomlkkhkacajaaGreatDoor
open Ieee

/-- Where the digits come out even, the quotient is exact ahead of its rounding. -/
theorem quot_even {f : Format} {x y : Nat} (hx : Fin f x) (hy : Fin f y) (h0 : val f y ≠ 0)
    (hev : ∀ s m i t n j, f.read x = .number s m i → f.read y = .number t n j → (m <<< (f.fractionBits + 2 + n.log2 - m.log2)) % n = 0) :
    ∃ r, f.div x y = some r ∧ Rnd f (val f x / val f y) r := by
  obtain ⟨m, i, e1, e2⟩ := read_fin f hx
  obtain ⟨n, j, e3, e4⟩ := read_fin f hy
  have hz := hev _ m i _ n j e1 e3
  have hn0 : n ≠ 0 := by
    rintro rfl
    apply h0; unfold val; rw [← e4]; simp [sr_zero]
  let more := f.fractionBits + 2 + n.log2 - m.log2
  let dividend := m <<< more
  let k := 2 * (dividend / n) + (dividend % n != 0).toNat
  refine ⟨f.write (.number (sg f x ^^ sg f y) k (i - j - more - 1)), ?_, ⟨sg f x ^^ sg f y, k, i - j - more - 1, rfl, ?_⟩⟩
  · unfold Format.div
    rw [e1, e3]
    show Option.map f.write (if n = 0 then _ else _) = _
    rw [if_neg hn0]; rfl
  have hnp : (0 : Rat) < (n : Rat) := Rat.natCast_pos.2 (by omega)
  have hpj := p2_pos j
  have hden : (0 : Rat) < (n : Rat) * p2 j := Rat.mul_pos hnp hpj
  obtain ⟨Q, hQ⟩ : ∃ Q, Q = ((m : Rat) * p2 i) / ((n : Rat) * p2 j) := ⟨_, rfl⟩
  have hQm : Q * ((n : Rat) * p2 j) = (m : Rat) * p2 i := by rw [hQ]; exact Rat.div_mul_cancel (by grind)
  have hval : val f x / val f y = sr (sg f x ^^ sg f y) Q := by
    unfold val
    rw [← e2, ← e4]
    have hne : sr (sg f y) ((n : Rat) * p2 j) ≠ 0 := by cases sg f y <;> simp only [sr_true, sr_false] <;> grind
    have h1 : sr (sg f x ^^ sg f y) Q * sr (sg f y) ((n : Rat) * p2 j) = sr (sg f x) ((m : Rat) * p2 i) := by
      rw [← hQm]
      cases sg f x <;> cases sg f y <;> simp only [sr_true, sr_false, Bool.bne_false, Bool.bne_true, Bool.not_true, Bool.not_false] <;> grind
    rw [← h1, Rat.mul_div_cancel hne]
  rw [hval]
  congr 1
  obtain ⟨T, hT⟩ : ∃ T, T = ((dividend : Nat) : Rat) / (n : Rat) := ⟨_, rfl⟩
  have hTn : T * (n : Rat) = (dividend : Rat) := by rw [hT]; exact Rat.div_mul_cancel (by grind)
  have hQT : Q = (2 * T) * p2 (i - j - more - 1) := by
    have h1 : ((2 * T) * p2 (i - j - more - 1)) * ((n : Rat) * p2 j) = Q * ((n : Rat) * p2 j) := by
      rw [hQm]
      have h2 : (dividend : Rat) = (m : Rat) * p2 more := by
        show ((m <<< more : Nat) : Rat) = _
        rw [Nat.shiftLeft_eq, Rat.natCast_mul, p2_nat]
      have h3 : p2 i = p2 more * (2 * p2 (i - j - more - 1)) * p2 j := by
        rw [← p2_succ, ← p2_add, ← p2_add]; congr 1; omega
      rw [h3]
      calc ((2 * T) * p2 (i - j - more - 1)) * ((n : Rat) * p2 j) = (T * (n : Rat)) * (2 * p2 (i - j - more - 1)) * p2 j := by grind
        _ = (m : Rat) * p2 more * (2 * p2 (i - j - more - 1)) * p2 j := by rw [hTn, h2]
        _ = _ := by grind
    refine Rat.le_antisymm ?_ ?_
    · exact Rat.le_of_mul_le_mul_right (by rw [h1]; exact Rat.le_refl) hden
    · exact Rat.le_of_mul_le_mul_right (by rw [h1]; exact Rat.le_refl) hden
  have hdm := Nat.div_add_mod dividend n
  have hz' : dividend % n = 0 := hz
  have hdmR : (n : Rat) * ((dividend / n : Nat) : Rat) + ((dividend % n : Nat) : Rat) = (dividend : Rat) := by
    rw [← Rat.natCast_mul, ← Rat.natCast_add, hdm]
  have hTe : T = ((dividend / n : Nat) : Rat) := by
    rw [hz'] at hdmR
    simp at hdmR
    refine Rat.le_antisymm (Rat.le_of_mul_le_mul_right (by rw [hTn]; grind) hnp) (Rat.le_of_mul_le_mul_right (by rw [hTn]; grind) hnp)
  have hkc : (k : Rat) = 2 * T := by
    have h1 : k = 2 * (dividend / n) := by
      show 2 * (dividend / n) + (dividend % n != 0).toNat = _
      rw [hz']; rfl
    rw [h1, Rat.natCast_mul, hTe]; rfl
  rw [hQT, hkc]
theorem read_small {x : Nat} {s : Bool} {m : Nat} {i : Int} (h : double.read x = .number s m i) : m < 2 ^ 53 := by
  have e : double.read x = if rg double x < double.binade then .number (sg double x) (rg double x) double.leastPlace
      else if rg double x < double.infRung then .number (sg double x) (double.binade + rg double x % double.binade) (double.leastPlace + (rg double x / double.binade - 1 : Nat))
      else if rg double x = double.infRung then .infinity (sg double x) else .nan (sg double x) (rg double x - double.infRung) := rfl
  have hbn : double.binade = 4503599627370496 := rfl
  have h53 : (2 : Nat) ^ 53 = 9007199254740992 := by decide
  rw [h] at e
  split at e
  · injection e with _ h1 _
    omega
  · split at e
    · injection e with _ h1 _
      have := Nat.mod_lt (rg double x) (show 0 < double.binade by rw [hbn]; decide)
      omega
    · split at e <;> cases e
/-- By a power of two, in double precision. -/
theorem quot_pow {x y : Nat} (hx : Fin double x) (hfy : Fin double y) (t : Bool) (j : Int) (hy : double.read y = .number t 4503599627370496 j) :
    ∃ r, double.div x y = some r ∧ Rnd double (val double x / val double y) r := by
  obtain ⟨n, j', e3, e4⟩ := read_fin double hfy
  rw [hy] at e3
  injection e3 with e5 e6 e7
  have hv0 : val double y ≠ 0 := by
    unfold val
    rw [← e4, ← e6]
    have := p2_pos j'
    have c : ((4503599627370496 : Nat) : Rat) = 4503599627370496 := rfl
    rw [c]
    cases sg double y <;> simp only [sr_true, sr_false] <;> grind
  refine quot_even hx hfy hv0 ?_
  intro s m i t' n' j'' h1 h2
  rw [hy] at h2
  injection h2 with _ h3 _
  subst h3
  have hm : m < 2 ^ 53 := read_small h1
  have hl : m.log2 ≤ 52 := by
    rcases Nat.eq_zero_or_pos m with rfl | h
    · decide
    · have := Nat.log2_self_le (n := m) (by omega)
      have h53 : 2 ^ m.log2 < 2 ^ 53 := by omega
      have := (Nat.pow_lt_pow_iff_right (a := 2) (by decide)).1 h53
      omega
  have h52 : (4503599627370496 : Nat).log2 = 52 := by decide
  rw [h52, Nat.shiftLeft_eq]
  show m * 2 ^ (52 + 2 + 52 - m.log2) % 4503599627370496 = 0
  obtain ⟨d, hd⟩ : ∃ d, 52 + 2 + 52 - m.log2 = 52 + d := ⟨54 - m.log2, by omega⟩
  rw [hd, Nat.pow_add, show (2 : Nat) ^ 52 = 4503599627370496 by decide, ← Nat.mul_assoc, Nat.mul_comm m, Nat.mul_assoc]
  exact Nat.mul_mod_right _ _
end Go.Proofs.YtnomlkkhkacajaaGreatDoor
namespace Go.Proofs.YtnomlkkhkacajaaGreatDoor
open Go.RowKit

/-- The words of a power of two, and what the quotient asks of them. -/
structure P2W (c32 c : Nat) (n : Int) : Prop where
  fin : Fin Ieee.single c32
  wid : floatToFloatBits .f32 c32 .f64 = some c
  whl : Whl Ieee.double c n
  pos : 1 ≤ n
  rd : ∃ t j, Ieee.double.read c = .number t 4503599627370496 j
  rat : floatBits .quo .f64 0 c = some 0
  den : floatBits .add .f64 c 0 = some c
  ge : (FloatKind.f64.format.order (Op.Complex.abs c) (Op.Complex.abs 0) == some .gt || FloatKind.f64.format.order (Op.Complex.abs c) (Op.Complex.abs 0) == some .eq) = true
  ne : (FloatKind.f64.format.order c 0 == some .eq) = false
theorem p2w_1 : P2W 1065353216 4607182418800017408 1 := ⟨by unfold Fin; decide, by kernel_rfl, by have h := int_whl (n := 1) (by decide); rwa [show floatOfInt .f64 1 = 4607182418800017408 by decide] at h, by decide, ⟨false, -52, by kernel_rfl⟩, by kernel_rfl, by kernel_rfl, by kernel_rfl, by kernel_rfl⟩
theorem p2w_2 : P2W 1073741824 4611686018427387904 2 := ⟨by unfold Fin; decide, by kernel_rfl, by have h := int_whl (n := 2) (by decide); rwa [show floatOfInt .f64 2 = 4611686018427387904 by decide] at h, by decide, ⟨false, -51, by kernel_rfl⟩, by kernel_rfl, by kernel_rfl, by kernel_rfl, by kernel_rfl⟩
theorem p2w_4 : P2W 1082130432 4616189618054758400 4 := ⟨by unfold Fin; decide, by kernel_rfl, by have h := int_whl (n := 4) (by decide); rwa [show floatOfInt .f64 4 = 4616189618054758400 by decide] at h, by decide, ⟨false, -50, by kernel_rfl⟩, by kernel_rfl, by kernel_rfl, by kernel_rfl, by kernel_rfl⟩
theorem p2w_8 : P2W 1090519040 4620693217682128896 8 := ⟨by unfold Fin; decide, by kernel_rfl, by have h := int_whl (n := 8) (by decide); rwa [show floatOfInt .f64 8 = 4620693217682128896 by decide] at h, by decide, ⟨false, -49, by kernel_rfl⟩, by kernel_rfl, by kernel_rfl, by kernel_rfl, by kernel_rfl⟩
theorem p2w_16 : P2W 1098907648 4625196817309499392 16 := ⟨by unfold Fin; decide, by kernel_rfl, by have h := int_whl (n := 16) (by decide); rwa [show floatOfInt .f64 16 = 4625196817309499392 by decide] at h, by decide, ⟨false, -48, by kernel_rfl⟩, by kernel_rfl, by kernel_rfl, by kernel_rfl, by kernel_rfl⟩

theorem mul_zero64 {x : Nat} (h : Fin Ieee.double x) : ∃ r, floatBits .mul .f64 x 0 = some r ∧ Fin Ieee.double r ∧ val Ieee.double r = 0 := by
  obtain ⟨r, e, hr⟩ := mul_spec h zero64.1
  have h0 : val Ieee.double x * val Ieee.double 0 = 0 := by rw [zero64.2]; grind
  have := hr.exact (t := false) (z := 0) (by decide) (by rw [rv_zero, h0]; rfl)
  exact ⟨r, e, this.1, by rw [this.2]; exact h0⟩
theorem rnd_self {f : Ieee.Format} {x r : Nat} (h : Fin f x) (hr : Rnd f (val f x) r) : Fin f r ∧ val f r = val f x :=
  hr.exact (t := sg f x) (z := rg f x) h rfl
/-- One part of the quotient. -/
theorem part_quot {x y c : Nat} {n : Int} {c32 : Nat} (hc : P2W c32 c n) (hx : Fin Ieee.single x) (hy : Fin Ieee.single y) :
    ∃ z a b e f, floatBits .mul .f64 (wide y) 0 = some z ∧ floatBits .add .f64 (wide x) z = some a ∧ floatBits .sub .f64 (wide x) z = some b ∧ floatBits .quo .f64 a c = some e ∧ floatBits .quo .f64 b c = some f ∧
      Rnd Ieee.double (val Ieee.single x / (n : Rat)) e ∧ Rnd Ieee.double (val Ieee.single x / (n : Rat)) f := by
  have wx := wide_spec hx
  have wy := wide_spec hy
  obtain ⟨z, ez, fz, vz⟩ := mul_zero64 wy.1
  obtain ⟨a, ea, ha⟩ := add_spec wx.1 fz
  obtain ⟨b, eb, hb⟩ := sub_spec wx.1 fz
  rw [vz, show val Ieee.double (Ieee.double.write (Ieee.single.read x)) + 0 = val Ieee.double (Ieee.double.write (Ieee.single.read x)) by grind] at ha
  rw [vz, show val Ieee.double (Ieee.double.write (Ieee.single.read x)) - 0 = val Ieee.double (Ieee.double.write (Ieee.single.read x)) by grind] at hb
  obtain ⟨fa, va⟩ := rnd_self wx.1 ha
  obtain ⟨fb, vb⟩ := rnd_self wx.1 hb
  obtain ⟨t, j, hr⟩ := hc.rd
  obtain ⟨e, ee, he⟩ := quot_pow fa hc.whl.1 t j hr
  obtain ⟨f, ef, hf⟩ := quot_pow fb hc.whl.1 t j hr
  rw [va, wx.2, hc.whl.2] at he
  rw [vb, wx.2, hc.whl.2] at hf
  exact ⟨z, a, b, e, f, ez, ea, eb, ee, ef, he, hf⟩
theorem div_absR {v : Rat} {n : Int} (hn : 1 ≤ n) : absR (v / (n : Rat)) ≤ absR v := by
  have h1 : ((1 : Int) : Rat) ≤ (n : Rat) := Rat.intCast_le_intCast.2 hn
  have c1 : ((1 : Int) : Rat) = 1 := rfl
  rw [c1] at h1
  obtain ⟨q, hq⟩ : ∃ q, q = v / (n : Rat) := ⟨_, rfl⟩
  have hv : q * (n : Rat) = v := by rw [hq]; exact Rat.div_mul_cancel (by grind)
  rw [← hq, ← hv, absR_mul]
  have h2 := absR_nonneg q
  have h3 : (1 : Rat) ≤ absR (n : Rat) := by unfold absR; split <;> grind
  have := Rat.mul_le_mul_of_nonneg_left h3 h2
  grind
/-- No quotient is farther off than the number. -/
theorem quot_fin {x e : Nat} {n : Int} (hn : 1 ≤ n) (hx : Fin Ieee.single x) (he : Rnd Ieee.double (val Ieee.single x / (n : Rat)) e) : Fin Ieee.double e ∧ Fin Ieee.single (narrow e) := by
  have wx := wide_spec hx
  have hv := div_absR (v := val Ieee.single x) hn
  have hvd : absR (val Ieee.single x) = rv Ieee.double (rg Ieee.double (Ieee.double.write (Ieee.single.read x))) := by
    rw [← wx.2]
    have hn := rv_nonneg Ieee.double (rg Ieee.double (Ieee.double.write (Ieee.single.read x)))
    unfold val
    cases sg Ieee.double (Ieee.double.write (Ieee.single.read x))
    · rw [sr_false]; unfold absR; rw [if_neg (by grind)]
    · rw [sr_true]; unfold absR; split <;> grind
  have hvs : absR (val Ieee.single x) = rv Ieee.single (rg Ieee.single x) := by
    have hn := rv_nonneg Ieee.single (rg Ieee.single x)
    unfold val
    cases sg Ieee.single x
    · rw [sr_false]; unfold absR; rw [if_neg (by grind)]
    · rw [sr_true]; unfold absR; split <;> grind
  obtain ⟨fe, l1, l2⟩ := he.le wx.1 (by rw [← hvd]; exact Rat.le_trans (le_absR _) hv) (by rw [← hvd]; have := neg_le_absR (val Ieee.single x / (n : Rat)); grind)
  rw [← hvd, hvs] at l1 l2
  exact ⟨fe, ((narrow_spec fe).le hx l1 l2).1⟩
def qe64 (a : C) (c : Nat) : Nat := (Ieee.double.div ((Ieee.double.add (wide a.1) ((Ieee.double.mul (wide a.2) 0).getD 0)).getD 0) c).getD 0
def qf64 (a : C) (c : Nat) : Nat := (Ieee.double.div ((Ieee.double.sub (wide a.2) ((Ieee.double.mul (wide a.1) 0).getD 0)).getD 0) c).getD 0
def quoC (a : C) (c : Nat) : C := (narrow (qe64 a c), narrow (qf64 a c))
theorem quoC_rnd {a : C} {c32 c : Nat} {n : Int} (hc : P2W c32 c n) (ha : finB a = true) :
    finB (quoC a c) = true ∧ Rnd Ieee.double (val Ieee.single a.1 / (n : Rat)) (qe64 a c) ∧ Rnd Ieee.double (val Ieee.single a.2 / (n : Rat)) (qf64 a c) ∧ Rnd Ieee.single (val Ieee.double (qe64 a c)) (quoC a c).1 ∧ Rnd Ieee.single (val Ieee.double (qf64 a c)) (quoC a c).2 := by
  obtain ⟨a1, a2⟩ := finB_iff.1 ha
  obtain ⟨z, p, _, e, _, e1, e2, _, e3, _, he, _⟩ := part_quot hc a1 a2
  obtain ⟨z', _, q, _, f, f1, _, f2, _, f3, _, hf⟩ := part_quot hc a2 a1
  have ee : qe64 a c = e := by
    unfold qe64
    rw [getD_some (show Ieee.double.mul (wide a.2) 0 = some z from e1), getD_some (show Ieee.double.add (wide a.1) z = some p from e2)]
    exact getD_some e3
  have ef : qf64 a c = f := by
    unfold qf64
    rw [getD_some (show Ieee.double.mul (wide a.1) 0 = some z' from f1), getD_some (show Ieee.double.sub (wide a.2) z' = some q from f2)]
    exact getD_some f3
  obtain ⟨g1, g2⟩ := quot_fin hc.pos a1 he
  obtain ⟨h1, h2⟩ := quot_fin hc.pos a2 hf
  unfold quoC
  rw [ee, ef]
  exact ⟨finB_iff.2 ⟨g2, h2⟩, he, hf, narrow_spec g1, narrow_spec h1⟩
theorem fin_nan {x : Nat} (h : Fin Ieee.double x) : Op.Complex.isNaN x = false := by
  obtain ⟨m, p, e, _⟩ := read_fin Ieee.double h
  have e' : FloatKind.f64.decode x = .number (sg Ieee.double x) m p := e
  unfold Op.Complex.isNaN
  rw [e']; rfl
theorem run_complex_quo32 (P : Program) (t : TypeId) (w : World) {a b c d A B C D e f r s : Nat} (h1 : floatToFloatBits .f32 a .f64 = some A) (h2 : floatToFloatBits .f32 b .f64 = some B) (h3 : floatToFloatBits .f32 c .f64 = some C) (h4 : floatToFloatBits .f32 d .f64 = some D)
    (hq : (Op.Complex.quotient A B C D).run P w = .ok (e, f) w) (n1 : floatToFloatBits .f64 e .f32 = some r) (n2 : floatToFloatBits .f64 f .f32 = some s) :
    (binOp .quo t (.complex .f32 a b) (.complex .f32 c d)).run P w = .ok (.complex .f32 r s) w := by
  simp [binOp, Op.complexOp, run_cconv P w (by decide) h1, run_cconv P w (by decide) h2, run_cconv P w (by decide) h3, run_cconv P w (by decide) h4, hq, run_cconv P w (by decide) n1, run_cconv P w (by decide) n2]
theorem quoC_run {a : C} {c32 c : Nat} {n : Int} (hc : P2W c32 c n) (ha : finB a = true) (P : Program) (t : TypeId) (w : World) :
    (binOp .quo t (.complex .f32 a.1 a.2) (.complex .f32 c32 0)).run P w = .ok (.complex .f32 (quoC a c).1 (quoC a c).2) w := by
  obtain ⟨a1, a2⟩ := finB_iff.1 ha
  obtain ⟨z, p, _, e, _, e1, e2, _, e3, _, he, _⟩ := part_quot hc a1 a2
  obtain ⟨z', _, q, _, f, f1, _, f2, _, f3, _, hf⟩ := part_quot hc a2 a1
  have ee : qe64 a c = e := by
    unfold qe64
    rw [getD_some (show Ieee.double.mul (wide a.2) 0 = some z from e1), getD_some (show Ieee.double.add (wide a.1) z = some p from e2)]
    exact getD_some e3
  have ef : qf64 a c = f := by
    unfold qf64
    rw [getD_some (show Ieee.double.mul (wide a.1) 0 = some z' from f1), getD_some (show Ieee.double.sub (wide a.2) z' = some q from f2)]
    exact getD_some f3
  obtain ⟨g1, g2⟩ := quot_fin hc.pos a1 he
  obtain ⟨h1, h2⟩ := quot_fin hc.pos a2 hf
  have n1 : floatToFloatBits .f64 e .f32 = some (quoC a c).1 := by unfold quoC; rw [ee]; exact conv_narrow g1 g2
  have n2 : floatToFloatBits .f64 f .f32 = some (quoC a c).2 := by unfold quoC; rw [ef]; exact conv_narrow h1 h2
  have k0 : floatToFloatBits .f32 0 .f64 = some 0 := by kernel_rfl
  have m00 : floatBits .mul .f64 0 0 = some 0 := by kernel_rfl
  have nn := fin_nan g1
  have hge := hc.ge
  have hge' : absGe c 0 = true := hge
  exact run_complex_quo32 P t w (conv_wide a1) (conv_wide a2) hc.wid k0 (run_quotient_ge (P := P) w hge' hc.rat m00 hc.den e1 e2 e3 f1 f2 f3 (by rw [nn]; rfl)) n1 n2
end Go.Proofs.YtnomlkkhkacajaaGreatDoor
namespace Go.Proofs.YtnomlkkhkacajaaGreatDoor
open Go.RowKit

theorem mp_word_all : ∀ k : _root_.Fin 2001, mp (1000 * ((k.val : Int) - 1000)) = narrow (floatOfInt .f64 ((k.val : Int) - 1000)) := by decide +kernel
theorem mp_whole {p : Int} (h1 : -1000 ≤ p) (h2 : p ≤ 1000) : Whl Ieee.single (mp (1000 * p)) p := by
  have h := mp_word_all ⟨(p + 1000).toNat, by omega⟩
  have e : (((p + 1000).toNat : Nat) : Int) - 1000 = p := by omega
  simp only [e] at h
  rw [h]
  exact narrow_whl (int_whl (by omega)) (by omega)
/-- Both parts are whole. -/
def WhlC (z : C) (p q : Int) : Prop := Whl Ieee.single z.1 p ∧ Whl Ieee.single z.2 q
def Wh (z : C) (most : Int) : Prop := ∃ p q : Int, WhlC z p q ∧ -most ≤ p ∧ p ≤ most ∧ -most ≤ q ∧ q ≤ most
def RetWh (w : World) (z : C) (most : Int) (e : Ending) (w' : World) : Prop := ∃ b, e = .returned (.bool b) ∧ (b = true → Wh z most) ∧ Dr w w'
theorem whl_part {x : Nat} {re most : Int} (m0 : most ≤ 1000) (hx : Fin Ieee.single x) (hr : re.tmod 1000 = 0) (ho : (FloatKind.f32.format.order x (mp re) == some .eq) = true) (h1 : -1000 * most ≤ re) (h2 : re ≤ 1000 * most) :
    ∃ p, Whl Ieee.single x p ∧ -most ≤ p ∧ p ≤ most := by
  obtain ⟨p, rfl⟩ := Int.dvd_of_tmod_eq_zero hr
  have hw := mp_whole (p := p) (by omega) (by omega)
  have ho' : (Ieee.single.order x (mp (1000 * p)) == some .eq) = true := ho
  rw [eq_iff hx hw.1, decide_eq_true_eq] at ho'
  exact ⟨p, ⟨hx, ho'.trans hw.2⟩, by omega, by omega⟩

theorem tmod_beq (x : Int) : (x % 1000 == 0) = (x.tmod 1000 == 0) := by
  by_cases h : x % 1000 = 0
  · have : x.tmod 1000 = 0 := Int.tmod_eq_zero_of_dvd (Int.dvd_of_emod_eq_zero h)
    rw [h, this]
  · have h2 : ¬ x.tmod 1000 = 0 := fun h3 => h (Int.emod_eq_zero_of_dvd (Int.dvd_of_tmod_eq_zero h3))
    rw [beq_eq_false_iff_ne.2 h, beq_eq_false_iff_ne.2 h2]
end Go.Proofs.YtnomlkkhkacajaaGreatDoor
namespace Go.Proofs.YtnomlkkhkacajaaGreatDoor
open Go.RowKit

def RetWS (w : World) (xs : List C) (most : Int) (e : Ending) (w' : World) : Prop := ∃ b, e = .returned (.bool b) ∧ (b = true → ∀ i, i < xs.length → Wh (nth xs i) most) ∧ Dr w w'
end Go.Proofs.YtnomlkkhkacajaaGreatDoor
namespace Go.Proofs.YtnomlkkhkacajaaGreatDoor
open Go.RowKit

def evT (xs : List C) (j : Nat) : List C := (List.range j).map fun i => nth xs (2 * i)
theorem evT_succ (xs : List C) (j : Nat) : evT xs (j + 1) = evT xs j ++ [nth xs (2 * j)] := by unfold evT; rw [List.range_succ, List.map_append]; rfl
theorem evT_len (xs : List C) (j : Nat) : (evT xs j).length = j := by simp [evT]
/-- The numbers at even places. -/
def evs (xs : List C) : List C := if sigB xs then evT xs ((xs.length + 1) / 2) else []
theorem evs_no {xs : List C} (h : sigB xs = false) : evs xs = [] := by unfold evs; rw [h]; rfl
theorem evs_yes {xs : List C} {n : Nat} (h : sigB xs = true) (hl : xs.length = n) : evs xs = evT xs ((n + 1) / 2) := by unfold evs; rw [h, hl]; rfl
theorem RetS.empty {w w' : World} {c : Nat} {g : Nat} (ho : Ow w' w.heap.size 73 (.slice (some ⟨g, 0, none⟩) 0 c) 0 []) (h : Below w.heap.size w w') : RetS w [] (.returned (.slice (some ⟨g, 0, none⟩) 0 c)) w' := ⟨_, _, _, rfl, ho, h⟩

end Go.Proofs.YtnomlkkhkacajaaGreatDoor
