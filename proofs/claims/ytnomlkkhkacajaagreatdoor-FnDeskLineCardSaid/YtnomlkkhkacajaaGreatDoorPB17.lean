/- Texts on the way to a law (K1, V1), each with its own remark. -/
import Derived.Test.YtnomlkkhkacajaaGreatDoorPB11
import Derived.Test.YtnomlkkhkacajaaGreatDoorPB09
namespace Go.Proofs.YtnomlkkhkacajaaGreatDoor
open Go.RowKit

/-- The word of a number of points, in double precision. -/
def c64 (n : Nat) : Nat := if n = 1 then 4607182418800017408 else if n = 2 then 4611686018427387904 else if n = 4 then 4616189618054758400 else if n = 8 then 4620693217682128896 else 4625196817309499392
theorem p2w_of {n : Nat} (h : p2B n = true) : P2W (floatOfInt .f32 (n : Int)) (c64 n) n := by
  rcases p2B_iff.1 h with rfl | rfl | rfl | rfl | rfl
  · rw [show floatOfInt .f32 ((1 : Nat) : Int) = 1065353216 by decide +kernel]; exact p2w_1
  · rw [show floatOfInt .f32 ((2 : Nat) : Int) = 1073741824 by decide +kernel]; exact p2w_2
  · rw [show floatOfInt .f32 ((4 : Nat) : Int) = 1082130432 by decide +kernel]; exact p2w_4
  · rw [show floatOfInt .f32 ((8 : Nat) : Int) = 1090519040 by decide +kernel]; exact p2w_8
  · rw [show floatOfInt .f32 ((16 : Nat) : Int) = 1098907648 by decide +kernel]; exact p2w_16
/-- A number of the signal of a spectrum. -/
def bakZ (xs : List C) (n k : Nat) : Option C := (sumT xs (bk n (k : Int)) n).map fun z => quoC z (c64 n)
def backF (xs : List C) : Option (List C) := if sizB xs then allT (bakZ xs xs.length) xs.length else none
theorem backF_no {xs : List C} (h : sizB xs = false) : backF xs = none := by unfold backF; rw [h]; rfl
theorem backF_yes {xs : List C} {n : Nat} (h : sizB xs = true) (hl : xs.length = n) : backF xs = allT (bakZ xs n) n := by unfold backF; rw [h, hl]; rfl
theorem bakZ_none {xs : List C} {n k : Nat} (h : sumT xs (bk n (k : Int)) n = none) : bakZ xs n k = none := by unfold bakZ; rw [h]; rfl
theorem bakZ_some {xs : List C} {n k : Nat} {z : C} (h : sumT xs (bk n (k : Int)) n = some z) : bakZ xs n k = some (quoC z (c64 n)) := by unfold bakZ; rw [h]; rfl

set_option maxHeartbeats 2000000 in
set_option maxRecDepth 100000 in
theorem iBack (A : Option Addr) (n c : Nat) (xs : List C) (w : World) (hn : n ≤ 1048576) (hx : Cs w A n xs) (hp : sizB xs = true → ProdOk xs 1) :
    Calls Tryz.prog 111 #[.slice A n c] w (RetO w (backF xs)) := by
  have hl := hx.len
  cases hs : sizB xs
  · have HN := Lib.hid (backF_no hs)
    have HC : Hid (∀ w, Cs w A n xs → Calls Tryz.prog 125 #[.slice A n c] w fun e w' => e = .returned (.bool false) ∧ Dr w w') := fun w h => by rw [← hs]; exact iSizeOk A n c xs w hn h
    clear hl hs hp
    go_enter Tryz.func111, Tryz.ntmps111
    go_wp2_with fail
    refine (HC.out _ hx).mono ?_
    rintro e w' ⟨rfl, m, rfl⟩
    go_wp2_with fail
    go_ret2
    rw [HN.out]
    exact RetC.nil_ (below_drewN (Below.refl _ _) m)
  · have HC : Hid (∀ w, Cs w A n xs → Calls Tryz.prog 125 #[.slice A n c] w fun e w' => e = .returned (.bool true) ∧ Dr w w') := fun w h => by rw [← hs]; exact iSizeOk A n c xs w hn h
    obtain ⟨s1, s2, s3, s4, s5⟩ := siz_parts hs
    rw [hl] at s1 s4 s5
    have HY := Lib.hid (backF_yes hs hl)
    have HW2 := Lib.hid (p2w_of s1)
    have HT : Hid (∀ (k : Nat) w', k < n → Cs w' A n xs → Calls Tryz.prog 126 #[.slice A n c, .int .i64 (k : Int)] w' (RetQ2 w' (sumT xs (bk n (k : Int)) n))) := fun k w' hk h => by
      obtain ⟨b1, b2⟩ := bk_bd s1 (k := (k : Int)) (by omega) (by omega)
      refine iTurned A n c xs (k : Int) (bk n (k : Int)) w' s5 s4 h s3 rfl b1 b2 fun i hi => ?_
      have := hp hs k i (by omega) (by omega)
      rw [hl, show (1 : Int) * (k : Int) = (k : Int) by omega] at this
      exact this
    clear hl hs hp s1 s2 s3
    go_enter Tryz.func111, Tryz.ntmps111
    go_wp2_with fail
    refine (HC.out _ hx).mono ?_
    rintro e w' ⟨rfl, m, rfl⟩
    go_wp2_with (at_make; refine wl_make (w0 := w.drewN m) rfl (.tmp 17) (.tmp 17) 23 rfl Tryz.eC .i64 .i64 n _ _ rfl rfl rfl rfl (by omega) (by unfold maxLen; omega) (Below.refl _ _) ?_; intro w1 hown hb1 _)
    have HO1 : Hid (Ow w1 w.heap.size 73 (.slice (some ⟨w.heap.size, 0, none⟩) n n) n (List.replicate n (.complex .f32 0 0))) := hown
    have HB1 : Hid (Below w.heap.size w w1) := ⟨hb1.os, hb1.tape, hb1.output, hb1.size, hb1.block⟩
    clear hown hb1
    go_loopw [21] (fun i wr => ∃ (k : Nat) (l : List C), k ≤ n ∧ i = .int .i64 k ∧ allT (bakZ xs n) k = some l ∧ Ow wr w.heap.size 73 (.slice (some ⟨w.heap.size, 0, none⟩) n n) n (l.map cv ++ List.replicate (n - k) (.complex .f32 0 0)) ∧ Below w.heap.size w wr) (fun i _ => n - (intOf i).toNat)
    case atStart => exact ⟨0, [], by omega, rfl, rfl, HO1.out, HB1.out⟩
    case round =>
      obtain ⟨k, l, hk, rfl, hal, ho, hb⟩ := hrel
      have HA := Lib.hid hal
      have HO := Lib.hid ho
      have HB := Lib.hid hb
      clear hal ho hb
      by_cases hlt : k < n
      · go_wp2_with fail
        refine (HT.out k wr hlt (hx.below HB.out)).mono ?_
        rintro e w2 ⟨rfl, hb2⟩
        have HB2 : Hid (Below w.heap.size w w2) := HB.out.trans (hb2.mono HB.out.size)
        have HO2 := Lib.hid (HO.out.below hb2)
        clear hb2
        cases hz : sumT xs (bk n (k : Int)) n with
        | none =>
          have HN : Hid (backF xs = none) := by show _ = _; rw [HY.out]; exact allT_none (allT_stop HA.out (bakZ_none hz)) n (by omega)
          clear hz
          simp only [Option.getD_none, Option.isSome_none]
          go_wp2_with fail
          go_ret2
          rw [HN.out]
          exact RetC.nil_ HB2.out
        | some z =>
          have HNX := Lib.hid (allT_step HA.out (bakZ_some hz))
          have HLL : Hid ((l.map cv).length = k) := by show _ = _; rw [List.length_map]; exact allT_len HA.out
          have fz := sumT_fin hz
          have qr := quoC_run HW2.out fz Tryz.prog 73
          have qf := (quoC_rnd HW2.out fz).1
          clear hz fz
          simp only [Option.getD_some, Option.isSome_some]
          obtain ⟨g, hg, hge, hgl, hcell, hfr, hst⟩ := Ow.at_ HO2.out hlt
          injection hg with hg
          injection hg with hg
          subst hg
          have hck2 : w2.cell? ⟨w.heap.size, k, none⟩ = some (.complex .f32 0 0) := (hcell k hlt).trans (fil_get _ HLL.out hlt _)
          have hfr2 := hfr k
          generalize quoC z (c64 n) = q at *
          have hst2 := hst k (cv q)
          rw [fil_set _ HLL.out hlt] at hst2
          have HS := Lib.hid hst2
          have C2 : Hid (∀ w, Calls Tryz.prog 88 #[.complex .f32 q.1 q.2] w fun e w' => e = .returned (.bool true) ∧ Dr w w') := fun w => by have := iFinite q w; rw [qf] at this; exact this
          clear hst2 hcell hfr hst qf
          unfold cv at HS
          unfold cv
          go_wp2_with fail
          refine (C2.out _).mono ?_
          rintro e w' ⟨rfl, m2, rfl⟩
          go_wp2_with fail
          go_roundw
          case rel => exact ⟨k + 1, l ++ [q], by omega, by go_num, HNX.out, by rw [List.map_append]; exact HS.out.drewN m2, below_drewN (HB2.out.setCell (Nat.le_refl _) _) m2⟩
          case measure => simp [intOf]; omega
      · obtain rfl : k = n := by omega
        have HR : Hid (backF xs = some l) := by show _ = _; rw [HY.out]; exact HA.out
        go_wp2_with fail
        go_ret2
        rw [HR.out]
        refine ⟨_, _, _, rfl, ?_, HB.out⟩
        have := HO.out
        rw [Nat.sub_self, List.replicate_zero, List.append_nil] at this
        exact this
end Go.Proofs.YtnomlkkhkacajaaGreatDoor

namespace Go.Proofs.YtnomlkkhkacajaaGreatDoor
open Go.RowKit

set_option maxHeartbeats 2000000 in
set_option maxRecDepth 100000 in
theorem sBack (A : Option Addr) (n c : Nat) (xs : List C) (w : World) (hn : n ≤ 1048576) (hx : Cs w A n xs) (hp : sizB xs = true → ProdOk xs 1) :
    Calls Tryz.prog 83 #[.slice A n c] w (RetO w (backF xs)) := by
  have hl := hx.len
  have he := Ow.empty w 73
  have hb0 := below_alloc w (.cells #[] 73)
  have hx0 : Cs (w.alloc (.cells #[] 73)) A n xs := hx.below hb0
  cases hs : sizB xs
  · have HN := Lib.hid (backF_no hs)
    have HC : Hid (∀ w, Cs w A n xs → Calls Tryz.prog 101 #[.slice A n c] w fun e w' => e = .returned (.bool false) ∧ Dr w w') := fun w h => by rw [← hs]; exact sSizeOk A n c xs w hn h
    clear hl hs hp
    go_enter Tryz.func83, Tryz.ntmps83
    go_wp2_with fail
    refine (HC.out _ hx0).mono ?_
    rintro e w' ⟨rfl, m, rfl⟩
    go_wp2_with fail
    go_ret2
    rw [HN.out]
    exact RetC.empty he (below_drewN hb0 m)
  · have HC : Hid (∀ w, Cs w A n xs → Calls Tryz.prog 101 #[.slice A n c] w fun e w' => e = .returned (.bool true) ∧ Dr w w') := fun w h => by rw [← hs]; exact sSizeOk A n c xs w hn h
    obtain ⟨s1, s2, s3, s4, s5⟩ := siz_parts hs
    rw [hl] at s1 s4 s5
    have HY := Lib.hid (backF_yes hs hl)
    have HW2 := Lib.hid (p2w_of s1)
    have HT : Hid (∀ (k : Nat) w', k < n → Cs w' A n xs → Calls Tryz.prog 102 #[.slice A n c, .int .i64 (bk n (k : Int))] w' (RetQ2 w' (sumT xs (bk n (k : Int)) n))) := fun k w' hk h => by
      obtain ⟨b1, b2⟩ := bk_bd s1 (k := (k : Int)) (by omega) (by omega)
      refine sSum A n c xs (bk n (k : Int)) w' s4 h s3 b1 b2 fun i hi => ?_
      have := hp hs k i (by omega) (by omega)
      rw [hl, show (1 : Int) * (k : Int) = (k : Int) by omega] at this
      exact this
    have HBK : Hid (∀ k : Nat, k < n → IntKind.i64.wrap ((k : Int) * (16 / (n : Int))) = bk n (k : Int)) := fun k hk => by
      obtain ⟨b1, b2⟩ := bk_bd s1 (k := (k : Int)) (by omega) (by omega)
      have : (k : Int) * (16 / (n : Int)) = bk n (k : Int) := by unfold bk; exact Int.mul_comm _ _
      rw [this]; exact IntWalk.i64_in _ (by omega)
    have HE := Lib.hid he
    have HB0 := Lib.hid hb0
    clear hl hs hp s1 s2 s3 he hb0
    go_enter Tryz.func83, Tryz.ntmps83
    go_wp2_with fail
    refine (HC.out _ hx0).mono ?_
    rintro e w' ⟨rfl, m, rfl⟩
    have HO1 : Hid (Ow ((w.alloc (.cells #[] 73)).drewN m) w.heap.size 73 (.slice (some ⟨w.heap.size, 0, none⟩) 0 0) 0 []) := HE.out.drewN m
    have HB1 : Hid (Below w.heap.size w ((w.alloc (.cells #[] 73)).drewN m)) := below_drewN HB0.out m
    clear hx0
    go_wp2_with fail
    go_loopw [4, 6] (fun v i wr => ∃ (k : Nat) (l : List C), k ≤ n ∧ i = .int .i64 k ∧ allT (bakZ xs n) k = some l ∧ Ow wr w.heap.size 73 v k (l.map cv) ∧ Below w.heap.size w wr) (fun _ i _ => n - (intOf i).toNat)
    case atStart => exact ⟨0, [], by omega, rfl, rfl, HO1.out, HB1.out⟩
    case round =>
      obtain ⟨k, l, hk, rfl, hal, ho, hb⟩ := hrel
      have HA := Lib.hid hal
      have HO := Lib.hid ho
      have HB := Lib.hid hb
      clear hal ho hb
      by_cases hlt : k < n
      · have e2 := HBK.out k hlt
        go_wp2_with fail
        refine (HT.out k wr hlt (hx.below HB.out)).mono ?_
        rintro e w2 ⟨rfl, hb2⟩
        have HB2 : Hid (Below w.heap.size w w2) := HB.out.trans (hb2.mono HB.out.size)
        have HO2 := Lib.hid (HO.out.below hb2)
        clear hb2
        cases hz : sumT xs (bk n (k : Int)) n with
        | none =>
          have HN : Hid (backF xs = none) := by show _ = _; rw [HY.out]; exact allT_none (allT_stop HA.out (bakZ_none hz)) n (by omega)
          have qr := quoC_run HW2.out (show finB (0, 0) = true by decide) Tryz.prog 73
          generalize quoC (0, 0) (c64 n) = q at *
          clear hz
          simp only [Option.getD_none, Option.isSome_none]
          unfold cv
          go_wp2_with fail
          go_ret2
          rw [HN.out]
          exact RetC.empty ((Ow.empty w2 73).mono HB2.out.size) (HB2.out.alloc HB2.out.size _)
        | some z =>
          have HNX := Lib.hid (allT_step HA.out (bakZ_some hz))
          have fz := sumT_fin hz
          have qr := quoC_run HW2.out fz Tryz.prog 73
          have qf := (quoC_rnd HW2.out fz).1
          clear hz fz
          generalize quoC z (c64 n) = q at *
          have C2 : Hid (∀ w, Calls Tryz.prog 115 #[.complex .f32 q.1 q.2] w fun e w' => e = .returned (.bool true) ∧ Dr w w') := fun w => by have := sFinite q w; rw [qf] at this; exact this
          clear qf
          simp only [Option.getD_some, Option.isSome_some]
          unfold cv
          go_wp2_with fail
          refine (C2.out _).mono ?_
          rintro e w' ⟨rfl, m2, hw2⟩
          have HO3 : Hid (Ow w' w.heap.size 73 u4 k (l.map cv)) := by rw [hw2]; exact HO2.out.drewN m2
          have HB3 : Hid (Below w.heap.size w w') := by rw [hw2]; exact below_drewN HB2.out m2
          clear hw2
          have hsz := HB3.out.size
          go_wp2_with (at_builtin; refine wl_appB w.heap.size [.complex .f32 q.1 q.2] hsz rfl (.tmp 46) (.tmp 48) 23 rfl Tryz.eC _ k _ rfl HO3.out rfl (by simp [Value.oneCell']) (by simp [maxLen]; omega) (by simp; omega) ?_; intro v' w4 ho4 hb4)
          go_roundw
          case rel => exact ⟨k + 1, l ++ [q], by omega, by go_num, HNX.out, by rw [List.map_append]; exact ho4, HB3.out.trans hb4⟩
          case measure => simp [intOf]; omega
      · obtain rfl : k = n := by omega
        have HR : Hid (backF xs = some l) := by show _ = _; rw [HY.out]; exact HA.out
        obtain ⟨A2, c2, rfl⟩ := HO.out.shape
        go_wp2_with fail
        go_ret2
        rw [HR.out]
        exact ⟨_, _, _, rfl, HO.out, HB.out⟩
end Go.Proofs.YtnomlkkhkacajaaGreatDoor
namespace Go.Proofs.YtnomlkkhkacajaaGreatDoor
open Go.RowKit

theorem rnd_pow {q : Rat} {r : Nat} {E : Int} (h : Rnd Ieee.double q r) (h1 : q ≤ p2 E) (h2 : -p2 E ≤ q) (h3 : E < 1024) (h4 : -1074 ≤ E) : Fin Ieee.double r ∧ val Ieee.double r ≤ p2 E ∧ -p2 E ≤ val Ieee.double r := by
  obtain ⟨z, hz, hvz⟩ := repr_ex Ieee.double (n := 1) (e := E) (by decide) (by show (-1074 : Int) ≤ E; exact h4) (by
    have c1 : ((1 : Nat) : Rat) = 1 := rfl
    rw [inf64, c1, Rat.one_mul]
    have := p2_lt h3
    have := p2_pos E
    grind)
  have c1 : ((1 : Nat) : Rat) = 1 := rfl
  rw [c1, Rat.one_mul] at hvz
  have := h.le hz (by rw [hvz]; exact h1) (by rw [hvz]; exact h2)
  rw [hvz] at this
  exact this
theorem rnd_ex {f : Ieee.Format} {x : Nat} (h : Fin f x) : ∃ r, Rnd f (val f x) r ∧ val f r = val f x := by
  obtain ⟨m, p, _, e⟩ := read_fin f h
  have hr : Rnd f (val f x) (f.nearest (sg f x) m p) := ⟨sg f x, m, p, rfl, by rw [e]; rfl⟩
  exact ⟨_, hr, (hr.exact (t := sg f x) (z := rg f x) h rfl).2⟩
theorem Rnd.ge {f : Ieee.Format} {q : Rat} {r x : Nat} (h : Rnd f q r) (hx : Fin f x) (hq : val f x ≤ q) : val f x ≤ val f r := by
  obtain ⟨y, hy, e⟩ := rnd_ex hx
  rw [← e]
  exact hy.mono h hq
/-- A power: finite, and at least 0. -/
def PwOk (x : Nat) : Prop := Fin Ieee.double x ∧ 0 ≤ val Ieee.double x ∧ val Ieee.double x ≤ p2 258
theorem m64_sq {x : Nat} (h : Fin Ieee.single x) : Fin Ieee.double (m64 x x) ∧ 0 ≤ val Ieee.double (m64 x x) ∧ val Ieee.double (m64 x x) ≤ p2 256 := by
  obtain ⟨_, r, f⟩ := m64_spec h h
  have l := m64_le h h
  have g := r.ge (x := 0) (fin_zero Ieee.double (by decide)).1 (by
    rw [zero64.2]
    rcases (Rat.le_total : 0 ≤ val Ieee.single x ∨ val Ieee.single x ≤ 0) with h0 | h0
    · exact Rat.mul_nonneg h0 h0
    · have := Rat.mul_nonneg (show 0 ≤ -val Ieee.single x by grind) (show 0 ≤ -val Ieee.single x by grind); grind)
  rw [zero64.2] at g
  exact ⟨f, g, Rat.le_trans (le_absR _) l⟩
def pwI (z : C) : Nat := (Ieee.double.add (m64 z.1 z.1) (m64 z.2 z.2)).getD 0
def pwA (z : C) : Nat := (Ieee.double.add 0 (m64 z.1 z.1)).getD 0
def pwS (z : C) : Nat := (Ieee.double.add (pwA z) (m64 z.2 z.2)).getD 0
theorem pwI_spec {z : C} (h : finB z = true) : floatBits .add .f64 (m64 z.1 z.1) (m64 z.2 z.2) = some (pwI z) ∧ PwOk (pwI z) ∧ Rnd Ieee.double (val Ieee.double (m64 z.1 z.1) + val Ieee.double (m64 z.2 z.2)) (pwI z) := by
  obtain ⟨f1, f2⟩ := finB_iff.1 h
  obtain ⟨a1, a2, a3⟩ := m64_sq f1
  obtain ⟨b1, b2, b3⟩ := m64_sq f2
  obtain ⟨r, e, hr⟩ := add_spec a1 b1
  have hf : pwI z = r := getD_some e
  have e258 : p2 258 = 4 * p2 256 := by rw [show (258 : Int) = 256 + 1 + 1 from rfl, p2_succ, p2_succ]; grind
  have hp := p2_pos 256
  obtain ⟨g1, g2, _⟩ := rnd_pow (E := 258) hr (by grind) (by grind) (by decide) (by decide)
  have g := hr.ge (x := 0) (fin_zero Ieee.double (by decide)).1 (by rw [zero64.2]; grind)
  rw [zero64.2] at g
  rw [hf]
  exact ⟨e, ⟨g1, g, g2⟩, hr⟩
theorem pwS_spec {z : C} (h : finB z = true) : floatBits .add .f64 0 (m64 z.1 z.1) = some (pwA z) ∧ floatBits .add .f64 (pwA z) (m64 z.2 z.2) = some (pwS z) ∧ PwOk (pwS z) ∧ val Ieee.double (pwS z) = val Ieee.double (pwI z) := by
  obtain ⟨f1, f2⟩ := finB_iff.1 h
  obtain ⟨a1, a2, a3⟩ := m64_sq f1
  obtain ⟨b1, b2, b3⟩ := m64_sq f2
  obtain ⟨r0, e0, hr0⟩ := add_spec zero64.1 a1
  have hf0 : pwA z = r0 := getD_some e0
  rw [zero64.2, show (0 : Rat) + val Ieee.double (m64 z.1 z.1) = val Ieee.double (m64 z.1 z.1) by grind] at hr0
  obtain ⟨d1, d2⟩ := hr0.exact (t := sg Ieee.double (m64 z.1 z.1)) (z := rg Ieee.double (m64 z.1 z.1)) a1 rfl
  obtain ⟨r, e, hr⟩ := add_spec d1 b1
  have hf : pwS z = r := by unfold pwS; rw [hf0]; exact getD_some e
  rw [d2] at hr
  obtain ⟨_, ⟨i1, i2, i3⟩, hi⟩ := pwI_spec h
  have hv := hr.uniq hi
  have e258 : p2 258 = 4 * p2 256 := by rw [show (258 : Int) = 256 + 1 + 1 from rfl, p2_succ, p2_succ]; grind
  have hp := p2_pos 256
  obtain ⟨g1, g2, _⟩ := rnd_pow (E := 258) hr (by grind) (by grind) (by decide) (by decide)
  rw [hf, hf0]
  exact ⟨e0, e, ⟨g1, by rw [hv]; exact i2, g2⟩, hv⟩
/-- The sum of the first powers. -/
def smT (ps : Nat → Nat) : Nat → Nat
  | 0 => 0
  | i + 1 => (Ieee.double.add (smT ps i) (ps i)).getD 0
theorem smT_step {ps : Nat → Nat} {i : Nat} (hs : Fin Ieee.double (smT ps i)) (hp : Fin Ieee.double (ps i)) : floatBits .add .f64 (smT ps i) (ps i) = some (smT ps (i + 1)) ∧ Rnd Ieee.double (val Ieee.double (smT ps i) + val Ieee.double (ps i)) (smT ps (i + 1)) := by
  obtain ⟨r, e, hr⟩ := add_spec hs hp
  have hf : smT ps (i + 1) = r := getD_some e
  rw [hf]; exact ⟨e, hr⟩
theorem smT_ok {ps : Nat → Nat} {n : Nat} (hn : n ≤ 16) (h : ∀ i, i < n → PwOk (ps i)) : ∀ i, i ≤ n → Fin Ieee.double (smT ps i) ∧ 0 ≤ val Ieee.double (smT ps i) ∧ val Ieee.double (smT ps i) ≤ p2 (258 + i)
  | 0, _ => ⟨zero64.1, by show 0 ≤ val Ieee.double 0; rw [zero64.2]; exact Rat.le_refl, by show val Ieee.double 0 ≤ _; rw [zero64.2]; exact Rat.le_of_lt (p2_pos _)⟩
  | i + 1, hi => by
    obtain ⟨s1, s2, s3⟩ := smT_ok hn h i (by omega)
    obtain ⟨q1, q2, q3⟩ := h i (by omega)
    obtain ⟨_, hr⟩ := smT_step s1 q1
    have e1 : p2 (258 + ((i + 1 : Nat) : Int)) = 2 * p2 (258 + (i : Int)) := by rw [← p2_succ]; congr 1
    have e2 : p2 258 ≤ p2 (258 + (i : Int)) := p2_mono (by omega)
    have hpp := p2_pos (258 + (i : Int))
    obtain ⟨g1, g2, _⟩ := rnd_pow (E := 258 + ((i + 1 : Nat) : Int)) hr (by rw [e1]; grind) (by rw [e1]; grind) (by omega) (by omega)
    have g := hr.ge (x := 0) zero64.1 (by rw [zero64.2]; grind)
    rw [zero64.2] at g
    exact ⟨g1, g, g2⟩
/-- What is compared. -/
def mw (p : Nat) : Nat := (Ieee.double.mul p 4652007308841189376).getD 0
def tw (s : Nat) (m : Int) : Nat := (Ieee.double.mul s (floatOfInt .f64 m)).getD 0
theorem p2_10 : p2 10 = 1024 := by rw [show (10 : Int) = ((10 : Nat) : Int) from rfl, p2_nat]; rfl
theorem mw_spec {p : Nat} (h : PwOk p) : floatBits .mul .f64 p 4652007308841189376 = some (mw p) ∧ Fin Ieee.double (mw p) ∧ Rnd Ieee.double (val Ieee.double p * 1000) (mw p) := by
  obtain ⟨h1, h2, h3⟩ := h
  obtain ⟨r, e, hr⟩ := mul_spec h1 k1000.1
  have hf : mw p = r := getD_some e
  rw [k1000.2] at hr
  have c : ((1000 : Int) : Rat) = 1000 := rfl
  rw [c] at hr
  have e268 : p2 268 = 1024 * p2 258 := by rw [← p2_10, ← p2_add]; rfl
  have hp := p2_pos 258
  have := rnd_pow (E := 268) hr (by rw [e268]; grind) (by rw [e268]; grind) (by decide) (by decide)
  rw [hf]; exact ⟨e, this.1, hr⟩
theorem tw_spec {s : Nat} {m : Int} (h1 : Fin Ieee.double s) (h2 : 0 ≤ val Ieee.double s) (h3 : val Ieee.double s ≤ p2 274) (m0 : 0 ≤ m) (m1 : m ≤ 1000) : floatBits .mul .f64 s (floatOfInt .f64 m) = some (tw s m) ∧ Fin Ieee.double (tw s m) ∧ Rnd Ieee.double (val Ieee.double s * (m : Rat)) (tw s m) := by
  have hw := int_whl (n := m) (by omega)
  obtain ⟨r, e, hr⟩ := mul_spec h1 hw.1
  have hf : tw s m = r := getD_some e
  rw [hw.2] at hr
  have c1 : ((0 : Int) : Rat) ≤ (m : Rat) := Rat.intCast_le_intCast.2 m0
  have c2 : (m : Rat) ≤ ((1000 : Int) : Rat) := Rat.intCast_le_intCast.2 m1
  have c3 : ((0 : Int) : Rat) = 0 := rfl
  have c4 : ((1000 : Int) : Rat) = 1000 := rfl
  rw [c3] at c1
  rw [c4] at c2
  have e284 : p2 284 = 1024 * p2 274 := by rw [← p2_10, ← p2_add]; rfl
  have hp := p2_pos 274
  have k1 := Rat.mul_nonneg h2 c1
  have k2 := rmul_le h2 c1 h3 c2
  have := rnd_pow (E := 284) hr (by rw [e284]; grind) (by rw [e284]; grind) (by decide) (by decide)
  rw [hf]; exact ⟨e, this.1, hr⟩
def tonI (ps : Nat → Nat) (n : Nat) (m : Int) (k : Nat) : Bool := FloatKind.f64.format.order (mw (ps k)) (tw (smT ps n) m) == some .gt
theorem sm_274 {ps : Nat → Nat} {n : Nat} (hn : n ≤ 16) (h : ∀ i, i < n → PwOk (ps i)) : Fin Ieee.double (smT ps n) ∧ 0 ≤ val Ieee.double (smT ps n) ∧ val Ieee.double (smT ps n) ≤ p2 274 := by
  obtain ⟨a, b, c⟩ := smT_ok hn h n (Nat.le_refl _)
  exact ⟨a, b, Rat.le_trans c (p2_mono (by omega))⟩
theorem tonI_iff {ps : Nat → Nat} {n k : Nat} {m : Int} (hn : n ≤ 16) (h : ∀ i, i < n → PwOk (ps i)) (hk : k < n) (m0 : 0 ≤ m) (m1 : m ≤ 1000) : tonI ps n m k = decide (val Ieee.double (tw (smT ps n) m) < val Ieee.double (mw (ps k))) := by
  obtain ⟨a, b, c⟩ := sm_274 hn h
  exact gt_iff (f := Ieee.double) (mw_spec (h k hk)).2.1 (tw_spec a b c m0 m1).2.1
theorem sm_same {ps qs : Nat → Nat} {n : Nat} (hn : n ≤ 16) (h : ∀ i, i < n → PwOk (ps i)) (h' : ∀ i, i < n → PwOk (qs i)) (he : ∀ i, i < n → val Ieee.double (ps i) = val Ieee.double (qs i)) : ∀ i, i ≤ n → val Ieee.double (smT ps i) = val Ieee.double (smT qs i)
  | 0, _ => rfl
  | i + 1, hi => by
    have ih := sm_same hn h h' he i (by omega)
    obtain ⟨_, r1⟩ := smT_step (smT_ok hn h i (by omega)).1 (h i (by omega)).1
    obtain ⟨_, r2⟩ := smT_step (smT_ok hn h' i (by omega)).1 (h' i (by omega)).1
    rw [ih, he i (by omega)] at r1
    exact r1.uniq r2
theorem tonI_same {ps qs : Nat → Nat} {n k : Nat} {m : Int} (hn : n ≤ 16) (h : ∀ i, i < n → PwOk (ps i)) (h' : ∀ i, i < n → PwOk (qs i)) (he : ∀ i, i < n → val Ieee.double (ps i) = val Ieee.double (qs i)) (hk : k < n) (m0 : 0 ≤ m) (m1 : m ≤ 1000) : tonI ps n m k = tonI qs n m k := by
  rw [tonI_iff hn h hk m0 m1, tonI_iff hn h' hk m0 m1]
  obtain ⟨a, b, c⟩ := sm_274 hn h
  obtain ⟨a', b', c'⟩ := sm_274 hn h'
  have r1 := (mw_spec (h k hk)).2.2
  have r2 := (mw_spec (h' k hk)).2.2
  rw [he k hk] at r1
  have r3 := (tw_spec a b c m0 m1).2.2
  have r4 := (tw_spec a' b' c' m0 m1).2.2
  rw [sm_same hn h h' he n (Nat.le_refl _)] at r3
  rw [r1.uniq r2, r3.uniq r4]
theorem sm_mono {ps : Nat → Nat} {n : Nat} (hn : n ≤ 16) (h : ∀ i, i < n → PwOk (ps i)) : ∀ d i, i + d ≤ n → val Ieee.double (smT ps i) ≤ val Ieee.double (smT ps (i + d))
  | 0, _, _ => Rat.le_refl
  | d + 1, i, hi => by
    have h1 := sm_mono hn h d i (by omega)
    obtain ⟨_, hr⟩ := smT_step (smT_ok hn h (i + d) (by omega)).1 (h (i + d) (by omega)).1
    have := hr.ge (smT_ok hn h (i + d) (by omega)).1 (by have := (h (i + d) (by omega)).2.1; grind)
    exact Rat.le_trans h1 this
theorem twice_repr {x : Nat} (h : PwOk x) : ∃ z, Fin Ieee.double z ∧ val Ieee.double z = 2 * val Ieee.double x := by
  obtain ⟨h1, h2, h3⟩ := h
  obtain ⟨r, e, hr⟩ := add_spec h1 h1
  obtain ⟨L, k, e1, hk, hL⟩ := rung_split Ieee.double (rg Ieee.double x)
  have e2 : rv Ieee.double (rg Ieee.double x) = (k : Rat) * un Ieee.double L := by rw [e1]; exact rv_form _ (by omega) hL
  have ev : val Ieee.double x = sr (sg Ieee.double x) (rv Ieee.double (rg Ieee.double x)) := rfl
  have hn := rv_nonneg Ieee.double (rg Ieee.double x)
  have e3 : (k : Rat) * p2 (Ieee.double.leastPlace + L + 1) = 2 * rv Ieee.double (rg Ieee.double x) := by
    rw [p2_succ, e2]; unfold un; grind
  have hlt : 2 * rv Ieee.double (rg Ieee.double x) ≤ p2 259 := by
    have e259 : p2 259 = 2 * p2 258 := by rw [show (259 : Int) = 258 + 1 from rfl, p2_succ]
    rw [e259]
    cases hs : sg Ieee.double x <;> rw [ev, hs] at h2 h3 <;> simp only [sr_true, sr_false] at h2 h3 <;> have := p2_pos 258 <;> grind
  obtain ⟨z, hz, hv⟩ := repr_ex Ieee.double (n := k) (e := Ieee.double.leastPlace + L + 1) hk (by omega) (by
    rw [e3, inf64]
    have h4 := p2_lt (show (259 : Int) < 1024 by decide)
    have := p2_pos 259
    grind)
  rw [e3] at hv
  have he := hr.exact (t := sg Ieee.double x) (z := z) hz (by
    rw [hv, ev]
    cases sg Ieee.double x <;> simp only [sr_true, sr_false] <;> grind)
  exact ⟨r, he.1, by rw [he.2]; grind⟩
/-- At most one of them is more than half. -/
theorem one_great {ps : Nat → Nat} {n i j : Nat} (hn : n ≤ 16) (h : ∀ i, i < n → PwOk (ps i)) (hij : i < j) (hj : j < n) (t1 : tonI ps n 500 i = true) (t2 : tonI ps n 500 j = true) : False := by
  rw [tonI_iff hn h (by omega) (by decide) (by decide), decide_eq_true_eq] at t1
  rw [tonI_iff hn h hj (by decide) (by decide), decide_eq_true_eq] at t2
  obtain ⟨a, b, c⟩ := sm_274 hn h
  have rS := (tw_spec (m := 500) a b c (by decide) (by decide)).2.2
  have r1 := (mw_spec (h i (by omega))).2.2
  have r2 := (mw_spec (h j hj)).2.2
  have c5 : ((500 : Int) : Rat) = 500 := rfl
  rw [c5] at rS
  have g1 : val Ieee.double (smT ps n) * 500 < val Ieee.double (ps i) * 1000 := by
    rcases (Rat.le_total : val Ieee.double (smT ps n) * 500 ≤ val Ieee.double (ps i) * 1000 ∨ val Ieee.double (ps i) * 1000 ≤ val Ieee.double (smT ps n) * 500) with h0 | h0
    · by_cases he : val Ieee.double (smT ps n) * 500 = val Ieee.double (ps i) * 1000
      · have := r1.mono rS (by grind); grind
      · grind
    · have := r1.mono rS h0; grind
  have g2 : val Ieee.double (smT ps n) * 500 < val Ieee.double (ps j) * 1000 := by
    rcases (Rat.le_total : val Ieee.double (smT ps n) * 500 ≤ val Ieee.double (ps j) * 1000 ∨ val Ieee.double (ps j) * 1000 ≤ val Ieee.double (smT ps n) * 500) with h0 | h0
    · by_cases he : val Ieee.double (smT ps n) * 500 = val Ieee.double (ps j) * 1000
      · have := r2.mono rS (by grind); grind
      · grind
    · have := r2.mono rS h0; grind
  -- the sum is at least twice the smaller of both
  obtain ⟨_, hri⟩ := smT_step (smT_ok hn h i (by omega)).1 (h i (by omega)).1
  have s1 := hri.ge (h i (by omega)).1 (by have := (smT_ok hn h i (by omega)).2.1; grind)
  have s2 := sm_mono hn h (j - (i + 1)) (i + 1) (by omega)
  rw [show i + 1 + (j - (i + 1)) = j by omega] at s2
  obtain ⟨_, hrj⟩ := smT_step (smT_ok hn h j (by omega)).1 (h j hj).1
  have s3 := sm_mono hn h (n - (j + 1)) (j + 1) (by omega)
  rw [show j + 1 + (n - (j + 1)) = n by omega] at s3
  rcases (Rat.le_total : val Ieee.double (ps i) ≤ val Ieee.double (ps j) ∨ val Ieee.double (ps j) ≤ val Ieee.double (ps i)) with h0 | h0
  · obtain ⟨z, fz, hz⟩ := twice_repr (h i (by omega))
    have := hrj.ge fz (by rw [hz]; grind)
    rw [hz] at this
    grind
  · obtain ⟨z, fz, hz⟩ := twice_repr (h j hj)
    have := hrj.ge fz (by rw [hz]; grind)
    rw [hz] at this
    grind
def b2i (b : Bool) : Int := if b then 1 else 0
/-- How many are great. -/
def cnt (f : Nat → Bool) : Nat → Int
  | 0 => 0
  | i + 1 => cnt f i + b2i (f i)
theorem cnt_le {f : Nat → Bool} {n : Nat} (h : ∀ i j, i < j → j < n → f i = true → f j = true → False) : ∀ i, i ≤ n → (cnt f i = 0 ∧ ∀ j, j < i → f j = false) ∨ (cnt f i = 1 ∧ ∃ j, j < i ∧ f j = true)
  | 0, _ => .inl ⟨rfl, fun j hj => absurd hj (Nat.not_lt_zero _)⟩
  | i + 1, hi => by
    have e : cnt f (i + 1) = cnt f i + b2i (f i) := rfl
    rcases cnt_le h i (by omega) with ⟨h1, h2⟩ | ⟨h1, j, h2, h3⟩
    · cases hf : f i
      · left
        refine ⟨by rw [e, h1, hf]; rfl, fun j hj => ?_⟩
        by_cases hji : j < i
        · exact h2 j hji
        · rw [show j = i by omega]; exact hf
      · right
        exact ⟨by rw [e, h1, hf]; rfl, i, by omega, hf⟩
    · right
      cases hf : f i
      · exact ⟨by rw [e, h1, hf]; rfl, j, by omega, h3⟩
      · exact (h j i h2 (by omega) h3 hf).elim
theorem cnt_bd (f : Nat → Bool) : ∀ i, 0 ≤ cnt f i ∧ cnt f i ≤ i
  | 0 => ⟨Int.le_refl _, Int.le_refl _⟩
  | i + 1 => by
    have := cnt_bd f i
    have e : cnt f (i + 1) = cnt f i + b2i (f i) := rfl
    rw [e]
    cases f i <;> simp [b2i] <;> omega
end Go.Proofs.YtnomlkkhkacajaaGreatDoor
