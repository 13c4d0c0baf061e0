/- Texts on the way to a law (K1), each with its own remark. -/
import Derived.Test.YtnomlkkhkacajaaPA11
import Derived.Test.YtnomlkkhkacajaaPA12
namespace Go.Proofs.Ytnomlkkhkacajaa
open Go.RowKit

/-- The word of a number of points, in double precision. -/
def c64 (n : Nat) : Nat := if n = 1 then 4607182418800017408 else if n = 2 then 4611686018427387904 else if n = 4 then 4616189618054758400 else if n = 8 then 4620693217682128896 else 4625196817309499392
theorem p2w_of {n : Nat} (h : p2B n = true) : P2W (floatOfInt .f32 (n : Int)) (c64 n) n := by
  rcases p2B_iff.1 h with rfl | rfl | rfl | rfl | rfl
  · rw [show floatOfInt .f32 ((1 : Nat) : Int) = 1065353216 by decide +kernel]; exact p2w_1
  · rw [show floatOfInt .f32 ((2 : Nat) : Int) = 1073741824 by decide +kernel]; exact p2w_2
  · rw [show floatOfInt .f32 ((4 : Nat) : Int) = 1082130432 by decide +kernel]; exact p2w_4
  · rw [show floatOfInt .f32 ((8 : Nat) : Int) = 1090519040 by decide +kernel]; exact p2w_8
  · rw [show floatOfInt .f32 ((16 : Nat) : Int) = 1098907648 by decide +kernel]; exact p2w_16
/-- A number of the signal of a spectrum. -/
def bakZ (xs : List C) (n k : Nat) : Option C := (sumT xs (bk n (k : Int)) n).map fun z => quoC z (c64 n)
def backF (xs : List C) : Option (List C) := if sizB xs then allT (bakZ xs xs.length) xs.length else none
theorem backF_no {xs : List C} (h : sizB xs = false) : backF xs = none := by unfold backF; rw [h]; rfl
theorem backF_yes {xs : List C} {n : Nat} (h : sizB xs = true) (hl : xs.length = n) : backF xs = allT (bakZ xs n) n := by unfold backF; rw [h, hl]; rfl
theorem bakZ_none {xs : List C} {n k : Nat} (h : sumT xs (bk n (k : Int)) n = none) : bakZ xs n k = none := by unfold bakZ; rw [h]; rfl
theorem bakZ_some {xs : List C} {n k : Nat} {z : C} (h : sumT xs (bk n (k : Int)) n = some z) : bakZ xs n k = some (quoC z (c64 n)) := by unfold bakZ; rw [h]; rfl

end Go.Proofs.Ytnomlkkhkacajaa

namespace Go.Proofs.Ytnomlkkhkacajaa
open Go.RowKit

set_option maxHeartbeats 2000000 in
set_option maxRecDepth 100000 in
theorem sBack (A : Option Addr) (n c : Nat) (xs : List C) (w : World) (hn : n ≤ 1048576) (hx : Cs w A n xs) (hp : sizB xs = true → ProdOk xs 1) :
    Calls Try.prog 30 #[.slice A n c] w (RetO w (backF xs)) := by
  have hl := hx.len
  have he := Ow.empty w 35
  have hb0 := below_alloc w (.cells #[] 35)
  have hx0 : Cs (w.alloc (.cells #[] 35)) A n xs := hx.below hb0
  cases hs : sizB xs
  · have HN := Lib.hid (backF_no hs)
    have HC : Hid (∀ w, Cs w A n xs → Calls Try.prog 37 #[.slice A n c] w fun e w' => e = .returned (.bool false) ∧ Dr w w') := fun w h => by rw [← hs]; exact sSizeOk A n c xs w hn h
    clear hl hs hp
    go_enter Try.func30, Try.ntmps30
    go_wp2_with fail
    refine (HC.out _ hx0).mono ?_
    rintro e w' ⟨rfl, m, rfl⟩
    go_wp2_with fail
    go_ret2
    rw [HN.out]
    exact RetC.empty he (below_drewN hb0 m)
  · have HC : Hid (∀ w, Cs w A n xs → Calls Try.prog 37 #[.slice A n c] w fun e w' => e = .returned (.bool true) ∧ Dr w w') := fun w h => by rw [← hs]; exact sSizeOk A n c xs w hn h
    obtain ⟨s1, s2, s3, s4, s5⟩ := siz_parts hs
    rw [hl] at s1 s4 s5
    have HY := Lib.hid (backF_yes hs hl)
    have HW2 := Lib.hid (p2w_of s1)
    have HT : Hid (∀ (k : Nat) w', k < n → Cs w' A n xs → Calls Try.prog 38 #[.slice A n c, .int .i64 (bk n (k : Int))] w' (RetQ2 w' (sumT xs (bk n (k : Int)) n))) := fun k w' hk h => by
      obtain ⟨b1, b2⟩ := bk_bd s1 (k := (k : Int)) (by omega) (by omega)
      refine sSum A n c xs (bk n (k : Int)) w' s4 h s3 b1 b2 fun i hi => ?_
      have := hp hs k i (by omega) (by omega)
      rw [hl, show (1 : Int) * (k : Int) = (k : Int) by omega] at this
      exact this
    have HBK : Hid (∀ k : Nat, k < n → IntKind.i64.wrap ((k : Int) * (16 / (n : Int))) = bk n (k : Int)) := fun k hk => by
      obtain ⟨b1, b2⟩ := bk_bd s1 (k := (k : Int)) (by omega) (by omega)
      have : (k : Int) * (16 / (n : Int)) = bk n (k : Int) := by unfold bk; exact Int.mul_comm _ _
      rw [this]; exact IntWalk.i64_in _ (by omega)
    have HE := Lib.hid he
    have HB0 := Lib.hid hb0
    clear hl hs hp s1 s2 s3 he hb0
    go_enter Try.func30, Try.ntmps30
    go_wp2_with fail
    refine (HC.out _ hx0).mono ?_
    rintro e w' ⟨rfl, m, rfl⟩
    have HO1 : Hid (Ow ((w.alloc (.cells #[] 35)).drewN m) w.heap.size 35 (.slice (some ⟨w.heap.size, 0, none⟩) 0 0) 0 []) := HE.out.drewN m
    have HB1 : Hid (Below w.heap.size w ((w.alloc (.cells #[] 35)).drewN m)) := below_drewN HB0.out m
    clear hx0
    go_wp2_with fail
    go_loopw [4, 6] (fun v i wr => ∃ (k : Nat) (l : List C), k ≤ n ∧ i = .int .i64 k ∧ allT (bakZ xs n) k = some l ∧ Ow wr w.heap.size 35 v k (l.map cv) ∧ Below w.heap.size w wr) (fun _ i _ => n - (intOf i).toNat)
    case atStart => exact ⟨0, [], by omega, rfl, rfl, HO1.out, HB1.out⟩
    case round =>
      obtain ⟨k, l, hk, rfl, hal, ho, hb⟩ := hrel
      have HA := Lib.hid hal
      have HO := Lib.hid ho
      have HB := Lib.hid hb
      clear hal ho hb
      by_cases hlt : k < n
      · have e2 := HBK.out k hlt
        go_wp2_with fail
        refine (HT.out k wr hlt (hx.below HB.out)).mono ?_
        rintro e w2 ⟨rfl, hb2⟩
        have HB2 : Hid (Below w.heap.size w w2) := HB.out.trans (hb2.mono HB.out.size)
        have HO2 := Lib.hid (HO.out.below hb2)
        clear hb2
        cases hz : sumT xs (bk n (k : Int)) n with
        | none =>
          have HN : Hid (backF xs = none) := by show _ = _; rw [HY.out]; exact allT_none (allT_stop HA.out (bakZ_none hz)) n (by omega)
          have qr := quoC_run HW2.out (show finB (0, 0) = true by decide) Try.prog 35
          generalize quoC (0, 0) (c64 n) = q at *
          clear hz
          simp only [Option.getD_none, Option.isSome_none]
          unfold cv
          go_wp2_with fail
          go_ret2
          rw [HN.out]
          exact RetC.empty ((Ow.empty w2 35).mono HB2.out.size) (HB2.out.alloc HB2.out.size _)
        | some z =>
          have HNX := Lib.hid (allT_step HA.out (bakZ_some hz))
          have fz := sumT_fin hz
          have qr := quoC_run HW2.out fz Try.prog 35
          have qf := (quoC_rnd HW2.out fz).1
          clear hz fz
          generalize quoC z (c64 n) = q at *
          have C2 : Hid (∀ w, Calls Try.prog 25 #[.complex .f32 q.1 q.2] w fun e w' => e = .returned (.bool true) ∧ Dr w w') := fun w => by have := sFinite q w; rw [qf] at this; exact this
          clear qf
          simp only [Option.getD_some, Option.isSome_some]
          unfold cv
          go_wp2_with fail
          refine (C2.out _).mono ?_
          rintro e w' ⟨rfl, m2, hw2⟩
          have HO3 : Hid (Ow w' w.heap.size 35 u4 k (l.map cv)) := by rw [hw2]; exact HO2.out.drewN m2
          have HB3 : Hid (Below w.heap.size w w') := by rw [hw2]; exact below_drewN HB2.out m2
          clear hw2
          have hsz := HB3.out.size
          go_wp2_with (at_builtin; refine wl_appB w.heap.size [.complex .f32 q.1 q.2] hsz rfl (.tmp 46) (.tmp 48) 23 rfl Try.eC _ k _ rfl HO3.out rfl (by simp [Value.oneCell']) (by simp [maxLen]; omega) (by simp; omega) ?_; intro v' w4 ho4 hb4)
          go_roundw
          case rel => exact ⟨k + 1, l ++ [q], by omega, by go_num, HNX.out, by rw [List.map_append]; exact ho4, HB3.out.trans hb4⟩
          case measure => simp [intOf]; omega
      · obtain rfl : k = n := by omega
        have HR : Hid (backF xs = some l) := by show _ = _; rw [HY.out]; exact HA.out
        obtain ⟨A2, c2, rfl⟩ := HO.out.shape
        go_wp2_with fail
        go_ret2
        rw [HR.out]
        exact ⟨_, _, _, rfl, HO.out, HB.out⟩
end Go.Proofs.Ytnomlkkhkacajaa
