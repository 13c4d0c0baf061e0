/- Sums of products with turns: the reference. -/
import Derived.Test.YtficlmnjbbpicaaT2
import Derived.Deep.RegionLaw
namespace Go.Proofs.Ytficlmnjbbpicaa
open Go.RowKit

set_option maxHeartbeats 2000000 in
set_option maxRecDepth 100000 in
theorem sSum (A : Option Addr) (n c : Nat) (xs : List C) (b : Int) (w : World) (hn2 : n ≤ 16) (hx : Cs w A n xs) (hf : xs.all finB = true) (hb1 : -256 ≤ b) (hb2 : b ≤ 256)
    (hp : ∀ i, i < n → finB (prodT xs b i) = true) :
    Calls Try.prog 111 #[.slice A n c, .int .i64 b] w (RetQ2 w (sumT xs b n)) := by
  have HL := Lib.hid hx.len
  have HF := Lib.hid hf
  have HPR := Lib.hid hp
  clear hf hp
  go_enter Try.func111, Try.ntmps111
  go_wp2_with fail
  go_loopw [6, 7] (fun v i wr => ∃ (j : Nat) (s : C), j ≤ n ∧ i = .int .i64 j ∧ v = .complex .f32 s.1 s.2 ∧ sumT xs b j = some s ∧ Below w.heap.size w wr) (fun _ i _ => n - (intOf i).toNat)
  case atStart => exact ⟨0, (0, 0), by omega, rfl, rfl, rfl, Below.refl _ _⟩
  case round =>
    obtain ⟨j, s, hj, rfl, rfl, hs, hbw⟩ := hrel
    have HS := Lib.hid hs
    have HB := Lib.hid hbw
    clear hs
    by_cases hlt : j < n
    · obtain ⟨bl, o, rfl, hbl, hc⟩ := hx.at_ hlt
      have hck : wr.drew.cell? ⟨bl, o + j, none⟩ = some (cv (nth xs j)) := (hbw.cell (p := ⟨bl, o + j, none⟩) hbl).trans (hc j hlt)
      have HBL : Hid (bl < w.heap.size) := hbl
      have hz := all_fin_nth HF.out (by rw [HL.out]; exact hlt : j < xs.length)
      have hz' := finB_iff.2 hz
      have hm : finB (mulC (nth xs j) (turnC (b * j))) = true := HPR.out j hlt
      have HNX : Hid (sumT xs b (j + 1) = sumStep (some s) (mulC (nth xs j) (turnC (b * j)))) := by show sumStep (sumT xs b j) _ = _; rw [HS.out]; rfl
      obtain ⟨d1, d2⟩ := mul_bd (i := j) hb1 hb2 (by omega)
      have e2 : IntKind.i64.wrap (b * (j : Int)) = b * (j : Int) := IntWalk.i64_in _ (by omega)
      clear hc hx hz hbw d1 d2 hbl
      generalize nth xs j = z at *
      obtain ⟨t, ht⟩ : ∃ t, t = turnC (b * (j : Int)) := ⟨_, rfl⟩
      have hT := turnC_fin (b * (j : Int))
      have HTC : Hid (∀ w, Calls Try.prog 67 #[.int .i64 (b * (j : Int))] w (RetQ w t)) := fun w => by rw [ht]; exact sTurn _ w
      rw [← ht] at hm HNX hT
      clear ht
      have q1 := mulC_run Try.prog 45 hz' hT hm
      have q2 := addC_run Try.prog 45 (a := s) (b := mulC z t) (sumT_fin HS.out) hm
      have C1 : Hid (∀ w, Calls Try.prog 84 #[.complex .f32 (mulC z t).1 (mulC z t).2] w fun e w' => e = .returned (.bool true) ∧ Dr w w') := fun w => by have := sFinite (mulC z t) w; rw [hm] at this; exact this
      have C2 : Hid (∀ w, Calls Try.prog 84 #[.complex .f32 (addC s (mulC z t)).1 (addC s (mulC z t)).2] w fun e w' => e = .returned (.bool (finB (addC s (mulC z t)))) ∧ Dr w w') := fun w => sFinite (addC s (mulC z t)) w
      have HN : Hid (sumT xs b (j + 1) = if finB (addC s (mulC z t)) then some (addC s (mulC z t)) else none) := by
        show _ = _
        rw [HNX.out]
        unfold sumStep; rw [hm]; simp
      clear hz' hT hm HNX
      generalize addC s (mulC z t) = u at *
      generalize mulC z t = p at *
      obtain ⟨z1, z2⟩ := z
      obtain ⟨t1, t2⟩ := t
      unfold cv at hck
      go_wp2_with fail
      go_region_law ((go_simp; go_at_call 67; (with_reducible refine Calls.mono (HTC.out _) ?_); rintro e w1 ⟨rfl, hb1w⟩; have hck1 : w1.cell? ⟨bl, o + j, none⟩ = some (.complex .f32 z1 z2) := ((hb1w.cell (p := ⟨bl, o + j, none⟩) (Nat.lt_of_lt_of_le HBL.out HB.out.size)).trans hck); have HB1 : Hid (Below w.heap.size w w1) := (HB.out.drew.trans (hb1w.mono HB.out.size)); clear hb1w; unfold cv))
      all_goals
        go_wp2_with fail
        refine (C1.out _).mono ?_
        rintro e w' ⟨rfl, m, rfl⟩
        go_wp2_with fail
        refine (C2.out _).mono ?_
        rintro e w' ⟨rfl, m2, rfl⟩
        cases hu : finB u
        · have HNN := Lib.hid (sumT_none (by rw [HN.out, hu]; rfl : sumT xs b (j + 1) = none) n (by omega))
          clear hu
          go_wp2_with fail
          go_ret2
          rw [HNN.out]
          exact ⟨rfl, below_drewN HB1.out _⟩
        · have HN2 : Hid (sumT xs b (j + 1) = some u) := by show _ = _; rw [HN.out, hu]; rfl
          clear hu
          go_wp2_with fail
          go_roundw
          case rel => exact ⟨j + 1, u, by omega, by go_num, rfl, HN2.out, below_drewN HB1.out _⟩
          case measure => simp [intOf]; omega
    · obtain rfl : j = n := by omega
      clear hx hbw
      go_wp2_with fail
      go_ret2
      rw [HS.out]
      exact ⟨rfl, HB.out⟩
end Go.Proofs.Ytficlmnjbbpicaa
