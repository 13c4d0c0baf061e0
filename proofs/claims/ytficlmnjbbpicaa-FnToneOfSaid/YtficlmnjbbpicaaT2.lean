/- Sums of products with turns: the program's and the reference's. -/
import Derived.Test.YtficlmnjbbpicaaT1
import Derived.Test.YtficlmnjbbpicaaM1
import Derived.Test.YtficlmnjbbpicaaB3
namespace Go.Proofs.Ytficlmnjbbpicaa
open Go.RowKit

theorem turnL_fin (j : Nat) (h : j < 16) : finB (nth turnL j) = true := by
  have : j = 0 ∨ j = 1 ∨ j = 2 ∨ j = 3 ∨ j = 4 ∨ j = 5 ∨ j = 6 ∨ j = 7 ∨ j = 8 ∨ j = 9 ∨ j = 10 ∨ j = 11 ∨ j = 12 ∨ j = 13 ∨ j = 14 ∨ j = 15 := by omega
  rcases this with rfl | rfl | rfl | rfl | rfl | rfl | rfl | rfl | rfl | rfl | rfl | rfl | rfl | rfl | rfl | rfl <;> decide
theorem turnC_fin (k : Int) : finB (turnC k) = true := by
  unfold turnC
  split
  · exact turnL_fin _ (by have := Int.emod_lt_of_pos k (show (0 : Int) < 16 by decide); have := Int.emod_nonneg k (show (16 : Int) ≠ 0 by decide); omega)
  · decide
/-- One product more. -/
def sumStep (s : Option C) (p : C) : Option C := s.bind fun s => if finB p && finB (addC s p) then some (addC s p) else none
def prodT (xs : List C) (b : Int) (i : Nat) : C := mulC (nth xs i) (turnC (b * i))
/-- The sum of the first i products. -/
def sumT (xs : List C) (b : Int) : Nat → Option C
  | 0 => some (0, 0)
  | i + 1 => sumStep (sumT xs b i) (prodT xs b i)
theorem sumT_none {xs : List C} {b : Int} {i : Nat} (h : sumT xs b i = none) : ∀ j, i ≤ j → sumT xs b j = none := by
  intro j hj
  obtain ⟨d, rfl⟩ : ∃ d, j = i + d := ⟨j - i, by omega⟩
  clear hj
  induction d with
  | zero => exact h
  | succ d ih => show sumStep (sumT xs b (i + d)) _ = none; rw [ih]; rfl
theorem sumT_fin {xs : List C} {b : Int} : ∀ {i : Nat} {s : C}, sumT xs b i = some s → finB s = true
  | 0, s, h => by injection h with h; rw [← h]; decide
  | i + 1, s, h => by
    unfold sumT sumStep at h
    cases hs : sumT xs b i with
    | none => rw [hs] at h; cases h
    | some t =>
      rw [hs] at h
      simp only [Option.bind_some] at h
      split at h
      · rename_i hc
        injection h with h
        rw [Bool.and_eq_true] at hc
        rw [← h]; exact hc.2
      · cases h
/-- A number, and whether there is one. -/
def RetQ2 (w : World) (o : Option C) (e : Ending) (w' : World) : Prop := e = .returned (.tuple #[cv (o.getD (0, 0)), .bool o.isSome]) ∧ Below w.heap.size w w'
theorem mul_bd {b : Int} {i : Nat} (h1 : -256 ≤ b) (h2 : b ≤ 256) (hi : i ≤ 16) : -4096 ≤ b * (i : Int) ∧ b * (i : Int) ≤ 4096 := by
  have : i = 0 ∨ i = 1 ∨ i = 2 ∨ i = 3 ∨ i = 4 ∨ i = 5 ∨ i = 6 ∨ i = 7 ∨ i = 8 ∨ i = 9 ∨ i = 10 ∨ i = 11 ∨ i = 12 ∨ i = 13 ∨ i = 14 ∨ i = 15 ∨ i = 16 := by omega
  rcases this with rfl | rfl | rfl | rfl | rfl | rfl | rfl | rfl | rfl | rfl | rfl | rfl | rfl | rfl | rfl | rfl | rfl <;> omega

set_option maxHeartbeats 1000000 in
theorem plus_any (s a b : C) (hs : finB s = true) (ha : finB a = true) (hb : finB b = true) (hm : finB (mulC a b) = true) (w : World) :
    Calls Try.prog 80 #[cv s, cv a, cv b] w fun e w' => e = .returned (.tuple #[cv ((sumStep (some s) (mulC a b)).getD (0, 0)), .bool (sumStep (some s) (mulC a b)).isSome]) ∧ Dr w w' := by
  have q1 := mulC_run Try.prog 45 ha hb hm
  have q2 := addC_run Try.prog 45 (a := s) (b := mulC a b) hs hm
  have C1 : Hid (∀ w, Calls Try.prog 76 #[.complex .f32 (mulC a b).1 (mulC a b).2] w fun e w' => e = .returned (.bool true) ∧ Dr w w') := fun w => by have := iFinite (mulC a b) w; rw [hm] at this; exact this
  have C2 : Hid (∀ w, Calls Try.prog 76 #[.complex .f32 (addC s (mulC a b)).1 (addC s (mulC a b)).2] w fun e w' => e = .returned (.bool (finB (addC s (mulC a b)))) ∧ Dr w w') := fun w => iFinite (addC s (mulC a b)) w
  have HN : Hid (sumStep (some s) (mulC a b) = if finB (addC s (mulC a b)) then some (addC s (mulC a b)) else none) := by
    show _ = _
    unfold sumStep; rw [hm]; simp
  clear hs ha hb hm
  generalize addC s (mulC a b) = t at *
  generalize mulC a b = p at *
  rw [HN.out]
  obtain ⟨s1, s2⟩ := s
  obtain ⟨a1, a2⟩ := a
  obtain ⟨b1, b2⟩ := b
  unfold cv
  cases hf : finB t
  all_goals
    rw [hf] at C2
    go_enter Try.func80, Try.ntmps80
    go_wp2_with fail
    refine (C1.out _).mono ?_
    rintro e w' ⟨rfl, m, rfl⟩
    go_wp2_with fail
    refine (C2.out _).mono ?_
    rintro e w' ⟨rfl, m', rfl⟩
    go_wp2_with fail
    go_ret2
    exact ⟨rfl, _, rfl⟩

set_option maxHeartbeats 2000000 in
set_option maxRecDepth 100000 in
theorem iTurned (A : Option Addr) (n c : Nat) (xs : List C) (k b : Int) (w : World) (hn : 1 ≤ n) (hn2 : n ≤ 16) (hx : Cs w A n xs) (hf : xs.all finB = true) (hb : 16 / (n : Int) * k = b) (hb1 : -256 ≤ b) (hb2 : b ≤ 256)
    (hp : ∀ i, i < n → finB (prodT xs b i) = true) :
    Calls Try.prog 78 #[.slice A n c, .int .i64 k] w (RetQ2 w (sumT xs b n)) := by
  have HL := Lib.hid hx.len
  have e1 : IntKind.i64.wrap (16 / (n : Int) * k) = b := by rw [hb]; exact IntWalk.i64_in _ (by omega)
  have HF := Lib.hid hf
  have HPR := Lib.hid hp
  clear hf hp hb
  go_enter Try.func78, Try.ntmps78
  go_wp2_with fail
  go_loopw [7, 17] (fun v i wr => ∃ (j : Nat) (s : C), j ≤ n ∧ i = .int .i64 j ∧ v = .complex .f32 s.1 s.2 ∧ sumT xs b j = some s ∧ Below w.heap.size w wr) (fun _ i _ => n - (intOf i).toNat)
  case atStart => exact ⟨0, (0, 0), by omega, rfl, rfl, rfl, Below.refl _ _⟩
  case round =>
    obtain ⟨j, s, hj, rfl, rfl, hs, hbw⟩ := hrel
    have HS := Lib.hid hs
    have HB := Lib.hid hbw
    clear hs
    by_cases hlt : j < n
    · obtain ⟨bl, o, rfl, hbl, hc⟩ := hx.at_ hlt
      have hck : wr.cell? ⟨bl, o + j, none⟩ = some (cv (nth xs j)) := (hbw.cell (p := ⟨bl, o + j, none⟩) hbl).trans (hc j hlt)
      have hz := all_fin_nth HF.out (by rw [HL.out]; exact hlt : j < xs.length)
      have HZ := Lib.hid (finB_iff.2 hz)
      have HM : Hid (finB (mulC (nth xs j) (turnC (b * j))) = true) := HPR.out j hlt
      have HNX : Hid (sumT xs b (j + 1) = sumStep (some s) (mulC (nth xs j) (turnC (b * j)))) := by show sumStep (sumT xs b j) _ = _; rw [HS.out]; rfl
      obtain ⟨d1, d2⟩ := mul_bd (i := j) hb1 hb2 (by omega)
      have e2 : IntKind.i64.wrap (b * (j : Int)) = b * (j : Int) := IntWalk.i64_in _ (by omega)
      clear hc hx hz hbw d1 d2
      generalize nth xs j = z at *
      obtain ⟨t, ht⟩ : ∃ t, t = turnC (b * (j : Int)) := ⟨_, rfl⟩
      have HT := Lib.hid (turnC_fin (b * (j : Int)))
      have HTC : Hid (∀ w, Calls Try.prog 103 #[.int .i64 (b * (j : Int))] w (RetQ w t)) := fun w => by rw [ht]; exact iTurn _ w
      rw [← ht] at HM HNX HT
      clear ht
      go_wp2_with fail
      refine (HTC.out _).mono ?_
      rintro e w1 ⟨rfl, hb1w⟩
      have HB1 : Hid (Below w.heap.size w w1) := HB.out.trans (hb1w.mono HB.out.size)
      clear hb1w
      go_wp2_with fail
      refine (plus_any s z t (sumT_fin HS.out) HZ.out HT.out HM.out w1).mono ?_
      rintro e w2 ⟨rfl, m, rfl⟩
      rw [← HNX.out]
      cases hnx : sumT xs b (j + 1) with
      | none =>
        have HNN := Lib.hid (sumT_none hnx n (by omega))
        clear hnx
        simp only [Option.getD_none, Option.isSome_none]
        go_wp2_with fail
        go_ret2
        rw [HNN.out]
        exact ⟨rfl, below_drewN HB1.out m⟩
      | some s2 =>
        have HN2 := Lib.hid hnx
        clear hnx
        simp only [Option.getD_some, Option.isSome_some]
        unfold cv
        go_wp2_with fail
        go_roundw
        case rel => exact ⟨j + 1, s2, by omega, by go_num, rfl, HN2.out, below_drewN HB1.out m⟩
        case measure => simp [intOf]; omega
    · obtain rfl : j = n := by omega
      clear hx hbw
      go_wp2_with fail
      go_ret2
      rw [HS.out]
      exact ⟨rfl, HB.out⟩
end Go.Proofs.Ytficlmnjbbpicaa
