/- Texts on the way to a law (T3, T4, H1), each with its own remark. -/
import Derived.Test.YtnomlkkhkacajaaGreatDoorPB09
import Derived.Deep.RegionLaw
import Derived.Test.YtnomlkkhkacajaaGreatDoorPB04
import Derived.Test.YtnomlkkhkacajaaGreatDoorPB08
import Derived.Laws.CopyOwn
namespace Go.Proofs.YtnomlkkhkacajaaGreatDoor
open Go.RowKit

set_option maxHeartbeats 2000000 in
set_option maxRecDepth 100000 in
theorem sSum (A : Option Addr) (n c : Nat) (xs : List C) (b : Int) (w : World) (hn2 : n ≤ 16) (hx : Cs w A n xs) (hf : xs.all finB = true) (hb1 : -256 ≤ b) (hb2 : b ≤ 256)
    (hp : ∀ i, i < n → finB (prodT xs b i) = true) :
    Calls Tryz.prog 102 #[.slice A n c, .int .i64 b] w (RetQ2 w (sumT xs b n)) := by
  have HL := Lib.hid hx.len
  have HF := Lib.hid hf
  have HPR := Lib.hid hp
  clear hf hp
  go_enter Tryz.func102, Tryz.ntmps102
  go_wp2_with fail
  go_loopw [6, 7] (fun v i wr => ∃ (j : Nat) (s : C), j ≤ n ∧ i = .int .i64 j ∧ v = .complex .f32 s.1 s.2 ∧ sumT xs b j = some s ∧ Below w.heap.size w wr) (fun _ i _ => n - (intOf i).toNat)
  case atStart => exact ⟨0, (0, 0), by omega, rfl, rfl, rfl, Below.refl _ _⟩
  case round =>
    obtain ⟨j, s, hj, rfl, rfl, hs, hbw⟩ := hrel
    have HS := Lib.hid hs
    have HB := Lib.hid hbw
    clear hs
    by_cases hlt : j < n
    · obtain ⟨bl, o, rfl, hbl, hc⟩ := hx.at_ hlt
      have hck : wr.drew.cell? ⟨bl, o + j, none⟩ = some (cv (nth xs j)) := (hbw.cell (p := ⟨bl, o + j, none⟩) hbl).trans (hc j hlt)
      have HBL : Hid (bl < w.heap.size) := hbl
      have hz := all_fin_nth HF.out (by rw [HL.out]; exact hlt : j < xs.length)
      have hz' := finB_iff.2 hz
      have hm : finB (mulC (nth xs j) (turnC (b * j))) = true := HPR.out j hlt
      have HNX : Hid (sumT xs b (j + 1) = sumStep (some s) (mulC (nth xs j) (turnC (b * j)))) := by show sumStep (sumT xs b j) _ = _; rw [HS.out]; rfl
      obtain ⟨d1, d2⟩ := mul_bd (i := j) hb1 hb2 (by omega)
      have e2 : IntKind.i64.wrap (b * (j : Int)) = b * (j : Int) := IntWalk.i64_in _ (by omega)
      clear hc hx hz hbw d1 d2 hbl
      generalize nth xs j = z at *
      obtain ⟨t, ht⟩ : ∃ t, t = turnC (b * (j : Int)) := ⟨_, rfl⟩
      have hT := turnC_fin (b * (j : Int))
      have HTC : Hid (∀ w, Calls Tryz.prog 130 #[.int .i64 (b * (j : Int))] w (RetQ w t)) := fun w => by rw [ht]; exact sTurn _ w
      rw [← ht] at hm HNX hT
      clear ht
      have q1 := mulC_run Tryz.prog 73 hz' hT hm
      have q2 := addC_run Tryz.prog 73 (a := s) (b := mulC z t) (sumT_fin HS.out) hm
      have C1 : Hid (∀ w, Calls Tryz.prog 115 #[.complex .f32 (mulC z t).1 (mulC z t).2] w fun e w' => e = .returned (.bool true) ∧ Dr w w') := fun w => by have := sFinite (mulC z t) w; rw [hm] at this; exact this
      have C2 : Hid (∀ w, Calls Tryz.prog 115 #[.complex .f32 (addC s (mulC z t)).1 (addC s (mulC z t)).2] w fun e w' => e = .returned (.bool (finB (addC s (mulC z t)))) ∧ Dr w w') := fun w => sFinite (addC s (mulC z t)) w
      have HN : Hid (sumT xs b (j + 1) = if finB (addC s (mulC z t)) then some (addC s (mulC z t)) else none) := by
        show _ = _
        rw [HNX.out]
        unfold sumStep; rw [hm]; simp
      clear hz' hT hm HNX
      generalize addC s (mulC z t) = u at *
      generalize mulC z t = p at *
      obtain ⟨z1, z2⟩ := z
      obtain ⟨t1, t2⟩ := t
      unfold cv at hck
      go_wp2_with fail
      go_region_law ((go_simp; go_at_call 130; (with_reducible refine Calls.mono (HTC.out _) ?_); rintro e w1 ⟨rfl, hb1w⟩; have hck1 : w1.cell? ⟨bl, o + j, none⟩ = some (.complex .f32 z1 z2) := ((hb1w.cell (p := ⟨bl, o + j, none⟩) (Nat.lt_of_lt_of_le HBL.out HB.out.size)).trans hck); have HB1 : Hid (Below w.heap.size w w1) := (HB.out.drew.trans (hb1w.mono HB.out.size)); clear hb1w; unfold cv))
      all_goals
        go_wp2_with fail
        refine (C1.out _).mono ?_
        rintro e w' ⟨rfl, m, rfl⟩
        go_wp2_with fail
        refine (C2.out _).mono ?_
        rintro e w' ⟨rfl, m2, rfl⟩
        cases hu : finB u
        · have HNN := Lib.hid (sumT_none (by rw [HN.out, hu]; rfl : sumT xs b (j + 1) = none) n (by omega))
          clear hu
          go_wp2_with fail
          go_ret2
          rw [HNN.out]
          exact ⟨rfl, below_drewN HB1.out _⟩
        · have HN2 : Hid (sumT xs b (j + 1) = some u) := by show _ = _; rw [HN.out, hu]; rfl
          clear hu
          go_wp2_with fail
          go_roundw
          case rel => exact ⟨j + 1, u, by omega, by go_num, rfl, HN2.out, below_drewN HB1.out _⟩
          case measure => simp [intOf]; omega
    · obtain rfl : j = n := by omega
      clear hx hbw
      go_wp2_with fail
      go_ret2
      rw [HS.out]
      exact ⟨rfl, HB.out⟩
end Go.Proofs.YtnomlkkhkacajaaGreatDoor
namespace Go.Proofs.YtnomlkkhkacajaaGreatDoor
open Go.RowKit

def p2B (n : Nat) : Bool := n == 1 || n == 2 || n == 4 || n == 8 || n == 16
theorem p2B_iff {n : Nat} : p2B n = true ↔ n = 1 ∨ n = 2 ∨ n = 4 ∨ n = 8 ∨ n = 16 := by simp [p2B]; omega
def sizB (xs : List C) : Bool := p2B xs.length && sigB xs
set_option maxHeartbeats 400000 in
theorem pow_any (n : Nat) (w : World) : Calls Tryz.prog 146 #[.int .i64 n] w fun e w' => e = .returned (.bool (p2B n)) ∧ w' = w := by
  by_cases hb : p2B n = true
  · rw [hb]
    rcases p2B_iff.1 hb with rfl | rfl | rfl | rfl | rfl
    all_goals
      go_enter Tryz.func146, Tryz.ntmps146
      go_wp2_with fail
      go_ret
      exact ⟨rfl, rfl⟩
  · have hb' : p2B n = false := by simpa using hb
    rw [hb']
    have hn : ¬ (n = 1 ∨ n = 2 ∨ n = 4 ∨ n = 8 ∨ n = 16) := fun h => hb (p2B_iff.2 h)
    have c1 : ((n : Int) == 1) = false := by rw [beq_eq_false_iff_ne]; omega
    have c2 : ((n : Int) == 2) = false := by rw [beq_eq_false_iff_ne]; omega
    have c3 : ((n : Int) == 4) = false := by rw [beq_eq_false_iff_ne]; omega
    have c4 : ((n : Int) == 8) = false := by rw [beq_eq_false_iff_ne]; omega
    have c5 : ((n : Int) == 16) = false := by rw [beq_eq_false_iff_ne]; omega
    clear hb hb' hn
    go_enter Tryz.func146, Tryz.ntmps146
    go_wp2_with fail
    go_ret
    exact ⟨rfl, rfl⟩
set_option maxHeartbeats 400000 in
theorem iSizeOk (A : Option Addr) (n c : Nat) (xs : List C) (w : World) (hn : n ≤ 1048576) (hx : Cs w A n xs) :
    Calls Tryz.prog 125 #[.slice A n c] w fun e w' => e = .returned (.bool (sizB xs)) ∧ Dr w w' := by
  have hl := hx.len
  have HS : Hid (sizB xs = (p2B n && sigB xs)) := by show _ = _; unfold sizB; rw [hl]
  rw [HS.out]
  clear hl
  cases hb : p2B n
  · have HP : Hid (∀ w, Calls Tryz.prog 146 #[.int .i64 n] w fun e w' => e = .returned (.bool false) ∧ w' = w) := fun w => by rw [← hb]; exact pow_any n w
    go_enter Tryz.func125, Tryz.ntmps125
    go_wp2_with fail
    refine (HP.out _).mono ?_
    rintro e w' ⟨rfl, rfl⟩
    go_wp2_with fail
    go_ret
    exact ⟨rfl, Dr.refl _⟩
  · have HP : Hid (∀ w, Calls Tryz.prog 146 #[.int .i64 n] w fun e w' => e = .returned (.bool true) ∧ w' = w) := fun w => by rw [← hb]; exact pow_any n w
    go_enter Tryz.func125, Tryz.ntmps125
    go_wp2_with fail
    refine (HP.out _).mono ?_
    rintro e w' ⟨rfl, hw⟩
    rw [hw]
    go_wp2_with fail
    refine (iSignalOk A n c xs w (by omega) hx).mono ?_
    rintro e w' ⟨rfl, m, rfl⟩
    go_wp2_with fail
    go_ret
    exact ⟨by simp, m, rfl⟩
set_option maxHeartbeats 400000 in
theorem sSizeOk (A : Option Addr) (n c : Nat) (xs : List C) (w : World) (hn : n ≤ 1048576) (hx : Cs w A n xs) :
    Calls Tryz.prog 101 #[.slice A n c] w fun e w' => e = .returned (.bool (sizB xs)) ∧ Dr w w' := by
  have hl := hx.len
  have HS : Hid (sizB xs = (p2B n && sigB xs)) := by show _ = _; unfold sizB; rw [hl]
  rw [HS.out]
  clear hl
  cases hs : sigB xs
  · have HC : Hid (∀ w, Cs w A n xs → Calls Tryz.prog 47 #[.slice A n c] w fun e w' => e = .returned (.bool false) ∧ Dr w w') := fun w h => by rw [← hs]; exact sSignalOk A n c xs w (by omega) h
    go_enter Tryz.func101, Tryz.ntmps101
    go_wp2_with fail
    refine (HC.out _ hx).mono ?_
    rintro e w' ⟨rfl, m, rfl⟩
    go_wp2_with fail
    go_ret
    exact ⟨by simp, m, rfl⟩
  · have HC : Hid (∀ w, Cs w A n xs → Calls Tryz.prog 47 #[.slice A n c] w fun e w' => e = .returned (.bool true) ∧ Dr w w') := fun w h => by rw [← hs]; exact sSignalOk A n c xs w (by omega) h
    by_cases hb : p2B n = true
    · rw [hb]
      rcases p2B_iff.1 hb with rfl | rfl | rfl | rfl | rfl
      all_goals
        go_enter Tryz.func101, Tryz.ntmps101
        go_wp2_with fail
        refine (HC.out _ hx).mono ?_
        rintro e w' ⟨rfl, m, rfl⟩
        go_wp2_with fail
        go_ret
        exact ⟨by simp, m, rfl⟩
    · have hb' : p2B n = false := by simpa using hb
      rw [hb']
      have hn : ¬ (n = 1 ∨ n = 2 ∨ n = 4 ∨ n = 8 ∨ n = 16) := fun h => hb (p2B_iff.2 h)
      have c1 : ((n : Int) == 1) = false := by rw [beq_eq_false_iff_ne]; omega
      have c2 : ((n : Int) == 2) = false := by rw [beq_eq_false_iff_ne]; omega
      have c3 : ((n : Int) == 4) = false := by rw [beq_eq_false_iff_ne]; omega
      have c4 : ((n : Int) == 8) = false := by rw [beq_eq_false_iff_ne]; omega
      have c5 : ((n : Int) == 16) = false := by rw [beq_eq_false_iff_ne]; omega
      clear hb hb' hn
      go_enter Tryz.func101, Tryz.ntmps101
      go_wp2_with fail
      refine (HC.out _ hx).mono ?_
      rintro e w' ⟨rfl, m, rfl⟩
      go_wp2_with fail
      go_ret
      exact ⟨by simp, m, rfl⟩

/-- All numbers, or none. -/
def allT (f : Nat → Option C) : Nat → Option (List C)
  | 0 => some []
  | k + 1 => (allT f k).bind fun l => (f k).bind fun z => some (l ++ [z])
theorem allT_len {f : Nat → Option C} : ∀ {k : Nat} {l : List C}, allT f k = some l → l.length = k
  | 0, l, h => by injection h with h; rw [← h]; rfl
  | k + 1, l, h => by
    unfold allT at h
    cases h1 : allT f k with
    | none => rw [h1] at h; cases h
    | some m =>
      cases h2 : f k with
      | none => rw [h1, h2] at h; cases h
      | some z =>
        rw [h1, h2] at h
        injection h with h
        rw [← h, List.length_append, allT_len h1]; rfl
theorem allT_none {f : Nat → Option C} {k : Nat} (h : allT f k = none) : ∀ j, k ≤ j → allT f j = none := by
  intro j hj
  obtain ⟨d, rfl⟩ : ∃ d, j = k + d := ⟨j - k, by omega⟩
  clear hj
  induction d with
  | zero => exact h
  | succ d ih => show (allT f (k + d)).bind _ = none; rw [ih]; rfl
theorem allT_step {f : Nat → Option C} {k : Nat} {l : List C} (h : allT f k = some l) {z : C} (hz : f k = some z) : allT f (k + 1) = some (l ++ [z]) := by
  show (allT f k).bind _ = _; rw [h]; show (f k).bind _ = _; rw [hz]; rfl
theorem allT_stop {f : Nat → Option C} {k : Nat} {l : List C} (h : allT f k = some l) (hz : f k = none) : allT f (k + 1) = none := by
  show (allT f k).bind _ = _; rw [h]; show (f k).bind _ = _; rw [hz]; rfl
theorem fil_set (l : List Value) {n k : Nat} (hl : l.length = k) (hk : k < n) (z u : Value) : (l ++ List.replicate (n - k) z).set k u = (l ++ [u]) ++ List.replicate (n - (k + 1)) z := by
  obtain ⟨d, hd⟩ : ∃ d, n - k = d + 1 := ⟨n - k - 1, by omega⟩
  have hd2 : n - (k + 1) = d := by omega
  rw [List.set_append_right _ _ (by omega), hl, Nat.sub_self, hd, hd2, List.replicate_succ, List.set_cons_zero, List.append_assoc]
  rfl
theorem fil_get (l : List Value) {n k : Nat} (hl : l.length = k) (hk : k < n) (z : Value) : (l ++ List.replicate (n - k) z)[k]? = some z := by
  rw [List.getElem?_append_right (by omega), hl, Nat.sub_self, List.getElem?_replicate, if_pos (by omega)]
/-- The turn of a number for each point. -/
def bk (n : Nat) (k : Int) : Int := 16 / (n : Int) * k
theorem bk_bd {n : Nat} (hn : p2B n = true) {k : Int} (h1 : -16 ≤ k) (h2 : k ≤ 16) : -256 ≤ bk n k ∧ bk n k ≤ 256 := by
  unfold bk
  rcases p2B_iff.1 hn with rfl | rfl | rfl | rfl | rfl <;> constructor <;> omega
/-- The spectrum. -/
def transF (xs : List C) : Option (List C) := if sizB xs then allT (fun k => sumT xs (bk xs.length (-(k : Int))) xs.length) xs.length else none
/-- No product passes single precision. -/
def ProdOk (xs : List C) (s : Int) : Prop := ∀ k i, k < xs.length → i < xs.length → finB (prodT xs (bk xs.length (s * (k : Int))) i) = true
theorem transF_no {xs : List C} (h : sizB xs = false) : transF xs = none := by unfold transF; rw [h]; rfl
theorem transF_yes {xs : List C} {n : Nat} (h : sizB xs = true) (hl : xs.length = n) : transF xs = allT (fun k => sumT xs (bk n (-(k : Int))) n) n := by unfold transF; rw [h, hl]; rfl
theorem siz_parts {xs : List C} (h : sizB xs = true) : p2B xs.length = true ∧ sigB xs = true ∧ xs.all finB = true ∧ xs.length ≤ 16 ∧ 1 ≤ xs.length := by
  unfold sizB at h
  rw [Bool.and_eq_true] at h
  have h3 := h.2
  unfold sigB at h3
  rw [Bool.and_eq_true, decide_eq_true_eq] at h3
  have := p2B_iff.1 h.1
  exact ⟨h.1, h.2, h3.2, h3.1, by omega⟩

set_option maxHeartbeats 2000000 in
set_option maxRecDepth 100000 in
theorem iTransform (A : Option Addr) (n c : Nat) (xs : List C) (w : World) (hn : n ≤ 1048576) (hx : Cs w A n xs) (hp : sizB xs = true → ProdOk xs (-1)) :
    Calls Tryz.prog 110 #[.slice A n c] w (RetO w (transF xs)) := by
  have hl := hx.len
  cases hs : sizB xs
  · have HN := Lib.hid (transF_no hs)
    have HC : Hid (∀ w, Cs w A n xs → Calls Tryz.prog 125 #[.slice A n c] w fun e w' => e = .returned (.bool false) ∧ Dr w w') := fun w h => by rw [← hs]; exact iSizeOk A n c xs w hn h
    clear hl hs hp
    go_enter Tryz.func110, Tryz.ntmps110
    go_wp2_with fail
    refine (HC.out _ hx).mono ?_
    rintro e w' ⟨rfl, m, rfl⟩
    go_wp2_with fail
    go_ret2
    rw [HN.out]
    exact RetC.nil_ (below_drewN (Below.refl _ _) m)
  · have HC : Hid (∀ w, Cs w A n xs → Calls Tryz.prog 125 #[.slice A n c] w fun e w' => e = .returned (.bool true) ∧ Dr w w') := fun w h => by rw [← hs]; exact iSizeOk A n c xs w hn h
    obtain ⟨s1, s2, s3, s4, s5⟩ := siz_parts hs
    rw [hl] at s1 s4 s5
    have HY := Lib.hid (transF_yes hs hl)
    have HPO := Lib.hid (hp hs)
    have HL := Lib.hid hl
    have H1 := Lib.hid s1
    have H3 := Lib.hid s3
    have HT : Hid (∀ (k : Nat) w', k < n → Cs w' A n xs → Calls Tryz.prog 126 #[.slice A n c, .int .i64 (-(k : Int))] w' (RetQ2 w' (sumT xs (bk n (-(k : Int))) n))) := fun k w' hk h => by
      obtain ⟨b1, b2⟩ := bk_bd s1 (k := -(k : Int)) (by omega) (by omega)
      refine iTurned A n c xs (-(k : Int)) (bk n (-(k : Int))) w' s5 s4 h s3 rfl b1 b2 fun i hi => ?_
      have := hp hs k i (by omega) (by omega)
      rw [hl, show (-1 : Int) * (k : Int) = -(k : Int) by omega] at this
      exact this
    clear hl hs hp s1 s2 s3
    go_enter Tryz.func110, Tryz.ntmps110
    go_wp2_with fail
    refine (HC.out _ hx).mono ?_
    rintro e w' ⟨rfl, m, rfl⟩
    go_wp2_with (at_make; refine wl_make (w0 := w.drewN m) rfl (.tmp 12) (.tmp 12) 23 rfl Tryz.eC .i64 .i64 n _ _ rfl rfl rfl rfl (by omega) (by unfold maxLen; omega) (Below.refl _ _) ?_; intro w1 hown hb1 _)
    have HO1 : Hid (Ow w1 w.heap.size 73 (.slice (some ⟨w.heap.size, 0, none⟩) n n) n (List.replicate n (.complex .f32 0 0))) := hown
    have HB1 : Hid (Below w.heap.size w w1) := ⟨hb1.os, hb1.tape, hb1.output, hb1.size, hb1.block⟩
    clear hown hb1
    go_loopw [16] (fun i wr => ∃ (k : Nat) (l : List C), k ≤ n ∧ i = .int .i64 k ∧ allT (fun k => sumT xs (bk n (-(k : Int))) n) k = some l ∧ Ow wr w.heap.size 73 (.slice (some ⟨w.heap.size, 0, none⟩) n n) n (l.map cv ++ List.replicate (n - k) (.complex .f32 0 0)) ∧ Below w.heap.size w wr) (fun i _ => n - (intOf i).toNat)
    case atStart => exact ⟨0, [], by omega, rfl, rfl, HO1.out, HB1.out⟩
    case round =>
      obtain ⟨k, l, hk, rfl, hal, ho, hb⟩ := hrel
      have HA := Lib.hid hal
      have HO := Lib.hid ho
      have HB := Lib.hid hb
      clear hal ho hb
      by_cases hlt : k < n
      · have e1 : IntKind.i64.wrap (-(k : Int)) = -(k : Int) := IntWalk.i64_in _ (by omega)
        go_wp2_with fail
        refine (HT.out k wr hlt (hx.below HB.out)).mono ?_
        rintro e w2 ⟨rfl, hb2⟩
        have HB2 : Hid (Below w.heap.size w w2) := HB.out.trans (hb2.mono HB.out.size)
        have HO2 := Lib.hid (HO.out.below hb2)
        clear hb2
        cases hz : sumT xs (bk n (-(k : Int))) n with
        | none =>
          have HN : Hid (transF xs = none) := by show _ = _; rw [HY.out]; exact allT_none (allT_stop HA.out hz) n (by omega)
          clear hz
          simp only [Option.getD_none, Option.isSome_none]
          go_wp2_with fail
          go_ret2
          rw [HN.out]
          exact RetC.nil_ HB2.out
        | some z =>
          have HNX := Lib.hid (allT_step HA.out hz)
          have HLL : Hid ((l.map cv).length = k) := by show _ = _; rw [List.length_map]; exact allT_len HA.out
          clear hz
          simp only [Option.getD_some, Option.isSome_some]
          obtain ⟨g, hg, hge, hgl, hcell, hfr, hst⟩ := Ow.at_ HO2.out hlt
          injection hg with hg
          injection hg with hg
          subst hg
          have hck2 : w2.cell? ⟨w.heap.size, k, none⟩ = some (.complex .f32 0 0) := (hcell k hlt).trans (fil_get _ HLL.out hlt _)
          have hfr2 := hfr k
          have hst2 := hst k (cv z)
          rw [fil_set _ HLL.out hlt] at hst2
          have HS := Lib.hid hst2
          clear hst2 hcell hfr hst
          unfold cv at HS
          unfold cv
          go_wp2_with fail
          go_roundw
          case rel => exact ⟨k + 1, l ++ [z], by omega, by go_num, HNX.out, by rw [List.map_append]; exact HS.out, HB2.out.setCell (Nat.le_refl _) _⟩
          case measure => simp [intOf]; omega
      · obtain rfl : k = n := by omega
        have HR : Hid (transF xs = some l) := by show _ = _; rw [HY.out]; exact HA.out
        go_wp2_with fail
        go_ret2
        rw [HR.out]
        refine ⟨_, _, _, rfl, ?_, HB.out⟩
        have := HO.out
        rw [Nat.sub_self, List.replicate_zero, List.append_nil] at this
        exact this
end Go.Proofs.YtnomlkkhkacajaaGreatDoor
namespace Go.Proofs.YtnomlkkhkacajaaGreatDoor
open Go.RowKit

/-- copy(out, x), out of the call's own, both of the same number of elements. -/
theorem wl_copyA {P : Program} {w : World} {ops : Array Oper} {rest : List Oper} {o : Oper} {a : Act} {Q : Exit → Act → World → Prop} (hgd : o.guard = none) (d s : Operand) (t : TypeId) (ho : o.op = .call { callee := .builtin .copy, args := #[d, s], argTypes := #[t, t] })
    {B : Nat} {E : TypeId} {z : Value} {bytes : Nat} (he : Elem P t E z bytes) (hsz : (P.info? E).map (·.size) = some 1) (g n : Nat) (vs us : List Value) (hd : a.eval d = .slice (some ⟨g, 0, none⟩) n n) (hown : Ow w B E (.slice (some ⟨g, 0, none⟩) n n) n vs)
    (A : Option Addr) (c : Nat) (hs : a.eval s = .slice A n c) (hsl : Sl w A n us) (hu : ∀ u ∈ us, u.oneCell' = true)
    (h : ∀ w', Ow w' B E (.slice (some ⟨g, 0, none⟩) n n) n us → Below B w w' → wpList P ops Q rest (a.put o.dst (goInt n)) w') : wpList P ops Q (o :: rest) a w := by
  have hl := hsl.len
  rcases hown.2 with ⟨h0, _⟩ | ⟨g', cap, cur, hv, hB, hh, hn, hcap, hcs, htk⟩
  · cases h0
  · injection hv with e1 _ e3
    injection e1 with e1
    injection e1 with e1
    subst e1; subst e3
    rw [Nat.mul_one] at hcs
    refine wpList_copy_splice hgd d s t t ho E he.und hsz (some ⟨g, 0, none⟩) A n n n c hd hs g 0 cur.toList E hh us (by rw [hl]; exact (Nat.min_self n).symm) (fun hp => ⟨rfl, ?_⟩) (by rw [Nat.zero_add, hl, Array.length_toList, hcs]; exact Nat.le_refl _) hu B w (Below.refl _ _) hB ?_
    · obtain ⟨b, o', h1, _, h2⟩ := hsl.at_ (k := 0) (by omega)
      refine ⟨_, h1, fun j u hj => ?_⟩
      rw [show (⟨b, o', none⟩ : Addr).add j = ⟨b, o' + j, none⟩ by unfold Addr.add; split <;> first | rfl | (rename_i h; subst h; rfl)]
      exact h2 j u hj
    · intro w' h1 h2
      have h1 := h1.out
      have e : splice cur.toList 0 us = us := by
        unfold splice
        rw [List.take_zero, List.nil_append, Nat.zero_add, List.drop_of_length_le (by rw [hl, Array.length_toList, hcs]; exact Nat.le_refl _), List.append_nil]
      rw [e] at h1
      have hgi : goInt us.length = goInt n := by rw [hl]
      rw [hgi]
      refine h w' ⟨by rw [Nat.mul_one]; exact hl, .inr ⟨g, n, us.toArray, rfl, hB, h1, Nat.le_refl _, hcap, by rw [Nat.mul_one]; simpa using hl, ?_⟩⟩ h2
      rw [Nat.mul_one]
      simpa using List.take_of_length_le (Nat.le_of_eq hl)

set_option maxHeartbeats 2000000 in
set_option maxRecDepth 100000 in
theorem iCopyOf (A : Option Addr) (n c : Nat) (x : List C) (w : World) (hn : n ≤ 1048576) (hx : Cs w A n x) :
    Calls Tryz.prog 73 #[.slice A n c] w (RetS w x) := by
  go_enter Tryz.func73, Tryz.ntmps73
  go_wp2_with (first | (at_make; refine wl_make (w0 := w) rfl (.tmp 5) (.tmp 5) 23 rfl Tryz.eC .i64 .i64 n _ _ rfl rfl rfl rfl (by omega) (by unfold maxLen; omega) (Below.refl _ _) ?_; intro w1 hown hb1 _; have HO := Lib.hid hown; have HB := Lib.hid hb1; have HX := Lib.hid (Sl.below hx hb1); clear hown hb1 hx) | (refine wl_copyA (B := w.heap.size) rfl (.tmp 7) (.tmp 8) 23 rfl Tryz.eC (by kernel_rfl) w.heap.size n _ (x.map cv) rfl HO.out A c rfl HX.out (cvs_one _) ?_; intro w2 ho2 hb2))
  have HR : Hid (RetS w x (.returned (.slice (some ⟨w.heap.size, 0, none⟩) n n)) w2) := ⟨_, _, _, rfl, ho2, HB.out.trans hb2⟩
  clear ho2 hb2
  go_wp2_with fail
  go_ret
  exact HR.out

set_option maxHeartbeats 4000000 in
set_option maxRecDepth 100000 in
theorem iCopied (A A' : Option Addr) (n c m c' : Nat) (d : Dk) (w : World) (hd : DkV w 0 A n c A' m d) (hz : DkS d) :
    Calls Tryz.prog 35 #[.agg #[.slice A n c, .slice A' m c']] w (RetK w d) := by
  have HP := Lib.hid hd.past
  have hl := hd.past.len
  have hnl := hd.now.len
  have hm9 : m ≤ 9 := by have := hz.len; omega
  have hn17 : n ≤ 17 := by have := hz.now; omega
  have HZ := Lib.hid hz
  have HL := Lib.hid hl
  have HNL := Lib.hid hnl
  obtain ⟨W1, hW1⟩ : ∃ W1, W1 = (w.alloc (.cells #[.slice A n c, .slice A' m c'] 26)).alloc (.cells #[.slice none 0 0, .slice none 0 0] 26) := ⟨_, rfl⟩
  have HSZ : Hid (W1.heap.size = w.heap.size + 1 + 1) := by show _ = _; rw [hW1, size_alloc, size_alloc]
  have HB1 : Hid (Below w.heap.size w W1) := by rw [hW1]; exact (below_alloc w _).trans ((below_alloc _ _).mono (by rw [size_alloc]; omega))
  have HK0 : Hid (KAt W1 w.heap.size (.slice A n c) (.slice A' m c')) := by rw [hW1]; exact (KAt.new w _ _ _).below (below_alloc _ _) (by rw [size_alloc]; omega)
  have HK1 : Hid (KAt W1 (w.heap.size + 1) (.slice none 0 0) (.slice none 0 0)) := by
    rw [hW1]
    have h := KAt.new (w.alloc (.cells #[.slice A n c, .slice A' m c'] 26)) (.slice none 0 0) (.slice none 0 0) 26
    rwa [size_alloc] at h
  have HN : Hid (Sg w 0 A n c d.now) := hd.now
  have HCO : Hid (∀ (A : Option Addr) (n c : Nat) (x : List C) (w : World), n ≤ 17 → Cs w A n x → Calls Tryz.prog 73 #[.slice A n c] w (RetS w x)) := fun A n c x w h1 h2 => iCopyOf A n c x w (by omega) h2
  obtain ⟨k0, k1, _, _, _⟩ := HK0.out
  clear hd hz hl hnl
  go_enter Tryz.func35, Tryz.ntmps35
  go_wp2_with (at_make; rw [← hW1]; refine wl_make (w0 := W1) rfl (.tmp 8) (.tmp 8) 24 rfl Tryz.ePs .i64 .i64 m _ _ rfl rfl rfl rfl (by omega) (by unfold maxLen; omega) (Below.refl _ _) ?_; intro w2 ho2 hb2 _; have HO2 := Lib.hid ho2; have HB2 := Lib.hid hb2; clear ho2 hb2 k0 k1 hW1; obtain ⟨k0, k1, _, _, _⟩ := HK0.out.below HB2.out (by rw [HSZ.out]; omega))
  clear k0 k1
  go_loopw [13] (fun i wr => ∃ (k : Nat) (vs : List Value), k ≤ m ∧ i = .int .i64 k ∧ vs.length = k ∧ Ow wr W1.heap.size 23 (.slice (some ⟨W1.heap.size, 0, none⟩) m m) m (vs ++ List.replicate (m - k) (.slice none 0 0)) ∧ Pv wr (W1.heap.size + 1) vs (d.past.take k) ∧ Below W1.heap.size W1 wr) (fun i _ => m - (intOf i).toNat)
  case atStart => first | exact ⟨0, [], by omega, rfl, rfl, HO2.out, Pv.nil _ _, HB2.out⟩ | ((repeat apply Exists.intro); exact ⟨by omega, rfl, rfl, HO2.out, Pv.nil _ _, HB2.out⟩)
  case round =>
    obtain ⟨k, vs, hk, rfl, hvl, ho, hpv, hb⟩ := hrel
    have HO := Lib.hid ho
    have HPV := Lib.hid hpv
    have HB := Lib.hid hb
    have HVL := Lib.hid hvl
    have HBW : Hid (Below w.heap.size w wr) := HB1.out.trans (hb.mono (by rw [HSZ.out]; omega))
    clear ho hpv hvl
    by_cases hlt : k < m
    · obtain ⟨b, o, x, A4, n4, c4, rfl, hbl, hx, hc, hcs⟩ := HP.out.at_ hlt
      have hck := (HBW.out.cell (p := ⟨b, o + k, none⟩) hbl).trans hc
      have HSX := Lib.hid (hcs.below HBW.out)
      have hn4 : n4 ≤ 17 := by have h1 := hcs.len; have h2 := HZ.out.at_ hx; omega
      have HTK : Hid (d.past.take k ++ [x] = d.past.take (k + 1)) := by show _ = _; rw [List.take_add_one, hx]; rfl
      clear hb hc hcs hx
      go_wp2_with fail
      refine (HCO.out A4 n4 c4 x wr hn4 HSX.out.cs).mono ?_
      rintro e w3 ⟨A5, n5, c5, rfl, ho5, hb5⟩
      have HO3 := Lib.hid (HO.out.below hb5)
      have hgr : W1.heap.size < wr.heap.size := by obtain ⟨g, hg, _, hgl, _⟩ := Ow.at_ HO.out hlt; injection hg with hg; injection hg with hg; omega
      have HPV3 : Hid (Pv w3 (W1.heap.size + 1) (vs ++ [.slice A5 n5 c5]) (d.past.take (k + 1))) := by
        show Pv _ _ _ _
        rw [← HTK.out]
        exact (HPV.out.below hb5).snoc ((Sg.of (by have h1 := ho5.len; rw [List.length_map] at h1; exact ho5)).mono (by omega))
      have HB3 : Hid (Below W1.heap.size W1 w3) := HB.out.trans (hb5.mono HB.out.size)
      obtain ⟨g, hg, hge, hgl, hcell, hfr, hst⟩ := Ow.at_ HO3.out hlt
      injection hg with hg
      injection hg with hg
      subst hg
      have hck2 : w3.cell? ⟨W1.heap.size, k, none⟩ = some (.slice none 0 0) := (hcell k hlt).trans (fil_get _ HVL.out hlt _)
      have hfr2 := hfr k
      have hst2 := hst k (.slice A5 n5 c5)
      rw [fil_set _ HVL.out hlt] at hst2
      have HS := Lib.hid hst2
      clear hst2 hcell hfr hst ho5 hb5
      go_wp2_with fail
      go_roundw
      case rel => exact ⟨k + 1, vs ++ [.slice A5 n5 c5], by omega, by go_num, by rw [List.length_append, HVL.out]; rfl, HS.out, HPV3.out.pk ((Pk.refl W1.heap.size w3).setCell k _) (Nat.lt_succ_self _), HB3.out.setCell (Nat.le_refl _) _⟩
      case measure => simp [intOf]; omega
    · obtain rfl : k = m := by omega
      obtain ⟨k0, k1, _, _, _⟩ := HK0.out.below hb (by rw [HSZ.out]; omega)
      have HNX := Lib.hid (HN.out.below HBW.out)
      clear hb
      go_wp2_with fail
      refine (HCO.out A n c d.now wr hn17 HNX.out.cs).mono ?_
      rintro e w3 ⟨A5, n5, c5, rfl, ho5, hb5⟩
      have HB3 : Hid (Below W1.heap.size W1 w3) := HB.out.trans (hb5.mono HB.out.size)
      have HO3 := Lib.hid (HO.out.below hb5)
      have HPV3 := Lib.hid (HPV.out.below hb5)
      have HS5 : Hid (Sg w3 W1.heap.size A5 n5 c5 d.now) := (Sg.of (by have h1 := ho5.len; rw [List.length_map] at h1; exact ho5)).mono HB.out.size
      have HK3 := Lib.hid (HK1.out.below HB3.out (by rw [HSZ.out]; omega))
      clear ho5 hb5 k0 k1
      obtain ⟨r0, r1, s0, s1, rl⟩ := HK3.out
      have HR : Hid (RetK w d (.returned (.agg #[.slice A5 n5 c5, .slice (some ⟨W1.heap.size, 0, none⟩) k k])) ((w3.setCell ⟨w.heap.size + 1, 0, none⟩ (.slice A5 n5 c5)).setCell ⟨w.heap.size + 1, 1, none⟩ (.slice (some ⟨W1.heap.size, 0, none⟩) k k))) := by
        have HPK : Pk (w.heap.size + 1) w3 ((w3.setCell ⟨w.heap.size + 1, 0, none⟩ (.slice A5 n5 c5)).setCell ⟨w.heap.size + 1, 1, none⟩ (.slice (some ⟨W1.heap.size, 0, none⟩) k k)) := ((Pk.refl _ w3).setCell 0 _).setCell 1 _
        have hpo : Po w3 W1.heap.size (some ⟨W1.heap.size, 0, none⟩) k k d.past := by
          have h1 := HO3.out
          rw [Nat.sub_self, List.replicate_zero, List.append_nil] at h1
          have h2 := HPV3.out
          rw [List.take_of_length_le (by have := HL.out; omega)] at h2
          refine ⟨vs, h1, h2.mono (Nat.le_succ _), fun ad n' c' hm he => ?_⟩
          obtain ⟨y, hy⟩ := h2.mem hm
          have := (hy.ge ad rfl).1
          injection he with he
          have he2 : W1.heap.size = ad.block := he
          omega
        refine ⟨_, _, _, _, _, _, rfl, (HS5.out.pk HPK (by rw [HSZ.out]; omega)).mono (by rw [HSZ.out]; omega), (hpo.pk HPK (by rw [HSZ.out]; omega)).mono (by rw [HSZ.out]; omega), (((HB1.out.trans (HB3.out.mono (by rw [HSZ.out]; omega))).setCell (p := ⟨w.heap.size + 1, 0, none⟩) (by show w.heap.size ≤ w.heap.size + 1; omega) _).setCell (p := ⟨w.heap.size + 1, 1, none⟩) (by show w.heap.size ≤ w.heap.size + 1; omega) _), fun ad ad' e1 e2 => ?_⟩
        obtain ⟨vs', q1, _⟩ := hpo
        have h3 := HS5.out.ne_own q1 ad e1
        intro he
        injection e2 with e2
        subst e2
        exact h3 (by rw [he]; rfl)
      go_wp2_with fail
      refine bodyPost_ret (v := .agg #[.slice A5 n5 c5, .slice (some ⟨W1.heap.size, 0, none⟩) k k]) (by simp [results, Tryz.results35, go_sem, r0, r1]) rfl ?_
      exact HR.out
end Go.Proofs.YtnomlkkhkacajaaGreatDoor
