/- Spectra: the program's transform and the reference's. -/
import Derived.Test.YtficlmnjbbpicaaT3
import Derived.Test.YtficlmnjbbpicaaA4
namespace Go.Proofs.Ytficlmnjbbpicaa
open Go.RowKit

def p2B (n : Nat) : Bool := n == 1 || n == 2 || n == 4 || n == 8 || n == 16
theorem p2B_iff {n : Nat} : p2B n = true ↔ n = 1 ∨ n = 2 ∨ n = 4 ∨ n = 8 ∨ n = 16 := by simp [p2B]; omega
def sizB (xs : List C) : Bool := p2B xs.length && sigB xs
set_option maxHeartbeats 400000 in
theorem pow_any (n : Nat) (w : World) : Calls Try.prog 68 #[.int .i64 n] w fun e w' => e = .returned (.bool (p2B n)) ∧ w' = w := by
  by_cases hb : p2B n = true
  · rw [hb]
    rcases p2B_iff.1 hb with rfl | rfl | rfl | rfl | rfl
    all_goals
      go_enter Try.func68, Try.ntmps68
      go_wp2_with fail
      go_ret
      exact ⟨rfl, rfl⟩
  · have hb' : p2B n = false := by simpa using hb
    rw [hb']
    have hn : ¬ (n = 1 ∨ n = 2 ∨ n = 4 ∨ n = 8 ∨ n = 16) := fun h => hb (p2B_iff.2 h)
    have c1 : ((n : Int) == 1) = false := by rw [beq_eq_false_iff_ne]; omega
    have c2 : ((n : Int) == 2) = false := by rw [beq_eq_false_iff_ne]; omega
    have c3 : ((n : Int) == 4) = false := by rw [beq_eq_false_iff_ne]; omega
    have c4 : ((n : Int) == 8) = false := by rw [beq_eq_false_iff_ne]; omega
    have c5 : ((n : Int) == 16) = false := by rw [beq_eq_false_iff_ne]; omega
    clear hb hb' hn
    go_enter Try.func68, Try.ntmps68
    go_wp2_with fail
    go_ret
    exact ⟨rfl, rfl⟩
set_option maxHeartbeats 400000 in
theorem iSizeOk (A : Option Addr) (n c : Nat) (xs : List C) (w : World) (hn : n ≤ 1048576) (hx : Cs w A n xs) :
    Calls Try.prog 77 #[.slice A n c] w fun e w' => e = .returned (.bool (sizB xs)) ∧ Dr w w' := by
  have hl := hx.len
  have HS : Hid (sizB xs = (p2B n && sigB xs)) := by show _ = _; unfold sizB; rw [hl]
  rw [HS.out]
  clear hl
  cases hb : p2B n
  · have HP : Hid (∀ w, Calls Try.prog 68 #[.int .i64 n] w fun e w' => e = .returned (.bool false) ∧ w' = w) := fun w => by rw [← hb]; exact pow_any n w
    go_enter Try.func77, Try.ntmps77
    go_wp2_with fail
    refine (HP.out _).mono ?_
    rintro e w' ⟨rfl, rfl⟩
    go_wp2_with fail
    go_ret
    exact ⟨rfl, Dr.refl _⟩
  · have HP : Hid (∀ w, Calls Try.prog 68 #[.int .i64 n] w fun e w' => e = .returned (.bool true) ∧ w' = w) := fun w => by rw [← hb]; exact pow_any n w
    go_enter Try.func77, Try.ntmps77
    go_wp2_with fail
    refine (HP.out _).mono ?_
    rintro e w' ⟨rfl, hw⟩
    rw [hw]
    go_wp2_with fail
    refine (iSignalOk A n c xs w (by omega) hx).mono ?_
    rintro e w' ⟨rfl, m, rfl⟩
    go_wp2_with fail
    go_ret
    exact ⟨by simp, m, rfl⟩
set_option maxHeartbeats 400000 in
theorem sSizeOk (A : Option Addr) (n c : Nat) (xs : List C) (w : World) (hn : n ≤ 1048576) (hx : Cs w A n xs) :
    Calls Try.prog 83 #[.slice A n c] w fun e w' => e = .returned (.bool (sizB xs)) ∧ Dr w w' := by
  have hl := hx.len
  have HS : Hid (sizB xs = (p2B n && sigB xs)) := by show _ = _; unfold sizB; rw [hl]
  rw [HS.out]
  clear hl
  cases hs : sigB xs
  · have HC : Hid (∀ w, Cs w A n xs → Calls Try.prog 88 #[.slice A n c] w fun e w' => e = .returned (.bool false) ∧ Dr w w') := fun w h => by rw [← hs]; exact sSignalOk A n c xs w (by omega) h
    go_enter Try.func83, Try.ntmps83
    go_wp2_with fail
    refine (HC.out _ hx).mono ?_
    rintro e w' ⟨rfl, m, rfl⟩
    go_wp2_with fail
    go_ret
    exact ⟨by simp, m, rfl⟩
  · have HC : Hid (∀ w, Cs w A n xs → Calls Try.prog 88 #[.slice A n c] w fun e w' => e = .returned (.bool true) ∧ Dr w w') := fun w h => by rw [← hs]; exact sSignalOk A n c xs w (by omega) h
    by_cases hb : p2B n = true
    · rw [hb]
      rcases p2B_iff.1 hb with rfl | rfl | rfl | rfl | rfl
      all_goals
        go_enter Try.func83, Try.ntmps83
        go_wp2_with fail
        refine (HC.out _ hx).mono ?_
        rintro e w' ⟨rfl, m, rfl⟩
        go_wp2_with fail
        go_ret
        exact ⟨by simp, m, rfl⟩
    · have hb' : p2B n = false := by simpa using hb
      rw [hb']
      have hn : ¬ (n = 1 ∨ n = 2 ∨ n = 4 ∨ n = 8 ∨ n = 16) := fun h => hb (p2B_iff.2 h)
      have c1 : ((n : Int) == 1) = false := by rw [beq_eq_false_iff_ne]; omega
      have c2 : ((n : Int) == 2) = false := by rw [beq_eq_false_iff_ne]; omega
      have c3 : ((n : Int) == 4) = false := by rw [beq_eq_false_iff_ne]; omega
      have c4 : ((n : Int) == 8) = false := by rw [beq_eq_false_iff_ne]; omega
      have c5 : ((n : Int) == 16) = false := by rw [beq_eq_false_iff_ne]; omega
      clear hb hb' hn
      go_enter Try.func83, Try.ntmps83
      go_wp2_with fail
      refine (HC.out _ hx).mono ?_
      rintro e w' ⟨rfl, m, rfl⟩
      go_wp2_with fail
      go_ret
      exact ⟨by simp, m, rfl⟩

/-- All numbers, or none. -/
def allT (f : Nat → Option C) : Nat → Option (List C)
  | 0 => some []
  | k + 1 => (allT f k).bind fun l => (f k).bind fun z => some (l ++ [z])
theorem allT_len {f : Nat → Option C} : ∀ {k : Nat} {l : List C}, allT f k = some l → l.length = k
  | 0, l, h => by injection h with h; rw [← h]; rfl
  | k + 1, l, h => by
    unfold allT at h
    cases h1 : allT f k with
    | none => rw [h1] at h; cases h
    | some m =>
      cases h2 : f k with
      | none => rw [h1, h2] at h; cases h
      | some z =>
        rw [h1, h2] at h
        injection h with h
        rw [← h, List.length_append, allT_len h1]; rfl
theorem allT_none {f : Nat → Option C} {k : Nat} (h : allT f k = none) : ∀ j, k ≤ j → allT f j = none := by
  intro j hj
  obtain ⟨d, rfl⟩ : ∃ d, j = k + d := ⟨j - k, by omega⟩
  clear hj
  induction d with
  | zero => exact h
  | succ d ih => show (allT f (k + d)).bind _ = none; rw [ih]; rfl
theorem allT_step {f : Nat → Option C} {k : Nat} {l : List C} (h : allT f k = some l) {z : C} (hz : f k = some z) : allT f (k + 1) = some (l ++ [z]) := by
  show (allT f k).bind _ = _; rw [h]; show (f k).bind _ = _; rw [hz]; rfl
theorem allT_stop {f : Nat → Option C} {k : Nat} {l : List C} (h : allT f k = some l) (hz : f k = none) : allT f (k + 1) = none := by
  show (allT f k).bind _ = _; rw [h]; show (f k).bind _ = _; rw [hz]; rfl
theorem fil_set (l : List Value) {n k : Nat} (hl : l.length = k) (hk : k < n) (z u : Value) : (l ++ List.replicate (n - k) z).set k u = (l ++ [u]) ++ List.replicate (n - (k + 1)) z := by
  obtain ⟨d, hd⟩ : ∃ d, n - k = d + 1 := ⟨n - k - 1, by omega⟩
  have hd2 : n - (k + 1) = d := by omega
  rw [List.set_append_right _ _ (by omega), hl, Nat.sub_self, hd, hd2, List.replicate_succ, List.set_cons_zero, List.append_assoc]
  rfl
theorem fil_get (l : List Value) {n k : Nat} (hl : l.length = k) (hk : k < n) (z : Value) : (l ++ List.replicate (n - k) z)[k]? = some z := by
  rw [List.getElem?_append_right (by omega), hl, Nat.sub_self, List.getElem?_replicate, if_pos (by omega)]
/-- The turn of a number for each point. -/
def bk (n : Nat) (k : Int) : Int := 16 / (n : Int) * k
theorem bk_bd {n : Nat} (hn : p2B n = true) {k : Int} (h1 : -16 ≤ k) (h2 : k ≤ 16) : -256 ≤ bk n k ∧ bk n k ≤ 256 := by
  unfold bk
  rcases p2B_iff.1 hn with rfl | rfl | rfl | rfl | rfl <;> constructor <;> omega
/-- The spectrum. -/
def transF (xs : List C) : Option (List C) := if sizB xs then allT (fun k => sumT xs (bk xs.length (-(k : Int))) xs.length) xs.length else none
/-- No product passes single precision. -/
def ProdOk (xs : List C) (s : Int) : Prop := ∀ k i, k < xs.length → i < xs.length → finB (prodT xs (bk xs.length (s * (k : Int))) i) = true
theorem transF_no {xs : List C} (h : sizB xs = false) : transF xs = none := by unfold transF; rw [h]; rfl
theorem transF_yes {xs : List C} {n : Nat} (h : sizB xs = true) (hl : xs.length = n) : transF xs = allT (fun k => sumT xs (bk n (-(k : Int))) n) n := by unfold transF; rw [h, hl]; rfl
theorem siz_parts {xs : List C} (h : sizB xs = true) : p2B xs.length = true ∧ sigB xs = true ∧ xs.all finB = true ∧ xs.length ≤ 16 ∧ 1 ≤ xs.length := by
  unfold sizB at h
  rw [Bool.and_eq_true] at h
  have h3 := h.2
  unfold sigB at h3
  rw [Bool.and_eq_true, decide_eq_true_eq] at h3
  have := p2B_iff.1 h.1
  exact ⟨h.1, h.2, h3.2, h3.1, by omega⟩

set_option maxHeartbeats 2000000 in
set_option maxRecDepth 100000 in
theorem iTransform (A : Option Addr) (n c : Nat) (xs : List C) (w : World) (hn : n ≤ 1048576) (hx : Cs w A n xs) (hp : sizB xs = true → ProdOk xs (-1)) :
    Calls Try.prog 32 #[.slice A n c] w (RetO w (transF xs)) := by
  have hl := hx.len
  cases hs : sizB xs
  · have HN := Lib.hid (transF_no hs)
    have HC : Hid (∀ w, Cs w A n xs → Calls Try.prog 77 #[.slice A n c] w fun e w' => e = .returned (.bool false) ∧ Dr w w') := fun w h => by rw [← hs]; exact iSizeOk A n c xs w hn h
    clear hl hs hp
    go_enter Try.func32, Try.ntmps32
    go_wp2_with fail
    refine (HC.out _ hx).mono ?_
    rintro e w' ⟨rfl, m, rfl⟩
    go_wp2_with fail
    go_ret2
    rw [HN.out]
    exact RetC.nil_ (below_drewN (Below.refl _ _) m)
  · have HC : Hid (∀ w, Cs w A n xs → Calls Try.prog 77 #[.slice A n c] w fun e w' => e = .returned (.bool true) ∧ Dr w w') := fun w h => by rw [← hs]; exact iSizeOk A n c xs w hn h
    obtain ⟨s1, s2, s3, s4, s5⟩ := siz_parts hs
    rw [hl] at s1 s4 s5
    have HY := Lib.hid (transF_yes hs hl)
    have HPO := Lib.hid (hp hs)
    have HL := Lib.hid hl
    have H1 := Lib.hid s1
    have H3 := Lib.hid s3
    have HT : Hid (∀ (k : Nat) w', k < n → Cs w' A n xs → Calls Try.prog 78 #[.slice A n c, .int .i64 (-(k : Int))] w' (RetQ2 w' (sumT xs (bk n (-(k : Int))) n))) := fun k w' hk h => by
      obtain ⟨b1, b2⟩ := bk_bd s1 (k := -(k : Int)) (by omega) (by omega)
      refine iTurned A n c xs (-(k : Int)) (bk n (-(k : Int))) w' s5 s4 h s3 rfl b1 b2 fun i hi => ?_
      have := hp hs k i (by omega) (by omega)
      rw [hl, show (-1 : Int) * (k : Int) = -(k : Int) by omega] at this
      exact this
    clear hl hs hp s1 s2 s3
    go_enter Try.func32, Try.ntmps32
    go_wp2_with fail
    refine (HC.out _ hx).mono ?_
    rintro e w' ⟨rfl, m, rfl⟩
    go_wp2_with (at_make; refine wl_make (w0 := w.drewN m) rfl (.tmp 12) (.tmp 12) 23 rfl Try.eC .i64 .i64 n _ _ rfl rfl rfl rfl (by omega) (by unfold maxLen; omega) (Below.refl _ _) ?_; intro w1 hown hb1 _)
    have HO1 : Hid (Ow w1 w.heap.size 45 (.slice (some ⟨w.heap.size, 0, none⟩) n n) n (List.replicate n (.complex .f32 0 0))) := hown
    have HB1 : Hid (Below w.heap.size w w1) := ⟨hb1.os, hb1.tape, hb1.output, hb1.size, hb1.block⟩
    clear hown hb1
    go_loopw [16] (fun i wr => ∃ (k : Nat) (l : List C), k ≤ n ∧ i = .int .i64 k ∧ allT (fun k => sumT xs (bk n (-(k : Int))) n) k = some l ∧ Ow wr w.heap.size 45 (.slice (some ⟨w.heap.size, 0, none⟩) n n) n (l.map cv ++ List.replicate (n - k) (.complex .f32 0 0)) ∧ Below w.heap.size w wr) (fun i _ => n - (intOf i).toNat)
    case atStart => exact ⟨0, [], by omega, rfl, rfl, HO1.out, HB1.out⟩
    case round =>
      obtain ⟨k, l, hk, rfl, hal, ho, hb⟩ := hrel
      have HA := Lib.hid hal
      have HO := Lib.hid ho
      have HB := Lib.hid hb
      clear hal ho hb
      by_cases hlt : k < n
      · have e1 : IntKind.i64.wrap (-(k : Int)) = -(k : Int) := IntWalk.i64_in _ (by omega)
        go_wp2_with fail
        refine (HT.out k wr hlt (hx.below HB.out)).mono ?_
        rintro e w2 ⟨rfl, hb2⟩
        have HB2 : Hid (Below w.heap.size w w2) := HB.out.trans (hb2.mono HB.out.size)
        have HO2 := Lib.hid (HO.out.below hb2)
        clear hb2
        cases hz : sumT xs (bk n (-(k : Int))) n with
        | none =>
          have HN : Hid (transF xs = none) := by show _ = _; rw [HY.out]; exact allT_none (allT_stop HA.out hz) n (by omega)
          clear hz
          simp only [Option.getD_none, Option.isSome_none]
          go_wp2_with fail
          go_ret2
          rw [HN.out]
          exact RetC.nil_ HB2.out
        | some z =>
          have HNX := Lib.hid (allT_step HA.out hz)
          have HLL : Hid ((l.map cv).length = k) := by show _ = _; rw [List.length_map]; exact allT_len HA.out
          clear hz
          simp only [Option.getD_some, Option.isSome_some]
          obtain ⟨g, hg, hge, hgl, hcell, hfr, hst⟩ := Ow.at_ HO2.out hlt
          injection hg with hg
          injection hg with hg
          subst hg
          have hck2 : w2.cell? ⟨w.heap.size, k, none⟩ = some (.complex .f32 0 0) := (hcell k hlt).trans (fil_get _ HLL.out hlt _)
          have hfr2 := hfr k
          have hst2 := hst k (cv z)
          rw [fil_set _ HLL.out hlt] at hst2
          have HS := Lib.hid hst2
          clear hst2 hcell hfr hst
          unfold cv at HS
          unfold cv
          go_wp2_with fail
          go_roundw
          case rel => exact ⟨k + 1, l ++ [z], by omega, by go_num, HNX.out, by rw [List.map_append]; exact HS.out, HB2.out.setCell (Nat.le_refl _) _⟩
          case measure => simp [intOf]; omega
      · obtain rfl : k = n := by omega
        have HR : Hid (transF xs = some l) := by show _ = _; rw [HY.out]; exact HA.out
        go_wp2_with fail
        go_ret2
        rw [HR.out]
        refine ⟨_, _, _, rfl, ?_, HB.out⟩
        have := HO.out
        rw [Nat.sub_self, List.replicate_zero, List.append_nil] at this
        exact this
end Go.Proofs.Ytficlmnjbbpicaa
