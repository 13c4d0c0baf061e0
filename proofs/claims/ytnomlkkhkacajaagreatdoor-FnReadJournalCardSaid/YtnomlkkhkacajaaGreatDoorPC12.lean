/- Texts on the way to a law (K8, K1), each with its own remark. -/
import Derived.Test.YtnomlkkhkacajaaGreatDoorPC11
import Derived.Test.YtnomlkkhkacajaaGreatDoorPC07
import Derived.Test.YtnomlkkhkacajaaGreatDoorPC08
namespace Go.Proofs.YtnomlkkhkacajaaGreatDoor
open Go.RowKit

theorem RetC.trans' {w w1 w' : World} {ys : List C} {ok : Bool} {e : Ending} (h : RetC w1 ys ok e w') (hb : Below w.heap.size w w1) : RetC w ys ok e w' := by
  obtain ⟨A, n, c, h1, h2, h3⟩ := h
  exact ⟨A, n, c, h1, h2.mono hb.size, hb.trans (h3.mono hb.size)⟩
/-- Numbers that are not too great. -/
def Small (xs : List C) : Prop := ∀ i, i < xs.length → Md (nth xs i) K1
theorem Small.turn {xs : List C} (h : Small xs) {i : Nat} (hi : i < xs.length) (t : Int) : finB (mulC (nth xs i) (turnC t)) = true :=
  (mul_md (h i hi) (turnC_fin _) (turn_sq _) (by unfold K1; have := U_pos; grind)).1
def shiL (xs : List C) (n : Nat) (b : Int) : List C := rngL (fun i => mulC (nth xs i) (nth (tonL n b) i)) n
def shiF (xs : List C) (k : Int) : Option (List C) := if sizB xs && decide (0 ≤ k) && decide (k < xs.length) then some (shiL xs xs.length (16 / (xs.length : Int) * k)) else none
theorem shiF_no {xs : List C} {k : Int} (h : sizB xs = false ∨ k < 0 ∨ (xs.length : Int) ≤ k) : shiF xs k = none := by
  unfold shiF
  rcases h with h | h | h
  · rw [h]; rfl
  · rw [decide_eq_false (show ¬ 0 ≤ k by omega), Bool.and_false]; rfl
  · rw [decide_eq_false (show ¬ k < xs.length by omega), Bool.and_false]; rfl
theorem shiF_yes {xs : List C} {n : Nat} {k : Int} (h : sizB xs = true) (hl : xs.length = n) (h0 : 0 ≤ k) (h1 : k < n) : shiF xs k = some (shiL xs n (16 / (n : Int) * k)) := by
  unfold shiF; rw [h, hl, decide_eq_true h0, decide_eq_true h1]; rfl
theorem tonL_sig {n : Nat} (b : Int) (h : n ≤ 16) : sigB (tonL n b) = true := by unfold sigB; rw [tonL_fin, tonL_len, decide_eq_true h]; rfl

set_option maxHeartbeats 2000000 in
set_option maxRecDepth 100000 in
theorem iShifted (A : Option Addr) (n c : Nat) (xs : List C) (k : Int) (w : World) (hn : n ≤ 1048576) (hx : Cs w A n xs) (hm : sigB xs = true → Small xs) :
    Calls Tryz.prog 113 #[.slice A n c, .int .i64 k] w (RetO w (shiF xs k)) := by
  have hl := hx.len
  cases hs : sizB xs
  · have HN := Lib.hid (shiF_no (k := k) (.inl hs))
    have HC : Hid (∀ w, Cs w A n xs → Calls Tryz.prog 125 #[.slice A n c] w fun e w' => e = .returned (.bool false) ∧ Dr w w') := fun w h => by rw [← hs]; exact iSizeOk A n c xs w hn h
    clear hl hs hm
    go_enter Tryz.func113, Tryz.ntmps113
    go_wp2_with fail
    refine (HC.out _ hx).mono ?_
    rintro e w' ⟨rfl, m, rfl⟩
    go_wp2_with fail
    go_ret2
    rw [HN.out]
    exact RetC.nil_ (below_drewN (Below.refl _ _) m)
  have HC : Hid (∀ w, Cs w A n xs → Calls Tryz.prog 125 #[.slice A n c] w fun e w' => e = .returned (.bool true) ∧ Dr w w') := fun w h => by rw [← hs]; exact iSizeOk A n c xs w hn h
  by_cases hk : 0 ≤ k ∧ k < (n : Int)
  case neg =>
    have HN := Lib.hid (shiF_no (xs := xs) (k := k) (by omega))
    have key : k < 0 ∨ (0 ≤ k ∧ (n : Int) ≤ k) := by omega
    clear hl hs hm hk
    rcases key with h0 | ⟨h0, h1⟩
    all_goals
      go_enter Tryz.func113, Tryz.ntmps113
      go_wp2_with fail
      refine (HC.out _ hx).mono ?_
      rintro e w' ⟨rfl, m, rfl⟩
      go_wp2_with fail
      go_ret2
      rw [HN.out]
      exact RetC.nil_ (below_drewN (Below.refl _ _) m)
  obtain ⟨h0, h1⟩ := hk
  obtain ⟨s1, s2, s3, s4, s5⟩ := siz_parts hs
  rw [hl] at s1 s4 s5
  have HY := Lib.hid (shiF_yes hs hl h0 h1)
  obtain ⟨bb, hbk⟩ : ∃ b, b = 16 / (n : Int) * k := ⟨_, rfl⟩
  have HT : Hid (∀ w, Calls Tryz.prog 139 #[.int .i64 n, .int .i64 k] w (RetS w (tonL n bb))) := fun w => by
    have := iTone n k w
    rw [tonF_yes s1 h0 h1, ← hbk] at this
    exact this
  rw [← hbk] at HY
  have HE : Hid (∀ A' c' w', Cs w' A n xs → Cs w' A' n (tonL n bb) → Calls Tryz.prog 138 #[.slice A n c, .slice A' n c'] w' (RetC w' (shiL xs n bb) true)) := fun A' c' w' h1' h2' =>
    iEach A A' n c c' xs (tonL n bb) w' h1' h2' s2 (tonL_sig bb s4) fun i hi => by rw [tonL_nth bb hi]; exact (hm s2).turn (by omega) _
  clear hl hs hm s1 s2 s3 hbk
  go_enter Tryz.func113, Tryz.ntmps113
  go_wp2_with fail
  refine (HC.out _ hx).mono ?_
  rintro e w' ⟨rfl, m, rfl⟩
  have HB0 : Hid (Below w.heap.size w (w.drewN m)) := below_drewN (Below.refl _ _) m
  have HX : Hid (Cs (w.drewN m) A n xs) := hx.drewN m
  clear hx
  go_wp2_with fail
  refine (HT.out _).mono ?_
  rintro e w2 ⟨A2, m2, c2, rfl, ho2, hb2⟩
  obtain rfl : m2 = n := by have h1 := ho2.len; rw [List.length_map, tonL_len] at h1; omega
  have HX2 := Lib.hid (HX.out.below hb2)
  have HB2 : Hid (Below w.heap.size w w2) := HB0.out.trans hb2
  have HO2 := Lib.hid ho2
  clear ho2 hb2
  go_wp2_with fail
  refine (HE.out A2 c2 w2 HX2.out HO2.out.sl).mono ?_
  rintro e w3 hr
  have hr2 := RetC.trans' hr HB2.out
  obtain ⟨A3, m3, c3, rfl, ho3, hb3⟩ := hr2
  have HR : Hid (RetO w (shiF xs k) (.returned (.tuple #[.slice A3 m3 c3, .bool true])) w3) := by
    show RetO _ _ _ _
    rw [HY.out]
    exact ⟨A3, m3, c3, rfl, ho3, hb3⟩
  clear hr ho3 hb3
  go_wp2_with fail
  go_ret2
  exact HR.out
set_option maxHeartbeats 2000000 in
set_option maxRecDepth 100000 in
theorem sShifted (A : Option Addr) (n c : Nat) (xs : List C) (k : Int) (w : World) (hn : n ≤ 1048576) (hx : Cs w A n xs) (hm : sigB xs = true → Small xs) :
    Calls Tryz.prog 85 #[.slice A n c, .int .i64 k] w (RetO w (shiF xs k)) := by
  have hl := hx.len
  cases hs : sizB xs
  · have HN := Lib.hid (shiF_no (k := k) (.inl hs))
    have HC : Hid (∀ w, Cs w A n xs → Calls Tryz.prog 101 #[.slice A n c] w fun e w' => e = .returned (.bool false) ∧ Dr w w') := fun w h => by rw [← hs]; exact sSizeOk A n c xs w hn h
    clear hl hs hm
    go_enter Tryz.func85, Tryz.ntmps85
    go_wp2_with fail
    refine (HC.out _ hx).mono ?_
    rintro e w' ⟨rfl, m, rfl⟩
    go_wp2_with fail
    go_ret2
    rw [HN.out]
    exact RetC.empty ((Ow.empty (w.drewN m) 73)) ((below_drewN (Below.refl _ _) m).alloc (Nat.le_refl _) _)
  have HC : Hid (∀ w, Cs w A n xs → Calls Tryz.prog 101 #[.slice A n c] w fun e w' => e = .returned (.bool true) ∧ Dr w w') := fun w h => by rw [← hs]; exact sSizeOk A n c xs w hn h
  have e0 : IntKind.i64.wrap ((n : Int) - 1) = (n : Int) - 1 := IntWalk.i64_in _ (by omega)
  by_cases hk : 0 ≤ k ∧ k < (n : Int)
  case neg =>
    have HN := Lib.hid (shiF_no (xs := xs) (k := k) (by omega))
    have hin : inB k 0 ((n : Int) - 1) = false := by rw [inB_false_iff]; omega
    clear hl hs hm hk
    go_enter Tryz.func85, Tryz.ntmps85
    go_wp2_with fail
    refine (HC.out _ hx).mono ?_
    rintro e w' ⟨rfl, m, rfl⟩
    go_wp2_with fail
    refine (l1In_any _ _ _ _).mono ?_
    rintro e w2 ⟨rfl, hw2⟩
    obtain rfl := hw2.symm
    go_wp2_with fail
    go_ret2
    rw [HN.out]
    exact RetC.empty ((Ow.empty (w.drewN m) 73)) ((below_drewN (Below.refl _ _) m).alloc (Nat.le_refl _) _)
  obtain ⟨h0, h1⟩ := hk
  have hin : inB k 0 ((n : Int) - 1) = true := inB_true h0 (by omega)
  obtain ⟨s1, s2, s3, s4, s5⟩ := siz_parts hs
  rw [hl] at s1 s4 s5
  have HY := Lib.hid (shiF_yes hs hl h0 h1)
  obtain ⟨bb, hbk⟩ : ∃ b, b = 16 / (n : Int) * k := ⟨_, rfl⟩
  have HT : Hid (∀ w, Calls Tryz.prog 117 #[.int .i64 n, .int .i64 k] w (RetS w (tonL n bb))) := fun w => by
    have := sTone n k w
    rw [tonF_yes s1 h0 h1, ← hbk] at this
    exact this
  rw [← hbk] at HY
  have HE : Hid (∀ A' c' w', Cs w' A n xs → Cs w' A' n (tonL n bb) → Calls Tryz.prog 116 #[.slice A n c, .slice A' n c'] w' (RetC w' (shiL xs n bb) true)) := fun A' c' w' h1' h2' =>
    sEach A A' n c c' xs (tonL n bb) w' h1' h2' s2 (tonL_sig bb s4) fun i hi => by rw [tonL_nth bb hi]; exact (hm s2).turn (by omega) _
  clear hl hs hm s1 s2 s3 hbk
  go_enter Tryz.func85, Tryz.ntmps85
  go_wp2_with fail
  refine (HC.out _ hx).mono ?_
  rintro e w' ⟨rfl, m, rfl⟩
  have HB0 : Hid (Below w.heap.size w (w.drewN m)) := below_drewN (Below.refl _ _) m
  have HX : Hid (Cs (w.drewN m) A n xs) := hx.drewN m
  clear hx
  go_wp2_with fail
  refine (l1In_any _ _ _ _).mono ?_
  rintro e w1 ⟨rfl, hw2⟩
  obtain rfl := hw2.symm
  go_wp2_with fail
  refine (HT.out _).mono ?_
  rintro e w2 ⟨A2, m2, c2, rfl, ho2, hb2⟩
  obtain rfl : m2 = n := by have h1 := ho2.len; rw [List.length_map, tonL_len] at h1; omega
  have HX2 := Lib.hid (HX.out.below hb2)
  have HB2 : Hid (Below w.heap.size w w2) := HB0.out.trans hb2
  have HO2 := Lib.hid ho2
  clear ho2 hb2
  go_wp2_with fail
  refine (HE.out A2 c2 w2 HX2.out HO2.out.sl).mono ?_
  rintro e w3 hr
  have hr2 := RetC.trans' hr HB2.out
  obtain ⟨A3, m3, c3, rfl, ho3, hb3⟩ := hr2
  have HR : Hid (RetO w (shiF xs k) (.returned (.tuple #[.slice A3 m3 c3, .bool true])) w3) := by
    show RetO _ _ _ _
    rw [HY.out]
    exact ⟨A3, m3, c3, rfl, ho3, hb3⟩
  clear hr ho3 hb3
  go_wp2_with fail
  go_ret2
  exact HR.out

/-! Moved round. -/
theorem sub_mod (x y n : Int) : (x % n - y) % n = (x - y) % n := by rw [Int.sub_emod, Int.emod_emod_of_dvd x (Int.dvd_refl n), ← Int.sub_emod]
theorem add_mod (x y n : Int) : (x % n + y) % n = (x + y) % n := by rw [Int.add_emod, Int.emod_emod_of_dvd x (Int.dvd_refl n), ← Int.add_emod]
theorem remG_any (x s : Int) (w : World) (h1 : -9999 ≤ x) (h2 : x ≤ 9999) (h3 : 1 ≤ s) (h4 : s ≤ 9999) : Calls Tryz.prog 137 #[.int .i64 x, .int .i64 s] w fun e w' => e = .returned (.int .i64 (x % s)) ∧ w' = w := by
  have hs : (s == 0) = false := by rw [beq_eq_false_iff_ne]; omega
  by_cases hx : 0 ≤ x
  · have m1 := Int.emod_nonneg x (show s ≠ 0 by omega)
    have m2 := Int.emod_lt_of_pos x (show 0 < s by omega)
    have e0 : x.tmod s = x % s := Int.tmod_eq_emod_of_nonneg hx
    go_enter Tryz.func137, Tryz.ntmps137
    go_wp2_with fail
    go_ret
    exact ⟨rfl, rfl⟩
  · obtain ⟨y, rfl⟩ : ∃ y, x = -y := ⟨-x, by omega⟩
    have e0 : (-y).tmod s = -(y % s) := by rw [Int.neg_tmod, Int.tmod_eq_emod_of_nonneg (by omega)]
    have m1 := Int.emod_nonneg y (show s ≠ 0 by omega)
    have m2 := Int.emod_lt_of_pos y (show 0 < s by omega)
    have HE : Hid ((-y) % s = if y % s = 0 then 0 else s - y % s) := by
      show _ = _
      have h := Int.emod_add_mul_ediv y s
      split
      · rename_i hz
        obtain ⟨d, rfl⟩ := Int.dvd_of_emod_eq_zero hz
        rw [← Int.mul_neg]; exact Int.mul_emod_right _ _
      · rename_i hz
        have e1 : -y = (s - y % s) + s * (-(y / s) - 1) := by
          rw [Int.mul_sub, Int.mul_neg, Int.mul_one]
          generalize s * (y / s) = q at *
          omega
        rw [e1, Int.add_mul_emod_self_left, Int.emod_eq_of_lt (by omega) (by omega)]
    obtain ⟨r, hr⟩ : ∃ r, r = y % s := ⟨_, rfl⟩
    rw [← hr] at e0 HE m1 m2
    have HR := Lib.hid hr
    clear hr hx
    by_cases hz : r = 0
    · have e1 : (-y).tmod s = 0 := by rw [e0, hz]; rfl
      have HE2 : Hid ((-y) % s = 0) := by show _ = _; rw [HE.out, if_pos hz]
      clear e0 hz
      go_enter Tryz.func137, Tryz.ntmps137
      go_wp2_with fail
      go_ret
      exact ⟨ret_int HE2.out.symm, rfl⟩
    · have HE2 : Hid ((-y) % s = s - r) := by show _ = _; rw [HE.out, if_neg hz]
      have hneg : -r < 0 := by omega
      go_enter Tryz.func137, Tryz.ntmps137
      go_wp2_with fail
      go_ret
      exact ⟨ret_int (by have := HE2.out; omega), rfl⟩
/-- A signal moved round. -/
def movL (xs : List C) (n : Nat) (b : Int) : List C := rngL (fun j => nth xs (((j : Int) - b) % (n : Int)).toNat) n
def movV (xs : List C) (n : Nat) (b : Int) (i : Nat) : List Value := (List.range n).map fun j : Nat => if ((j : Int) - b) % (n : Int) < (i : Int) then cv (nth xs (((j : Int) - b) % (n : Int)).toNat) else .complex .f32 0 0
theorem movV_len (xs : List C) (n : Nat) (b : Int) (i : Nat) : (movV xs n b i).length = n := by simp [movV]
theorem movV_zero (xs : List C) (n : Nat) (b : Int) : movV xs n b 0 = List.replicate n (.complex .f32 0 0) := by
  refine List.ext_getElem (by simp [movV]) fun j h1 h2 => ?_
  have hn : 0 < n := by rw [movV_len] at h1; omega
  have := Int.emod_nonneg ((j : Int) - b) (show (n : Int) ≠ 0 by omega)
  simp only [movV, List.getElem_map, List.getElem_range, List.getElem_replicate]
  rw [if_neg (by omega)]
theorem movV_full (xs : List C) (n : Nat) (b : Int) : movV xs n b n = (movL xs n b).map cv := by
  refine List.ext_getElem (by simp [movV, movL, rngL]) fun j h1 h2 => ?_
  have hn : 0 < n := by rw [movV_len] at h1; omega
  have := Int.emod_lt_of_pos ((j : Int) - b) (show 0 < (n : Int) by omega)
  simp only [movV, movL, rngL, List.getElem_map, List.getElem_range]
  rw [if_pos this]
theorem movV_set (xs : List C) {n i : Nat} (b : Int) (hi : i < n) : (movV xs n b i).set (((i : Int) + b) % (n : Int)).toNat (cv (nth xs i)) = movV xs n b (i + 1) := by
  have hn : (n : Int) ≠ 0 := by omega
  have p1 := Int.emod_nonneg ((i : Int) + b) hn
  have p2 := Int.emod_lt_of_pos ((i : Int) + b) (show 0 < (n : Int) by omega)
  refine List.ext_getElem (by simp [movV]) fun j h1 h2 => ?_
  have hj : j < n := by rw [movV_len] at h2; exact h2
  rw [List.getElem_set]
  have q1 := Int.emod_nonneg ((j : Int) - b) hn
  by_cases hij : (((i : Int) + b) % (n : Int)).toNat = j
  · rw [if_pos hij]
    have hje : (j : Int) = ((i : Int) + b) % (n : Int) := by omega
    have e1 : ((j : Int) - b) % (n : Int) = i := by
      rw [hje, sub_mod, show (i : Int) + b - b = i by omega]
      exact Int.emod_eq_of_lt (by omega) (by omega)
    simp only [movV, List.getElem_map, List.getElem_range, e1]
    rw [if_pos (by omega)]
    rfl
  · rw [if_neg hij]
    have hne : ((j : Int) - b) % (n : Int) ≠ i := fun he => by
      apply hij
      rw [← he, add_mod, show (j : Int) - b + b = j by omega, Int.emod_eq_of_lt (by omega) (by omega)]
      rfl
    simp only [movV, List.getElem_map, List.getElem_range]
    by_cases hlt : ((j : Int) - b) % (n : Int) < (i : Int)
    · rw [if_pos hlt, if_pos (by omega)]
    · rw [if_neg hlt, if_neg (by omega)]
set_option maxHeartbeats 2000000 in
set_option maxRecDepth 100000 in
theorem iMoved (A : Option Addr) (n c : Nat) (xs : List C) (b : Int) (w : World) (hx : Cs w A n xs) (hs : sigB xs = true) (h1 : -99 ≤ b) (h2 : b ≤ 99) :
    Calls Tryz.prog 112 #[.slice A n c, .int .i64 b] w (RetS w (movL xs n b)) := by
  have hl := hx.len
  have h16 : n ≤ 16 := by rw [← hl]; exact sig_len hs
  have HC : Hid (∀ w, Cs w A n xs → Calls Tryz.prog 43 #[.slice A n c] w fun e w' => e = .returned (.bool true) ∧ Dr w w') := fun w h => by rw [← hs]; exact iSignalOk A n c xs w (by omega) h
  clear hs hl
  go_enter Tryz.func112, Tryz.ntmps112
  go_wp2_with fail
  refine (HC.out _ hx).mono ?_
  rintro e w' ⟨rfl, m, rfl⟩
  go_wp2_with (at_make; refine wl_make (w0 := w.drewN m) rfl (.tmp 20) (.tmp 20) 23 rfl Tryz.eC .i64 .i64 n _ _ rfl rfl rfl rfl (by omega) (by unfold maxLen; omega) (Below.refl _ _) ?_; intro w1 hown hb1 _)
  have HO1 : Hid (Ow w1 w.heap.size 73 (.slice (some ⟨w.heap.size, 0, none⟩) n n) n (movV xs n b 0)) := by
    show Ow _ _ _ _ _ _
    rw [movV_zero]
    exact hown
  have HB1 : Hid (Below w.heap.size w w1) := ⟨hb1.os, hb1.tape, hb1.output, hb1.size, hb1.block⟩
  clear hown hb1
  go_loopw [24] (fun i wr => ∃ k : Nat, k ≤ n ∧ i = .int .i64 k ∧ Ow wr w.heap.size 73 (.slice (some ⟨w.heap.size, 0, none⟩) n n) n (movV xs n b k) ∧ Below w.heap.size w wr) (fun i _ => n - (intOf i).toNat)
  case atStart => exact ⟨0, by omega, rfl, HO1.out, HB1.out⟩
  case round =>
    obtain ⟨k, hk, rfl, ho, hb⟩ := hrel
    have HO := Lib.hid ho
    have HB := Lib.hid hb
    clear ho
    by_cases hlt : k < n
    · obtain ⟨bl, o, rfl, hbl, hc⟩ := hx.at_ hlt
      have hck : wr.cell? ⟨bl, o + k, none⟩ = some (cv (nth xs k)) := (hb.cell (p := ⟨bl, o + k, none⟩) hbl).trans (hc k hlt)
      have p1 := Int.emod_nonneg ((k : Int) + b) (show (n : Int) ≠ 0 by omega)
      have p2 := Int.emod_lt_of_pos ((k : Int) + b) (show 0 < (n : Int) by omega)
      have e1 : IntKind.i64.wrap ((k : Int) + b) = (k : Int) + b := IntWalk.i64_in _ (by omega)
      have hset := movV_set xs b hlt
      have hRM : ∀ w, Calls Tryz.prog 137 #[.int .i64 ((k : Int) + b), .int .i64 n] w fun e w' => e = .returned (.int .i64 (((k : Int) + b) % (n : Int))) ∧ w' = w := fun w => remG_any _ _ w (by omega) (by omega) (by omega) (by omega)
      obtain ⟨q, hq⟩ := Int.eq_ofNat_of_zero_le p1
      rw [hq] at hRM hset p2
      have HRM := Lib.hid hRM
      have hqn : q < n := by omega
      have hqt : ((q : Nat) : Int).toNat = q := by omega
      rw [hqt] at hset
      obtain ⟨g, hg, hge, hgl, hcell, hfr, hst⟩ := Ow.at_ HO.out hqn
      injection hg with hg
      injection hg with hg
      subst hg
      have hck2 : wr.cell? ⟨w.heap.size, q, none⟩ = some ((movV xs n b k)[q]'(by rw [movV_len]; exact hqn)) := (hcell q hqn).trans (List.getElem?_eq_getElem _)
      generalize (movV xs n b k)[q]'(by rw [movV_len]; exact hqn) = u0 at hck2
      have hfr2 := hfr q
      have hst2 := hst q (cv (nth xs k))
      rw [hset] at hst2
      have HS := Lib.hid hst2
      clear hst2 hcell hfr hst hb hc hset hRM hq p1 hqt hx
      generalize nth xs k = x at *
      unfold cv at hck HS
      go_wp2_with fail
      refine (HRM.out _).mono ?_
      rintro e w3 ⟨rfl, hw3⟩
      obtain rfl := hw3.symm
      go_wp2_with fail
      go_roundw
      case rel => exact ⟨k + 1, by omega, by go_num, HS.out, HB.out.setCell (Nat.le_refl _) _⟩
      case measure => simp [intOf]; omega
    · obtain rfl : k = n := by omega
      clear hb hx
      go_wp2_with fail
      go_ret
      refine ⟨_, _, _, rfl, ?_, HB.out⟩
      have := HO.out
      rw [movV_full] at this
      exact this
end Go.Proofs.YtnomlkkhkacajaaGreatDoor
namespace Go.Proofs.YtnomlkkhkacajaaGreatDoor
open Go.RowKit

/-- The word of a number of points, in double precision. -/
def c64 (n : Nat) : Nat := if n = 1 then 4607182418800017408 else if n = 2 then 4611686018427387904 else if n = 4 then 4616189618054758400 else if n = 8 then 4620693217682128896 else 4625196817309499392
theorem p2w_of {n : Nat} (h : p2B n = true) : P2W (floatOfInt .f32 (n : Int)) (c64 n) n := by
  rcases p2B_iff.1 h with rfl | rfl | rfl | rfl | rfl
  · rw [show floatOfInt .f32 ((1 : Nat) : Int) = 1065353216 by decide +kernel]; exact p2w_1
  · rw [show floatOfInt .f32 ((2 : Nat) : Int) = 1073741824 by decide +kernel]; exact p2w_2
  · rw [show floatOfInt .f32 ((4 : Nat) : Int) = 1082130432 by decide +kernel]; exact p2w_4
  · rw [show floatOfInt .f32 ((8 : Nat) : Int) = 1090519040 by decide +kernel]; exact p2w_8
  · rw [show floatOfInt .f32 ((16 : Nat) : Int) = 1098907648 by decide +kernel]; exact p2w_16
/-- A number of the signal of a spectrum. -/
def bakZ (xs : List C) (n k : Nat) : Option C := (sumT xs (bk n (k : Int)) n).map fun z => quoC z (c64 n)
def backF (xs : List C) : Option (List C) := if sizB xs then allT (bakZ xs xs.length) xs.length else none
theorem backF_no {xs : List C} (h : sizB xs = false) : backF xs = none := by unfold backF; rw [h]; rfl
theorem backF_yes {xs : List C} {n : Nat} (h : sizB xs = true) (hl : xs.length = n) : backF xs = allT (bakZ xs n) n := by unfold backF; rw [h, hl]; rfl
theorem bakZ_none {xs : List C} {n k : Nat} (h : sumT xs (bk n (k : Int)) n = none) : bakZ xs n k = none := by unfold bakZ; rw [h]; rfl
theorem bakZ_some {xs : List C} {n k : Nat} {z : C} (h : sumT xs (bk n (k : Int)) n = some z) : bakZ xs n k = some (quoC z (c64 n)) := by unfold bakZ; rw [h]; rfl

set_option maxHeartbeats 2000000 in
set_option maxRecDepth 100000 in
theorem iBack (A : Option Addr) (n c : Nat) (xs : List C) (w : World) (hn : n ≤ 1048576) (hx : Cs w A n xs) (hp : sizB xs = true → ProdOk xs 1) :
    Calls Tryz.prog 111 #[.slice A n c] w (RetO w (backF xs)) := by
  have hl := hx.len
  cases hs : sizB xs
  · have HN := Lib.hid (backF_no hs)
    have HC : Hid (∀ w, Cs w A n xs → Calls Tryz.prog 125 #[.slice A n c] w fun e w' => e = .returned (.bool false) ∧ Dr w w') := fun w h => by rw [← hs]; exact iSizeOk A n c xs w hn h
    clear hl hs hp
    go_enter Tryz.func111, Tryz.ntmps111
    go_wp2_with fail
    refine (HC.out _ hx).mono ?_
    rintro e w' ⟨rfl, m, rfl⟩
    go_wp2_with fail
    go_ret2
    rw [HN.out]
    exact RetC.nil_ (below_drewN (Below.refl _ _) m)
  · have HC : Hid (∀ w, Cs w A n xs → Calls Tryz.prog 125 #[.slice A n c] w fun e w' => e = .returned (.bool true) ∧ Dr w w') := fun w h => by rw [← hs]; exact iSizeOk A n c xs w hn h
    obtain ⟨s1, s2, s3, s4, s5⟩ := siz_parts hs
    rw [hl] at s1 s4 s5
    have HY := Lib.hid (backF_yes hs hl)
    have HW2 := Lib.hid (p2w_of s1)
    have HT : Hid (∀ (k : Nat) w', k < n → Cs w' A n xs → Calls Tryz.prog 126 #[.slice A n c, .int .i64 (k : Int)] w' (RetQ2 w' (sumT xs (bk n (k : Int)) n))) := fun k w' hk h => by
      obtain ⟨b1, b2⟩ := bk_bd s1 (k := (k : Int)) (by omega) (by omega)
      refine iTurned A n c xs (k : Int) (bk n (k : Int)) w' s5 s4 h s3 rfl b1 b2 fun i hi => ?_
      have := hp hs k i (by omega) (by omega)
      rw [hl, show (1 : Int) * (k : Int) = (k : Int) by omega] at this
      exact this
    clear hl hs hp s1 s2 s3
    go_enter Tryz.func111, Tryz.ntmps111
    go_wp2_with fail
    refine (HC.out _ hx).mono ?_
    rintro e w' ⟨rfl, m, rfl⟩
    go_wp2_with (at_make; refine wl_make (w0 := w.drewN m) rfl (.tmp 17) (.tmp 17) 23 rfl Tryz.eC .i64 .i64 n _ _ rfl rfl rfl rfl (by omega) (by unfold maxLen; omega) (Below.refl _ _) ?_; intro w1 hown hb1 _)
    have HO1 : Hid (Ow w1 w.heap.size 73 (.slice (some ⟨w.heap.size, 0, none⟩) n n) n (List.replicate n (.complex .f32 0 0))) := hown
    have HB1 : Hid (Below w.heap.size w w1) := ⟨hb1.os, hb1.tape, hb1.output, hb1.size, hb1.block⟩
    clear hown hb1
    go_loopw [21] (fun i wr => ∃ (k : Nat) (l : List C), k ≤ n ∧ i = .int .i64 k ∧ allT (bakZ xs n) k = some l ∧ Ow wr w.heap.size 73 (.slice (some ⟨w.heap.size, 0, none⟩) n n) n (l.map cv ++ List.replicate (n - k) (.complex .f32 0 0)) ∧ Below w.heap.size w wr) (fun i _ => n - (intOf i).toNat)
    case atStart => exact ⟨0, [], by omega, rfl, rfl, HO1.out, HB1.out⟩
    case round =>
      obtain ⟨k, l, hk, rfl, hal, ho, hb⟩ := hrel
      have HA := Lib.hid hal
      have HO := Lib.hid ho
      have HB := Lib.hid hb
      clear hal ho hb
      by_cases hlt : k < n
      · go_wp2_with fail
        refine (HT.out k wr hlt (hx.below HB.out)).mono ?_
        rintro e w2 ⟨rfl, hb2⟩
        have HB2 : Hid (Below w.heap.size w w2) := HB.out.trans (hb2.mono HB.out.size)
        have HO2 := Lib.hid (HO.out.below hb2)
        clear hb2
        cases hz : sumT xs (bk n (k : Int)) n with
        | none =>
          have HN : Hid (backF xs = none) := by show _ = _; rw [HY.out]; exact allT_none (allT_stop HA.out (bakZ_none hz)) n (by omega)
          clear hz
          simp only [Option.getD_none, Option.isSome_none]
          go_wp2_with fail
          go_ret2
          rw [HN.out]
          exact RetC.nil_ HB2.out
        | some z =>
          have HNX := Lib.hid (allT_step HA.out (bakZ_some hz))
          have HLL : Hid ((l.map cv).length = k) := by show _ = _; rw [List.length_map]; exact allT_len HA.out
          have fz := sumT_fin hz
          have qr := quoC_run HW2.out fz Tryz.prog 73
          have qf := (quoC_rnd HW2.out fz).1
          clear hz fz
          simp only [Option.getD_some, Option.isSome_some]
          obtain ⟨g, hg, hge, hgl, hcell, hfr, hst⟩ := Ow.at_ HO2.out hlt
          injection hg with hg
          injection hg with hg
          subst hg
          have hck2 : w2.cell? ⟨w.heap.size, k, none⟩ = some (.complex .f32 0 0) := (hcell k hlt).trans (fil_get _ HLL.out hlt _)
          have hfr2 := hfr k
          generalize quoC z (c64 n) = q at *
          have hst2 := hst k (cv q)
          rw [fil_set _ HLL.out hlt] at hst2
          have HS := Lib.hid hst2
          have C2 : Hid (∀ w, Calls Tryz.prog 88 #[.complex .f32 q.1 q.2] w fun e w' => e = .returned (.bool true) ∧ Dr w w') := fun w => by have := iFinite q w; rw [qf] at this; exact this
          clear hst2 hcell hfr hst qf
          unfold cv at HS
          unfold cv
          go_wp2_with fail
          refine (C2.out _).mono ?_
          rintro e w' ⟨rfl, m2, rfl⟩
          go_wp2_with fail
          go_roundw
          case rel => exact ⟨k + 1, l ++ [q], by omega, by go_num, HNX.out, by rw [List.map_append]; exact HS.out.drewN m2, below_drewN (HB2.out.setCell (Nat.le_refl _) _) m2⟩
          case measure => simp [intOf]; omega
      · obtain rfl : k = n := by omega
        have HR : Hid (backF xs = some l) := by show _ = _; rw [HY.out]; exact HA.out
        go_wp2_with fail
        go_ret2
        rw [HR.out]
        refine ⟨_, _, _, rfl, ?_, HB.out⟩
        have := HO.out
        rw [Nat.sub_self, List.replicate_zero, List.append_nil] at this
        exact this
end Go.Proofs.YtnomlkkhkacajaaGreatDoor

namespace Go.Proofs.YtnomlkkhkacajaaGreatDoor
open Go.RowKit

set_option maxHeartbeats 2000000 in
set_option maxRecDepth 100000 in
theorem sBack (A : Option Addr) (n c : Nat) (xs : List C) (w : World) (hn : n ≤ 1048576) (hx : Cs w A n xs) (hp : sizB xs = true → ProdOk xs 1) :
    Calls Tryz.prog 83 #[.slice A n c] w (RetO w (backF xs)) := by
  have hl := hx.len
  have he := Ow.empty w 73
  have hb0 := below_alloc w (.cells #[] 73)
  have hx0 : Cs (w.alloc (.cells #[] 73)) A n xs := hx.below hb0
  cases hs : sizB xs
  · have HN := Lib.hid (backF_no hs)
    have HC : Hid (∀ w, Cs w A n xs → Calls Tryz.prog 101 #[.slice A n c] w fun e w' => e = .returned (.bool false) ∧ Dr w w') := fun w h => by rw [← hs]; exact sSizeOk A n c xs w hn h
    clear hl hs hp
    go_enter Tryz.func83, Tryz.ntmps83
    go_wp2_with fail
    refine (HC.out _ hx0).mono ?_
    rintro e w' ⟨rfl, m, rfl⟩
    go_wp2_with fail
    go_ret2
    rw [HN.out]
    exact RetC.empty he (below_drewN hb0 m)
  · have HC : Hid (∀ w, Cs w A n xs → Calls Tryz.prog 101 #[.slice A n c] w fun e w' => e = .returned (.bool true) ∧ Dr w w') := fun w h => by rw [← hs]; exact sSizeOk A n c xs w hn h
    obtain ⟨s1, s2, s3, s4, s5⟩ := siz_parts hs
    rw [hl] at s1 s4 s5
    have HY := Lib.hid (backF_yes hs hl)
    have HW2 := Lib.hid (p2w_of s1)
    have HT : Hid (∀ (k : Nat) w', k < n → Cs w' A n xs → Calls Tryz.prog 102 #[.slice A n c, .int .i64 (bk n (k : Int))] w' (RetQ2 w' (sumT xs (bk n (k : Int)) n))) := fun k w' hk h => by
      obtain ⟨b1, b2⟩ := bk_bd s1 (k := (k : Int)) (by omega) (by omega)
      refine sSum A n c xs (bk n (k : Int)) w' s4 h s3 b1 b2 fun i hi => ?_
      have := hp hs k i (by omega) (by omega)
      rw [hl, show (1 : Int) * (k : Int) = (k : Int) by omega] at this
      exact this
    have HBK : Hid (∀ k : Nat, k < n → IntKind.i64.wrap ((k : Int) * (16 / (n : Int))) = bk n (k : Int)) := fun k hk => by
      obtain ⟨b1, b2⟩ := bk_bd s1 (k := (k : Int)) (by omega) (by omega)
      have : (k : Int) * (16 / (n : Int)) = bk n (k : Int) := by unfold bk; exact Int.mul_comm _ _
      rw [this]; exact IntWalk.i64_in _ (by omega)
    have HE := Lib.hid he
    have HB0 := Lib.hid hb0
    clear hl hs hp s1 s2 s3 he hb0
    go_enter Tryz.func83, Tryz.ntmps83
    go_wp2_with fail
    refine (HC.out _ hx0).mono ?_
    rintro e w' ⟨rfl, m, rfl⟩
    have HO1 : Hid (Ow ((w.alloc (.cells #[] 73)).drewN m) w.heap.size 73 (.slice (some ⟨w.heap.size, 0, none⟩) 0 0) 0 []) := HE.out.drewN m
    have HB1 : Hid (Below w.heap.size w ((w.alloc (.cells #[] 73)).drewN m)) := below_drewN HB0.out m
    clear hx0
    go_wp2_with fail
    go_loopw [4, 6] (fun v i wr => ∃ (k : Nat) (l : List C), k ≤ n ∧ i = .int .i64 k ∧ allT (bakZ xs n) k = some l ∧ Ow wr w.heap.size 73 v k (l.map cv) ∧ Below w.heap.size w wr) (fun _ i _ => n - (intOf i).toNat)
    case atStart => exact ⟨0, [], by omega, rfl, rfl, HO1.out, HB1.out⟩
    case round =>
      obtain ⟨k, l, hk, rfl, hal, ho, hb⟩ := hrel
      have HA := Lib.hid hal
      have HO := Lib.hid ho
      have HB := Lib.hid hb
      clear hal ho hb
      by_cases hlt : k < n
      · have e2 := HBK.out k hlt
        go_wp2_with fail
        refine (HT.out k wr hlt (hx.below HB.out)).mono ?_
        rintro e w2 ⟨rfl, hb2⟩
        have HB2 : Hid (Below w.heap.size w w2) := HB.out.trans (hb2.mono HB.out.size)
        have HO2 := Lib.hid (HO.out.below hb2)
        clear hb2
        cases hz : sumT xs (bk n (k : Int)) n with
        | none =>
          have HN : Hid (backF xs = none) := by show _ = _; rw [HY.out]; exact allT_none (allT_stop HA.out (bakZ_none hz)) n (by omega)
          have qr := quoC_run HW2.out (show finB (0, 0) = true by decide) Tryz.prog 73
          generalize quoC (0, 0) (c64 n) = q at *
          clear hz
          simp only [Option.getD_none, Option.isSome_none]
          unfold cv
          go_wp2_with fail
          go_ret2
          rw [HN.out]
          exact RetC.empty ((Ow.empty w2 73).mono HB2.out.size) (HB2.out.alloc HB2.out.size _)
        | some z =>
          have HNX := Lib.hid (allT_step HA.out (bakZ_some hz))
          have fz := sumT_fin hz
          have qr := quoC_run HW2.out fz Tryz.prog 73
          have qf := (quoC_rnd HW2.out fz).1
          clear hz fz
          generalize quoC z (c64 n) = q at *
          have C2 : Hid (∀ w, Calls Tryz.prog 115 #[.complex .f32 q.1 q.2] w fun e w' => e = .returned (.bool true) ∧ Dr w w') := fun w => by have := sFinite q w; rw [qf] at this; exact this
          clear qf
          simp only [Option.getD_some, Option.isSome_some]
          unfold cv
          go_wp2_with fail
          refine (C2.out _).mono ?_
          rintro e w' ⟨rfl, m2, hw2⟩
          have HO3 : Hid (Ow w' w.heap.size 73 u4 k (l.map cv)) := by rw [hw2]; exact HO2.out.drewN m2
          have HB3 : Hid (Below w.heap.size w w') := by rw [hw2]; exact below_drewN HB2.out m2
          clear hw2
          have hsz := HB3.out.size
          go_wp2_with (at_builtin; refine wl_appB w.heap.size [.complex .f32 q.1 q.2] hsz rfl (.tmp 46) (.tmp 48) 23 rfl Tryz.eC _ k _ rfl HO3.out rfl (by simp [Value.oneCell']) (by simp [maxLen]; omega) (by simp; omega) ?_; intro v' w4 ho4 hb4)
          go_roundw
          case rel => exact ⟨k + 1, l ++ [q], by omega, by go_num, HNX.out, by rw [List.map_append]; exact ho4, HB3.out.trans hb4⟩
          case measure => simp [intOf]; omega
      · obtain rfl : k = n := by omega
        have HR : Hid (backF xs = some l) := by show _ = _; rw [HY.out]; exact HA.out
        obtain ⟨A2, c2, rfl⟩ := HO.out.shape
        go_wp2_with fail
        go_ret2
        rw [HR.out]
        exact ⟨_, _, _, rfl, HO.out, HB.out⟩
end Go.Proofs.YtnomlkkhkacajaaGreatDoor
