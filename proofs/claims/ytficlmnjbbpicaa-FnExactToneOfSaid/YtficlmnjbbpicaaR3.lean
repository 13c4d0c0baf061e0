/- Tones: the reference's function. -/
import Derived.Test.YtficlmnjbbpicaaR2
import Derived.Test.YtficlmnjbbpicaaT5
import Derived.Test.YtficlmnjbbpicaaE1
namespace Go.Proofs.Ytficlmnjbbpicaa
open Go.RowKit

def RetPr (p : Int) (w : World) (e : Ending) (w' : World) : Prop := ∃ a b : Int, e = .returned (.tuple #[.int .i64 a, .int .i64 b]) ∧ (p2I p = true → 0 ≤ a) ∧ (p2I p = false → a < 0) ∧ w' = w
set_option maxHeartbeats 1000000 in
theorem prods_any (p : Int) (w : World) : Calls Try.prog 66 #[.int .i64 p] w (RetPr p w) := by
  cases hb : p2I p
  · have hn : ¬ (p = 1 ∨ p = 2 ∨ p = 4 ∨ p = 8 ∨ p = 16) := fun h => by rw [p2I_iff.2 h] at hb; cases hb
    have c1 : (p != 1) = true := by rw [bne_iff_ne]; omega
    have c2 : (p != 2) = true := by rw [bne_iff_ne]; omega
    have c4 : (p != 4) = true := by rw [bne_iff_ne]; omega
    have c8 : (p != 8) = true := by rw [bne_iff_ne]; omega
    have c16 : (p != 16) = true := by rw [bne_iff_ne]; omega
    have HB := Lib.hid hb
    clear hn hb
    go_enter Try.func66, Try.ntmps66
    go_wp2_with fail
    go_ret2
    exact ⟨_, _, rfl, (fun h => by rw [HB.out] at h; cases h), (fun _ => by omega), rfl⟩
  · have hp := p2I_iff.1 hb
    obtain ⟨n, rfl⟩ := Int.eq_ofNat_of_zero_le (show 0 ≤ p by omega)
    have HB := Lib.hid hb
    have hn16 : n ≤ 16 := by omega
    have key : ((n : Int) != 1) = false ∨ (((n : Int) != 1) = true ∧ ((n : Int) != 2) = false) ∨ (((n : Int) != 1) = true ∧ ((n : Int) != 2) = true ∧ ((n : Int) != 4) = false) ∨ (((n : Int) != 1) = true ∧ ((n : Int) != 2) = true ∧ ((n : Int) != 4) = true ∧ ((n : Int) != 8) = false) ∨
        (((n : Int) != 1) = true ∧ ((n : Int) != 2) = true ∧ ((n : Int) != 4) = true ∧ ((n : Int) != 8) = true ∧ ((n : Int) != 16) = false) := by
      have : n = 1 ∨ n = 2 ∨ n = 4 ∨ n = 8 ∨ n = 16 := by omega
      rcases this with rfl | rfl | rfl | rfl | rfl <;> decide
    have hmul : 0 ≤ (n : Int) * (n : Int) ∧ (n : Int) * (n : Int) ≤ 256 := by
      have : n = 1 ∨ n = 2 ∨ n = 4 ∨ n = 8 ∨ n = 16 := by omega
      rcases this with rfl | rfl | rfl | rfl | rfl <;> decide
    have e0 : IntKind.i64.wrap ((n : Int) * (n : Int)) = (n : Int) * (n : Int) := IntWalk.i64_in _ (by omega)
    clear hb hp hmul
    rcases key with c1 | ⟨c1, c2⟩ | ⟨c1, c2, c3⟩ | ⟨c1, c2, c3, c4⟩ | ⟨c1, c2, c3, c4, c5⟩
    all_goals
      go_enter Try.func66, Try.ntmps66
      go_wp2_with fail
      go_loop [4, 5] (fun m i => ∃ s t : Nat, 2 ≤ s ∧ s ≤ 32 ∧ t ≤ 8 * s ∧ i = .int .i64 s ∧ m = .int .i64 t) (fun _ i => 33 - (intOf i).toNat)
      case atStart => exact ⟨2, 0, by omega, by omega, by omega, rfl, rfl⟩
      case round =>
        obtain ⟨s, t, h1, h2, h3, rfl, rfl⟩ := hrel
        by_cases hle : s ≤ n
        · have d1 : (0 : Int) ≤ (n : Int) / 2 := by omega
          go_wp2_with fail
          go_round
          case rel => exact ⟨2 * s, t + n / 2, by omega, by omega, by omega, by go_num, by go_num⟩
          case measure => simp [intOf]; omega
        · go_wp2_with fail
          go_ret2
          exact ⟨_, _, rfl, (fun _ => by omega), (fun h => by rw [HB.out] at h; cases h), rfl⟩

set_option maxHeartbeats 2000000 in
set_option maxRecDepth 100000 in
theorem sTone (p k : Int) (w : World) : Calls Try.prog 23 #[.int .i64 p, .int .i64 k] w (RetS w (tonF p k)) := by
  have he := Ow.empty w 45
  have hb0 := below_alloc w (.cells #[] 45)
  have HP : Hid (∀ w, Calls Try.prog 66 #[.int .i64 p] w (RetPr p w)) := fun w => prods_any p w
  have HE := Lib.hid he
  have HB0 := Lib.hid hb0
  clear he hb0
  cases hb : p2I p
  · have HN := Lib.hid (tonF_no (k := k) (.inl hb))
    have HB := Lib.hid hb
    clear hb
    go_enter Try.func23, Try.ntmps23
    go_wp2_with fail
    refine (HP.out _).mono ?_
    rintro e w' ⟨a, b, rfl, _, h2, rfl⟩
    have h3 := h2 HB.out
    clear h2
    go_wp2_with fail
    go_ret
    rw [HN.out]
    exact RetS.empty HE.out HB0.out
  have hpp := p2I_iff.1 hb
  obtain ⟨n, rfl⟩ := Int.eq_ofNat_of_zero_le (show 0 ≤ p by omega)
  have hn2 : p2B n = true := by rw [← p2I_nat]; exact hb
  have hn16 : n ≤ 16 := by omega
  have hn1 : 1 ≤ n := by omega
  have e0 : IntKind.i64.wrap ((n : Int) - 1) = (n : Int) - 1 := IntWalk.i64_in _ (by omega)
  have HB := Lib.hid hb
  clear hpp hb
  by_cases hin : inB k 0 ((n : Int) - 1) = true
  case neg =>
    have hin' : inB k 0 ((n : Int) - 1) = false := by simpa using hin
    have HN := Lib.hid (tonF_no (p := (n : Int)) (k := k) (.inr (by have := inB_false_iff.1 hin'; omega)))
    clear hin hn2
    go_enter Try.func23, Try.ntmps23
    go_wp2_with fail
    refine (HP.out _).mono ?_
    rintro e w' ⟨a, b, rfl, h2, _, rfl⟩
    have h3 := h2 HB.out
    clear h2
    go_wp2_with fail
    refine (l1In_any _ _ _ _).mono ?_
    rintro e w' ⟨rfl, rfl⟩
    go_wp2_with fail
    go_ret
    rw [HN.out]
    exact RetS.empty HE.out HB0.out
  obtain ⟨h0, h1⟩ := inB_iff.1 hin
  have HY := Lib.hid (tonF_yes hn2 h0 (by omega))
  obtain ⟨bb, hbk⟩ : ∃ b, b = 16 / (n : Int) * k := ⟨_, rfl⟩
  rw [← hbk] at HY
  have hbd := bk_bd hn2 (k := k) (by omega) (by omega)
  unfold bk at hbd
  rw [← hbk] at hbd
  obtain ⟨hb1, hb2⟩ := hbd
  have e1 : IntKind.i64.wrap (16 / (n : Int) * k) = bb := by rw [← hbk]; exact IntWalk.i64_in _ (by omega)
  clear hn2 hbk
  go_enter Try.func23, Try.ntmps23
  go_wp2_with fail
  refine (HP.out _).mono ?_
  rintro e w' ⟨a, b, rfl, h2, _, rfl⟩
  have h3 := h2 HB.out
  clear h2
  go_wp2_with fail
  refine (l1In_any _ _ _ _).mono ?_
  rintro e w2 ⟨rfl, rfl⟩
  go_wp2_with fail
  go_loopw [5, 8] (fun v i wr => ∃ m : Nat, m ≤ n ∧ i = .int .i64 m ∧ Ow wr w.heap.size 45 v m (((tonL n bb).map cv).take m) ∧ Below w.heap.size w wr) (fun _ i _ => n - (intOf i).toNat)
  case atStart => exact ⟨0, by omega, rfl, HE.out, HB0.out⟩
  case round =>
    obtain ⟨m, hm, rfl, ho, hb⟩ := hrel
    have HO := Lib.hid ho
    have HBW := Lib.hid hb
    clear ho hb
    by_cases hlt : m < n
    · obtain ⟨d1, d2⟩ := mul_bd (i := m) hb1 hb2 (by omega)
      have e2 : IntKind.i64.wrap (bb * (m : Int)) = bb * (m : Int) := IntWalk.i64_in _ (by omega)
      have HN : Hid (((tonL n bb).map cv).take m ++ [cv (turnC (bb * (m : Int)))] = ((tonL n bb).map cv).take (m + 1)) := by
        show _ = _
        refine take_snoc' ?_
        simp [tonL, hlt]
      have HT : Hid (∀ w1, Calls Try.prog 67 #[.int .i64 (bb * (m : Int))] w1 (RetQ w1 (turnC (bb * m)))) := fun w1 => sTurn _ w1
      generalize turnC (bb * (m : Int)) = t at *
      clear d1 d2
      go_wp2_with fail
      refine (HT.out _).mono ?_
      rintro e w3 ⟨rfl, hw3⟩
      have HB3 : Hid (Below w.heap.size w w3) := HBW.out.trans (hw3.mono HBW.out.size)
      have HO3 := Lib.hid (HO.out.below hw3)
      have hsz := HB3.out.size
      clear hw3
      unfold cv
      go_wp2_with (at_builtin; refine wl_appB w.heap.size [.complex .f32 t.1 t.2] hsz rfl (.tmp 30) (.tmp 38) 23 rfl Try.eC _ m _ rfl HO3.out rfl (by simp [Value.oneCell']) (by simp [maxLen]; omega) (by simp; omega) ?_; intro v' w4 ho4 hb4)
      go_roundw
      case rel => exact ⟨m + 1, by omega, by go_num, by rw [← HN.out]; exact ho4, HB3.out.trans hb4⟩
      case measure => simp [intOf]; omega
    · obtain rfl : m = n := by omega
      obtain ⟨A2, c2, rfl⟩ := HO.out.shape
      go_wp2_with fail
      go_ret
      rw [HY.out]
      refine ⟨_, _, _, rfl, ?_, HBW.out⟩
      have := HO.out
      rw [List.take_of_length_le (by rw [List.length_map, tonL_len]; omega)] at this
      exact this
end Go.Proofs.Ytficlmnjbbpicaa
