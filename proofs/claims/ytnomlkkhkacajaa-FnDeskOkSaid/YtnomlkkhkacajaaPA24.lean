/- Texts on the way to a law (O5), each with its own remark. -/
import Derived.Test.YtnomlkkhkacajaaPA22
namespace Go.Proofs.Ytnomlkkhkacajaa
open Go.RowKit

theorem rem2 {x n : Int} (hn : 0 < n) : -n < x.tmod n ∧ x.tmod n < n ∧ (x.tmod n + n).tmod n = x % n := by
  by_cases hx : 0 ≤ x
  · have m1 := Int.emod_nonneg x (show n ≠ 0 by omega)
    have m2 := Int.emod_lt_of_pos x hn
    rw [Int.tmod_eq_emod_of_nonneg hx, Int.tmod_eq_emod_of_nonneg (by omega), show x % n + n = x % n + n * 1 by omega, Int.add_mul_emod_self_left, Int.emod_emod_of_dvd x (Int.dvd_refl n)]
    exact ⟨by omega, by omega, rfl⟩
  · obtain ⟨y, rfl⟩ : ∃ y, x = -y := ⟨-x, by omega⟩
    have m1 := Int.emod_nonneg y (show n ≠ 0 by omega)
    have m2 := Int.emod_lt_of_pos y hn
    rw [Int.neg_tmod, Int.tmod_eq_emod_of_nonneg (show 0 ≤ y by omega), Int.tmod_eq_emod_of_nonneg (by omega), show -(y % n) + n = (0 - y % n) + n * 1 by omega, Int.add_mul_emod_self_left]
    refine ⟨by omega, by omega, ?_⟩
    rw [Int.sub_emod, Int.emod_emod_of_dvd y (Int.dvd_refl n), ← Int.sub_emod, Int.zero_sub]
set_option maxHeartbeats 4000000 in
set_option maxRecDepth 100000 in
theorem sMoved (A : Option Addr) (n c : Nat) (xs : List C) (b : Int) (w : World) (hn : n ≤ 1048576) (hx : Cs w A n xs) :
    Calls Try.prog 31 #[.slice A n c, .int .i64 b] w (RetS w (movF xs b)) := by
  have hl := hx.len
  have HC : Hid (∀ w, Cs w A n xs → Calls Try.prog 11 #[.slice A n c] w fun e w' => e = .returned (.bool (sigB xs)) ∧ Dr w w') := fun w h => sSignalOk A n c xs w (by omega) h
  cases hs : sigB xs
  · rw [hs] at HC
    have HN := Lib.hid (movF_no (b := b) (.inl hs))
    clear hl hs
    go_enter Try.func31, Try.ntmps31
    go_wp2_with fail
    refine (HC.out _ hx).mono ?_
    rintro e w' ⟨rfl, m, rfl⟩
    go_wp2_with fail
    go_ret
    rw [HN.out]
    exact RetS.empty (Ow.empty (w.drewN m) 35) ((below_drewN (Below.refl _ _) m).alloc (Nat.le_refl _) _)
  rw [hs] at HC
  by_cases hin : inB b (-99) 99 = true
  case neg =>
    have hin' : inB b (-99) 99 = false := by simpa using hin
    have HN := Lib.hid (movF_no (xs := xs) (.inr hin'))
    have HI := Lib.hid hin'
    clear hl hs hin hin'
    go_enter Try.func31, Try.ntmps31
    go_wp2_with fail
    refine (HC.out _ hx).mono ?_
    rintro e w' ⟨rfl, m, rfl⟩
    go_wp2_with fail
    refine (l1In_any _ _ _ _).mono ?_
    rintro e w2 ⟨rfl, hw2⟩
    obtain rfl := hw2.symm
    rw [HI.out]
    go_wp2_with fail
    go_ret
    rw [HN.out]
    exact RetS.empty (Ow.empty (w.drewN m) 35) ((below_drewN (Below.refl _ _) m).alloc (Nat.le_refl _) _)
  have HY := Lib.hid (movF_yes hl hs hin)
  have HI := Lib.hid hin
  obtain ⟨h1, h2⟩ := inB_iff.1 hin
  have h16 : n ≤ 16 := by rw [← hl]; exact sig_len hs
  clear hs hl hin
  go_enter Try.func31, Try.ntmps31
  go_wp2_with fail
  refine (HC.out _ hx).mono ?_
  rintro e w' ⟨rfl, m, rfl⟩
  go_wp2_with fail
  refine (l1In_any _ _ _ _).mono ?_
  rintro e w2 ⟨rfl, hw2⟩
  obtain rfl := hw2.symm
  rw [HI.out]
  go_wp2_with (at_make; refine wl_make (w0 := w.drewN m) rfl (.tmp 17) (.tmp 17) 23 rfl Try.eC .i64 .i64 n _ _ rfl rfl rfl rfl (by omega) (by unfold maxLen; omega) (Below.refl _ _) ?_; intro w1 hown hb1 _)
  have HO1 : Hid (Ow w1 w.heap.size 35 (.slice (some ⟨w.heap.size, 0, none⟩) n n) n (movV xs n b 0)) := by
    show Ow _ _ _ _ _ _
    rw [movV_zero]
    exact hown
  have HB1 : Hid (Below w.heap.size w w1) := ⟨hb1.os, hb1.tape, hb1.output, hb1.size, hb1.block⟩
  clear hown hb1
  go_loopw [6] (fun i wr => ∃ k : Nat, k ≤ n ∧ i = .int .i64 k ∧ Ow wr w.heap.size 35 (.slice (some ⟨w.heap.size, 0, none⟩) n n) n (movV xs n b k) ∧ Below w.heap.size w wr) (fun i _ => n - (intOf i).toNat)
  case atStart => exact ⟨0, by omega, rfl, HO1.out, HB1.out⟩
  case round =>
    obtain ⟨k, hk, rfl, ho, hb⟩ := hrel
    have HO := Lib.hid ho
    have HB := Lib.hid hb
    clear ho
    by_cases hlt : k < n
    · obtain ⟨bl, o, rfl, hbl, hc⟩ := hx.at_ hlt
      have hck : wr.cell? ⟨bl, o + k, none⟩ = some (cv (nth xs k)) := (hb.cell (p := ⟨bl, o + k, none⟩) hbl).trans (hc k hlt)
      have hn0 : ((n : Int) == 0) = false := by rw [beq_eq_false_iff_ne]; omega
      have e1 : IntKind.i64.wrap ((k : Int) + b) = (k : Int) + b := IntWalk.i64_in _ (by omega)
      have hset := movV_set xs b hlt
      obtain ⟨r1, r2, r3⟩ := rem2 (x := (k : Int) + b) (n := (n : Int)) (by omega)
      obtain ⟨t, ht⟩ : ∃ t, ((k : Int) + b).tmod (n : Int) = t := ⟨_, rfl⟩
      rw [ht] at r1 r2 r3
      have e2 : IntKind.i64.wrap (t + (n : Int)) = t + (n : Int) := IntWalk.i64_in _ (by omega)
      have p1 := Int.emod_nonneg ((k : Int) + b) (show (n : Int) ≠ 0 by omega)
      have p2 := Int.emod_lt_of_pos ((k : Int) + b) (show 0 < (n : Int) by omega)
      obtain ⟨q, hq⟩ := Int.eq_ofNat_of_zero_le p1
      rw [hq] at hset p2 r3
      have hqn : q < n := by omega
      have hqt : ((q : Nat) : Int).toNat = q := by omega
      rw [hqt] at hset
      obtain ⟨g, hg, hge, hgl, hcell, hfr, hst⟩ := Ow.at_ HO.out hqn
      injection hg with hg
      injection hg with hg
      subst hg
      have hck2 : wr.cell? ⟨w.heap.size, q, none⟩ = some ((movV xs n b k)[q]'(by rw [movV_len]; exact hqn)) := (hcell q hqn).trans (List.getElem?_eq_getElem _)
      generalize (movV xs n b k)[q]'(by rw [movV_len]; exact hqn) = u0 at hck2
      have hfr2 := hfr q
      have hst2 := hst q (cv (nth xs k))
      rw [hset] at hst2
      have HS := Lib.hid hst2
      have hkn : (k : Int) < (n : Int) := by omega
      clear hst2 hcell hfr hst hb hc hset hq p1 hqt hx r1 r2
      generalize nth xs k = x at *
      unfold cv at hck HS
      go_wp2_with fail
      go_region
      go_wp2_with fail
      go_roundw
      case rel => first | exact ⟨k + 1, by omega, by go_num, HS.out, HB.out.setCell (Nat.le_refl _) _⟩ | exact ⟨k + 1, by omega, by go_num, HS.out, (HB.out.setCell (p := ⟨w.heap.size, _, none⟩) (Nat.le_refl _) _).drew⟩
      case measure => simp [intOf]; omega
    · obtain rfl : k = n := by omega
      clear hb hx
      go_wp2_with fail
      go_ret
      rw [HY.out]
      refine ⟨_, _, _, rfl, ?_, HB.out⟩
      have := HO.out
      rw [movV_full] at this
      exact this
end Go.Proofs.Ytnomlkkhkacajaa
