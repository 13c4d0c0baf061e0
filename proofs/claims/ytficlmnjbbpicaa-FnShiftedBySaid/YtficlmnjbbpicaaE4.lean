/- Halves laid together: the reference's function. -/
import Derived.Test.YtficlmnjbbpicaaE3
import Derived.Test.YtficlmnjbbpicaaL3
namespace Go.Proofs.Ytficlmnjbbpicaa
open Go.RowKit

set_option maxHeartbeats 2000000 in
set_option maxRecDepth 100000 in
theorem sHalves (A : Option Addr) (n c : Nat) (xs : List C) (w : World) (hn : n ≤ 1048576) (hnc : n ≤ c) (hx : Cs w A n xs) :
    Calls Try.prog 37 #[.slice A n c] w (RetO w (halF xs)) := by
  have hl := hx.len
  have he := Ow.empty w 45
  have hb0 := below_alloc w (.cells #[] 45)
  have hx0 : Cs (w.alloc (.cells #[] 45)) A n xs := hx.below hb0
  cases hs : sizB xs
  · have HN := Lib.hid (halF_no (.inl hs))
    have HC : Hid (∀ w, Cs w A n xs → Calls Try.prog 83 #[.slice A n c] w fun e w' => e = .returned (.bool false) ∧ Dr w w') := fun w h => by rw [← hs]; exact sSizeOk A n c xs w hn h
    clear hl hs
    go_enter Try.func37, Try.ntmps37
    go_wp2_with fail
    refine (HC.out _ hx0).mono ?_
    rintro e w' ⟨rfl, m, rfl⟩
    go_wp2_with fail
    go_ret2
    rw [HN.out]
    exact RetC.empty he (below_drewN hb0 m)
  have HC : Hid (∀ w, Cs w A n xs → Calls Try.prog 83 #[.slice A n c] w fun e w' => e = .returned (.bool true) ∧ Dr w w') := fun w h => by rw [← hs]; exact sSizeOk A n c xs w hn h
  by_cases h2 : n < 2
  · have HN := Lib.hid (halF_no (xs := xs) (.inr (by omega)))
    clear hl hs
    go_enter Try.func37, Try.ntmps37
    go_wp2_with fail
    refine (HC.out _ hx0).mono ?_
    rintro e w' ⟨rfl, m, rfl⟩
    go_wp2_with fail
    go_ret2
    rw [HN.out]
    exact RetC.empty he (below_drewN hb0 m)
  obtain ⟨s1, s2, s3, s4, s5⟩ := siz_parts hs
  rw [hl] at s1 s4 s5
  have HY := Lib.hid (halF_yes hs hl (by omega))
  have HL := Lib.hid hl
  have HF := Lib.hid s3
  have HEV : Hid (n % 2 = 0) := by show n % 2 = 0; rcases p2B_iff.1 s1 with h | h | h | h | h <;> omega
  obtain ⟨half, hh⟩ : ∃ half, half = n / 2 := ⟨_, rfl⟩
  have HH := Lib.hid hh
  have hhn : half + half ≤ n := by omega
  have hh16 : half ≤ 8 := by omega
  have HNN : Hid (n - half = half) := by show _ = _; have := HEV.out; omega
  have hhc : half ≤ c := by omega
  have hhlt : half < n := by omega
  have hhlc : half < c := by omega
  have HE := Lib.hid he
  have HB0 := Lib.hid hb0
  obtain ⟨b, o, rfl, hbl, hcell⟩ := hx.at_ (k := 0) (by omega)
  clear hl hs s1 s2 s3 s5 hh he hb0 hx
  go_enter Try.func37, Try.ntmps37
  go_wp2_with fail
  refine (HC.out _ hx0).mono ?_
  rintro e w' ⟨rfl, m, rfl⟩
  have e0 : ((n : Int) / 2) = (half : Int) := by rw [HH.out]; rfl
  have HO1 : Hid (Ow ((w.alloc (.cells #[] 45)).drewN m) w.heap.size 45 (.slice (some ⟨w.heap.size, 0, none⟩) 0 0) 0 []) := HE.out.drewN m
  have HB1 : Hid (Below w.heap.size w ((w.alloc (.cells #[] 45)).drewN m)) := below_drewN HB0.out m
  have HCL := Lib.hid hcell
  have e1 : n - half = half := HNN.out
  clear hx0 hcell
  go_wp2_with fail
  clear e0 e1
  go_loopw [4, 7] (fun v i wr => ∃ (k : Nat) (l : List C), k ≤ half ∧ i = .int .i64 k ∧ allT (halS xs half) k = some l ∧ Ow wr w.heap.size 45 v k (l.map cv) ∧ Below w.heap.size w wr) (fun _ i _ => half - (intOf i).toNat)
  case atStart => exact ⟨0, [], by omega, rfl, rfl, HO1.out, HB1.out⟩
  case round =>
    obtain ⟨k, l, hk, rfl, hal, ho, hb⟩ := hrel
    have HA := Lib.hid hal
    have HO := Lib.hid ho
    have HB := Lib.hid hb
    clear hal ho
    by_cases hlt : k < half
    · have c1 : wr.cell? ⟨b, o + k, none⟩ = some (cv (nth xs k)) := (hb.cell (p := ⟨b, o + k, none⟩) hbl).trans (HCL.out k (by omega))
      have c2 : wr.cell? ⟨b, o + half + k, none⟩ = some (cv (nth xs (k + half))) := (hb.cell (p := ⟨b, o + half + k, none⟩) hbl).trans (by rw [show o + half + k = o + (k + half) by omega]; exact HCL.out (k + half) (by omega))
      have f1 := finB_iff.2 (all_fin_nth HF.out (by rw [HL.out]; omega : k < xs.length))
      have f2 := finB_iff.2 (all_fin_nth HF.out (by rw [HL.out]; omega : k + half < xs.length))
      have q1 := addC_run Try.prog 45 f1 f2
      have HSS : Hid (halS xs half k = if finB (addC (nth xs k) (nth xs (k + half))) then some (quoC (addC (nth xs k) (nth xs (k + half))) 4611686018427387904) else none) := rfl
      clear hb f1 f2
      generalize addC (nth xs k) (nth xs (k + half)) = s at *
      generalize nth xs k = x at *
      generalize nth xs (k + half) = y at *
      obtain ⟨x1, x2⟩ := x
      obtain ⟨y1, y2⟩ := y
      unfold cv at c1 c2
      go_wp2_with fail
      go_quiet (fail)
      have HOd : Hid (Ow (wr.drewN nq) w.heap.size 45 u4 k (l.map cv)) := HO.out.drewN nq
      have HBd : Hid (Below w.heap.size w (wr.drewN nq)) := below_drewN HB.out nq
      cases hf : finB s
      · have HN : Hid (halF xs = none) := by show _ = _; rw [HY.out, ← HH.out]; exact allT_none (allT_stop HA.out (by rw [HSS.out, hf]; rfl)) half (by omega)
        obtain ⟨r, t, mq, eq⟩ := quo_runs (P := Try.prog) 45 s.1 s.2 1073741824 0 (wr.drewN nq)
        have C1 : Hid (∀ w, Calls Try.prog 84 #[.complex .f32 s.1 s.2] w fun e w' => e = .returned (.bool false) ∧ Dr w w') := fun w => by have := sFinite s w; rw [hf] at this; exact this
        clear hf
        go_wp2_with fail
        refine (C1.out _).mono ?_
        rintro e w' ⟨rfl, m', hw'⟩
        have HB2 : Hid (Below w.heap.size w w') := by rw [hw']; exact below_drewN (by first | exact below_drewN HBd.out mq | exact below_drewN HB.out (nq + mq)) m'
        clear hw'
        go_wp2_with fail
        go_ret2
        rw [HN.out]
        exact RetC.empty ((Ow.empty w' 45).mono HB2.out.size) (HB2.out.alloc HB2.out.size _)
      · have qr := quoC_run p2w_2 hf Try.prog 45
        have qf := (quoC_rnd p2w_2 hf).1
        have HNX : Hid (halS xs half k = some (quoC s 4611686018427387904)) := by show _ = _; rw [HSS.out, hf]; rfl
        have C1 : Hid (∀ w, Calls Try.prog 84 #[.complex .f32 s.1 s.2] w fun e w' => e = .returned (.bool true) ∧ Dr w w') := fun w => by have := sFinite s w; rw [hf] at this; exact this
        generalize quoC s 4611686018427387904 = q at *
        have C2 : Hid (∀ w, Calls Try.prog 84 #[.complex .f32 q.1 q.2] w fun e w' => e = .returned (.bool true) ∧ Dr w w') := fun w => by have := sFinite q w; rw [qf] at this; exact this
        have HA2 := Lib.hid (allT_step HA.out HNX.out)
        clear hf qf
        go_wp2_with fail
        refine (C1.out _).mono ?_
        rintro e w' ⟨rfl, m', rfl⟩
        go_wp2_with fail
        refine (C2.out _).mono ?_
        rintro e w' ⟨rfl, m2, hw'⟩
        have HO2 : Hid (Ow w' w.heap.size 45 u4 k (l.map cv)) := by rw [hw']; exact HO.out.drewN (nq + m' + m2)
        have HB2 : Hid (Below w.heap.size w w') := by rw [hw']; exact below_drewN (below_drewN HB.out (nq + m')) m2
        clear hw'
        have hsz := HB2.out.size
        go_wp2_with (at_builtin; refine wl_appB w.heap.size [.complex .f32 q.1 q.2] hsz rfl (.tmp 56) (.tmp 58) 23 rfl Try.eC _ k _ rfl HO2.out rfl (by simp [Value.oneCell']) (by simp [maxLen]; omega) (by simp; omega) ?_; intro v' w4 ho4 hb4)
        go_roundw
        case rel => exact ⟨k + 1, l ++ [q], by omega, by go_num, HA2.out, by rw [List.map_append]; exact ho4, HB2.out.trans hb4⟩
        case measure => simp [intOf]; omega
    · obtain rfl : k = half := by omega
      have HR : Hid (halF xs = some l) := by show _ = _; rw [HY.out, ← HH.out]; exact HA.out
      obtain ⟨A2, c2, rfl⟩ := HO.out.shape
      clear hb
      go_wp2_with fail
      go_ret2
      rw [HR.out]
      exact ⟨_, _, _, rfl, HO.out, HB.out⟩
end Go.Proofs.Ytficlmnjbbpicaa
