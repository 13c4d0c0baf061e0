/- Halves laid together: the program's function. -/
import Derived.Test.YtficlmnjbbpicaaM4
import Derived.Test.YtficlmnjbbpicaaT5
namespace Go.Proofs.Ytficlmnjbbpicaa
open Go.RowKit

def halS (xs : List C) (half k : Nat) : Option C := if finB (addC (nth xs k) (nth xs (k + half))) then some (quoC (addC (nth xs k) (nth xs (k + half))) 4611686018427387904) else none
def halF (xs : List C) : Option (List C) := if sizB xs && decide (2 ≤ xs.length) then allT (halS xs (xs.length / 2)) (xs.length / 2) else none
theorem halF_no {xs : List C} (h : sizB xs = false ∨ xs.length < 2) : halF xs = none := by
  unfold halF
  rcases h with h | h
  · rw [h]; rfl
  · rw [decide_eq_false (by omega), Bool.and_false]; rfl
theorem halF_yes {xs : List C} {n : Nat} (h : sizB xs = true) (hl : xs.length = n) (h2 : 2 ≤ n) : halF xs = allT (halS xs (n / 2)) (n / 2) := by unfold halF; rw [h, hl, decide_eq_true h2]; rfl

set_option maxHeartbeats 2000000 in
set_option maxRecDepth 100000 in
theorem iHalves (A : Option Addr) (n c : Nat) (xs : List C) (w : World) (hn : n ≤ 1048576) (hx : Cs w A n xs) :
    Calls Try.prog 36 #[.slice A n c] w (RetO w (halF xs)) := by
  have hl := hx.len
  cases hs : sizB xs
  · have HN := Lib.hid (halF_no (.inl hs))
    have HC : Hid (∀ w, Cs w A n xs → Calls Try.prog 77 #[.slice A n c] w fun e w' => e = .returned (.bool false) ∧ Dr w w') := fun w h => by rw [← hs]; exact iSizeOk A n c xs w hn h
    clear hl hs
    go_enter Try.func36, Try.ntmps36
    go_wp2_with fail
    refine (HC.out _ hx).mono ?_
    rintro e w' ⟨rfl, m, rfl⟩
    go_wp2_with fail
    go_ret2
    rw [HN.out]
    exact RetC.nil_ (below_drewN (Below.refl _ _) m)
  have HC : Hid (∀ w, Cs w A n xs → Calls Try.prog 77 #[.slice A n c] w fun e w' => e = .returned (.bool true) ∧ Dr w w') := fun w h => by rw [← hs]; exact iSizeOk A n c xs w hn h
  by_cases h2 : n < 2
  · have HN := Lib.hid (halF_no (xs := xs) (.inr (by omega)))
    clear hl hs
    go_enter Try.func36, Try.ntmps36
    go_wp2_with fail
    refine (HC.out _ hx).mono ?_
    rintro e w' ⟨rfl, m, rfl⟩
    go_wp2_with fail
    go_ret2
    rw [HN.out]
    exact RetC.nil_ (below_drewN (Below.refl _ _) m)
  obtain ⟨s1, s2, s3, s4, s5⟩ := siz_parts hs
  rw [hl] at s1 s4 s5
  have HY := Lib.hid (halF_yes hs hl (by omega))
  have HL := Lib.hid hl
  have HF := Lib.hid s3
  have HEV : Hid (n % 2 = 0) := by show n % 2 = 0; rcases p2B_iff.1 s1 with h | h | h | h | h <;> omega
  obtain ⟨half, hh⟩ : ∃ half, half = n / 2 := ⟨_, rfl⟩
  have HH := Lib.hid hh
  have hhn : half + half ≤ n := by omega
  have hh16 : half ≤ 8 := by omega
  clear hl hs s1 s2 s3 s5 hh
  go_enter Try.func36, Try.ntmps36
  go_wp2_with fail
  refine (HC.out _ hx).mono ?_
  rintro e w' ⟨rfl, m, rfl⟩
  have e0 : ((n : Int) / 2) = (half : Int) := by rw [HH.out]; rfl
  go_wp2_with (at_make; refine wl_make (w0 := w.drewN m) rfl (.tmp 19) (.tmp 19) 23 rfl Try.eC .i64 .i64 half _ _ rfl rfl rfl rfl (by omega) (by unfold maxLen; omega) (Below.refl _ _) ?_; intro w1 hown hb1 _)
  have HO1 : Hid (Ow w1 w.heap.size 45 (.slice (some ⟨w.heap.size, 0, none⟩) half half) half (List.replicate half (.complex .f32 0 0))) := hown
  have HB1 : Hid (Below w.heap.size w w1) := ⟨hb1.os, hb1.tape, hb1.output, hb1.size, hb1.block⟩
  clear hown hb1 e0
  go_loopw [23] (fun i wr => ∃ (k : Nat) (l : List C), k ≤ half ∧ i = .int .i64 k ∧ allT (halS xs half) k = some l ∧ Ow wr w.heap.size 45 (.slice (some ⟨w.heap.size, 0, none⟩) half half) half (l.map cv ++ List.replicate (half - k) (.complex .f32 0 0)) ∧ Below w.heap.size w wr) (fun i _ => half - (intOf i).toNat)
  case atStart => exact ⟨0, [], by omega, rfl, rfl, HO1.out, HB1.out⟩
  case round =>
    obtain ⟨k, l, hk, rfl, hal, ho, hb⟩ := hrel
    have HA := Lib.hid hal
    have HO := Lib.hid ho
    have HB := Lib.hid hb
    clear hal ho
    by_cases hlt : k < half
    · obtain ⟨b, o, rfl, hbl, hc⟩ := hx.at_ (show k < n by omega)
      have c1 : wr.cell? ⟨b, o + k, none⟩ = some (cv (nth xs k)) := (hb.cell (p := ⟨b, o + k, none⟩) hbl).trans (hc k (by omega))
      have c2 : wr.cell? ⟨b, o + (k + half), none⟩ = some (cv (nth xs (k + half))) := (hb.cell (p := ⟨b, o + (k + half), none⟩) hbl).trans (hc (k + half) (by omega))
      have f1 := finB_iff.2 (all_fin_nth HF.out (by rw [HL.out]; omega : k < xs.length))
      have f2 := finB_iff.2 (all_fin_nth HF.out (by rw [HL.out]; omega : k + half < xs.length))
      have q1 := addC_run Try.prog 45 f1 f2
      have HSS : Hid (halS xs half k = if finB (addC (nth xs k) (nth xs (k + half))) then some (quoC (addC (nth xs k) (nth xs (k + half))) 4611686018427387904) else none) := rfl
      have HLL : Hid ((l.map cv).length = k) := by show _ = _; rw [List.length_map]; exact allT_len HA.out
      obtain ⟨g, hg, hge, hgl, hcell, hfr, hst⟩ := Ow.at_ HO.out hlt
      injection hg with hg
      injection hg with hg
      subst hg
      have hck2 : wr.cell? ⟨w.heap.size, k, none⟩ = some (.complex .f32 0 0) := (hcell k hlt).trans (fil_get _ HLL.out hlt _)
      have hfr2 := hfr k
      have e3 : IntKind.i64.wrap ((k : Int) + (half : Int)) = (k : Int) + (half : Int) := IntWalk.i64_in _ (by omega)
      have g1 : (0 : Int) ≤ (k : Int) + (half : Int) := by omega
      have g2 : (k : Int) + (half : Int) < (n : Int) := by omega
      have g3 : ((k : Int) + (half : Int)).toNat = k + half := by omega
      have g4 : (k : Int) < (n : Int) := by omega
      have HST := Lib.hid hst
      clear hc hb hx hcell hfr hst f1 f2
      generalize addC (nth xs k) (nth xs (k + half)) = s at *
      generalize nth xs k = x at *
      generalize nth xs (k + half) = y at *
      obtain ⟨x1, x2⟩ := x
      obtain ⟨y1, y2⟩ := y
      unfold cv at c1 c2
      go_wp2_with fail
      go_quiet (fail)
      have hOd : Ow (wr.drewN nq) w.heap.size 45 (.slice (some ⟨w.heap.size, 0, none⟩) half half) half (l.map cv ++ List.replicate (half - k) (.complex .f32 0 0)) := HO.out.drewN nq
      have HBd : Hid (Below w.heap.size w (wr.drewN nq)) := below_drewN HB.out nq
      cases hf : finB s
      · have HN : Hid (halF xs = none) := by show _ = _; rw [HY.out, ← HH.out]; exact allT_none (allT_stop HA.out (by rw [HSS.out, hf]; rfl)) half (by omega)
        obtain ⟨r, t, mq, eq⟩ := quo_runs (P := Try.prog) 45 s.1 s.2 1073741824 0 (wr.drewN nq)
        have C1 : Hid (∀ w, Calls Try.prog 76 #[.complex .f32 s.1 s.2] w fun e w' => e = .returned (.bool false) ∧ Dr w w') := fun w => by have := iFinite s w; rw [hf] at this; exact this
        clear hOd hf
        go_wp2_with fail
        refine (C1.out _).mono ?_
        rintro e w' ⟨rfl, m', rfl⟩
        go_wp2_with fail
        go_ret2
        rw [HN.out]
        exact RetC.nil_ (by first | exact below_drewN ((below_drewN HBd.out mq).setCell (Nat.le_refl _) _) m' | exact below_drewN ((below_drewN HB.out (nq + mq)).setCell (Nat.le_refl _) _) m')
      · have qr := quoC_run p2w_2 hf Try.prog 45
        have qf := (quoC_rnd p2w_2 hf).1
        have HNX : Hid (halS xs half k = some (quoC s 4611686018427387904)) := by show _ = _; rw [HSS.out, hf]; rfl
        have C1 : Hid (∀ w, Calls Try.prog 76 #[.complex .f32 s.1 s.2] w fun e w' => e = .returned (.bool true) ∧ Dr w w') := fun w => by have := iFinite s w; rw [hf] at this; exact this
        generalize quoC s 4611686018427387904 = q at *
        have C2 : Hid (∀ w, Calls Try.prog 76 #[.complex .f32 q.1 q.2] w fun e w' => e = .returned (.bool true) ∧ Dr w w') := fun w => by have := iFinite q w; rw [qf] at this; exact this
        have hst2 := HST.out k (cv q)
        rw [fil_set _ HLL.out hlt] at hst2
        have HS2 : Hid (Ow ((wr.drewN nq).setCell ⟨w.heap.size, k, none⟩ (.complex .f32 q.1 q.2)) w.heap.size 45 (.slice (some ⟨w.heap.size, 0, none⟩) half half) half (l.map cv ++ [cv q] ++ List.replicate (half - (k + 1)) (.complex .f32 0 0))) := hst2.drewN nq
        have HB2 : Hid (Below w.heap.size w ((wr.drewN nq).setCell ⟨w.heap.size, k, none⟩ (.complex .f32 q.1 q.2))) := HBd.out.setCell (Nat.le_refl _) _
        have HA2 := Lib.hid (allT_step HA.out HNX.out)
        clear hOd hf qf hst2
        go_wp2_with fail
        refine (C1.out _).mono ?_
        rintro e w' ⟨rfl, m', rfl⟩
        go_wp2_with fail
        refine (C2.out _).mono ?_
        rintro e w' ⟨rfl, m2, rfl⟩
        go_wp2_with fail
        go_roundw
        case rel => exact ⟨k + 1, l ++ [q], by omega, by go_num, HA2.out, by rw [List.map_append]; exact HS2.out.drewN (m' + m2), below_drewN HB2.out (m' + m2)⟩
        case measure => simp [intOf]; omega
    · obtain rfl : k = half := by omega
      have HR : Hid (halF xs = some l) := by show _ = _; rw [HY.out, ← HH.out]; exact HA.out
      clear hb hx
      go_wp2_with fail
      go_ret2
      rw [HR.out]
      refine ⟨_, _, _, rfl, ?_, HB.out⟩
      have := HO.out
      rw [Nat.sub_self, List.replicate_zero, List.append_nil] at this
      exact this
end Go.Proofs.Ytficlmnjbbpicaa
