/- Products and sums, number by number. -/
import Derived.Test.YtficlmnjbbpicaaT5
namespace Go.Proofs.Ytficlmnjbbpicaa
open Go.RowKit

theorem fin_mk {xs : List C} {i : Nat} (h : sigB xs = true) (hi : i < xs.length) : finB (nth xs i) = true := by
  unfold sigB at h
  rw [Bool.and_eq_true] at h
  exact finB_iff.2 (all_fin_nth h.2 hi)
theorem sig_len {xs : List C} (h : sigB xs = true) : xs.length ≤ 16 := by
  unfold sigB at h
  rw [Bool.and_eq_true, decide_eq_true_eq] at h
  exact h.1
/-- A list that is filled from its head. -/
def rngL (f : Nat → C) (k : Nat) : List C := (List.range k).map f
theorem rngL_len (f : Nat → C) (k : Nat) : (rngL f k).length = k := by simp [rngL]
theorem rngL_succ (f : Nat → C) (k : Nat) : rngL f (k + 1) = rngL f k ++ [f k] := by unfold rngL; rw [List.range_succ, List.map_append]; rfl
theorem rngL_nth {f : Nat → C} {k i : Nat} (h : i < k) : nth (rngL f k) i = f i := by
  rw [nth_eq (by rw [rngL_len]; exact h)]; simp [rngL]

set_option maxHeartbeats 2000000 in
set_option maxRecDepth 100000 in
theorem iTimes (A : Option Addr) (n c : Nat) (xs : List C) (z : C) (w : World) (hx : Cs w A n xs) (hs : sigB xs = true) (hz : finB z = true) (hp : ∀ i, i < n → finB (mulC (nth xs i) z) = true) :
    Calls Try.prog 50 #[.slice A n c, .complex .f32 z.1 z.2] w (RetC w (rngL (fun i => mulC (nth xs i) z) n) true) := by
  have hl := hx.len
  have h16 : n ≤ 16 := by rw [← hl]; exact sig_len hs
  have HC : Hid (∀ w, Cs w A n xs → Calls Try.prog 30 #[.slice A n c] w fun e w' => e = .returned (.bool true) ∧ Dr w w') := fun w h => by rw [← hs]; exact iSignalOk A n c xs w (by omega) h
  have HZ : Hid (∀ w, Calls Try.prog 76 #[.complex .f32 z.1 z.2] w fun e w' => e = .returned (.bool true) ∧ Dr w w') := fun w => by have := iFinite z w; rw [hz] at this; exact this
  have HM : Hid (∀ i, i < n → (∀ w, (binOp .mul 45 (.complex .f32 (nth xs i).1 (nth xs i).2) (.complex .f32 z.1 z.2)).run Try.prog w = .ok (.complex .f32 (mulC (nth xs i) z).1 (mulC (nth xs i) z).2) w) ∧
      ∀ w, Calls Try.prog 76 #[.complex .f32 (mulC (nth xs i) z).1 (mulC (nth xs i) z).2] w fun e w' => e = .returned (.bool true) ∧ Dr w w') := fun i hi =>
    ⟨mulC_run Try.prog _ (fin_mk hs (by omega)) hz (hp i hi), fun w => by have := iFinite (mulC (nth xs i) z) w; rw [hp i hi] at this; exact this⟩
  clear hs hz hp hl
  go_enter Try.func50, Try.ntmps50
  go_wp2_with fail
  refine (HC.out _ hx).mono ?_
  rintro e w' ⟨rfl, m, rfl⟩
  go_wp2_with fail
  refine (HZ.out _).mono ?_
  rintro e w' ⟨rfl, m2, rfl⟩
  obtain ⟨w0, hw0⟩ : ∃ w0, w0 = (w.drewN m).drewN m2 := ⟨_, rfl⟩
  have HB0 : Hid (Below w.heap.size w w0) := by rw [hw0]; exact below_drewN (below_drewN (Below.refl _ _) m) m2
  have HX0 : Hid (Cs w0 A n xs) := hx.below HB0.out
  have HZ0 : Hid (w0.heap.size = w.heap.size) := by rw [hw0]; rfl
  rw [← hw0]
  clear hw0
  go_wp2_with (at_make; refine wl_make (w0 := w0) rfl (.tmp 18) (.tmp 18) 23 rfl Try.eC .i64 .i64 n _ _ rfl rfl rfl rfl (by omega) (by unfold maxLen; omega) (Below.refl _ _) ?_; intro w1 hown hb1 _)
  have HO1 : Hid (Ow w1 w0.heap.size 45 (.slice (some ⟨w0.heap.size, 0, none⟩) n n) n ((rngL (fun i => mulC (nth xs i) z) 0).map cv ++ List.replicate (n - 0) (.complex .f32 0 0))) := hown
  have HB1 : Hid (Below w0.heap.size w0 w1) := hb1
  clear hown hb1 hx
  go_loopw [22] (fun i wr => ∃ k : Nat, k ≤ n ∧ i = .int .i64 k ∧ Ow wr w0.heap.size 45 (.slice (some ⟨w0.heap.size, 0, none⟩) n n) n ((rngL (fun i => mulC (nth xs i) z) k).map cv ++ List.replicate (n - k) (.complex .f32 0 0)) ∧ Below w0.heap.size w0 wr) (fun i _ => n - (intOf i).toNat)
  case atStart => exact ⟨0, by omega, rfl, HO1.out, HB1.out⟩
  case round =>
    obtain ⟨k, hk, rfl, ho, hb⟩ := hrel
    have HO := Lib.hid ho
    have HB := Lib.hid hb
    clear ho
    by_cases hlt : k < n
    · obtain ⟨b, o, rfl, hbl, hc⟩ := HX0.out.at_ hlt
      have hck : wr.cell? ⟨b, o + k, none⟩ = some (cv (nth xs k)) := (hb.cell (p := ⟨b, o + k, none⟩) hbl).trans (hc k hlt)
      obtain ⟨q1, q2⟩ := HM.out k hlt
      have C2 := Lib.hid q2
      have HN : Hid (rngL (fun i => mulC (nth xs i) z) (k + 1) = rngL (fun i => mulC (nth xs i) z) k ++ [mulC (nth xs k) z]) := rngL_succ _ _
      have HLL : Hid (((rngL (fun i => mulC (nth xs i) z) k).map cv).length = k) := by show _ = _; rw [List.length_map, rngL_len]
      obtain ⟨g, hg, hge, hgl, hcell, hfr, hst⟩ := Ow.at_ HO.out hlt
      injection hg with hg
      injection hg with hg
      subst hg
      have hck2 : wr.cell? ⟨w0.heap.size, k, none⟩ = some (.complex .f32 0 0) := (hcell k hlt).trans (fil_get _ HLL.out hlt _)
      have hfr2 := hfr k
      have hst2 := hst k (cv (mulC (nth xs k) z))
      rw [fil_set _ HLL.out hlt] at hst2
      have HS := Lib.hid hst2
      clear hst2 hcell hfr hst hb hc q2
      generalize mulC (nth xs k) z = p at *
      generalize nth xs k = x at *
      unfold cv at hck HS
      go_wp2_with fail
      refine (C2.out _).mono ?_
      rintro e w' ⟨rfl, m3, rfl⟩
      go_wp2_with fail
      go_roundw
      case rel => exact ⟨k + 1, by omega, by go_num, by rw [HN.out, List.map_append]; exact HS.out.drewN m3, below_drewN (HB.out.setCell (Nat.le_refl _) _) m3⟩
      case measure => simp [intOf]; omega
    · obtain rfl : k = n := by omega
      clear hb
      go_wp2_with fail
      go_ret2
      refine ⟨_, _, _, rfl, ?_, HB0.out.trans (HB.out.mono (by rw [HZ0.out]; exact Nat.le_refl _))⟩
      have := HO.out
      rw [Nat.sub_self, List.replicate_zero, List.append_nil] at this
      exact this.mono (by rw [HZ0.out]; exact Nat.le_refl _)
end Go.Proofs.Ytficlmnjbbpicaa

namespace Go.Proofs.Ytficlmnjbbpicaa
open Go.RowKit

set_option maxHeartbeats 2000000 in
set_option maxRecDepth 100000 in
theorem iEach (A A' : Option Addr) (n c c' : Nat) (xs ys : List C) (w : World) (hx : Cs w A n xs) (hy : Cs w A' n ys) (hs : sigB xs = true) (hs2 : sigB ys = true) (hp : ∀ i, i < n → finB (mulC (nth xs i) (nth ys i)) = true) :
    Calls Try.prog 94 #[.slice A n c, .slice A' n c'] w (RetC w (rngL (fun i => mulC (nth xs i) (nth ys i)) n) true) := by
  have hl := hx.len
  have hl2 := hy.len
  have h16 : n ≤ 16 := by rw [← hl]; exact sig_len hs
  have HC : Hid (∀ w, Cs w A n xs → Calls Try.prog 30 #[.slice A n c] w fun e w' => e = .returned (.bool true) ∧ Dr w w') := fun w h => by rw [← hs]; exact iSignalOk A n c xs w (by omega) h
  have HC2 : Hid (∀ w, Cs w A' n ys → Calls Try.prog 30 #[.slice A' n c'] w fun e w' => e = .returned (.bool true) ∧ Dr w w') := fun w h => by rw [← hs2]; exact iSignalOk A' n c' ys w (by omega) h
  have HM : Hid (∀ i, i < n → (∀ w, (binOp .mul 45 (.complex .f32 (nth xs i).1 (nth xs i).2) (.complex .f32 (nth ys i).1 (nth ys i).2)).run Try.prog w = .ok (.complex .f32 (mulC (nth xs i) (nth ys i)).1 (mulC (nth xs i) (nth ys i)).2) w) ∧
      ∀ w, Calls Try.prog 76 #[.complex .f32 (mulC (nth xs i) (nth ys i)).1 (mulC (nth xs i) (nth ys i)).2] w fun e w' => e = .returned (.bool true) ∧ Dr w w') := fun i hi =>
    ⟨mulC_run Try.prog _ (fin_mk hs (by omega)) (fin_mk hs2 (by omega)) (hp i hi), fun w => by have := iFinite (mulC (nth xs i) (nth ys i)) w; rw [hp i hi] at this; exact this⟩
  clear hs hs2 hp hl hl2
  go_enter Try.func94, Try.ntmps94
  go_wp2_with fail
  refine (HC.out _ hx).mono ?_
  rintro e w' ⟨rfl, m, rfl⟩
  go_wp2_with fail
  refine (HC2.out _ (hy.drewN m)).mono ?_
  rintro e w' ⟨rfl, m2, rfl⟩
  obtain ⟨w0, hw0⟩ : ∃ w0, w0 = (w.drewN m).drewN m2 := ⟨_, rfl⟩
  have HB0 : Hid (Below w.heap.size w w0) := by rw [hw0]; exact below_drewN (below_drewN (Below.refl _ _) m) m2
  have HX0 : Hid (Cs w0 A n xs) := hx.below HB0.out
  have HY0 : Hid (Cs w0 A' n ys) := hy.below HB0.out
  have HZ0 : Hid (w0.heap.size = w.heap.size) := by rw [hw0]; rfl
  rw [← hw0]
  clear hw0
  go_wp2_with (at_make; refine wl_make (w0 := w0) rfl (.tmp 25) (.tmp 25) 23 rfl Try.eC .i64 .i64 n _ _ rfl rfl rfl rfl (by omega) (by unfold maxLen; omega) (Below.refl _ _) ?_; intro w1 hown hb1 _)
  have HO1 : Hid (Ow w1 w0.heap.size 45 (.slice (some ⟨w0.heap.size, 0, none⟩) n n) n ((rngL (fun i => mulC (nth xs i) (nth ys i)) 0).map cv ++ List.replicate (n - 0) (.complex .f32 0 0))) := hown
  have HB1 : Hid (Below w0.heap.size w0 w1) := hb1
  clear hown hb1 hx hy
  go_loopw [29] (fun i wr => ∃ k : Nat, k ≤ n ∧ i = .int .i64 k ∧ Ow wr w0.heap.size 45 (.slice (some ⟨w0.heap.size, 0, none⟩) n n) n ((rngL (fun i => mulC (nth xs i) (nth ys i)) k).map cv ++ List.replicate (n - k) (.complex .f32 0 0)) ∧ Below w0.heap.size w0 wr) (fun i _ => n - (intOf i).toNat)
  case atStart => exact ⟨0, by omega, rfl, HO1.out, HB1.out⟩
  case round =>
    obtain ⟨k, hk, rfl, ho, hb⟩ := hrel
    have HO := Lib.hid ho
    have HB := Lib.hid hb
    clear ho
    by_cases hlt : k < n
    · obtain ⟨b, o, rfl, hbl, hc⟩ := HX0.out.at_ hlt
      obtain ⟨b', o', rfl, hbl', hc'⟩ := HY0.out.at_ hlt
      have hck : wr.cell? ⟨b, o + k, none⟩ = some (cv (nth xs k)) := (hb.cell (p := ⟨b, o + k, none⟩) hbl).trans (hc k hlt)
      have hck' : wr.cell? ⟨b', o' + k, none⟩ = some (cv (nth ys k)) := (hb.cell (p := ⟨b', o' + k, none⟩) hbl').trans (hc' k hlt)
      obtain ⟨q1, q2⟩ := HM.out k hlt
      have C2 := Lib.hid q2
      have HN : Hid (rngL (fun i => mulC (nth xs i) (nth ys i)) (k + 1) = rngL (fun i => mulC (nth xs i) (nth ys i)) k ++ [mulC (nth xs k) (nth ys k)]) := rngL_succ _ _
      have HLL : Hid (((rngL (fun i => mulC (nth xs i) (nth ys i)) k).map cv).length = k) := by show _ = _; rw [List.length_map, rngL_len]
      obtain ⟨g, hg, hge, hgl, hcell, hfr, hst⟩ := Ow.at_ HO.out hlt
      injection hg with hg
      injection hg with hg
      subst hg
      have hck2 : wr.cell? ⟨w0.heap.size, k, none⟩ = some (.complex .f32 0 0) := (hcell k hlt).trans (fil_get _ HLL.out hlt _)
      have hfr2 := hfr k
      have hst2 := hst k (cv (mulC (nth xs k) (nth ys k)))
      rw [fil_set _ HLL.out hlt] at hst2
      have HS := Lib.hid hst2
      clear hst2 hcell hfr hst hb hc hc' q2
      generalize mulC (nth xs k) (nth ys k) = p at *
      generalize nth xs k = x at *
      generalize nth ys k = y at *
      unfold cv at hck hck' HS
      go_wp2_with fail
      refine (C2.out _).mono ?_
      rintro e w' ⟨rfl, m3, rfl⟩
      go_wp2_with fail
      go_roundw
      case rel => exact ⟨k + 1, by omega, by go_num, by rw [HN.out, List.map_append]; exact HS.out.drewN m3, below_drewN (HB.out.setCell (Nat.le_refl _) _) m3⟩
      case measure => simp [intOf]; omega
    · obtain rfl : k = n := by omega
      clear hb
      go_wp2_with fail
      go_ret2
      refine ⟨_, _, _, rfl, ?_, HB0.out.trans (HB.out.mono (by rw [HZ0.out]; exact Nat.le_refl _))⟩
      have := HO.out
      rw [Nat.sub_self, List.replicate_zero, List.append_nil] at this
      exact this.mono (by rw [HZ0.out]; exact Nat.le_refl _)
set_option maxHeartbeats 2000000 in
set_option maxRecDepth 100000 in
theorem iSum2 (A A' : Option Addr) (n c c' : Nat) (xs ys : List C) (w : World) (hx : Cs w A n xs) (hy : Cs w A' n ys) (hs : sigB xs = true) (hs2 : sigB ys = true) (hp : ∀ i, i < n → finB (addC (nth xs i) (nth ys i)) = true) :
    Calls Try.prog 61 #[.slice A n c, .slice A' n c'] w (RetC w (rngL (fun i => addC (nth xs i) (nth ys i)) n) true) := by
  have hl := hx.len
  have hl2 := hy.len
  have h16 : n ≤ 16 := by rw [← hl]; exact sig_len hs
  have HC : Hid (∀ w, Cs w A n xs → Calls Try.prog 30 #[.slice A n c] w fun e w' => e = .returned (.bool true) ∧ Dr w w') := fun w h => by rw [← hs]; exact iSignalOk A n c xs w (by omega) h
  have HC2 : Hid (∀ w, Cs w A' n ys → Calls Try.prog 30 #[.slice A' n c'] w fun e w' => e = .returned (.bool true) ∧ Dr w w') := fun w h => by rw [← hs2]; exact iSignalOk A' n c' ys w (by omega) h
  have HM : Hid (∀ i, i < n → (∀ w, (binOp .add 45 (.complex .f32 (nth xs i).1 (nth xs i).2) (.complex .f32 (nth ys i).1 (nth ys i).2)).run Try.prog w = .ok (.complex .f32 (addC (nth xs i) (nth ys i)).1 (addC (nth xs i) (nth ys i)).2) w) ∧
      ∀ w, Calls Try.prog 76 #[.complex .f32 (addC (nth xs i) (nth ys i)).1 (addC (nth xs i) (nth ys i)).2] w fun e w' => e = .returned (.bool true) ∧ Dr w w') := fun i hi =>
    ⟨addC_run Try.prog _ (fin_mk hs (by omega)) (fin_mk hs2 (by omega)), fun w => by have := iFinite (addC (nth xs i) (nth ys i)) w; rw [hp i hi] at this; exact this⟩
  clear hs hs2 hp hl hl2
  go_enter Try.func61, Try.ntmps61
  go_wp2_with fail
  refine (HC.out _ hx).mono ?_
  rintro e w' ⟨rfl, m, rfl⟩
  go_wp2_with fail
  refine (HC2.out _ (hy.drewN m)).mono ?_
  rintro e w' ⟨rfl, m2, rfl⟩
  obtain ⟨w0, hw0⟩ : ∃ w0, w0 = (w.drewN m).drewN m2 := ⟨_, rfl⟩
  have HB0 : Hid (Below w.heap.size w w0) := by rw [hw0]; exact below_drewN (below_drewN (Below.refl _ _) m) m2
  have HX0 : Hid (Cs w0 A n xs) := hx.below HB0.out
  have HY0 : Hid (Cs w0 A' n ys) := hy.below HB0.out
  have HZ0 : Hid (w0.heap.size = w.heap.size) := by rw [hw0]; rfl
  rw [← hw0]
  clear hw0
  go_wp2_with (at_make; refine wl_make (w0 := w0) rfl (.tmp 25) (.tmp 25) 23 rfl Try.eC .i64 .i64 n _ _ rfl rfl rfl rfl (by omega) (by unfold maxLen; omega) (Below.refl _ _) ?_; intro w1 hown hb1 _)
  have HO1 : Hid (Ow w1 w0.heap.size 45 (.slice (some ⟨w0.heap.size, 0, none⟩) n n) n ((rngL (fun i => addC (nth xs i) (nth ys i)) 0).map cv ++ List.replicate (n - 0) (.complex .f32 0 0))) := hown
  have HB1 : Hid (Below w0.heap.size w0 w1) := hb1
  clear hown hb1 hx hy
  go_loopw [29] (fun i wr => ∃ k : Nat, k ≤ n ∧ i = .int .i64 k ∧ Ow wr w0.heap.size 45 (.slice (some ⟨w0.heap.size, 0, none⟩) n n) n ((rngL (fun i => addC (nth xs i) (nth ys i)) k).map cv ++ List.replicate (n - k) (.complex .f32 0 0)) ∧ Below w0.heap.size w0 wr) (fun i _ => n - (intOf i).toNat)
  case atStart => exact ⟨0, by omega, rfl, HO1.out, HB1.out⟩
  case round =>
    obtain ⟨k, hk, rfl, ho, hb⟩ := hrel
    have HO := Lib.hid ho
    have HB := Lib.hid hb
    clear ho
    by_cases hlt : k < n
    · obtain ⟨b, o, rfl, hbl, hc⟩ := HX0.out.at_ hlt
      obtain ⟨b', o', rfl, hbl', hc'⟩ := HY0.out.at_ hlt
      have hck : wr.cell? ⟨b, o + k, none⟩ = some (cv (nth xs k)) := (hb.cell (p := ⟨b, o + k, none⟩) hbl).trans (hc k hlt)
      have hck' : wr.cell? ⟨b', o' + k, none⟩ = some (cv (nth ys k)) := (hb.cell (p := ⟨b', o' + k, none⟩) hbl').trans (hc' k hlt)
      obtain ⟨q1, q2⟩ := HM.out k hlt
      have C2 := Lib.hid q2
      have HN : Hid (rngL (fun i => addC (nth xs i) (nth ys i)) (k + 1) = rngL (fun i => addC (nth xs i) (nth ys i)) k ++ [addC (nth xs k) (nth ys k)]) := rngL_succ _ _
      have HLL : Hid (((rngL (fun i => addC (nth xs i) (nth ys i)) k).map cv).length = k) := by show _ = _; rw [List.length_map, rngL_len]
      obtain ⟨g, hg, hge, hgl, hcell, hfr, hst⟩ := Ow.at_ HO.out hlt
      injection hg with hg
      injection hg with hg
      subst hg
      have hck2 : wr.cell? ⟨w0.heap.size, k, none⟩ = some (.complex .f32 0 0) := (hcell k hlt).trans (fil_get _ HLL.out hlt _)
      have hfr2 := hfr k
      have hst2 := hst k (cv (addC (nth xs k) (nth ys k)))
      rw [fil_set _ HLL.out hlt] at hst2
      have HS := Lib.hid hst2
      clear hst2 hcell hfr hst hb hc hc' q2
      generalize addC (nth xs k) (nth ys k) = p at *
      generalize nth xs k = x at *
      generalize nth ys k = y at *
      unfold cv at hck hck' HS
      go_wp2_with fail
      refine (C2.out _).mono ?_
      rintro e w' ⟨rfl, m3, rfl⟩
      go_wp2_with fail
      go_roundw
      case rel => exact ⟨k + 1, by omega, by go_num, by rw [HN.out, List.map_append]; exact HS.out.drewN m3, below_drewN (HB.out.setCell (Nat.le_refl _) _) m3⟩
      case measure => simp [intOf]; omega
    · obtain rfl : k = n := by omega
      clear hb
      go_wp2_with fail
      go_ret2
      refine ⟨_, _, _, rfl, ?_, HB0.out.trans (HB.out.mono (by rw [HZ0.out]; exact Nat.le_refl _))⟩
      have := HO.out
      rw [Nat.sub_self, List.replicate_zero, List.append_nil] at this
      exact this.mono (by rw [HZ0.out]; exact Nat.le_refl _)
end Go.Proofs.Ytficlmnjbbpicaa
