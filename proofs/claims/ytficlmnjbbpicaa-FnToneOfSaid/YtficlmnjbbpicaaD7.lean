/- The draws of the laws on steps. -/
import Derived.Test.YtficlmnjbbpicaaD6
import Derived.Test.YtficlmnjbbpicaaA5
import Derived.Deep.RegionLaw
namespace Go.Proofs.Ytficlmnjbbpicaa
open Go.RowKit

/-- The steps that are drawn. -/
def stepL (x : Int) : Array Value := #[.int .i64 1, .int .i64 10, .int .i64 250, .int .i64 1000, .int .i64 333, .int .i64 0, .int .i64 10001, .int .i64 x]
def stepV (x : Int) (j : Nat) : Int := inth [1, 10, 250, 1000, 333, 0, 10001, x] j
theorem stepL_get (x : Int) (j : Nat) (h : j < 8) : (stepL x)[j]? = some (.int .i64 (stepV x j)) := by
  have : j = 0 ∨ j = 1 ∨ j = 2 ∨ j = 3 ∨ j = 4 ∨ j = 5 ∨ j = 6 ∨ j = 7 := by omega
  rcases this with rfl | rfl | rfl | rfl | rfl | rfl | rfl | rfl <;> rfl
theorem step_cell {w w2 : World} {g : Nat} {x : Int} (h : Pk g (w.alloc (.cells #[.int .i64 1, .int .i64 10, .int .i64 250, .int .i64 1000, .int .i64 333, .int .i64 0, .int .i64 10001, .int .i64 x] 3)) w2) (hg : g < w.heap.size) {j : Nat} (hj : j < 8) :
    w2.cell? ⟨w.heap.size, j, none⟩ = some (.int .i64 (stepV x j)) := lit_cell (stepL x) 3 h hg (stepL_get x j hj)
theorem step_cell' (w : World) (x : Int) (j : Nat) (hj : j < 8) :
    (w.alloc (.cells #[.int .i64 1, .int .i64 10, .int .i64 250, .int .i64 1000, .int .i64 333, .int .i64 0, .int .i64 10001, .int .i64 x] 3)).cell? ⟨w.heap.size, j, none⟩ = some (.int .i64 (stepV x j)) := by
  rw [World.cell?_alloc_at _ _ _ _ rfl]; exact stepL_get x j hj

def RetD (w : World) (e : Ending) (w' : World) : Prop :=
  ∃ (A : Option Addr) (m c : Nat) (l : List Int) (step : Int), e = .returned (.tuple #[.slice A m c, .int .i64 step]) ∧ Ow w' w.heap.size 3 (.slice A m c) m (l.map iv) ∧ m ≤ 40 ∧ Below w.heap.size w w'

set_option maxHeartbeats 2000000 in
set_option maxRecDepth 100000 in
theorem drawFromSteps_any (A : Option Addr) (n c : Nat) (w : World) (hnc : n ≤ c) (hn : n ≤ 1048576) (h : Code8 w A n) :
    Calls Try.prog 25 #[.slice A n c] w (RetD w) := by
  go_enter Try.func25, Try.ntmps25
  go_wp2_with fail
  refine (open_any A n c w hnc hn h).mono ?_
  rintro e w0 ⟨g, rfl, hg, hr0, hb0⟩
  have hlt := hr0.lt
  have he := Ow.empty w0 3
  have hbE := below_alloc w0 (.cells #[] 3)
  have HW := Lib.hid hb0
  have HG := Lib.hid hg
  clear hb0 h hnc hn hg
  go_wp2_with fail
  refine (pick_any g 0 9 _ (by omega) (by omega) (hr0.below hbE)).mono ?_
  rintro e w1 ⟨a, rfl, hv, hr1, hp1⟩
  obtain ⟨a1, a2, _⟩ := hv
  have a3 := a2 (by omega)
  obtain ⟨q, rfl⟩ := Int.eq_ofNat_of_zero_le a1
  have hq : q < 9 := by omega
  have e1 : IntKind.i64.wrap ((q : Int) * 2) = (q : Int) * 2 := IntWalk.i64_in _ (by omega)
  have HO1 : Hid (Ow w1 w0.heap.size 3 (.slice (some ⟨w0.heap.size, 0, none⟩) 0 0) 0 []) := Ow.pk he hp1 hlt
  have HP1 : Hid (Pk g w0 w1) := (Pk.of_below hbE).trans hp1
  have HR1 := Lib.hid hr1
  clear he hbE hr0 hp1 hr1 a1 a2 a3
  go_wp2_with fail
  go_loopw [5, 6] (fun v i wr => ∃ (k : Nat) (l : List Int), k ≤ q * 2 ∧ i = .int .i64 k ∧ l.length + k = q * 2 ∧ Ow wr w0.heap.size 3 v l.length (l.map iv) ∧ Rd wr g (1 + 2 * l.length) ∧ Pk g w0 wr) (fun _ i _ => (intOf i).toNat)
  case atStart => exact ⟨q * 2, [], by omega, by go_num, by simp, HO1.out, HR1.out.mono (by omega), HP1.out⟩
  case round =>
    obtain ⟨k, l, hk, rfl, hlen, ho, hrd, hpk⟩ := hrel
    have HO := Lib.hid ho
    have HP := Lib.hid hpk
    have HL := Lib.hid hlen
    have hll : l.length ≤ 16 := by omega
    by_cases hlt2 : 0 < k
    · clear ho hpk hlen
      go_wp2_with fail
      refine (pick_any g (1 + 2 * l.length) 101 wr (by omega) (by omega) hrd).mono ?_
      rintro e w2 ⟨a, rfl, hv, hr2, hp2⟩
      obtain ⟨a1, a2, _⟩ := hv
      have a3 := a2 (by omega)
      have e1 : IntKind.i64.wrap (a - 50) = a - 50 := IntWalk.i64_in _ (by omega)
      clear a2
      go_wp2_with fail
      refine (pick_any g (1 + 2 * l.length + 1) 60 w2 (by omega) (by omega) hr2).mono ?_
      rintro e w3 ⟨b, rfl, hv, hr3, hp3⟩
      obtain ⟨b1, b2, _⟩ := hv
      have b3 := b2 (by omega)
      clear b2
      have d1 : 0 ≤ b / 59 := Int.ediv_nonneg b1 (by omega)
      have d2 : b / 59 ≤ 1 := by omega
      have e2 : IntKind.i64.wrap (b / 59 * 9000000) = b / 59 * 9000000 := IntWalk.i64_in _ (by omega)
      have e3 : IntKind.i64.wrap (a - 50 + b / 59 * 9000000) = a - 50 + b / 59 * 9000000 := IntWalk.i64_in _ (by omega)
      have e4 : IntKind.i64.wrap ((k : Int) - 1) = (k : Int) - 1 := IntWalk.i64_in _ (by omega)
      have HP3 : Hid (Pk g w0 w3) := (HP.out.trans hp2).trans hp3
      have HO3 := Lib.hid (Ow.pk (Ow.pk HO.out hp2 hlt) hp3 hlt)
      have HR3 := Lib.hid hr3
      have hsz := HP3.out.size
      clear hp2 hp3 hr2 hr3 hrd
      go_wp2_with (at_builtin; refine wl_appB w0.heap.size [.int .i64 (a - 50 + b / 59 * 9000000)] hsz rfl (.tmp 17) (.tmp 26) 22 rfl Try.eI _ l.length _ rfl HO3.out rfl (by simp [Value.oneCell']) (by simp [maxLen]; omega) (by simp; omega) ?_; intro v' w4 ho4 hb4)
      go_roundw
      case rel => exact ⟨k - 1, l ++ [a - 50 + b / 59 * 9000000], by omega, by go_num, by rw [List.length_append]; have := HL.out; simp; omega, by rw [List.map_append, List.length_append]; exact ho4, (HR3.out.belowB hb4 hlt).mono (by rw [List.length_append]; simp; omega), HP3.out.belowB hb4 (Nat.le_refl _)⟩
      case measure => simp [intOf]; omega
    · obtain rfl : k = 0 := by omega
      obtain ⟨A1, c1, rfl⟩ := ho.shape
      clear ho hpk hlen
      go_wp2_with fail
      refine (odd_any g (1 + 2 * l.length) 12 wr (by omega) (by omega) hrd).mono ?_
      rintro e w2 ⟨v, rfl, _, hr2, hp2⟩
      have key : ∃ (v' : Bool), v' = v := ⟨_, rfl⟩
      have HO2 := Lib.hid (Ow.pk HO.out hp2 hlt)
      have HP2 : Hid (Pk g w0 w2) := HP.out.trans hp2
      have hsz := HP2.out.size
      clear hp2 hrd key
      -- what stands behind
      have fin : ∀ (A2 : Option Addr) (m c2 : Nat) (l2 : List Int) (step : Int) (w5 w6 : World), m ≤ 17 → Ow w5 w0.heap.size 3 (.slice A2 m c2) m (l2.map iv) → Pk g w0 w5 → Pk g w5 w6 → RetD w (.returned (.tuple #[.slice A2 m c2, .int .i64 step])) w6 := fun A2 m c2 l2 step w5 w6 h0 h1 h2 h3 =>
        ⟨A2, m, c2, l2, step, rfl, (Ow.pk h1 h3 hlt).mono HW.out.size, by omega, HW.out.trans ((h2.trans h3).below HG.out HW.out.size)⟩
      have FIN := Lib.hid fin
      clear fin
      cases v with
      | false =>
        have hr2d : Rd w2.drew g (1 + 2 * l.length + 1) := hr2.drewN 1
        go_wp2_with fail
        have K200_1 : Hid (∀ w, Rd w g (1 + 2 * l.length + 1) → Calls Try.prog 71 #[.pointer (some ⟨g, 0, none⟩), .int .i64 200] w (RetP w g (1 + 2 * l.length + 1) 200)) := fun w h => pick_any g _ _ w (by omega) (by omega) h
        have K8_1 : Hid (∀ w, Rd w g (1 + 2 * l.length + 1) → Calls Try.prog 71 #[.pointer (some ⟨g, 0, none⟩), .int .i64 8] w (RetP w g (1 + 2 * l.length + 1) 8)) := fun w h => pick_any g _ _ w (by omega) (by omega) h
        have K200_2 : Hid (∀ w, Rd w g (1 + 2 * l.length + 2) → Calls Try.prog 71 #[.pointer (some ⟨g, 0, none⟩), .int .i64 200] w (RetP w g (1 + 2 * l.length + 2) 200)) := fun w h => pick_any g _ _ w (by omega) (by omega) h
        have K8_2 : Hid (∀ w, Rd w g (1 + 2 * l.length + 2) → Calls Try.prog 71 #[.pointer (some ⟨g, 0, none⟩), .int .i64 8] w (RetP w g (1 + 2 * l.length + 2) 8)) := fun w h => pick_any g _ _ w (by omega) (by omega) h
        go_region_law ((go_simp; go_at_call 71; first
          | ((with_reducible refine Calls.mono (K200_1.out _ hr2d) ?_); rintro e wX ⟨vX, rfl, ⟨x1, x2, _⟩, hrX, hpX⟩; have x3 := x2 (by omega); have eX : IntKind.i64.wrap (vX + 1) = vX + 1 := IntWalk.i64_in _ (by omega); have HPX : Hid (Pk g w2.drew wX) := hpX; clear hpX x2)
          | ((with_reducible refine Calls.mono (K8_1.out _ hr2d) ?_); rintro e wY ⟨vY, rfl, ⟨y1, y2, _⟩, hrY, hpY⟩; have y3 := y2 (by omega); obtain ⟨jY, rfl⟩ := Int.eq_ofNat_of_zero_le y1; have HPY : Hid (Pk g w2.drew wY) := hpY; clear hpY y2)
          | ((with_reducible refine Calls.mono (K200_2.out _ hrY) ?_); rintro e wZ ⟨vX, rfl, ⟨x1, x2, _⟩, hrZ, hpX⟩; have x3 := x2 (by omega); have eX : IntKind.i64.wrap (vX + 1) = vX + 1 := IntWalk.i64_in _ (by omega); have hcY := step_cell' wZ (vX + 1) jY (by omega); have HPZ : Hid (Pk g w2.drew wZ) := HPY.out.trans hpX; clear hpX x2)
          | ((with_reducible refine Calls.mono (K8_2.out _ (hrX.below (below_alloc _ _))) ?_); rintro e wZ ⟨vY, rfl, ⟨y1, y2, _⟩, hrZ, hpY⟩; have y3 := y2 (by omega); obtain ⟨jY, rfl⟩ := Int.eq_ofNat_of_zero_le y1; have hcY := step_cell hpY hrX.lt (j := jY) (by omega); have HPZ : Hid (Pk g w2.drew wZ) := (HPX.out.trans (Pk.of_below (below_alloc _ _))).trans hpY; clear hpY y2)
          | ((with_reducible refine Calls.mono (K8_2.out _ hrX) ?_); rintro e wZ ⟨vY, rfl, ⟨y1, y2, _⟩, hrZ, hpY⟩; have y3 := y2 (by omega); obtain ⟨jY, rfl⟩ := Int.eq_ofNat_of_zero_le y1; have hcY := step_cell' wZ (vX + 1) jY (by omega); have HPZ : Hid (Pk g w2.drew wZ) := HPX.out.trans hpY; clear hpY y2)))
        all_goals
          go_wp2_with fail
          go_ret2
          exact FIN.out _ _ _ l _ w2.drew _ (by omega) (HO2.out.drewN 1) (HP2.out.drewN 1) (by first | exact HPZ.out | exact HPZ.out.trans (Pk.of_below (below_alloc _ _)))
      | true =>
        go_wp2_with (at_builtin; refine wl_appB w0.heap.size [.int .i64 1] hsz rfl (.tmp 30) (.tmp 31) 22 rfl Try.eI _ l.length _ rfl HO2.out rfl (by simp [Value.oneCell']) (by simp [maxLen]; omega) (by simp; omega) ?_; intro v' w4 ho4 hb4)
        have hr4 : Rd w4 g (1 + 2 * l.length + 1) := hr2.belowB hb4 hlt
        obtain ⟨A4, c4, rfl⟩ := ho4.shape
        have HO4 : Hid (Ow w4 w0.heap.size 3 (.slice A4 (l.length + 1) c4) (l.length + 1) ((l ++ [1]).map iv)) := by show Ow _ _ _ _ _ _; rw [List.map_append]; exact ho4
        have HP4 : Hid (Pk g w0 w4) := HP2.out.belowB hb4 (Nat.le_refl _)
        clear ho4 hb4
        have hr2d : Rd w4.drew g (1 + 2 * l.length + 1) := (hr4.drewN 1)
        go_wp2_with fail
        have K200_1 : Hid (∀ w, Rd w g (1 + 2 * l.length + 1) → Calls Try.prog 71 #[.pointer (some ⟨g, 0, none⟩), .int .i64 200] w (RetP w g (1 + 2 * l.length + 1) 200)) := fun w h => pick_any g _ _ w (by omega) (by omega) h
        have K8_1 : Hid (∀ w, Rd w g (1 + 2 * l.length + 1) → Calls Try.prog 71 #[.pointer (some ⟨g, 0, none⟩), .int .i64 8] w (RetP w g (1 + 2 * l.length + 1) 8)) := fun w h => pick_any g _ _ w (by omega) (by omega) h
        have K200_2 : Hid (∀ w, Rd w g (1 + 2 * l.length + 2) → Calls Try.prog 71 #[.pointer (some ⟨g, 0, none⟩), .int .i64 200] w (RetP w g (1 + 2 * l.length + 2) 200)) := fun w h => pick_any g _ _ w (by omega) (by omega) h
        have K8_2 : Hid (∀ w, Rd w g (1 + 2 * l.length + 2) → Calls Try.prog 71 #[.pointer (some ⟨g, 0, none⟩), .int .i64 8] w (RetP w g (1 + 2 * l.length + 2) 8)) := fun w h => pick_any g _ _ w (by omega) (by omega) h
        go_region_law ((go_simp; go_at_call 71; first
          | ((with_reducible refine Calls.mono (K200_1.out _ hr2d) ?_); rintro e wX ⟨vX, rfl, ⟨x1, x2, _⟩, hrX, hpX⟩; have x3 := x2 (by omega); have eX : IntKind.i64.wrap (vX + 1) = vX + 1 := IntWalk.i64_in _ (by omega); have HPX : Hid (Pk g w4.drew wX) := hpX; clear hpX x2)
          | ((with_reducible refine Calls.mono (K8_1.out _ hr2d) ?_); rintro e wY ⟨vY, rfl, ⟨y1, y2, _⟩, hrY, hpY⟩; have y3 := y2 (by omega); obtain ⟨jY, rfl⟩ := Int.eq_ofNat_of_zero_le y1; have HPY : Hid (Pk g w4.drew wY) := hpY; clear hpY y2)
          | ((with_reducible refine Calls.mono (K200_2.out _ hrY) ?_); rintro e wZ ⟨vX, rfl, ⟨x1, x2, _⟩, hrZ, hpX⟩; have x3 := x2 (by omega); have eX : IntKind.i64.wrap (vX + 1) = vX + 1 := IntWalk.i64_in _ (by omega); have hcY := step_cell' wZ (vX + 1) jY (by omega); have HPZ : Hid (Pk g w4.drew wZ) := HPY.out.trans hpX; clear hpX x2)
          | ((with_reducible refine Calls.mono (K8_2.out _ (hrX.below (below_alloc _ _))) ?_); rintro e wZ ⟨vY, rfl, ⟨y1, y2, _⟩, hrZ, hpY⟩; have y3 := y2 (by omega); obtain ⟨jY, rfl⟩ := Int.eq_ofNat_of_zero_le y1; have hcY := step_cell hpY hrX.lt (j := jY) (by omega); have HPZ : Hid (Pk g w4.drew wZ) := (HPX.out.trans (Pk.of_below (below_alloc _ _))).trans hpY; clear hpY y2)
          | ((with_reducible refine Calls.mono (K8_2.out _ hrX) ?_); rintro e wZ ⟨vY, rfl, ⟨y1, y2, _⟩, hrZ, hpY⟩; have y3 := y2 (by omega); obtain ⟨jY, rfl⟩ := Int.eq_ofNat_of_zero_le y1; have hcY := step_cell' wZ (vX + 1) jY (by omega); have HPZ : Hid (Pk g w4.drew wZ) := HPX.out.trans hpY; clear hpY y2)))
        all_goals
          go_wp2_with fail
          go_ret2
          exact FIN.out _ _ _ (l ++ [1]) _ w4.drew _ (by omega) (HO4.out.drewN 1) (HP4.out.drewN 1) (by first | exact HPZ.out | exact HPZ.out.trans (Pk.of_below (below_alloc _ _)))
end Go.Proofs.Ytficlmnjbbpicaa
