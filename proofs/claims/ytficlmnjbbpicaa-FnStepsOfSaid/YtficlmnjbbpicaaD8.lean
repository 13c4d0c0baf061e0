/- The draw of the law on numbers of steps. -/
import Derived.Test.YtficlmnjbbpicaaD7
namespace Go.Proofs.Ytficlmnjbbpicaa
open Go.RowKit

def RetDS (w : World) (e : Ending) (w' : World) : Prop :=
  ∃ (A : Option Addr) (m c : Nat) (xs : List C) (step : Int), e = .returned (.tuple #[.slice A m c, .int .i64 step]) ∧ Ow w' w.heap.size 45 (.slice A m c) m (xs.map cv) ∧ m ≤ 17 ∧ DrawnL xs ∧ Below w.heap.size w w'

set_option maxHeartbeats 2000000 in
set_option maxRecDepth 100000 in
theorem drawStepsOf_any (A : Option Addr) (n c : Nat) (w : World) (hnc : n ≤ c) (hn : n ≤ 1048576) (h : Code8 w A n) :
    Calls Try.prog 39 #[.slice A n c] w (RetDS w) := by
  go_enter Try.func39, Try.ntmps39
  go_wp2_with fail
  refine (open_any A n c w hnc hn h).mono ?_
  rintro e w0 ⟨g, rfl, hg, hr0, hb0⟩
  have hr0d : Rd w0.drew g 0 := hr0.drewN 1
  have HW := Lib.hid hb0
  have HG := Lib.hid hg
  clear hb0 h hnc hn hg hr0
  have KP : Hid (∀ w, Rd w g 0 → Calls Try.prog 87 #[.pointer (some ⟨g, 0, none⟩)] w (RetN w g 1 0 16)) := fun w h => points_any g 0 w (by omega) h
  have KS : Hid (∀ w q, q ≤ 16 → Rd w g 1 → Calls Try.prog 86 #[.pointer (some ⟨g, 0, none⟩), .int .i64 ((q : Nat) : Int), .int .i64 9] w (RetL w g 200 9)) := fun w q hq h =>
    (signal_any g 1 q 9 w (by omega) (by omega) (by omega) h).mono fun e w' ⟨A, m, c, xs, h1, h2, h3, h4, h5, h6, h7⟩ => ⟨A, m, c, xs, h1, h2, h3, h4, h5, h6.mono (by omega), h7⟩
  have K200 : Hid (∀ w, Rd w g 200 → Calls Try.prog 71 #[.pointer (some ⟨g, 0, none⟩), .int .i64 200] w (RetP w g 200 200)) := fun w h => pick_any g 200 200 w (by omega) (by omega) h
  have K8 : Hid (∀ w, Rd w g 201 → Calls Try.prog 71 #[.pointer (some ⟨g, 0, none⟩), .int .i64 8] w (RetP w g 201 8)) := fun w h => pick_any g 201 8 w (by omega) (by omega) h
  -- what stands behind
  have fin : ∀ (A2 : Option Addr) (m c2 : Nat) (xs : List C) (step : Int) (wP wS w6 : World), m ≤ 17 → Pk g w0.drew wP → Ow wS wP.heap.size 45 (.slice A2 m c2) m (xs.map cv) → DrawnL xs → Pk g wP wS → g < wP.heap.size → Pk g wS w6 → RetDS w (.returned (.tuple #[.slice A2 m c2, .int .i64 step])) w6 := fun A2 m c2 xs step wP wS w6 h0 h1 h2 h3 h4 h5 h6 =>
    ⟨A2, m, c2, xs, step, rfl, (Ow.pk h2 h6 h5).mono (Nat.le_trans HW.out.size h1.size), h0, h3, HW.out.trans ((((h1.of_drewN (m := 1)).trans h4).trans h6).below HG.out HW.out.size)⟩
  have FIN := Lib.hid fin
  clear fin
  go_wp2_with fail
  go_region_law ((go_simp; first
    | (go_at_call 87; (with_reducible refine Calls.mono (KP.out _ hr0d) ?_); rintro e wP ⟨vP, rfl, p1, p2, hrP, hpP⟩; obtain ⟨qP, rfl⟩ := Int.eq_ofNat_of_zero_le p1; have hqP : qP ≤ 16 := (by omega); have HPP := Lib.hid hpP; have hltP := hrP.lt; clear hpP)
    | (go_at_call 86; (with_reducible refine Calls.mono (KS.out _ qP hqP hrP) ?_); rintro e wS ⟨AS, mS, cS, xs, rfl, hoS, hlS, hdS, _, hrS, hpS⟩; have hmS : mS ≤ 17 := (by have := hoS.len; rw [List.length_map] at this; omega); have HOS := Lib.hid hoS; have HDS := Lib.hid hdS; have HPS := Lib.hid hpS; clear hoS hdS hpS)
    | (go_at_call 71; (with_reducible refine Calls.mono (K200.out _ hrS) ?_); rintro e wX ⟨vX, rfl, ⟨x1, x2, _⟩, hrX, hpX⟩; have x3 := x2 (by omega); have eX : IntKind.i64.wrap (vX + 1) = vX + 1 := IntWalk.i64_in _ (by omega); have HPX := Lib.hid hpX; clear hpX x2)
    | (go_at_call 71; (with_reducible refine Calls.mono (K8.out _ (hrX.below (below_alloc _ _))) ?_); rintro e wZ ⟨vY, rfl, ⟨y1, y2, _⟩, hrZ, hpY⟩; have y3 := y2 (by omega); obtain ⟨jY, rfl⟩ := Int.eq_ofNat_of_zero_le y1; have hcY := step_cell hpY hrX.lt (j := jY) (by omega); have HPZ := Lib.hid ((HPX.out.trans (Pk.of_below (below_alloc _ _))).trans hpY); clear hpY y2)
    | (go_at_call 71; (with_reducible refine Calls.mono (K8.out _ hrX) ?_); rintro e wZ ⟨vY, rfl, ⟨y1, y2, _⟩, hrZ, hpY⟩; have y3 := y2 (by omega); obtain ⟨jY, rfl⟩ := Int.eq_ofNat_of_zero_le y1; have hcY := step_cell' wZ (vX + 1) jY (by omega); have HPZ := Lib.hid (HPX.out.trans hpY); clear hpY y2)))
  all_goals
    go_wp2_with fail
    go_ret2
    exact FIN.out _ _ _ xs _ wP wS _ hmS HPP.out HOS.out HDS.out HPS.out hltP (by first | exact HPZ.out | exact HPZ.out.trans (Pk.of_below (below_alloc _ _)))
end Go.Proofs.Ytficlmnjbbpicaa
