/- The draw of the law on great tones. -/
import Derived.Test.YtficlmnjbbpicaaV4
namespace Go.Proofs.Ytficlmnjbbpicaa
open Go.RowKit

theorem good_small {xs : List C} (h : ∀ i, i < xs.length → Md (nth xs i) U) : Good xs := fun hs => by
  obtain ⟨s1, s2, s3, s4, s5⟩ := siz_parts hs
  refine good_md (r := fun _ => U) h ?_ hs
  have := tot_one (n := xs.length) (j := 17) (by omega) xs.length (Nat.le_refl _)
  rw [if_neg (by omega)] at this
  have hU := U_pos
  have e : ∀ i, i ≤ xs.length → tot (fun _ => U) i = tot (fun i => if i = 17 then 236700000 * U else U) i := by
    intro i
    induction i with
    | zero => intro _; rfl
    | succ i ih =>
      intro hi
      show tot _ i + (U + 132 * U) = tot _ i + ((if i = 17 then 236700000 * U else U) + 132 * U)
      rw [ih (by omega), if_neg (by omega)]
  rw [e _ (Nat.le_refl _)]
  have c : ((xs.length : Nat) : Rat) ≤ ((16 : Nat) : Rat) := Rat.natCast_le_natCast.2 s4
  have c2 : ((16 : Nat) : Rat) = 16 := rfl
  rw [c2] at c
  have k := Rat.mul_le_mul_of_nonneg_left c (show 0 ≤ 133 * U by grind)
  unfold K1
  grind
theorem turn_md (k : Int) : Md (turnC k) U := ⟨turnC_fin _, Rat.le_of_lt U_pos, Rat.le_trans (turn_sq _) (by decide +kernel)⟩
theorem good_ton (p k : Int) : Good (tonF p k) := by
  unfold tonF
  split
  · exact good_small fun i hi => by rw [tonL_nth _ (by rw [tonL_len] at hi; exact hi)]; exact turn_md _
  · intro hs
    obtain ⟨s1, s2, s3, s4, s5⟩ := siz_parts hs
    simp at *
theorem Rd.drew1 {w : World} {g p : Nat} (h : Rd w g p) : Rd w.drew g p := h.drewN 1
theorem Pk.of_drew1 {g : Nat} {a b : World} (h : Pk g a.drew b) : Pk g a b := h.of_drewN (m := 1)
def tonM : Nat → Int
  | 0 => 0 | 1 => 100 | 2 => 500 | 3 => 1000 | 4 => 1001 | _ => -1
theorem tonM_get : ∀ j, j < 6 → (#[.int .i64 0, .int .i64 100, .int .i64 500, .int .i64 1000, .int .i64 1001, .int .i64 (-1)] : Array Value)[j]? = some (.int .i64 (tonM j))
  | 0, _ => rfl
  | 1, _ => rfl
  | 2, _ => rfl
  | 3, _ => rfl
  | 4, _ => rfl
  | 5, _ => rfl
theorem ton_cell {w w2 : World} {g j : Nat} (h : Pk g (w.alloc (.cells #[.int .i64 0, .int .i64 100, .int .i64 500, .int .i64 1000, .int .i64 1001, .int .i64 (-1)] 3)) w2) (hg : g < w.heap.size) (hj : j < 6) :
    w2.cell? ⟨w.heap.size, j, none⟩ = some (.int .i64 (tonM j)) := lit_cell _ 3 h hg (tonM_get j hj)
theorem ton_cell' (w : World) {j : Nat} (hj : j < 6) :
    (w.alloc (.cells #[.int .i64 0, .int .i64 100, .int .i64 500, .int .i64 1000, .int .i64 1001, .int .i64 (-1)] 3)).cell? ⟨w.heap.size, j, none⟩ = some (.int .i64 (tonM j)) := by
  rw [World.cell?_alloc_at _ _ _ _ rfl]; exact tonM_get j hj
theorem half6 {j : Nat} (h : j < 12) : ∃ q : Nat, (j : Int) / 2 = (q : Int) ∧ q < 6 := ⟨j / 2, by omega, by omega⟩

def RetDT (w : World) (e : Ending) (w' : World) : Prop :=
  ∃ (A : Option Addr) (m c : Nat) (xs : List C) (k : Int), e = .returned (.tuple #[.slice A m c, .int .i64 k]) ∧ Ow w' w.heap.size 45 (.slice A m c) m (xs.map cv) ∧ m ≤ 17 ∧ Good xs ∧ Below w.heap.size w w'

set_option maxHeartbeats 2000000 in
set_option maxRecDepth 100000 in
theorem drawTonesOf_any (A : Option Addr) (n c : Nat) (w : World) (hnc : n ≤ c) (hn : n ≤ 1048576) (h : Code8 w A n) :
    Calls Try.prog 55 #[.slice A n c] w (RetDT w) := by
  go_enter Try.func55, Try.ntmps55
  go_wp2_with fail
  refine (open_any A n c w hnc hn h).mono ?_
  rintro e w0 ⟨g, rfl, hg, hr0, hb0⟩
  go_wp2_with fail
  refine (sized_any g 0 12 w0 (by omega) (by omega) hr0).mono ?_
  rintro e w2 ⟨A2, m, c2, xs, rfl, ho, hl, hd, _, hr2, hp2⟩
  have h0 := ho.len
  rw [List.length_map] at h0
  have hm : m ≤ 17 := by omega
  have hg0 : g < w0.heap.size := hr0.lt
  have HO := Lib.hid ho
  have HGD := Lib.hid (good_drawn hd)
  have HP := Lib.hid hp2
  have HG := Lib.hid hg
  have HB := Lib.hid hb0
  have K12 : Hid (∀ w, Rd w g 125 → Calls Try.prog 71 #[.pointer (some ⟨g, 0, none⟩), .int .i64 12] w (RetP w g 125 12)) := fun w h => pick_any g 125 12 w (by omega) (by omega) h
  have FIN : Hid (∀ (A' : Option Addr) (m' c' : Nat) (ys : List C) (k : Int) (w5 w6 : World), m' ≤ 17 → Good ys → Ow w5 w0.heap.size 45 (.slice A' m' c') m' (ys.map cv) → Pk g w5 w6 → Pk g w0 w5 → RetDT w (.returned (.tuple #[.slice A' m' c', .int .i64 k])) w6) := fun A' m' c' ys k w5 w6 h1 h2 h3 h4 h5 =>
    ⟨A', m', c', ys, k, rfl, (h3.pk h4 hg0).mono HB.out.size, h1, h2, HB.out.trans ((h5.trans h4).below HG.out HB.out.size)⟩
  clear ho hd hp2 hg hb0 h0 hl h hnc hr0
  by_cases hm0 : m = 0
  · subst hm0
    have hrF : Rd w2 g 125 := (hr2.mono (by omega))
    have FINB : Hid (∀ k w6, Pk g w2 w6 → RetDT w (.returned (.tuple #[.slice A2 0 c2, .int .i64 k])) w6) := fun k w6 h => FIN.out _ _ _ _ k w2 w6 hm HGD.out HO.out h HP.out
    go_wp2_with fail
    go_region_law ((go_simp; first
      | (go_at_call 71; (with_reducible refine Calls.mono (K12.out _ (hrF.below (below_alloc _ _)).drew1) ?_); rintro e wZ ⟨vY, rfl, ⟨y1, y2, _⟩, hrZ, hpY⟩; have y3 := y2 (by omega); obtain ⟨jY, rfl⟩ := Int.eq_ofNat_of_zero_le y1; obtain ⟨qY, hqY, hqL⟩ := half6 (j := jY) (by omega); have hqi : (qY : Int) < 6 := (by omega); have hqW : IntKind.i64.wrap (qY : Int) = (qY : Int) := IntWalk.i64_in _ (by omega); have hcY := ton_cell hpY.of_drew1 hrF.lt hqL; have HPZ := Lib.hid ((Pk.of_below (below_alloc _ _)).trans hpY.of_drew1); clear hpY y2)
      | (go_at_call 71; (with_reducible refine Calls.mono (K12.out _ hrF.drew1) ?_); rintro e wZ ⟨vY, rfl, ⟨y1, y2, _⟩, hrZ, hpY⟩; have y3 := y2 (by omega); obtain ⟨jY, rfl⟩ := Int.eq_ofNat_of_zero_le y1; obtain ⟨qY, hqY, hqL⟩ := half6 (j := jY) (by omega); have hqi : (qY : Int) < 6 := (by omega); have hqW : IntKind.i64.wrap (qY : Int) = (qY : Int) := IntWalk.i64_in _ (by omega); have hcY := ton_cell' wZ hqL; have HPZ := Lib.hid hpY.of_drew1; clear hpY y2)))
    all_goals
      go_wp2_with fail
      go_ret2
      exact FINB.out _ _ (by first | exact HPZ.out | exact HPZ.out.trans (Pk.of_below (below_alloc _ _)))
  have hmi : (0 : Int) < (m : Int) := by omega
  go_wp2_with fail
  refine (pick_any g 120 2 w2 (by omega) (by omega) hr2).mono ?_
  rintro e w3 ⟨v, rfl, ⟨v1, v2, _⟩, hr3, hp3⟩
  have v3 := v2 (by omega)
  have HP3 := Lib.hid (HP.out.trans hp3)
  have HO3 : Hid (Ow w3 w0.heap.size 45 (.slice A2 m c2) m (xs.map cv)) := HO.out.pk hp3 hg0
  clear hp3 v2 hr2
  by_cases hv : v = 0
  case neg =>
    have hvb : (v == 0) = false := by rw [beq_eq_false_iff_ne]; exact hv
    have hrF : Rd w3 g 125 := (hr3.mono (by omega))
    have FINB : Hid (∀ k w6, Pk g w3 w6 → RetDT w (.returned (.tuple #[.slice A2 m c2, .int .i64 k])) w6) := fun k w6 h => FIN.out _ _ _ _ k w3 w6 hm HGD.out HO3.out h HP3.out
    go_wp2_with fail
    go_region_law ((go_simp; first
      | (go_at_call 71; (with_reducible refine Calls.mono (K12.out _ (hrF.below (below_alloc _ _)).drew1) ?_); rintro e wZ ⟨vY, rfl, ⟨y1, y2, _⟩, hrZ, hpY⟩; have y3 := y2 (by omega); obtain ⟨jY, rfl⟩ := Int.eq_ofNat_of_zero_le y1; obtain ⟨qY, hqY, hqL⟩ := half6 (j := jY) (by omega); have hqi : (qY : Int) < 6 := (by omega); have hqW : IntKind.i64.wrap (qY : Int) = (qY : Int) := IntWalk.i64_in _ (by omega); have hcY := ton_cell hpY.of_drew1 hrF.lt hqL; have HPZ := Lib.hid ((Pk.of_below (below_alloc _ _)).trans hpY.of_drew1); clear hpY y2)
      | (go_at_call 71; (with_reducible refine Calls.mono (K12.out _ hrF.drew1) ?_); rintro e wZ ⟨vY, rfl, ⟨y1, y2, _⟩, hrZ, hpY⟩; have y3 := y2 (by omega); obtain ⟨jY, rfl⟩ := Int.eq_ofNat_of_zero_le y1; obtain ⟨qY, hqY, hqL⟩ := half6 (j := jY) (by omega); have hqi : (qY : Int) < 6 := (by omega); have hqW : IntKind.i64.wrap (qY : Int) = (qY : Int) := IntWalk.i64_in _ (by omega); have hcY := ton_cell' wZ hqL; have HPZ := Lib.hid hpY.of_drew1; clear hpY y2)))
    all_goals
      go_wp2_with fail
      go_ret2
      exact FINB.out _ _ (by first | exact HPZ.out | exact HPZ.out.trans (Pk.of_below (below_alloc _ _)))
  subst hv
  go_wp2_with fail
  refine (pick_any g 121 (m : Int) w3 (by omega) (by omega) hr3).mono ?_
  rintro e w4 ⟨u, rfl, ⟨u1, u2, _⟩, hr4, hp4⟩
  have HP4 := Lib.hid (HP3.out.trans hp4)
  have HO4 : Hid (Ow w4 w0.heap.size 45 (.slice A2 m c2) m (xs.map cv)) := HO3.out.pk hp4 hg0
  clear hp4 u1 u2 hr3
  go_wp2_with fail
  refine (sTone (m : Int) u w4).mono ?_
  rintro e w5 ⟨A5, m5, c5, rfl, ho5, hb5⟩
  have hr5 := hr4.below hb5
  have HP5 : Hid (Pk g w0 w5) := HP4.out.trans (Pk.of_below hb5)
  have HO2 : Hid (Ow w5 w0.heap.size 45 (.slice A2 m c2) m (xs.map cv)) := HO4.out.pk (Pk.of_below hb5) hg0
  have hz : w0.heap.size ≤ w4.heap.size := HP4.out.size
  have HO5 : Hid (Ow w5 w0.heap.size 45 (.slice A5 m5 c5) m5 ((tonF m u).map cv)) := ho5.mono hz
  have hrF : Rd w5 g 125 := (hr5.mono (by omega))
  clear ho5 hb5 hr4 hr5 hz
  by_cases hme : m5 = m
  · have hmb : ((m5 : Int) == (m : Int)) = true := by rw [beq_iff_eq, hme]
    have hm5 : m5 ≤ 17 := by omega
    have FINB : Hid (∀ k w6, Pk g w5 w6 → RetDT w (.returned (.tuple #[.slice A5 m5 c5, .int .i64 k])) w6) := fun k w6 h => FIN.out _ _ _ _ k w5 w6 hm5 (good_ton _ _) HO5.out h HP5.out
    clear hme
    go_wp2_with fail
    go_region_law ((go_simp; first
      | (go_at_call 71; (with_reducible refine Calls.mono (K12.out _ (hrF.below (below_alloc _ _)).drew1) ?_); rintro e wZ ⟨vY, rfl, ⟨y1, y2, _⟩, hrZ, hpY⟩; have y3 := y2 (by omega); obtain ⟨jY, rfl⟩ := Int.eq_ofNat_of_zero_le y1; obtain ⟨qY, hqY, hqL⟩ := half6 (j := jY) (by omega); have hqi : (qY : Int) < 6 := (by omega); have hqW : IntKind.i64.wrap (qY : Int) = (qY : Int) := IntWalk.i64_in _ (by omega); have hcY := ton_cell hpY.of_drew1 hrF.lt hqL; have HPZ := Lib.hid ((Pk.of_below (below_alloc _ _)).trans hpY.of_drew1); clear hpY y2)
      | (go_at_call 71; (with_reducible refine Calls.mono (K12.out _ hrF.drew1) ?_); rintro e wZ ⟨vY, rfl, ⟨y1, y2, _⟩, hrZ, hpY⟩; have y3 := y2 (by omega); obtain ⟨jY, rfl⟩ := Int.eq_ofNat_of_zero_le y1; obtain ⟨qY, hqY, hqL⟩ := half6 (j := jY) (by omega); have hqi : (qY : Int) < 6 := (by omega); have hqW : IntKind.i64.wrap (qY : Int) = (qY : Int) := IntWalk.i64_in _ (by omega); have hcY := ton_cell' wZ hqL; have HPZ := Lib.hid hpY.of_drew1; clear hpY y2)))
    all_goals
      go_wp2_with fail
      go_ret2
      exact FINB.out _ _ (by first | exact HPZ.out | exact HPZ.out.trans (Pk.of_below (below_alloc _ _)))
  · have hmb : ((m5 : Int) == (m : Int)) = false := by rw [beq_eq_false_iff_ne]; omega
    have FINB : Hid (∀ k w6, Pk g w5 w6 → RetDT w (.returned (.tuple #[.slice A2 m c2, .int .i64 k])) w6) := fun k w6 h => FIN.out _ _ _ _ k w5 w6 hm HGD.out HO2.out h HP5.out
    clear hme
    go_wp2_with fail
    go_region_law ((go_simp; first
      | (go_at_call 71; (with_reducible refine Calls.mono (K12.out _ (hrF.below (below_alloc _ _)).drew1) ?_); rintro e wZ ⟨vY, rfl, ⟨y1, y2, _⟩, hrZ, hpY⟩; have y3 := y2 (by omega); obtain ⟨jY, rfl⟩ := Int.eq_ofNat_of_zero_le y1; obtain ⟨qY, hqY, hqL⟩ := half6 (j := jY) (by omega); have hqi : (qY : Int) < 6 := (by omega); have hqW : IntKind.i64.wrap (qY : Int) = (qY : Int) := IntWalk.i64_in _ (by omega); have hcY := ton_cell hpY.of_drew1 hrF.lt hqL; have HPZ := Lib.hid ((Pk.of_below (below_alloc _ _)).trans hpY.of_drew1); clear hpY y2)
      | (go_at_call 71; (with_reducible refine Calls.mono (K12.out _ hrF.drew1) ?_); rintro e wZ ⟨vY, rfl, ⟨y1, y2, _⟩, hrZ, hpY⟩; have y3 := y2 (by omega); obtain ⟨jY, rfl⟩ := Int.eq_ofNat_of_zero_le y1; obtain ⟨qY, hqY, hqL⟩ := half6 (j := jY) (by omega); have hqi : (qY : Int) < 6 := (by omega); have hqW : IntKind.i64.wrap (qY : Int) = (qY : Int) := IntWalk.i64_in _ (by omega); have hcY := ton_cell' wZ hqL; have HPZ := Lib.hid hpY.of_drew1; clear hpY y2)))
    all_goals
      go_wp2_with fail
      go_ret2
      exact FINB.out _ _ (by first | exact HPZ.out | exact HPZ.out.trans (Pk.of_below (below_alloc _ _)))
end Go.Proofs.Ytficlmnjbbpicaa
