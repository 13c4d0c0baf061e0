/- Numbers that are drawn. -/
import Derived.Test.YtemcdeopehdggaaDoorD2
namespace Go.Proofs.YtemcdeopehdggaaDoor
open Go.RowKit

theorem run_below {w w' : World} {g : Nat} (h : Pk g w w') : w.heap.size ≤ w'.heap.size := h.size
/-- A literal of whole numbers, still there. -/
theorem lit_cell {w w2 : World} {g : Nat} (vs : Array Value) (E : TypeId) (h : Pk g (w.alloc (.cells vs E)) w2) (hg : g < w.heap.size) {k : Nat} {v : Value} (hk : vs[k]? = some v) :
    w2.cell? ⟨w.heap.size, k, none⟩ = some v := by
  rw [h.cell (p := ⟨w.heap.size, k, none⟩) (by simp) (by simp; omega), World.cell?_alloc_at _ _ _ _ rfl]
  exact hk

def RetN (w : World) (g p : Nat) (lo hi : Int) (e : Ending) (w' : World) : Prop := ∃ v, e = .returned (.int .i64 v) ∧ lo ≤ v ∧ v ≤ hi ∧ Rd w' g p ∧ Pk g w w'
set_option maxHeartbeats 1000000 in
theorem part_any (g p : Nat) (w : World) (hp : p ≤ 990000) (hr : Rd w g p) :
    Calls Tryd.prog 95 #[.pointer (some ⟨g, 0, none⟩)] w (RetN w g (p + 2) (-10000) 10000) := by
  go_enter Tryd.func95, Tryd.ntmps95
  go_wp2_with fail
  refine (pick_any g p 4 w (by omega) (by omega) hr).mono ?_
  rintro e w1 ⟨v, rfl, hv, hr1, hp1⟩
  obtain ⟨v1, v2, _⟩ := hv
  have v3 := v2 (by omega)
  clear v2
  have hlt := hr1.lt
  have h4 : v = 0 ∨ v = 1 ∨ v = 2 ∨ v = 3 := by omega
  clear v1 v3
  rcases h4 with rfl | rfl | rfl | rfl
  · go_wp2_with fail
    go_ret
    exact ⟨_, rfl, by omega, by omega, hr1.mono (by omega), hp1⟩
  · go_wp2_with fail
    refine (pick_any g (p + 1) 4 _ (by omega) (by omega) (hr1.below (below_alloc _ _))).mono ?_
    rintro e w2 ⟨v, rfl, hv, hr2, hp2⟩
    obtain ⟨v1, v2, _⟩ := hv
    have v3 := v2 (by omega)
    clear v2
    have c0 := lit_cell _ _ hp2 hlt (k := 0) rfl
    have c1 := lit_cell _ _ hp2 hlt (k := 1) rfl
    have c2 := lit_cell _ _ hp2 hlt (k := 2) rfl
    have c3 := lit_cell _ _ hp2 hlt (k := 3) rfl
    have HP : Hid (Pk g w w2) := (hp1.trans (Pk.of_below (below_alloc _ _))).trans hp2
    have HR := Lib.hid hr2
    clear hp2 hp1 hr1 hr2 hr
    have h4 : v = 0 ∨ v = 1 ∨ v = 2 ∨ v = 3 := by omega
    clear v1 v3
    rcases h4 with rfl | rfl | rfl | rfl
    all_goals
      go_wp2_with fail
      go_ret
      exact ⟨_, rfl, by omega, by omega, HR.out.mono (by omega), HP.out⟩
  · go_wp2_with fail
    refine (pick_any g (p + 1) 21 _ (by omega) (by omega) hr1).mono ?_
    rintro e w2 ⟨v, rfl, hv, hr2, hp2⟩
    obtain ⟨v1, v2, _⟩ := hv
    have v3 := v2 (by omega)
    clear v2
    have e1 : IntKind.i64.wrap (v - 10) = v - 10 := IntWalk.i64_in _ (by omega)
    have e2 : IntKind.i64.wrap ((v - 10) * 1000) = (v - 10) * 1000 := IntWalk.i64_in _ (by omega)
    go_wp2_with fail
    go_ret
    exact ⟨_, rfl, by omega, by omega, hr2.mono (by omega), hp1.trans hp2⟩
  · go_wp2_with fail
    refine (pick_any g (p + 1) 256 _ (by omega) (by omega) hr1).mono ?_
    rintro e w2 ⟨v, rfl, hv, hr2, hp2⟩
    obtain ⟨v1, v2, _⟩ := hv
    have v3 := v2 (by omega)
    clear v2
    have e1 : IntKind.i64.wrap (v * 40) = v * 40 := IntWalk.i64_in _ (by omega)
    have e2 : IntKind.i64.wrap (v * 40 - 5000) = v * 40 - 5000 := IntWalk.i64_in _ (by omega)
    go_wp2_with fail
    go_ret
    exact ⟨_, rfl, by omega, by omega, hr2.mono (by omega), hp1.trans hp2⟩
set_option maxHeartbeats 1000000 in
theorem points_any (g p : Nat) (w : World) (hp : p ≤ 900000) (hr : Rd w g p) :
    Calls Tryd.prog 54 #[.pointer (some ⟨g, 0, none⟩)] w (RetN w g (p + 1) 0 16) := by
  have hlt := hr.lt
  go_enter Tryd.func54, Tryd.ntmps54
  go_wp2_with fail
  refine (pick_any g p 9 _ (by omega) (by omega) (hr.below (below_alloc _ _))).mono ?_
  rintro e w2 ⟨v, rfl, hv, hr2, hp2⟩
  obtain ⟨v1, v2, _⟩ := hv
  have v3 := v2 (by omega)
  clear v2
  have c0 := lit_cell _ _ hp2 hlt (k := 0) rfl
  have c1 := lit_cell _ _ hp2 hlt (k := 1) rfl
  have c2 := lit_cell _ _ hp2 hlt (k := 2) rfl
  have c3 := lit_cell _ _ hp2 hlt (k := 3) rfl
  have c4 := lit_cell _ _ hp2 hlt (k := 4) rfl
  have c5 := lit_cell _ _ hp2 hlt (k := 5) rfl
  have c6 := lit_cell _ _ hp2 hlt (k := 6) rfl
  have c7 := lit_cell _ _ hp2 hlt (k := 7) rfl
  have c8 := lit_cell _ _ hp2 hlt (k := 8) rfl
  have HP : Hid (Pk g w w2) := (Pk.of_below (below_alloc _ _)).trans hp2
  have HR := Lib.hid hr2
  clear hp2 hr2 hr
  have h4 : v = 0 ∨ v = 1 ∨ v = 2 ∨ v = 3 ∨ v = 4 ∨ v = 5 ∨ v = 6 ∨ v = 7 ∨ v = 8 := by omega
  clear v1 v3
  rcases h4 with rfl | rfl | rfl | rfl | rfl | rfl | rfl | rfl | rfl
  all_goals
    go_wp2_with fail
    go_ret
    exact ⟨_, rfl, by omega, by omega, HR.out, HP.out⟩
end Go.Proofs.YtemcdeopehdggaaDoor
