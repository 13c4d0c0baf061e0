/- The text of a deed with a number, by the reference. -/
import Derived.Test.YtemcdeopehdggaaDoorJ4
namespace Go.Proofs.YtemcdeopehdggaaDoor
open Go.RowKit
open Go.Lib hiding intOf

theorem dText_num {k n : Int} {t : Txt} (h : 3 ≤ k ∧ k ≤ 5) : dText ⟨k, n, t⟩ = if t = [] ∧ -99 ≤ n ∧ n ≤ 99 then wordOf k ++ 32 :: itoa n else [] := by
  unfold dText
  rw [if_neg (show ¬ k = 0 by omega), if_pos (show 3 ≤ k ∧ k ≤ 5 from h)]
def wordL (k : Nat) : Txt := if k = 0 then [109, 111, 118, 101, 32] else if k = 1 then [115, 104, 105, 102, 116, 32] else [119, 105, 110, 100, 111, 119, 32]
def litW : Array Value := #[.string { data := #[109, 111, 118, 101, 32] }, .string { data := #[115, 104, 105, 102, 116, 32] }, .string { data := #[119, 105, 110, 100, 111, 119, 32] }]
theorem box_drew {w w1 : World} (vs : Array Value) (E : TypeId) (hb : Below ((w.alloc (.cells vs E)).drew).heap.size (w.alloc (.cells vs E)).drew w1) {j : Nat} {v : Value} (hj : vs[j]? = some v) :
    w1.cell? ⟨w.heap.size, j, none⟩ = some v := box_cell (w := w) vs E ⟨hb.os, hb.tape, hb.output, hb.size, hb.block⟩ hj
theorem lit_drew2 {w w1 : World} {o : Obj} (us : Array Value) (F : TypeId) (hb : Below (((w.alloc o).alloc (.cells us F)).drew).heap.size ((w.alloc o).alloc (.cells us F)).drew w1) {j : Nat} {v : Value} (hj : us[j]? = some v) :
    w1.cell? ⟨w.heap.size + 1, j, none⟩ = some v := by
  have h := box_drew (w := w.alloc o) us F hb hj
  have e : (w.alloc o).heap.size = w.heap.size + 1 := by show (w.heap.push o).size = _; rw [Array.size_push]
  rw [e] at h
  exact h
theorem box_drew2 {w w1 : World} {o : Obj} (vs : Array Value) (E : TypeId) (hb : Below (((w.alloc (.cells vs E)).alloc o).drew).heap.size ((w.alloc (.cells vs E)).alloc o).drew w1) {j : Nat} {v : Value} (hj : vs[j]? = some v) :
    w1.cell? ⟨w.heap.size, j, none⟩ = some v := by
  refine (hb.cell (p := ⟨w.heap.size, j, none⟩) (by show w.heap.size < ((w.heap.push _).push _).size; rw [Array.size_push, Array.size_push]; omega)).trans ?_
  rw [World.cell?_drew]
  refine (World.cell?_alloc_lt _ _ _ (by show w.heap.size < (w.heap.push _).size; rw [Array.size_push]; omega)).trans ?_
  rw [World.cell?_alloc_at _ _ _ _ rfl]
  exact hj
theorem below_drew2 {w w1 : World} {o o' : Obj} (hb : Below (((w.alloc o).alloc o').drew).heap.size ((w.alloc o).alloc o').drew w1) : Below w.heap.size w w1 := by
  have h1 := below_of_drew hb
  exact (below_alloc w o).trans (((below_alloc (w.alloc o) o').trans (h1.mono (below_alloc (w.alloc o) o').size)).mono (below_alloc w o).size)
theorem below_drew1 {w w1 : World} {o : Obj} (hb : Below ((w.alloc o).drew).heap.size (w.alloc o).drew w1) : Below w.heap.size w w1 :=
  (below_alloc w o).trans ((below_of_drew hb).mono (below_alloc w o).size)
theorem num_app (k : Nat) (n : Int) (hk : k < 3) : bs (wordL k) ++ bs (itoa n) = bs (wordOf (k + 3 : Nat) ++ 32 :: itoa n) := by
  rw [bs_append]
  have : k = 0 ∨ k = 1 ∨ k = 2 := by omega
  rcases this with rfl | rfl | rfl <;> rfl

set_option maxHeartbeats 4000000 in
set_option maxRecDepth 100000 in
theorem sDeed_num (k n : Int) (t : Txt) (hk : 3 ≤ k ∧ k ≤ 5) (w : World) :
    Calls Tryd.prog 28 #[dv ⟨k, n, t⟩] w fun e w' => e = .returned (.string (bs (dText ⟨k, n, t⟩))) ∧ Below w.heap.size w w' := by
  have hto := bs_nilB
  have HI := Lib.hid (fun w => l1In_any k 3 5 w)
  have HJ := Lib.hid (fun w => l1In_any n (-99) 99 w)
  have e35 : inB k 3 5 = true := inB_true hk.1 hk.2
  have HD := Lib.hid (@dText_num k n t hk)
  have k0 : (k == 0) = false := by rw [beq_eq_false_iff_ne]; omega
  have k1 : (k == 1) = false := by rw [beq_eq_false_iff_ne]; omega
  have k2 : (k == 2) = false := by rw [beq_eq_false_iff_ne]; omega
  have k6 : (k == 6) = false := by rw [beq_eq_false_iff_ne]; omega
  unfold dv
  by_cases ht : t = []
  · subst ht
    by_cases hn : -99 ≤ n ∧ n ≤ 99
    · have en : inB n (-99) 99 = true := inB_true hn.1 hn.2
      have HDD : Hid (dText ⟨k, n, []⟩ = wordOf k ++ 32 :: itoa n) := by show _ = _; rw [HD.out, if_pos ⟨rfl, hn⟩]
      have K : Hid (∀ w, Calls Tryd.prog 67 #[.int .i64 n] w fun e w' => e = .returned (.string (bs (itoa n))) ∧ Below w.heap.size w w') := fun w => sNumber n (by omega) (by omega) w
      have hz : (bs (itoa n)).size ≤ 21 := by rw [bs_size]; exact itoa_small n (by omega) (by omega)
      clear HD
      have h3 : k = 3 ∨ k = 4 ∨ k = 5 := by omega
      clear hn hk
      have y5 : ¬ 9223372036854775807 < 5 + (bs (itoa n)).size := by omega
      have y6 : ¬ 9223372036854775807 < 6 + (bs (itoa n)).size := by omega
      have y7 : ¬ 9223372036854775807 < 7 + (bs (itoa n)).size := by omega
      have w0 : IntKind.i64.wrap 0 = 0 := IntWalk.i64_in _ (by omega)
      have w1' : IntKind.i64.wrap 1 = 1 := IntWalk.i64_in _ (by omega)
      have w2' : IntKind.i64.wrap 2 = 2 := IntWalk.i64_in _ (by omega)
      rcases h3 with rfl | rfl | rfl
      · go_enter Tryd.func28, Tryd.ntmps28
        go_wp2_with fail
        refine (HI.out _).mono ?_
        rintro e w' ⟨rfl, rfl⟩
        rw [e35]
        go_wp2_with fail
        refine (HJ.out _).mono ?_
        rintro e w' ⟨rfl, rfl⟩
        rw [en]
        go_wp2_with fail
        go_region_law ((go_simp; go_at_call 67; (with_reducible refine Calls.mono (K.out _) ?_); rintro e w1 ⟨rfl, hb⟩; first | (have c0 := box_drew2 _ _ hb (j := 0) rfl; have c1 := box_drew2 _ _ hb (j := 1) rfl; have d0 := lit_drew2 _ _ hb (j := 0) rfl; have HB := Lib.hid (below_drew2 hb); clear hb) | (have c0 := box_drew _ _ hb (j := 0) rfl; have c1 := box_drew _ _ hb (j := 1) rfl; have hlt : w.heap.size < w1.heap.size := (by have := hb.size; simp at this; omega); have k0' := fun o => (World.cell?_alloc_lt w1 o ⟨w.heap.size, 0, none⟩ hlt).trans c0; have k1' := fun o => (World.cell?_alloc_lt w1 o ⟨w.heap.size, 1, none⟩ hlt).trans c1; have HB := Lib.hid (below_drew1 hb); clear hb)))
        all_goals
          go_wp2_with fail
          go_ret
          refine ⟨?_, ?_⟩
          · rw [HDD.out]
            exact congrArg (fun s => Ending.returned (.string s)) (num_app 0 n (by omega))
          · first | exact HB.out | exact HB.out.alloc HB.out.size _
      · go_enter Tryd.func28, Tryd.ntmps28
        go_wp2_with fail
        refine (HI.out _).mono ?_
        rintro e w' ⟨rfl, rfl⟩
        rw [e35]
        go_wp2_with fail
        refine (HJ.out _).mono ?_
        rintro e w' ⟨rfl, rfl⟩
        rw [en]
        go_wp2_with fail
        go_region_law ((go_simp; go_at_call 67; (with_reducible refine Calls.mono (K.out _) ?_); rintro e w1 ⟨rfl, hb⟩; first | (have c0 := box_drew2 _ _ hb (j := 0) rfl; have c1 := box_drew2 _ _ hb (j := 1) rfl; have d0 := lit_drew2 _ _ hb (j := 1) rfl; have HB := Lib.hid (below_drew2 hb); clear hb) | (have c0 := box_drew _ _ hb (j := 0) rfl; have c1 := box_drew _ _ hb (j := 1) rfl; have hlt : w.heap.size < w1.heap.size := (by have := hb.size; simp at this; omega); have k0' := fun o => (World.cell?_alloc_lt w1 o ⟨w.heap.size, 0, none⟩ hlt).trans c0; have k1' := fun o => (World.cell?_alloc_lt w1 o ⟨w.heap.size, 1, none⟩ hlt).trans c1; have HB := Lib.hid (below_drew1 hb); clear hb)))
        all_goals
          go_wp2_with fail
          go_ret
          refine ⟨?_, ?_⟩
          · rw [HDD.out]
            exact congrArg (fun s => Ending.returned (.string s)) (num_app 1 n (by omega))
          · first | exact HB.out | exact HB.out.alloc HB.out.size _
      · go_enter Tryd.func28, Tryd.ntmps28
        go_wp2_with fail
        refine (HI.out _).mono ?_
        rintro e w' ⟨rfl, rfl⟩
        rw [e35]
        go_wp2_with fail
        refine (HJ.out _).mono ?_
        rintro e w' ⟨rfl, rfl⟩
        rw [en]
        go_wp2_with fail
        go_region_law ((go_simp; go_at_call 67; (with_reducible refine Calls.mono (K.out _) ?_); rintro e w1 ⟨rfl, hb⟩; first | (have c0 := box_drew2 _ _ hb (j := 0) rfl; have c1 := box_drew2 _ _ hb (j := 1) rfl; have d0 := lit_drew2 _ _ hb (j := 2) rfl; have HB := Lib.hid (below_drew2 hb); clear hb) | (have c0 := box_drew _ _ hb (j := 0) rfl; have c1 := box_drew _ _ hb (j := 1) rfl; have hlt : w.heap.size < w1.heap.size := (by have := hb.size; simp at this; omega); have k0' := fun o => (World.cell?_alloc_lt w1 o ⟨w.heap.size, 0, none⟩ hlt).trans c0; have k1' := fun o => (World.cell?_alloc_lt w1 o ⟨w.heap.size, 1, none⟩ hlt).trans c1; have HB := Lib.hid (below_drew1 hb); clear hb)))
        all_goals
          go_wp2_with fail
          go_ret
          refine ⟨?_, ?_⟩
          · rw [HDD.out]
            exact congrArg (fun s => Ending.returned (.string s)) (num_app 2 n (by omega))
          · first | exact HB.out | exact HB.out.alloc HB.out.size _
    · have HDD : Hid (dText ⟨k, n, []⟩ = []) := by show _ = _; rw [HD.out, if_neg (fun h => hn h.2)]
      have en : inB n (-99) 99 = false := by rw [inB_false_iff]; omega
      clear HD hn hk
      go_enter Tryd.func28, Tryd.ntmps28
      go_wp2_with fail
      refine (HI.out _).mono ?_
      rintro e w' ⟨rfl, rfl⟩
      rw [e35]
      go_wp2_with fail
      refine (HJ.out _).mono ?_
      rintro e w' ⟨rfl, rfl⟩
      rw [en]
      go_wp2_with fail
      go_ret
      exact ⟨by rw [HDD.out]; rfl, below_alloc _ _⟩
  · have HDD : Hid (dText ⟨k, n, t⟩ = []) := by show _ = _; rw [HD.out, if_neg (fun h => ht h.1)]
    have ht2 : t.isEmpty = false := by simpa using ht
    clear HD ht hk
    go_enter Tryd.func28, Tryd.ntmps28
    go_wp2_with fail
    refine (HI.out _).mono ?_
    rintro e w' ⟨rfl, rfl⟩
    rw [e35]
    go_wp2_with fail
    go_ret
    exact ⟨by rw [HDD.out]; rfl, below_alloc _ _⟩
/-- The text of a deed, by the reference. -/
theorem sDeedText (a : Dd) (hl : a.text.length ≤ 4611686018427387904) (w : World) :
    Calls Tryd.prog 28 #[dv a] w fun e w' => e = .returned (.string (bs (dText a))) ∧ Below w.heap.size w w' := by
  obtain ⟨k, n, t⟩ := a
  by_cases h : 3 ≤ k ∧ k ≤ 5
  · exact sDeed_num k n t h w
  · by_cases h0 : k = 0 ∧ n = 0
    · obtain ⟨rfl, rfl⟩ := h0
      exact sDeed_write t w hl
    · exact sDeed_other k n t w h h0
end Go.Proofs.YtemcdeopehdggaaDoor
