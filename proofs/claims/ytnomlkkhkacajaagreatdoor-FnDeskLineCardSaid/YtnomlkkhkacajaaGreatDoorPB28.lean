/- Texts on the way to a law (J4, J5, J6, J0), each with its own remark. -/
import Derived.Test.YtnomlkkhkacajaaGreatDoorPB26
namespace Go.Proofs.YtnomlkkhkacajaaGreatDoor
open Go.RowKit
open Go.Lib hiding intOf

theorem inB35 {k : Int} (h : ¬ (3 ≤ k ∧ k ≤ 5)) : inB k 3 5 = false := by
  rw [inB_false_iff]; omega
theorem write_app (t : Txt) : ({ data := #[119, 114, 105, 116, 101, 32] } : ByteArray) ++ bs t = bs (wordOf 0 ++ 32 :: t) := by
  show bs [119, 114, 105, 116, 101, 32] ++ bs t = _
  rw [bs_append]; rfl
set_option maxHeartbeats 1000000 in
/-- A kind that has no number. -/
theorem sDeed_other (k n : Int) (t : Txt) (w : World) (h35 : ¬ (3 ≤ k ∧ k ≤ 5)) (h0 : ¬ (k = 0 ∧ n = 0)) :
    Calls Tryz.prog 90 #[dv ⟨k, n, t⟩] w fun e w' => e = .returned (.string (bs (dText ⟨k, n, t⟩))) ∧ Below w.heap.size w w' := by
  have hto := bs_nilB
  have hto2 := bs_toL
  have HI := Lib.hid (fun w => l1In_any k 3 5 w)
  have e35 := inB35 h35
  unfold dv
  have hsz : ∀ t : Txt, (bs t).size = t.length := bs_size
  rcases kind_cases k with rfl | rfl | rfl | rfl | rfl | rfl | rfl | ⟨⟨b0, b1, b2, b3, b4, b5, b6⟩, hw, h7⟩
  · have hn : ¬ n = 0 := fun h => h0 ⟨rfl, h⟩
    have hb : (n == 0) = false := by rw [beq_eq_false_iff_ne]; exact hn
    have HD : Hid (dText ⟨0, n, t⟩ = []) := by show _ = _; unfold dText; simp [hn]
    clear h0 h35 hn
    go_enter Tryz.func90, Tryz.ntmps90
    go_wp2_with fail
    refine (HI.out _).mono ?_
    rintro e w' ⟨rfl, rfl⟩
    rw [e35]
    go_wp2_with fail
    go_ret
    exact ⟨by rw [HD.out]; rfl, below_alloc _ _⟩
  · by_cases hn : n = 0
    · subst hn
      by_cases ht : t = []
      · subst ht
        clear h0 h35
        go_enter Tryz.func90, Tryz.ntmps90
        go_wp2_with fail
        refine (HI.out _).mono ?_
        rintro e w' ⟨rfl, rfl⟩
        rw [e35]
        go_wp2_with fail
        go_ret
        exact ⟨rfl, below_alloc _ _⟩
      · have HD : Hid (dText ⟨1, 0, t⟩ = []) := by show _ = _; unfold dText; simp [ht]
        have ht2 : t.isEmpty = false := by simpa using ht
        clear h0 h35 ht
        go_enter Tryz.func90, Tryz.ntmps90
        go_wp2_with fail
        refine (HI.out _).mono ?_
        rintro e w' ⟨rfl, rfl⟩
        rw [e35]
        go_wp2_with fail
        go_ret
        exact ⟨by rw [HD.out]; rfl, below_alloc _ _⟩
    · have HD : Hid (dText ⟨1, n, t⟩ = []) := by show _ = _; unfold dText; simp [hn]
      have hb : (n == 0) = false := by rw [beq_eq_false_iff_ne]; exact hn
      clear h0 h35 hn
      go_enter Tryz.func90, Tryz.ntmps90
      go_wp2_with fail
      refine (HI.out _).mono ?_
      rintro e w' ⟨rfl, rfl⟩
      rw [e35]
      go_wp2_with fail
      go_ret
      exact ⟨by rw [HD.out]; rfl, below_alloc _ _⟩
  · by_cases hn : n = 0
    · subst hn
      by_cases ht : t = []
      · subst ht
        clear h0 h35
        go_enter Tryz.func90, Tryz.ntmps90
        go_wp2_with fail
        refine (HI.out _).mono ?_
        rintro e w' ⟨rfl, rfl⟩
        rw [e35]
        go_wp2_with fail
        go_ret
        exact ⟨rfl, below_alloc _ _⟩
      · have HD : Hid (dText ⟨2, 0, t⟩ = []) := by show _ = _; unfold dText; simp [ht]
        have ht2 : t.isEmpty = false := by simpa using ht
        clear h0 h35 ht
        go_enter Tryz.func90, Tryz.ntmps90
        go_wp2_with fail
        refine (HI.out _).mono ?_
        rintro e w' ⟨rfl, rfl⟩
        rw [e35]
        go_wp2_with fail
        go_ret
        exact ⟨by rw [HD.out]; rfl, below_alloc _ _⟩
    · have HD : Hid (dText ⟨2, n, t⟩ = []) := by show _ = _; unfold dText; simp [hn]
      have hb : (n == 0) = false := by rw [beq_eq_false_iff_ne]; exact hn
      clear h0 h35 hn
      go_enter Tryz.func90, Tryz.ntmps90
      go_wp2_with fail
      refine (HI.out _).mono ?_
      rintro e w' ⟨rfl, rfl⟩
      rw [e35]
      go_wp2_with fail
      go_ret
      exact ⟨by rw [HD.out]; rfl, below_alloc _ _⟩
  · exact absurd ⟨by omega, by omega⟩ h35
  · exact absurd ⟨by omega, by omega⟩ h35
  · exact absurd ⟨by omega, by omega⟩ h35
  · by_cases hn : n = 0
    · subst hn
      by_cases ht : t = []
      · subst ht
        clear h0 h35
        go_enter Tryz.func90, Tryz.ntmps90
        go_wp2_with fail
        refine (HI.out _).mono ?_
        rintro e w' ⟨rfl, rfl⟩
        rw [e35]
        go_wp2_with fail
        go_ret
        exact ⟨rfl, below_alloc _ _⟩
      · have HD : Hid (dText ⟨6, 0, t⟩ = []) := by show _ = _; unfold dText; simp [ht]
        have ht2 : t.isEmpty = false := by simpa using ht
        clear h0 h35 ht
        go_enter Tryz.func90, Tryz.ntmps90
        go_wp2_with fail
        refine (HI.out _).mono ?_
        rintro e w' ⟨rfl, rfl⟩
        rw [e35]
        go_wp2_with fail
        go_ret
        exact ⟨by rw [HD.out]; rfl, below_alloc _ _⟩
    · have HD : Hid (dText ⟨6, n, t⟩ = []) := by show _ = _; unfold dText; simp [hn]
      have hb : (n == 0) = false := by rw [beq_eq_false_iff_ne]; exact hn
      clear h0 h35 hn
      go_enter Tryz.func90, Tryz.ntmps90
      go_wp2_with fail
      refine (HI.out _).mono ?_
      rintro e w' ⟨rfl, rfl⟩
      rw [e35]
      go_wp2_with fail
      go_ret
      exact ⟨by rw [HD.out]; rfl, below_alloc _ _⟩
  · have HD : Hid (dText ⟨k, n, t⟩ = []) := by
      show _ = _
      unfold dText
      rw [if_neg (show ¬ k = 0 by omega), if_neg (show ¬ (3 ≤ k ∧ k ≤ 5) by omega), if_neg (show ¬ (k = 1 ∨ k = 2 ∨ k = 6) by omega)]
    clear h0 h35 hw h7
    go_enter Tryz.func90, Tryz.ntmps90
    go_wp2_with fail
    refine (HI.out _).mono ?_
    rintro e w' ⟨rfl, rfl⟩
    rw [e35]
    go_wp2_with fail
    go_ret
    exact ⟨by rw [HD.out]; rfl, below_alloc _ _⟩
theorem sDeed_write (t : Txt) (w : World) (hl : t.length ≤ 4611686018427387904) :
    Calls Tryz.prog 90 #[dv ⟨0, 0, t⟩] w fun e w' => e = .returned (.string (bs (dText ⟨0, 0, t⟩))) ∧ Below w.heap.size w w' := by
  have hto := bs_nilB
  have HI := Lib.hid (fun w => l1In_any 0 3 5 w)
  have e35 : inB 0 3 5 = false := rfl
  unfold dv
  have HD := Lib.hid (@dText_write t)
  have HP := Lib.hid (fun w => sPlain t hl w)
  have z1 : (bs t).size ≤ 4611686018427387904 := by rw [bs_size]; exact hl
  have z2 : ({ data := #[119, 114, 105, 116, 101, 32] } : ByteArray).size = 6 := rfl
  cases hp : plainT t with
  | true =>
    have HPT := Lib.hid hp
    rw [hp] at HP
    clear hp
    go_enter Tryz.func90, Tryz.ntmps90
    go_wp2_with fail
    refine (HP.out _).mono ?_
    rintro e w1 ⟨rfl, rfl⟩
    go_wp2_with fail
    go_ret
    refine ⟨?_, below_alloc _ _⟩
    rw [HD.out, HPT.out]
    exact congrArg (fun s => Ending.returned (.string s)) (write_app t)
  | false =>
    have HPT := Lib.hid hp
    rw [hp] at HP
    clear hp
    go_enter Tryz.func90, Tryz.ntmps90
    go_wp2_with fail
    refine (HP.out _).mono ?_
    rintro e w1 ⟨rfl, rfl⟩
    go_wp2_with fail
    refine (HI.out _).mono ?_
    rintro e w' ⟨rfl, rfl⟩
    rw [e35]
    go_wp2_with fail
    go_ret
    exact ⟨by rw [HD.out, HPT.out]; rfl, below_alloc _ _⟩
end Go.Proofs.YtnomlkkhkacajaaGreatDoor
namespace Go.Proofs.YtnomlkkhkacajaaGreatDoor
open Go.RowKit
open Go.Lib hiding intOf

theorem dText_num {k n : Int} {t : Txt} (h : 3 ≤ k ∧ k ≤ 5) : dText ⟨k, n, t⟩ = if t = [] ∧ -99 ≤ n ∧ n ≤ 99 then wordOf k ++ 32 :: itoa n else [] := by
  unfold dText
  rw [if_neg (show ¬ k = 0 by omega), if_pos (show 3 ≤ k ∧ k ≤ 5 from h)]
def wordL (k : Nat) : Txt := if k = 0 then [109, 111, 118, 101, 32] else if k = 1 then [115, 104, 105, 102, 116, 32] else [119, 105, 110, 100, 111, 119, 32]
def litW : Array Value := #[.string { data := #[109, 111, 118, 101, 32] }, .string { data := #[115, 104, 105, 102, 116, 32] }, .string { data := #[119, 105, 110, 100, 111, 119, 32] }]
theorem box_drew {w w1 : World} (vs : Array Value) (E : TypeId) (hb : Below ((w.alloc (.cells vs E)).drew).heap.size (w.alloc (.cells vs E)).drew w1) {j : Nat} {v : Value} (hj : vs[j]? = some v) :
    w1.cell? ⟨w.heap.size, j, none⟩ = some v := box_cell (w := w) vs E ⟨hb.os, hb.tape, hb.output, hb.size, hb.block⟩ hj
theorem lit_drew2 {w w1 : World} {o : Obj} (us : Array Value) (F : TypeId) (hb : Below (((w.alloc o).alloc (.cells us F)).drew).heap.size ((w.alloc o).alloc (.cells us F)).drew w1) {j : Nat} {v : Value} (hj : us[j]? = some v) :
    w1.cell? ⟨w.heap.size + 1, j, none⟩ = some v := by
  have h := box_drew (w := w.alloc o) us F hb hj
  have e : (w.alloc o).heap.size = w.heap.size + 1 := by show (w.heap.push o).size = _; rw [Array.size_push]
  rw [e] at h
  exact h
theorem box_drew2 {w w1 : World} {o : Obj} (vs : Array Value) (E : TypeId) (hb : Below (((w.alloc (.cells vs E)).alloc o).drew).heap.size ((w.alloc (.cells vs E)).alloc o).drew w1) {j : Nat} {v : Value} (hj : vs[j]? = some v) :
    w1.cell? ⟨w.heap.size, j, none⟩ = some v := by
  refine (hb.cell (p := ⟨w.heap.size, j, none⟩) (by show w.heap.size < ((w.heap.push _).push _).size; rw [Array.size_push, Array.size_push]; omega)).trans ?_
  rw [World.cell?_drew]
  refine (World.cell?_alloc_lt _ _ _ (by show w.heap.size < (w.heap.push _).size; rw [Array.size_push]; omega)).trans ?_
  rw [World.cell?_alloc_at _ _ _ _ rfl]
  exact hj
theorem below_drew2 {w w1 : World} {o o' : Obj} (hb : Below (((w.alloc o).alloc o').drew).heap.size ((w.alloc o).alloc o').drew w1) : Below w.heap.size w w1 := by
  have h1 := below_of_drew hb
  exact (below_alloc w o).trans (((below_alloc (w.alloc o) o').trans (h1.mono (below_alloc (w.alloc o) o').size)).mono (below_alloc w o).size)
theorem below_drew1 {w w1 : World} {o : Obj} (hb : Below ((w.alloc o).drew).heap.size (w.alloc o).drew w1) : Below w.heap.size w w1 :=
  (below_alloc w o).trans ((below_of_drew hb).mono (below_alloc w o).size)
theorem num_app (k : Nat) (n : Int) (hk : k < 3) : bs (wordL k) ++ bs (itoa n) = bs (wordOf (k + 3 : Nat) ++ 32 :: itoa n) := by
  rw [bs_append]
  have : k = 0 ∨ k = 1 ∨ k = 2 := by omega
  rcases this with rfl | rfl | rfl <;> rfl

set_option maxHeartbeats 4000000 in
set_option maxRecDepth 100000 in
theorem sDeed_num (k n : Int) (t : Txt) (hk : 3 ≤ k ∧ k ≤ 5) (w : World) :
    Calls Tryz.prog 90 #[dv ⟨k, n, t⟩] w fun e w' => e = .returned (.string (bs (dText ⟨k, n, t⟩))) ∧ Below w.heap.size w w' := by
  have hto := bs_nilB
  have HI := Lib.hid (fun w => l1In_any k 3 5 w)
  have HJ := Lib.hid (fun w => l1In_any n (-99) 99 w)
  have e35 : inB k 3 5 = true := inB_true hk.1 hk.2
  have HD := Lib.hid (@dText_num k n t hk)
  have k0 : (k == 0) = false := by rw [beq_eq_false_iff_ne]; omega
  have k1 : (k == 1) = false := by rw [beq_eq_false_iff_ne]; omega
  have k2 : (k == 2) = false := by rw [beq_eq_false_iff_ne]; omega
  have k6 : (k == 6) = false := by rw [beq_eq_false_iff_ne]; omega
  unfold dv
  by_cases ht : t = []
  · subst ht
    by_cases hn : -99 ≤ n ∧ n ≤ 99
    · have en : inB n (-99) 99 = true := inB_true hn.1 hn.2
      have HDD : Hid (dText ⟨k, n, []⟩ = wordOf k ++ 32 :: itoa n) := by show _ = _; rw [HD.out, if_pos ⟨rfl, hn⟩]
      have K : Hid (∀ w, Calls Tryz.prog 52 #[.int .i64 n] w fun e w' => e = .returned (.string (bs (itoa n))) ∧ Below w.heap.size w w') := fun w => sNumber n (by omega) (by omega) w
      have hz : (bs (itoa n)).size ≤ 21 := by rw [bs_size]; exact itoa_small n (by omega) (by omega)
      clear HD
      have h3 : k = 3 ∨ k = 4 ∨ k = 5 := by omega
      clear hn hk
      have y5 : ¬ 9223372036854775807 < 5 + (bs (itoa n)).size := by omega
      have y6 : ¬ 9223372036854775807 < 6 + (bs (itoa n)).size := by omega
      have y7 : ¬ 9223372036854775807 < 7 + (bs (itoa n)).size := by omega
      have w0 : IntKind.i64.wrap 0 = 0 := IntWalk.i64_in _ (by omega)
      have w1' : IntKind.i64.wrap 1 = 1 := IntWalk.i64_in _ (by omega)
      have w2' : IntKind.i64.wrap 2 = 2 := IntWalk.i64_in _ (by omega)
      rcases h3 with rfl | rfl | rfl
      · go_enter Tryz.func90, Tryz.ntmps90
        go_wp2_with fail
        refine (HI.out _).mono ?_
        rintro e w' ⟨rfl, rfl⟩
        rw [e35]
        go_wp2_with fail
        refine (HJ.out _).mono ?_
        rintro e w' ⟨rfl, rfl⟩
        rw [en]
        go_wp2_with fail
        go_region_law ((go_simp; go_at_call 52; (with_reducible refine Calls.mono (K.out _) ?_); rintro e w1 ⟨rfl, hb⟩; first | (have c0 := box_drew2 _ _ hb (j := 0) rfl; have c1 := box_drew2 _ _ hb (j := 1) rfl; have d0 := lit_drew2 _ _ hb (j := 0) rfl; have HB := Lib.hid (below_drew2 hb); clear hb) | (have c0 := box_drew _ _ hb (j := 0) rfl; have c1 := box_drew _ _ hb (j := 1) rfl; have hlt : w.heap.size < w1.heap.size := (by have := hb.size; simp at this; omega); have k0' := fun o => (World.cell?_alloc_lt w1 o ⟨w.heap.size, 0, none⟩ hlt).trans c0; have k1' := fun o => (World.cell?_alloc_lt w1 o ⟨w.heap.size, 1, none⟩ hlt).trans c1; have HB := Lib.hid (below_drew1 hb); clear hb)))
        all_goals
          go_wp2_with fail
          go_ret
          refine ⟨?_, ?_⟩
          · rw [HDD.out]
            exact congrArg (fun s => Ending.returned (.string s)) (num_app 0 n (by omega))
          · first | exact HB.out | exact HB.out.alloc HB.out.size _
      · go_enter Tryz.func90, Tryz.ntmps90
        go_wp2_with fail
        refine (HI.out _).mono ?_
        rintro e w' ⟨rfl, rfl⟩
        rw [e35]
        go_wp2_with fail
        refine (HJ.out _).mono ?_
        rintro e w' ⟨rfl, rfl⟩
        rw [en]
        go_wp2_with fail
        go_region_law ((go_simp; go_at_call 52; (with_reducible refine Calls.mono (K.out _) ?_); rintro e w1 ⟨rfl, hb⟩; first | (have c0 := box_drew2 _ _ hb (j := 0) rfl; have c1 := box_drew2 _ _ hb (j := 1) rfl; have d0 := lit_drew2 _ _ hb (j := 1) rfl; have HB := Lib.hid (below_drew2 hb); clear hb) | (have c0 := box_drew _ _ hb (j := 0) rfl; have c1 := box_drew _ _ hb (j := 1) rfl; have hlt : w.heap.size < w1.heap.size := (by have := hb.size; simp at this; omega); have k0' := fun o => (World.cell?_alloc_lt w1 o ⟨w.heap.size, 0, none⟩ hlt).trans c0; have k1' := fun o => (World.cell?_alloc_lt w1 o ⟨w.heap.size, 1, none⟩ hlt).trans c1; have HB := Lib.hid (below_drew1 hb); clear hb)))
        all_goals
          go_wp2_with fail
          go_ret
          refine ⟨?_, ?_⟩
          · rw [HDD.out]
            exact congrArg (fun s => Ending.returned (.string s)) (num_app 1 n (by omega))
          · first | exact HB.out | exact HB.out.alloc HB.out.size _
      · go_enter Tryz.func90, Tryz.ntmps90
        go_wp2_with fail
        refine (HI.out _).mono ?_
        rintro e w' ⟨rfl, rfl⟩
        rw [e35]
        go_wp2_with fail
        refine (HJ.out _).mono ?_
        rintro e w' ⟨rfl, rfl⟩
        rw [en]
        go_wp2_with fail
        go_region_law ((go_simp; go_at_call 52; (with_reducible refine Calls.mono (K.out _) ?_); rintro e w1 ⟨rfl, hb⟩; first | (have c0 := box_drew2 _ _ hb (j := 0) rfl; have c1 := box_drew2 _ _ hb (j := 1) rfl; have d0 := lit_drew2 _ _ hb (j := 2) rfl; have HB := Lib.hid (below_drew2 hb); clear hb) | (have c0 := box_drew _ _ hb (j := 0) rfl; have c1 := box_drew _ _ hb (j := 1) rfl; have hlt : w.heap.size < w1.heap.size := (by have := hb.size; simp at this; omega); have k0' := fun o => (World.cell?_alloc_lt w1 o ⟨w.heap.size, 0, none⟩ hlt).trans c0; have k1' := fun o => (World.cell?_alloc_lt w1 o ⟨w.heap.size, 1, none⟩ hlt).trans c1; have HB := Lib.hid (below_drew1 hb); clear hb)))
        all_goals
          go_wp2_with fail
          go_ret
          refine ⟨?_, ?_⟩
          · rw [HDD.out]
            exact congrArg (fun s => Ending.returned (.string s)) (num_app 2 n (by omega))
          · first | exact HB.out | exact HB.out.alloc HB.out.size _
    · have HDD : Hid (dText ⟨k, n, []⟩ = []) := by show _ = _; rw [HD.out, if_neg (fun h => hn h.2)]
      have en : inB n (-99) 99 = false := by rw [inB_false_iff]; omega
      clear HD hn hk
      go_enter Tryz.func90, Tryz.ntmps90
      go_wp2_with fail
      refine (HI.out _).mono ?_
      rintro e w' ⟨rfl, rfl⟩
      rw [e35]
      go_wp2_with fail
      refine (HJ.out _).mono ?_
      rintro e w' ⟨rfl, rfl⟩
      rw [en]
      go_wp2_with fail
      go_ret
      exact ⟨by rw [HDD.out]; rfl, below_alloc _ _⟩
  · have HDD : Hid (dText ⟨k, n, t⟩ = []) := by show _ = _; rw [HD.out, if_neg (fun h => ht h.1)]
    have ht2 : t.isEmpty = false := by simpa using ht
    clear HD ht hk
    go_enter Tryz.func90, Tryz.ntmps90
    go_wp2_with fail
    refine (HI.out _).mono ?_
    rintro e w' ⟨rfl, rfl⟩
    rw [e35]
    go_wp2_with fail
    go_ret
    exact ⟨by rw [HDD.out]; rfl, below_alloc _ _⟩
/-- The text of a deed, by the reference. -/
theorem sDeedText (a : Dd) (hl : a.text.length ≤ 4611686018427387904) (w : World) :
    Calls Tryz.prog 90 #[dv a] w fun e w' => e = .returned (.string (bs (dText a))) ∧ Below w.heap.size w w' := by
  obtain ⟨k, n, t⟩ := a
  by_cases h : 3 ≤ k ∧ k ≤ 5
  · exact sDeed_num k n t h w
  · by_cases h0 : k = 0 ∧ n = 0
    · obtain ⟨rfl, rfl⟩ := h0
      exact sDeed_write t w hl
    · exact sDeed_other k n t w h h0
end Go.Proofs.YtnomlkkhkacajaaGreatDoor
namespace Go.Proofs.YtnomlkkhkacajaaGreatDoor
open Go.RowKit
open Go.Lib hiding intOf

/-- The cells of a deed. -/
def dcs (a : Dd) : List Value := [.int .i64 a.kind, .int .i64 a.num, .string (bs a.text)]
theorem dcs_len (ds : List Dd) : (ds.flatMap dcs).length = ds.length * 3 := by
  induction ds with
  | nil => rfl
  | cons a r ih => rw [List.flatMap_cons, List.length_append, ih, List.length_cons]; show 3 + _ = _; omega
theorem dcs_get : ∀ {ds : List Dd} {k : Nat} {a : Dd}, ds[k]? = some a → (ds.flatMap dcs)[k * 3]? = some (.int .i64 a.kind) ∧ (ds.flatMap dcs)[k * 3 + 1]? = some (.int .i64 a.num) ∧ (ds.flatMap dcs)[k * 3 + 2]? = some (.string (bs a.text))
  | [], k, a, h => by simp at h
  | b :: r, 0, a, h => by
    simp at h; subst h
    exact ⟨rfl, rfl, rfl⟩
  | b :: r, k + 1, a, h => by
    have := dcs_get (ds := r) (k := k) (a := a) (by simpa using h)
    have e : ∀ j, ((b :: r).flatMap dcs)[3 + j]? = (r.flatMap dcs)[j]? := fun j => by
      rw [List.flatMap_cons, List.getElem?_append_right (by show 3 ≤ _; omega)]
      show _[3 + j - 3]? = _
      congr 1; omega
    refine ⟨?_, ?_, ?_⟩
    · rw [show (k + 1) * 3 = 3 + k * 3 by omega, e]; exact this.1
    · rw [show (k + 1) * 3 + 1 = 3 + (k * 3 + 1) by omega, e]; exact this.2.1
    · rw [show (k + 1) * 3 + 2 = 3 + (k * 3 + 2) by omega, e]; exact this.2.2
/-- A list of deeds of the call's own. -/
def Od (w : World) (B : Nat) (v : Value) (n : Nat) (ds : List Dd) : Prop := w.ownsRow B 28 3 v n (ds.flatMap dcs)
section
variable {w w' : World} {B n : Nat} {v : Value} {ds : List Dd}
theorem Od.len (h : Od w B v n ds) : ds.length = n := by have h1 := h.1; rw [dcs_len] at h1; omega
theorem Od.nil_ (w : World) (B : Nat) : Od w B (.slice none 0 0) 0 [] := World.ownsRow_nil w B 28 3
theorem Od.shape (h : Od w B v n ds) : ∃ A c, v = .slice A n c := by
  rcases h.2 with ⟨rfl, rfl⟩ | ⟨g, cap, cur, rfl, _⟩
  · exact ⟨_, _, rfl⟩
  · exact ⟨_, _, rfl⟩
theorem Od.below (h : Od w B v n ds) (hb : Below w.heap.size w w') : Od w' B v n ds := by
  refine ⟨h.1, ?_⟩
  rcases h.2 with hn | ⟨g, cap, cur, hv, hg, hh, r⟩
  · exact .inl hn
  · exact .inr ⟨g, cap, cur, hv, hg, by rw [hb.block g (Array.getElem?_eq_some_iff.1 hh).1]; exact hh, r⟩
theorem Od.mono (h : Od w B v n ds) {B' : Nat} (hB : B' ≤ B) : Od w B' v n ds := by
  refine ⟨h.1, ?_⟩
  rcases h.2 with hn | ⟨g, cap, cur, hv, hg, r⟩
  · exact .inl hn
  · exact .inr ⟨g, cap, cur, hv, by omega, r⟩
/-- A slice value that reads ds a list of deeds. -/
def Ds (w : World) (A : Option Addr) (n : Nat) (ds : List Dd) : Prop :=
  ds.length = n ∧ (n = 0 ∨ ∃ b o, A = some ⟨b, o, none⟩ ∧ b < w.heap.size ∧ ∀ k a, ds[k]? = some a → w.cell? ⟨b, o + k * 3, none⟩ = some (.int .i64 a.kind) ∧ w.cell? ⟨b, o + k * 3 + 1, none⟩ = some (.int .i64 a.num) ∧ w.cell? ⟨b, o + k * 3 + 2, none⟩ = some (.string (bs a.text)))
theorem Od.toDs {A : Option Addr} {c : Nat} (h : Od w B (.slice A n c) n ds) : Ds w A n ds := by
  refine ⟨h.len, ?_⟩
  have h' := h
  rcases h.2 with ⟨hv, hn⟩ | ⟨g, cap, cur, hv, hg, hh, r⟩
  · exact .inl hn
  · injection hv with h1 _ h3
    subst h1
    subst h3
    refine .inr ⟨g, 0, rfl, (Array.getElem?_eq_some_iff.1 hh).1, fun k a ha => ?_⟩
    have hk : k < n := by
      have := (List.getElem?_eq_some_iff.1 ha).1
      have := h'.len
      omega
    obtain ⟨e0, e1, e2⟩ := dcs_get ha
    rw [Nat.zero_add, World.ownsRow.cellAt h' _ (by omega), World.ownsRow.cellAt h' _ (by omega), World.ownsRow.cellAt h' _ (by omega)]
    exact ⟨e0, e1, e2⟩
theorem Ds.below {A : Option Addr} (h : Ds w A n ds) (hb : Below w.heap.size w w') : Ds w' A n ds := by
  refine ⟨h.1, ?_⟩
  rcases h.2 with h0 | ⟨b, o, rfl, hlt, hc⟩
  · exact .inl h0
  · refine .inr ⟨b, o, rfl, Nat.lt_of_lt_of_le hlt hb.size, fun k a ha => ?_⟩
    obtain ⟨c0, c1, c2⟩ := hc k a ha
    exact ⟨(hb.cell (p := ⟨b, _, none⟩) hlt).trans c0, (hb.cell (p := ⟨b, _, none⟩) hlt).trans c1, (hb.cell (p := ⟨b, _, none⟩) hlt).trans c2⟩
theorem Ds.at_ {A : Option Addr} {k : Nat} (h : Ds w A n ds) (hk : k < n) :
    ∃ b o a, A = some ⟨b, o, none⟩ ∧ b < w.heap.size ∧ ds[k]? = some a ∧ w.cell? ⟨b, o + k * 3, none⟩ = some (.int .i64 a.kind) ∧ w.cell? ⟨b, o + k * 3 + 1, none⟩ = some (.int .i64 a.num) ∧ w.cell? ⟨b, o + k * 3 + 2, none⟩ = some (.string (bs a.text)) := by
  have hl := h.1
  rcases h.2 with h0 | ⟨b, o, hA, hlt, hc⟩
  · omega
  · exact ⟨b, o, ds[k]'(by omega), hA, hlt, List.getElem?_eq_getElem (by omega), hc k _ (List.getElem?_eq_getElem (by omega))⟩
end
/-- The type of a list of deeds. -/
structure ElemD (P : Program) (T : TypeId) : Prop where
  und : P.underlying T = some (.slice 28)
  info : ∃ i z, P.info? 28 = some i ∧ i.zero = some z ∧ i.size = 3 ∧ i.bytes = 32 ∧ z.cells.size = 3
theorem Tryz.eDd : ElemD Tryz.prog 37 := by
  refine ⟨Tryz.underlying37, ?_⟩
  have h : (Tryz.prog.info? 28).map (fun i => (i.zero, i.size, i.bytes)) = some (some (.agg #[.int .i64 0, .int .i64 0, .string ⟨#[]⟩]), 3, 32) := by kernel_rfl
  obtain ⟨i, h1, h2, h3, h4⟩ := info_parts h
  exact ⟨i, _, h1, h2, h3, h4, rfl⟩
theorem dcs_one (d : Dd) : ∀ u ∈ dcs d, u.oneCell' = true := by
  intro u hu
  simp [dcs] at hu
  rcases hu with rfl | rfl | rfl <;> rfl
section
variable {P : Program} {w : World} {ops : Array Oper} {rest : List Oper} {o : Oper} {a : Act} {Q : Exit → Act → World → Prop}
/-- append(out, a deed), where all but the row itself stays. -/
theorem wl_appDd (B : Nat) (d : Dd) (hB : B ≤ w.heap.size) (hgd : o.guard = none) (s x : Operand) (t : TypeId) (ho : o.op = .call { callee := .builtin .append, args := #[s, x], argTypes := #[t, t] })
    (he : ElemD P t) (v : Value) (n : Nat) (ds : List Dd) (hs : a.eval s = v) (hown : Od w B v n ds)
    (hx : a.eval x = .slice (some ⟨w.heap.size, 0, none⟩) 1 1) (h63 : n + 1 ≤ maxLen) (hbytes : (n + 1) * 32 ≤ 140737488355328)
    (h : ∀ v' w', Od w' B v' (n + 1) (ds ++ [d]) → Below B w w' → (∀ b, b < w.heap.size → v.ownBlock ≠ some b → w'.heap[b]? = w.heap[b]?) → wpList P ops Q rest (a.put o.dst v') w') : wpList P ops Q (o :: rest) a (w.alloc (.cells #[.int .i64 d.kind, .int .i64 d.num, .string (bs d.text)] 28)) := by
  obtain ⟨i, z, h2, h3, h4, h5, h6⟩ := he.info
  refine wpList_append_own (w.alloc (.cells #[.int .i64 d.kind, .int .i64 d.num, .string (bs d.text)] 28)) hgd s x t ho B 28 i z 3 32 he.und h2 h3 h4 h5 h6 (by decide) v n _ hs (World.ownsRow.alloc hown _) ⟨w.heap.size, 0, none⟩ 1 1 (dcs d) hx rfl ?_ (dcs_one d) h63 hbytes ?_ ?_
  · intro j u' hj
    rw [add_none0, World.cell?_alloc_at _ _ _ _ rfl]
    simpa [dcs] using hj
  · simp
    omega
  · intro v' w' h1 h2 _
    refine h v' w' ?_ (((Below.refl B w).alloc hB _).grown h2 (by simp; omega) ?_) fun b hb hne => ?_
    · unfold Od
      rw [List.flatMap_append, List.flatMap_cons, List.flatMap_nil, List.append_nil]
      exact h1
    · intro k hk
      exact (World.ownsRow.lt hown k hk).1
    · rw [h2.block b (by simp; omega) (fun e => hne e.symm)]
      exact (World.grownBy_alloc w _ none).block b hb (by simp)
end
/-- A new list of deeds, out of a literal. -/
theorem Od.lit {w : World} (ds : List Dd) (hm : ds.length ≤ maxLen) (cs : Array Value) (hcs : cs.toList = ds.flatMap dcs) : Od (w.alloc (.cells cs 28)) w.heap.size (.slice (some ⟨w.heap.size, 0, none⟩) ds.length ds.length) ds.length ds := by
  have h := World.ownsRow_lit (e := 28) (size := 3) w cs ds.length (Nat.le_refl _) hm (by have : cs.size = cs.toList.length := rfl; rw [this, hcs, dcs_len])
  unfold Od
  rw [← hcs]
  exact h
end Go.Proofs.YtnomlkkhkacajaaGreatDoor
namespace Go.Proofs.YtnomlkkhkacajaaGreatDoor
open Go.RowKit

theorem box_frozen {w w1 : World} (vs : Array Value) (E : TypeId) (hb : Below (w.alloc (.cells vs E)).heap.size (w.alloc (.cells vs E)) w1) (j : Nat) : w1.frozen? ⟨w.heap.size, j, none⟩ = false := by
  refine (hb.frozen (p := ⟨w.heap.size, j, none⟩) (by show w.heap.size < (w.heap.push _).size; rw [Array.size_push]; exact Nat.lt_succ_self _)).trans ?_
  simp
theorem keep_cell {w w1 : World} {o : Obj} (hb : Below (w.alloc o).heap.size (w.alloc o) w1) {p j : Nat} {v : Value} (hp : p < w.heap.size) (hv : w.cell? ⟨p, j, none⟩ = some v) : w1.cell? ⟨p, j, none⟩ = some v := by
  refine (hb.cell (p := ⟨p, j, none⟩) (by show p < (w.heap.push _).size; rw [Array.size_push]; omega)).trans ?_
  exact (World.cell?_alloc_lt _ _ _ hp).trans hv
theorem keep_frozen {w w1 : World} {o : Obj} (hb : Below (w.alloc o).heap.size (w.alloc o) w1) {p j : Nat} (hp : p < w.heap.size) (hv : w.frozen? ⟨p, j, none⟩ = false) : w1.frozen? ⟨p, j, none⟩ = false := by
  refine (hb.frozen (p := ⟨p, j, none⟩) (by show p < (w.heap.push _).size; rw [Array.size_push]; omega)).trans ?_
  refine Eq.trans ?_ hv
  exact frozen_of_block (w := w) (w' := w.alloc o) (a := ⟨p, j, none⟩) (by show (w.heap.push o)[p]? = w.heap[p]?; rw [Array.getElem?_push, if_neg (by omega)])
/-- A block of three cells that is a deed, and may be written. -/
structure DAt (w : World) (b : Nat) (k n : Int) (t : ByteArray) : Prop where
  c0 : w.cell? ⟨b, 0, none⟩ = some (.int .i64 k)
  c1 : w.cell? ⟨b, 1, none⟩ = some (.int .i64 n)
  c2 : w.cell? ⟨b, 2, none⟩ = some (.string t)
  f0 : w.frozen? ⟨b, 0, none⟩ = false
  f1 : w.frozen? ⟨b, 1, none⟩ = false
  f2 : w.frozen? ⟨b, 2, none⟩ = false
  lt : b < w.heap.size
theorem DAt.box {w w1 : World} {k n : Int} {t : ByteArray} {E : TypeId} (hb : Below (w.alloc (.cells #[.int .i64 k, .int .i64 n, .string t] E)).heap.size (w.alloc (.cells #[.int .i64 k, .int .i64 n, .string t] E)) w1) : DAt w1 w.heap.size k n t :=
  ⟨box_cell _ E hb rfl, box_cell _ E hb rfl, box_cell _ E hb rfl, box_frozen _ E hb 0, box_frozen _ E hb 1, box_frozen _ E hb 2, by have := hb.size; simp at this; omega⟩
theorem DAt.keep {w w1 : World} {o : Obj} {b : Nat} {k n : Int} {t : ByteArray} (h : DAt w b k n t) (hb : Below (w.alloc o).heap.size (w.alloc o) w1) : DAt w1 b k n t :=
  ⟨keep_cell hb h.lt h.c0, keep_cell hb h.lt h.c1, keep_cell hb h.lt h.c2, keep_frozen hb h.lt h.f0, keep_frozen hb h.lt h.f1, keep_frozen hb h.lt h.f2, by have h1 := hb.size; have h2 := h.lt; simp at h1; omega⟩
theorem DAt.below {w w1 : World} {b : Nat} {k n : Int} {t : ByteArray} (h : DAt w b k n t) (hb : Below w.heap.size w w1) : DAt w1 b k n t :=
  ⟨(hb.cell (p := ⟨b, 0, none⟩) h.lt).trans h.c0, (hb.cell (p := ⟨b, 1, none⟩) h.lt).trans h.c1, (hb.cell (p := ⟨b, 2, none⟩) h.lt).trans h.c2,
    (hb.frozen (p := ⟨b, 0, none⟩) h.lt).trans h.f0, (hb.frozen (p := ⟨b, 1, none⟩) h.lt).trans h.f1, (hb.frozen (p := ⟨b, 2, none⟩) h.lt).trans h.f2, Nat.lt_of_lt_of_le h.lt hb.size⟩
theorem DAt.far {w : World} {b b' j : Nat} {k n : Int} {t : ByteArray} (h : DAt w b k n t) (hne : b' ≠ b) (x : Value) : DAt (w.setCell ⟨b', j, none⟩ x) b k n t := by
  have e : ∀ o, (w.setCell ⟨b', j, none⟩ x).cell? ⟨b, o, none⟩ = w.cell? ⟨b, o, none⟩ := fun o => World.cell?_setCell_other _ _ _ _ (by intro e; injection e with e1; exact hne e1)
  exact ⟨(e 0).trans h.c0, (e 1).trans h.c1, (e 2).trans h.c2, by rw [World.frozen?_setCell]; exact h.f0, by rw [World.frozen?_setCell]; exact h.f1, by rw [World.frozen?_setCell]; exact h.f2, by rw [World.setCell]; simpa using h.lt⟩
theorem DAt.num {w : World} {b : Nat} {k n : Int} {t : ByteArray} (h : DAt w b k n t) (m : Int) : DAt (w.setCell ⟨b, 1, none⟩ (.int .i64 m)) b k m t := by
  have e : ∀ o, o ≠ 1 → (w.setCell ⟨b, 1, none⟩ (.int .i64 m)).cell? ⟨b, o, none⟩ = w.cell? ⟨b, o, none⟩ := fun o ho => World.cell?_setCell_other _ _ _ _ (by intro e; injection e with e1 e2; exact ho e2.symm)
  exact ⟨(e 0 (by omega)).trans h.c0, World.cell?_setCell_same' w _ _ (by rw [h.c1]; rfl), (e 2 (by omega)).trans h.c2, by rw [World.frozen?_setCell]; exact h.f0, by rw [World.frozen?_setCell]; exact h.f1, by rw [World.frozen?_setCell]; exact h.f2, by rw [World.setCell]; simpa using h.lt⟩
theorem below_set3 {B b : Nat} {w w' : World} (h : Below B w w') (hb : B ≤ b) (x y z : Value) : Below B w (((w'.setCell ⟨b, 0, none⟩ x).setCell ⟨b, 1, none⟩ y).setCell ⟨b, 2, none⟩ z) :=
  ((h.setCell (p := ⟨b, 0, none⟩) hb x).setCell (p := ⟨b, 1, none⟩) hb y).setCell (p := ⟨b, 2, none⟩) hb z
end Go.Proofs.YtnomlkkhkacajaaGreatDoor
