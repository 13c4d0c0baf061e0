/- The text of a deed, by the program. -/
import Derived.Test.YtemcdeopehdggaaDoorJ1
import Derived.Test.YtemcdeopehdggaaDoorU6
namespace Go.Proofs.YtemcdeopehdggaaDoor
open Go.RowKit
open Go.Lib hiding intOf

theorem box_cell {w w1 : World} (vs : Array Value) (E : TypeId) (hb : Below (w.alloc (.cells vs E)).heap.size (w.alloc (.cells vs E)) w1) {j : Nat} {v : Value} (hj : vs[j]? = some v) :
    w1.cell? ⟨w.heap.size, j, none⟩ = some v := by
  refine (hb.cell (p := ⟨w.heap.size, j, none⟩) (by show w.heap.size < (w.heap.push _).size; rw [Array.size_push]; exact Nat.lt_succ_self _)).trans ?_
  rw [World.cell?_alloc_at _ _ _ _ rfl]
  exact hj
theorem below_box {w w1 : World} (vs : Array Value) (E : TypeId) (hb : Below (w.alloc (.cells vs E)).heap.size (w.alloc (.cells vs E)) w1) : Below w.heap.size w w1 :=
  (below_alloc w _).trans (hb.mono (by show w.heap.size ≤ (w.heap.push _).size; rw [Array.size_push]; omega))
theorem dText_not {a : Dd} (h : okD a = false) : dText a = [] := by
  unfold okD at h
  unfold dText
  by_cases h0 : a.kind = 0
  · rw [if_pos h0] at h ⊢
    rw [if_neg]
    rintro ⟨h1, _⟩
    rw [decide_eq_false_iff_not] at h
    exact h h1
  rw [if_neg h0] at h ⊢
  by_cases h1 : a.kind = 1 ∨ a.kind = 2 ∨ a.kind = 6
  · rw [if_pos h1] at h
    rw [if_neg (by omega), if_pos h1, if_neg]
    rintro ⟨h2, h3⟩
    rw [h2, h3] at h
    cases h
  rw [if_neg h1] at h
  by_cases h2 : 3 ≤ a.kind ∧ a.kind ≤ 5
  · rw [if_pos h2] at h ⊢
    rw [if_neg]
    rintro ⟨h3, _⟩
    rw [h3] at h
    cases h
  rw [if_neg h2, if_neg h1]
theorem dText_write {t : Txt} : dText ⟨0, 0, t⟩ = if plainT t = true then wordOf 0 ++ 32 :: t else [] := by
  unfold dText
  simp
theorem dText_move {k n : Int} (h : 3 ≤ k ∧ k ≤ 5) : dText ⟨k, n, []⟩ = if -99 ≤ n ∧ n ≤ 99 then wordOf k ++ 32 :: itoa n else [] := by
  unfold dText
  simp only [show ¬ k = 0 by omega, if_false, h, and_self, if_true, true_and]
theorem dText_plain_kind {k : Int} (h : k = 1 ∨ k = 2 ∨ k = 6) : dText ⟨k, 0, []⟩ = wordOf k := by
  unfold dText
  simp only [show ¬ k = 0 by omega, if_false, show ¬ (3 ≤ k ∧ k ≤ 5) by omega, h, and_self, if_true]
theorem okD_true {a : Dd} (h : okD a = true) : (a.kind = 0 ∧ a.num = 0) ∨ ((a.kind = 1 ∨ a.kind = 2 ∨ a.kind = 6) ∧ a.num = 0 ∧ a.text = []) ∨ ((a.kind = 3 ∨ a.kind = 4 ∨ a.kind = 5) ∧ a.text = []) := by
  unfold okD at h
  split at h
  · rename_i h0; exact .inl ⟨h0, of_decide_eq_true h⟩
  · split at h
    · rename_i h1
      rw [Bool.and_eq_true] at h
      exact .inr (.inl ⟨h1, of_decide_eq_true h.1, List.isEmpty_iff.1 h.2⟩)
    · split at h
      · rename_i h2
        exact .inr (.inr ⟨by omega, List.isEmpty_iff.1 h⟩)
      · cases h
theorem sp_app (a b : Txt) : (bs a ++ { data := #[32] }) ++ bs b = bs (a ++ 32 :: b) := by
  show (bs a ++ bs [32]) ++ bs b = _
  rw [bs_append, bs_append]; simp
theorem sp_app1 (a : Txt) : bs a ++ { data := #[32] } = bs (a ++ [32]) := by
  show bs a ++ bs [32] = _
  rw [bs_append]
theorem wordOf_len (k : Int) : (wordOf k).length ≤ 6 := by
  unfold wordOf
  repeat' split
  all_goals decide

set_option maxHeartbeats 2000000 in
set_option maxRecDepth 100000 in
theorem iDeedText (a : Dd) (hl : a.text.length ≤ 4611686018427387904) (w : World) (hE : EnvT w) :
    Calls Tryd.prog 30 #[dv a] w fun e w' => e = .returned (.string (bs (dText a))) ∧ Below w.heap.size w w' := by
  have hok := fun w => iDeedOk a w
  have HO : Hid (∀ w, Calls Tryd.prog 68 #[.agg #[.int .i64 a.kind, .int .i64 a.num, .string (bs a.text)]] w fun e w' => e = .returned (.bool (okD a)) ∧ Below w.heap.size w w') := hok
  have HE := Lib.hid hE
  clear hok hE
  unfold dv
  cases hk : okD a with
  | false =>
    have HD := Lib.hid (dText_not hk)
    rw [hk] at HO
    clear hk
    go_enter Tryd.func30, Tryd.ntmps30
    go_wp2_with fail
    refine (HO.out _).mono ?_
    rintro e w1 ⟨rfl, hb⟩
    have HB := Lib.hid (below_box _ _ hb)
    clear hb
    go_wp2_with fail
    go_ret
    exact ⟨by rw [HD.out]; rfl, HB.out⟩
  | true =>
    rw [hk] at HO
    have h3 := okD_true hk
    clear hk
    obtain ⟨k, n, t⟩ := a
    simp only at h3 hl HO ⊢
    rcases h3 with ⟨rfl, rfl⟩ | ⟨h1, rfl, rfl⟩ | ⟨h1, rfl⟩
    · have HD := Lib.hid (@dText_write t)
      have HW := Lib.hid (fun w => iWord 0 w)
      have HP := Lib.hid (fun w => iPlain t hl w)
      have z1 : (bs (wordOf 0)).size = 5 := rfl
      have z2 : (bs (wordOf 0) ++ { data := #[32] }).size = 6 := by rw [sp_app1, bs_size]; rfl
      have z3 : (bs t).size ≤ 4611686018427387904 := by rw [bs_size]; exact hl
      go_enter Tryd.func30, Tryd.ntmps30
      go_wp2_with fail
      refine (HO.out _).mono ?_
      rintro e w1 ⟨rfl, hb⟩
      have c0 := box_cell _ _ hb (j := 0) rfl
      have c1 := box_cell _ _ hb (j := 1) rfl
      have c2 := box_cell _ _ hb (j := 2) rfl
      have HB := Lib.hid (below_box _ _ hb)
      clear hb
      go_wp2_with fail
      refine (HW.out _).mono ?_
      rintro e w2 ⟨rfl, rfl⟩
      go_wp2_with fail
      refine (HP.out _).mono ?_
      rintro e w3 ⟨rfl, rfl⟩
      cases hp : plainT t with
      | false =>
        have HPT := Lib.hid hp
        clear hp
        go_wp2_with fail
        go_ret
        exact ⟨by rw [HD.out, HPT.out]; rfl, HB.out⟩
      | true =>
        have HPT := Lib.hid hp
        clear hp
        go_wp2_with fail
        go_ret
        refine ⟨?_, HB.out⟩
        rw [HD.out, HPT.out]
        show Ending.returned (.string ((bs (wordOf 0) ++ { data := #[32] }) ++ bs t)) = _
        rw [sp_app]; rfl
    · have HD := Lib.hid (dText_plain_kind h1)
      have HW := Lib.hid (fun w => iWord k w)
      have HK := Lib.hid h1
      have k0 : (k == 0) = false := by rw [beq_eq_false_iff_ne]; omega
      have k3 : (k == 3) = false := by rw [beq_eq_false_iff_ne]; omega
      have k4 : (k == 4) = false := by rw [beq_eq_false_iff_ne]; omega
      have k5 : (k == 5) = false := by rw [beq_eq_false_iff_ne]; omega
      clear h1
      go_enter Tryd.func30, Tryd.ntmps30
      go_wp2_with fail
      refine (HO.out _).mono ?_
      rintro e w1 ⟨rfl, hb⟩
      have c0 := box_cell _ _ hb (j := 0) rfl
      have HB := Lib.hid (below_box _ _ hb)
      clear hb
      go_wp2_with fail
      refine (HW.out _).mono ?_
      rintro e w2 ⟨rfl, rfl⟩
      go_wp2_with fail
      go_ret
      exact ⟨by rw [HD.out]; rfl, HB.out⟩
    · have HD := Lib.hid (@dText_move k n (by omega))
      have HW := Lib.hid (fun w => iWord k w)
      have k0 : (k == 0) = false := by rw [beq_eq_false_iff_ne]; omega
      have z1 : (bs (wordOf k)).size ≤ 6 := by rw [bs_size]; exact wordOf_len k
      have z2 : (bs (wordOf k) ++ { data := #[32] }).size ≤ 7 := by
        have := wordOf_len k
        rw [sp_app1, bs_size, List.length_append]; simp; omega
      by_cases hn : -99 ≤ n ∧ n ≤ 99
      · have HN := Lib.hid hn
        obtain ⟨n1, n2⟩ := hn
        have HI := Lib.hid (fun w h => iItoa n (by omega) (by omega) w h)
        have z4 : (bs (itoa n)).size ≤ 21 := by rw [bs_size]; exact itoa_small n (by omega) (by omega)
        have m1 : ¬ n < -99 := by omega
        have m2 : ¬ 99 < n := by omega
        rcases h1 with rfl | rfl | rfl
        all_goals
          go_enter Tryd.func30, Tryd.ntmps30
          go_wp2_with fail
          refine (HO.out _).mono ?_
          rintro e w1 ⟨rfl, hb⟩
          have c0 := box_cell _ _ hb (j := 0) rfl
          have c1 := box_cell _ _ hb (j := 1) rfl
          have HB := Lib.hid (below_box _ _ hb)
          clear hb
          go_wp2_with fail
          refine (HW.out _).mono ?_
          rintro e w2 ⟨rfl, rfl⟩
          go_wp2_with fail
          refine (HI.out _ (HE.out.kp (Kp.below HB.out))).mono ?_
          rintro e w3 ⟨rfl, hb3⟩
          have HB3 : Hid (Below w.heap.size w w3) := HB.out.trans (hb3.mono HB.out.size)
          clear hb3
          go_wp2_with fail
          go_ret
          refine ⟨?_, HB3.out⟩
          rw [HD.out, if_pos HN.out]
          exact congrArg (fun s => Ending.returned (.string s)) (sp_app _ _)
      · have HN := Lib.hid hn
        by_cases h99 : n < -99
        all_goals
          first | (have m1 : n < -99 := h99) | (have m1 : ¬ n < -99 := h99; have m2 : 99 < n := (by omega))
          clear hn h99
          rcases h1 with rfl | rfl | rfl
          all_goals
            go_enter Tryd.func30, Tryd.ntmps30
            go_wp2_with fail
            refine (HO.out _).mono ?_
            rintro e w1 ⟨rfl, hb⟩
            have c0 := box_cell _ _ hb (j := 0) rfl
            have c1 := box_cell _ _ hb (j := 1) rfl
            have HB := Lib.hid (below_box _ _ hb)
            clear hb
            go_wp2_with fail
            refine (HW.out _).mono ?_
            rintro e w2 ⟨rfl, rfl⟩
            go_wp2_with fail
            go_ret
            exact ⟨by rw [HD.out, if_neg HN.out]; rfl, HB.out⟩
end Go.Proofs.YtemcdeopehdggaaDoor
