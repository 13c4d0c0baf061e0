/- Texts on the way to a law (U6, J2, J4, J5), each with its own remark. -/
import Derived.Test.YtnomlkkhkacajaaGreatDoorPC15
import Derived.Test.YtnomlkkhkacajaaGreatDoorPC04
namespace Go.Proofs.YtnomlkkhkacajaaGreatDoor
open Go.RowKit
open Go.Lib hiding intOf

theorem plain_bad {l : Txt} {k : Nat} (hk : k < l.length) (h : plainB l[k] = false) : plainT l = false := by
  unfold plainT
  rw [Bool.and_eq_false_iff]
  right
  rw [List.all_eq_false]
  exact ⟨l[k], List.getElem_mem hk, by rw [h]; decide⟩
theorem all_take_snoc {p : UInt8 → Bool} {l : Txt} {k : Nat} (hk : k < l.length) (h1 : (l.take k).all p = true) (h2 : p l[k] = true) : (l.take (k + 1)).all p = true := by
  rw [List.take_succ_eq_append_getElem hk, List.all_append, h1]
  simp [h2]
theorem plainB_no {c : UInt8} (h : c.toNat < 32 ∨ 126 < c.toNat) : plainB c = false := by
  cases h2 : plainB c with
  | false => rfl
  | true => have := plainB_iff.1 h2; omega
theorem plain_fin {l : Txt} (h : (l.take l.length).all plainB = true) (b : Bool) (hb : b = decide (l ≠ [])) : plainT l = b := by
  rw [List.take_length] at h
  unfold plainT
  rw [h, hb, Bool.and_true]

set_option maxRecDepth 100000 in
theorem sPlain (l : Txt) (hl : l.length ≤ 4611686018427387904) (w : World) : Calls Tryz.prog 121 #[.string (bs l)] w fun e w' => e = .returned (.bool (plainT l)) ∧ w' = w := by
  obtain ⟨n, hn⟩ : ∃ n, n = l.length := ⟨_, rfl⟩
  have hsz : (bs l).size = n := by rw [bs_size, hn]
  have hn2 : n ≤ 4611686018427387904 := by omega
  have HN := Lib.hid hn
  have HA : Hid (∀ (k : Nat) (_ : k < n), ∃ d : Nat, d < 256 ∧ (∀ h, ((bs l)[k]'h).toNat = d) ∧ ∀ h : k < l.length, (l[k]).toNat = d) := fun k hk =>
    ⟨(l[k]'(by omega)).toNat, UInt8.toNat_lt _, fun h => bs_get l k (by omega) h, fun _ => rfl⟩
  clear hn hl
  go_enter Tryz.func121, Tryz.ntmps121
  go_wp2_with fail
  go_loopw [3] (fun i wr => ∃ (k : Nat), k ≤ n ∧ i = .int .i64 k ∧ (l.take k).all plainB = true ∧ wr = w) (fun i _ => n - (intOf i).toNat)
  case atStart => exact ⟨0, by omega, rfl, by simp, rfl⟩
  case round =>
    obtain ⟨k, hk, rfl, hall, rfl⟩ := hrel
    have HL := Lib.hid hall
    clear hall
    by_cases hlt : k < n
    · obtain ⟨d, hd, hbk, hd2⟩ := HA.out k hlt
      have HD := Lib.hid (hd2 (by rw [← HN.out]; exact hlt))
      clear hd2
      by_cases hlo : d < 32
      · have h1 : (d : Int) < 32 := by omega
        have HP := Lib.hid (plain_bad (l := l) (k := k) (by rw [← HN.out]; exact hlt) (plainB_no (by rw [HD.out]; omega)))
        clear hlo
        go_wp2_with fail
        go_ret
        rw [HP.out]
        exact ⟨rfl, rfl⟩
      · by_cases hhi : 126 < d
        · have h1 : ¬ (d : Int) < 32 := by omega
          have h2 : 126 < (d : Int) := by omega
          have HP := Lib.hid (plain_bad (l := l) (k := k) (by rw [← HN.out]; exact hlt) (plainB_no (by rw [HD.out]; omega)))
          clear hlo hhi
          go_wp2_with fail
          go_ret
          rw [HP.out]
          exact ⟨rfl, rfl⟩
        · have h1 : ¬ (d : Int) < 32 := by omega
          have h2 : ¬ 126 < (d : Int) := by omega
          have HP := Lib.hid (all_take_snoc (l := l) (k := k) (by rw [← HN.out]; exact hlt) HL.out (plainB_iff.2 (by rw [HD.out]; omega)))
          clear hlo hhi
          go_wp2_with fail
          go_roundw
          case rel => exact ⟨k + 1, by omega, by go_num, HP.out, by trivial⟩
          case measure => simp [intOf]; omega
    · obtain rfl : k = n := by omega
      go_wp2_with fail
      go_ret
      rw [plain_fin (by rw [← HN.out]; exact HL.out) (decide (0 < k)) (by
        rw [decide_eq_decide]
        have := HN.out
        constructor
        · rintro h rfl; simp at this; omega
        · intro h; have := List.length_pos_iff.2 h; omega)]
      exact ⟨rfl, rfl⟩
set_option maxRecDepth 100000 in
theorem iPlain (l : Txt) (hl : l.length ≤ 4611686018427387904) (w : World) : Calls Tryz.prog 67 #[.string (bs l)] w fun e w' => e = .returned (.bool (plainT l)) ∧ w' = w := by
  obtain ⟨n, hn⟩ : ∃ n, n = l.length := ⟨_, rfl⟩
  have hsz : (bs l).size = n := by rw [bs_size, hn]
  have hn2 : n ≤ 4611686018427387904 := by omega
  have HN := Lib.hid hn
  have HA : Hid (∀ (k : Nat) (_ : k < n), ∃ d : Nat, d < 256 ∧ (∀ h, ((bs l)[k]'h).toNat = d) ∧ ∀ h : k < l.length, (l[k]).toNat = d) := fun k hk =>
    ⟨(l[k]'(by omega)).toNat, UInt8.toNat_lt _, fun h => bs_get l k (by omega) h, fun _ => rfl⟩
  have hto := bs_toList l
  clear hn hl
  go_enter Tryz.func67, Tryz.ntmps67
  go_wp2_with fail
  go_loopw [3, 6] (fun _ i wr => ∃ (k : Nat), k ≤ n ∧ i = .int .i64 k ∧ (l.take k).all plainB = true ∧ wr = w) (fun _ i _ => n - (intOf i).toNat)
  case atStart => exact ⟨0, by omega, rfl, by simp, rfl⟩
  case round =>
    obtain ⟨k, hk, rfl, hall, rfl⟩ := hrel
    have HL := Lib.hid hall
    clear hall
    by_cases hlt : k < n
    · obtain ⟨d, hd, hbk, hd2⟩ := HA.out k hlt
      have HD := Lib.hid (hd2 (by rw [← HN.out]; exact hlt))
      clear hd2
      by_cases hlo : d < 32
      · have h1 : (d : Int) < 32 := by omega
        have HP := Lib.hid (plain_bad (l := l) (k := k) (by rw [← HN.out]; exact hlt) (plainB_no (by rw [HD.out]; omega)))
        clear hlo
        go_wp2_with fail
        go_ret
        rw [HP.out]
        exact ⟨rfl, rfl⟩
      · by_cases hhi : 126 < d
        · have h1 : ¬ (d : Int) < 32 := by omega
          have h2 : 126 < (d : Int) := by omega
          have HP := Lib.hid (plain_bad (l := l) (k := k) (by rw [← HN.out]; exact hlt) (plainB_no (by rw [HD.out]; omega)))
          clear hlo hhi
          go_wp2_with fail
          go_ret
          rw [HP.out]
          exact ⟨rfl, rfl⟩
        · have h1 : ¬ (d : Int) < 32 := by omega
          have h2 : ¬ 126 < (d : Int) := by omega
          have HP := Lib.hid (all_take_snoc (l := l) (k := k) (by rw [← HN.out]; exact hlt) HL.out (plainB_iff.2 (by rw [HD.out]; omega)))
          clear hlo hhi
          go_wp2_with fail
          go_roundw
          case rel => exact ⟨k + 1, by omega, by go_num, HP.out, by trivial⟩
          case measure => simp [intOf]; omega
    · obtain rfl : k = n := by omega
      have HF := fun b hb => plain_fin (l := l) (by rw [← HN.out]; exact HL.out) b hb
      have HF2 := Lib.hid HF
      clear HF
      go_wp2_with fail
      go_ret
      rw [HF2.out (!l.isEmpty) (by cases l <;> rfl)]
      exact ⟨rfl, rfl⟩
/-- The text of a complex number, if it has one. -/
noncomputable def zText (z : C) : Option Txt := (tho z).map pairText
theorem itoa_small (n : Int) (h0 : -9999999 ≤ n) (h1 : n ≤ 9999999) : (itoa n).length ≤ 21 := itoa_length_le n (by omega) (by omega)
theorem pairText_len {p : Pr} (h : InR p) : (pairText p).length ≤ 43 := by
  unfold pairText
  have h1 := itoa_small p.1 h.1 h.2.1
  have h2 := itoa_small p.2 h.2.2.1 h.2.2.2
  rw [List.length_append, List.length_cons]; omega
theorem tho_inR {z : C} {p : Pr} (h : tho z = some p) : InR p := tho_bd (z := z) (a := p.1) (b := p.2) h
theorem tho_get (z : C) : InR ((tho z).getD (0, 0)) := by
  cases h : tho z with
  | none => exact ⟨by simp, by simp, by simp, by simp⟩
  | some p => exact tho_inR h
theorem bs_app3 (a b : Txt) : (bs a ++ { data := #[44] }) ++ bs b = bs (a ++ 44 :: b) := by
  show (bs a ++ bs [44]) ++ bs b = _
  rw [bs_append, bs_append]; simp

set_option maxRecDepth 100000 in
theorem sText (z : C) (w : World) : Calls Tryz.prog 60 #[cv z] w fun e w' => ∃ t, e = .returned (.tuple #[.string (bs t), .bool (zText z).isSome]) ∧ (∀ u, zText z = some u → t = u) ∧ t.length ≤ 43 ∧ Below w.heap.size w w' := by
  have hb := tho_get z
  have HP := Lib.hid (pairText_len hb)
  obtain ⟨b1, b2, b3, b4⟩ := hb
  have hm := sMilliOf z w
  have hz : (zText z).isSome = (tho z).isSome := by unfold zText; cases tho z <;> rfl
  have hu : ∀ u, zText z = some u → pairText ((tho z).getD (0, 0)) = u := by
    unfold zText
    cases tho z with
    | none => intro u h; cases h
    | some p => intro u h; cases h; rfl
  have HU := Lib.hid hu
  rw [hz]
  clear hz hu
  unfold RetT at hm
  generalize zText z = y at *
  generalize (tho z).isSome = ok at *
  generalize ((tho z).getD (0, 0)) = p at *
  have l1 : (bs (itoa p.1)).size ≤ 21 := by rw [bs_size]; exact itoa_small _ b1 b2
  have l2 : (bs (itoa p.2)).size ≤ 21 := by rw [bs_size]; exact itoa_small _ b3 b4
  have l3 : ({ data := #[44] } : ByteArray).size = 1 := rfl
  have l4 : (bs (itoa p.1) ++ { data := #[44] }).size ≤ 22 := by
    show (bs (itoa p.1) ++ bs [44]).size ≤ 22
    rw [bs_append, bs_size, List.length_append]
    rw [bs_size] at l1
    simp; omega
  have k1 := fun w => sNumber p.1 (by omega) (by omega) w
  have k2 := fun w => sNumber p.2 (by omega) (by omega) w
  have HM := Lib.hid hm
  have K1 := Lib.hid k1
  have K2 := Lib.hid k2
  clear hm k1 k2
  unfold cv at *
  obtain ⟨p1, p2⟩ := p
  simp only at *
  go_enter Tryz.func60, Tryz.ntmps60
  go_wp2_with fail
  refine HM.out.mono ?_
  rintro e w1 ⟨rfl, hd⟩
  have HD := Lib.hid hd.below
  clear hd
  go_wp2_with fail
  refine (K1.out _).mono ?_
  rintro e w2 ⟨rfl, hb2⟩
  have HB2 : Hid (Below w.heap.size w w2) := HD.out.trans (hb2.mono HD.out.size)
  clear hb2
  go_wp2_with fail
  refine (K2.out _).mono ?_
  rintro e w3 ⟨rfl, hb3⟩
  have HB3 : Hid (Below w.heap.size w w3) := HB2.out.trans (hb3.mono HB2.out.size)
  clear hb3
  go_wp2_with fail
  go_ret2
  refine ⟨pairText (p1, p2), ?_, HU.out, HP.out, HB3.out⟩
  show Ending.returned (.tuple #[.string ((bs (itoa p1) ++ { data := #[44] }) ++ bs (itoa p2)), .bool ok]) = _
  rw [bs_app3]; rfl
set_option maxRecDepth 100000 in
theorem iText (z : C) (w : World) (h : EnvT w) : Calls Tryz.prog 97 #[cv z] w fun e w' => e = .returned (.tuple #[.string (bs ((zText z).getD [])), .bool (zText z).isSome]) ∧ Below w.heap.size w w' := by
  have HE := Lib.hid h
  have hm := iMilliOf z w
  unfold RetT at hm
  have hzz : zText z = (tho z).map pairText := rfl
  have hin := @tho_inR z
  cases ht : tho z with
  | none =>
    rw [hzz]
    rw [ht] at hm ⊢
    have HM := Lib.hid hm
    clear hm hin hzz ht h
    unfold cv at *
    go_enter Tryz.func97, Tryz.ntmps97
    go_wp2_with fail
    refine HM.out.mono ?_
    rintro e w1 ⟨rfl, hd⟩
    have HD := Lib.hid hd.below
    clear hd
    go_wp2_with fail
    go_ret2
    exact ⟨rfl, HD.out⟩
  | some p =>
    rw [hzz]
    rw [ht] at hm ⊢
    obtain ⟨b1, b2, b3, b4⟩ := hin ht
    have HM := Lib.hid hm
    clear hm hin hzz ht h
    obtain ⟨p1, p2⟩ := p
    simp only [Option.getD_some] at *
    have l1 : (bs (itoa p1)).size ≤ 21 := by rw [bs_size]; exact itoa_small _ b1 b2
    have l2 : (bs (itoa p2)).size ≤ 21 := by rw [bs_size]; exact itoa_small _ b3 b4
    have l3 : ({ data := #[44] } : ByteArray).size = 1 := rfl
    have l4 : (bs (itoa p1) ++ { data := #[44] }).size ≤ 22 := by
      show (bs (itoa p1) ++ bs [44]).size ≤ 22
      rw [bs_append, bs_size, List.length_append]
      rw [bs_size] at l1
      simp; omega
    have K1 := Lib.hid (fun w h => iItoa p1 (by omega) (by omega) w h)
    have K2 := Lib.hid (fun w h => iItoa p2 (by omega) (by omega) w h)
    unfold cv at *
    go_enter Tryz.func97, Tryz.ntmps97
    go_wp2_with fail
    refine HM.out.mono ?_
    rintro e w1 ⟨rfl, hd⟩
    have HD := Lib.hid hd.below
    clear hd
    go_wp2_with fail
    refine (K1.out _ (HE.out.kp (Kp.below HD.out))).mono ?_
    rintro e w2 ⟨rfl, hb2⟩
    have HB2 : Hid (Below w.heap.size w w2) := HD.out.trans (hb2.mono HD.out.size)
    clear hb2
    go_wp2_with fail
    refine (K2.out _ (HE.out.kp (Kp.below HB2.out))).mono ?_
    rintro e w3 ⟨rfl, hb3⟩
    have HB3 : Hid (Below w.heap.size w w3) := HB2.out.trans (hb3.mono HB2.out.size)
    clear hb3
    go_wp2_with fail
    go_ret2
    refine ⟨?_, HB3.out⟩
    show Ending.returned (.tuple #[.string ((bs (itoa p1) ++ { data := #[44] }) ++ bs (itoa p2)), .bool true]) = _
    rw [bs_app3]; rfl
end Go.Proofs.YtnomlkkhkacajaaGreatDoor
namespace Go.Proofs.YtnomlkkhkacajaaGreatDoor
open Go.RowKit
open Go.Lib hiding intOf

theorem box_cell {w w1 : World} (vs : Array Value) (E : TypeId) (hb : Below (w.alloc (.cells vs E)).heap.size (w.alloc (.cells vs E)) w1) {j : Nat} {v : Value} (hj : vs[j]? = some v) :
    w1.cell? ⟨w.heap.size, j, none⟩ = some v := by
  refine (hb.cell (p := ⟨w.heap.size, j, none⟩) (by show w.heap.size < (w.heap.push _).size; rw [Array.size_push]; exact Nat.lt_succ_self _)).trans ?_
  rw [World.cell?_alloc_at _ _ _ _ rfl]
  exact hj
theorem below_box {w w1 : World} (vs : Array Value) (E : TypeId) (hb : Below (w.alloc (.cells vs E)).heap.size (w.alloc (.cells vs E)) w1) : Below w.heap.size w w1 :=
  (below_alloc w _).trans (hb.mono (by show w.heap.size ≤ (w.heap.push _).size; rw [Array.size_push]; omega))
theorem dText_not {a : Dd} (h : okD a = false) : dText a = [] := by
  unfold okD at h
  unfold dText
  by_cases h0 : a.kind = 0
  · rw [if_pos h0] at h ⊢
    rw [if_neg]
    rintro ⟨h1, _⟩
    rw [decide_eq_false_iff_not] at h
    exact h h1
  rw [if_neg h0] at h ⊢
  by_cases h1 : a.kind = 1 ∨ a.kind = 2 ∨ a.kind = 6
  · rw [if_pos h1] at h
    rw [if_neg (by omega), if_pos h1, if_neg]
    rintro ⟨h2, h3⟩
    rw [h2, h3] at h
    cases h
  rw [if_neg h1] at h
  by_cases h2 : 3 ≤ a.kind ∧ a.kind ≤ 5
  · rw [if_pos h2] at h ⊢
    rw [if_neg]
    rintro ⟨h3, _⟩
    rw [h3] at h
    cases h
  rw [if_neg h2, if_neg h1]
theorem dText_write {t : Txt} : dText ⟨0, 0, t⟩ = if plainT t = true then wordOf 0 ++ 32 :: t else [] := by
  unfold dText
  simp
theorem dText_move {k n : Int} (h : 3 ≤ k ∧ k ≤ 5) : dText ⟨k, n, []⟩ = if -99 ≤ n ∧ n ≤ 99 then wordOf k ++ 32 :: itoa n else [] := by
  unfold dText
  simp only [show ¬ k = 0 by omega, if_false, h, and_self, if_true, true_and]
theorem dText_plain_kind {k : Int} (h : k = 1 ∨ k = 2 ∨ k = 6) : dText ⟨k, 0, []⟩ = wordOf k := by
  unfold dText
  simp only [show ¬ k = 0 by omega, if_false, show ¬ (3 ≤ k ∧ k ≤ 5) by omega, h, and_self, if_true]
theorem okD_true {a : Dd} (h : okD a = true) : (a.kind = 0 ∧ a.num = 0) ∨ ((a.kind = 1 ∨ a.kind = 2 ∨ a.kind = 6) ∧ a.num = 0 ∧ a.text = []) ∨ ((a.kind = 3 ∨ a.kind = 4 ∨ a.kind = 5) ∧ a.text = []) := by
  unfold okD at h
  split at h
  · rename_i h0; exact .inl ⟨h0, of_decide_eq_true h⟩
  · split at h
    · rename_i h1
      rw [Bool.and_eq_true] at h
      exact .inr (.inl ⟨h1, of_decide_eq_true h.1, List.isEmpty_iff.1 h.2⟩)
    · split at h
      · rename_i h2
        exact .inr (.inr ⟨by omega, List.isEmpty_iff.1 h⟩)
      · cases h
theorem sp_app (a b : Txt) : (bs a ++ { data := #[32] }) ++ bs b = bs (a ++ 32 :: b) := by
  show (bs a ++ bs [32]) ++ bs b = _
  rw [bs_append, bs_append]; simp
theorem sp_app1 (a : Txt) : bs a ++ { data := #[32] } = bs (a ++ [32]) := by
  show bs a ++ bs [32] = _
  rw [bs_append]
theorem wordOf_len (k : Int) : (wordOf k).length ≤ 6 := by
  unfold wordOf
  repeat' split
  all_goals decide

set_option maxHeartbeats 2000000 in
set_option maxRecDepth 100000 in
theorem iDeedText (a : Dd) (hl : a.text.length ≤ 4611686018427387904) (w : World) (hE : EnvT w) :
    Calls Tryz.prog 30 #[dv a] w fun e w' => e = .returned (.string (bs (dText a))) ∧ Below w.heap.size w w' := by
  have hok := fun w => iDeedOk a w
  have HO : Hid (∀ w, Calls Tryz.prog 36 #[.agg #[.int .i64 a.kind, .int .i64 a.num, .string (bs a.text)]] w fun e w' => e = .returned (.bool (okD a)) ∧ Below w.heap.size w w') := hok
  have HE := Lib.hid hE
  clear hok hE
  unfold dv
  cases hk : okD a with
  | false =>
    have HD := Lib.hid (dText_not hk)
    rw [hk] at HO
    clear hk
    go_enter Tryz.func30, Tryz.ntmps30
    go_wp2_with fail
    refine (HO.out _).mono ?_
    rintro e w1 ⟨rfl, hb⟩
    have HB := Lib.hid (below_box _ _ hb)
    clear hb
    go_wp2_with fail
    go_ret
    exact ⟨by rw [HD.out]; rfl, HB.out⟩
  | true =>
    rw [hk] at HO
    have h3 := okD_true hk
    clear hk
    obtain ⟨k, n, t⟩ := a
    simp only at h3 hl HO ⊢
    rcases h3 with ⟨rfl, rfl⟩ | ⟨h1, rfl, rfl⟩ | ⟨h1, rfl⟩
    · have HD := Lib.hid (@dText_write t)
      have HW := Lib.hid (fun w => iWord 0 w)
      have HP := Lib.hid (fun w => iPlain t hl w)
      have z1 : (bs (wordOf 0)).size = 5 := rfl
      have z2 : (bs (wordOf 0) ++ { data := #[32] }).size = 6 := by rw [sp_app1, bs_size]; rfl
      have z3 : (bs t).size ≤ 4611686018427387904 := by rw [bs_size]; exact hl
      go_enter Tryz.func30, Tryz.ntmps30
      go_wp2_with fail
      refine (HO.out _).mono ?_
      rintro e w1 ⟨rfl, hb⟩
      have c0 := box_cell _ _ hb (j := 0) rfl
      have c1 := box_cell _ _ hb (j := 1) rfl
      have c2 := box_cell _ _ hb (j := 2) rfl
      have HB := Lib.hid (below_box _ _ hb)
      clear hb
      go_wp2_with fail
      refine (HW.out _).mono ?_
      rintro e w2 ⟨rfl, rfl⟩
      go_wp2_with fail
      refine (HP.out _).mono ?_
      rintro e w3 ⟨rfl, rfl⟩
      cases hp : plainT t with
      | false =>
        have HPT := Lib.hid hp
        clear hp
        go_wp2_with fail
        go_ret
        exact ⟨by rw [HD.out, HPT.out]; rfl, HB.out⟩
      | true =>
        have HPT := Lib.hid hp
        clear hp
        go_wp2_with fail
        go_ret
        refine ⟨?_, HB.out⟩
        rw [HD.out, HPT.out]
        show Ending.returned (.string ((bs (wordOf 0) ++ { data := #[32] }) ++ bs t)) = _
        rw [sp_app]; rfl
    · have HD := Lib.hid (dText_plain_kind h1)
      have HW := Lib.hid (fun w => iWord k w)
      have HK := Lib.hid h1
      have k0 : (k == 0) = false := by rw [beq_eq_false_iff_ne]; omega
      have k3 : (k == 3) = false := by rw [beq_eq_false_iff_ne]; omega
      have k4 : (k == 4) = false := by rw [beq_eq_false_iff_ne]; omega
      have k5 : (k == 5) = false := by rw [beq_eq_false_iff_ne]; omega
      clear h1
      go_enter Tryz.func30, Tryz.ntmps30
      go_wp2_with fail
      refine (HO.out _).mono ?_
      rintro e w1 ⟨rfl, hb⟩
      have c0 := box_cell _ _ hb (j := 0) rfl
      have HB := Lib.hid (below_box _ _ hb)
      clear hb
      go_wp2_with fail
      refine (HW.out _).mono ?_
      rintro e w2 ⟨rfl, rfl⟩
      go_wp2_with fail
      go_ret
      exact ⟨by rw [HD.out]; rfl, HB.out⟩
    · have HD := Lib.hid (@dText_move k n (by omega))
      have HW := Lib.hid (fun w => iWord k w)
      have k0 : (k == 0) = false := by rw [beq_eq_false_iff_ne]; omega
      have z1 : (bs (wordOf k)).size ≤ 6 := by rw [bs_size]; exact wordOf_len k
      have z2 : (bs (wordOf k) ++ { data := #[32] }).size ≤ 7 := by
        have := wordOf_len k
        rw [sp_app1, bs_size, List.length_append]; simp; omega
      by_cases hn : -99 ≤ n ∧ n ≤ 99
      · have HN := Lib.hid hn
        obtain ⟨n1, n2⟩ := hn
        have HI := Lib.hid (fun w h => iItoa n (by omega) (by omega) w h)
        have z4 : (bs (itoa n)).size ≤ 21 := by rw [bs_size]; exact itoa_small n (by omega) (by omega)
        have m1 : ¬ n < -99 := by omega
        have m2 : ¬ 99 < n := by omega
        rcases h1 with rfl | rfl | rfl
        all_goals
          go_enter Tryz.func30, Tryz.ntmps30
          go_wp2_with fail
          refine (HO.out _).mono ?_
          rintro e w1 ⟨rfl, hb⟩
          have c0 := box_cell _ _ hb (j := 0) rfl
          have c1 := box_cell _ _ hb (j := 1) rfl
          have HB := Lib.hid (below_box _ _ hb)
          clear hb
          go_wp2_with fail
          refine (HW.out _).mono ?_
          rintro e w2 ⟨rfl, rfl⟩
          go_wp2_with fail
          refine (HI.out _ (HE.out.kp (Kp.below HB.out))).mono ?_
          rintro e w3 ⟨rfl, hb3⟩
          have HB3 : Hid (Below w.heap.size w w3) := HB.out.trans (hb3.mono HB.out.size)
          clear hb3
          go_wp2_with fail
          go_ret
          refine ⟨?_, HB3.out⟩
          rw [HD.out, if_pos HN.out]
          exact congrArg (fun s => Ending.returned (.string s)) (sp_app _ _)
      · have HN := Lib.hid hn
        by_cases h99 : n < -99
        all_goals
          first | (have m1 : n < -99 := h99) | (have m1 : ¬ n < -99 := h99; have m2 : 99 < n := (by omega))
          clear hn h99
          rcases h1 with rfl | rfl | rfl
          all_goals
            go_enter Tryz.func30, Tryz.ntmps30
            go_wp2_with fail
            refine (HO.out _).mono ?_
            rintro e w1 ⟨rfl, hb⟩
            have c0 := box_cell _ _ hb (j := 0) rfl
            have c1 := box_cell _ _ hb (j := 1) rfl
            have HB := Lib.hid (below_box _ _ hb)
            clear hb
            go_wp2_with fail
            refine (HW.out _).mono ?_
            rintro e w2 ⟨rfl, rfl⟩
            go_wp2_with fail
            go_ret
            exact ⟨by rw [HD.out, if_neg HN.out]; rfl, HB.out⟩
end Go.Proofs.YtnomlkkhkacajaaGreatDoor
namespace Go.Proofs.YtnomlkkhkacajaaGreatDoor
open Go.RowKit
open Go.Lib hiding intOf

theorem inB35 {k : Int} (h : ¬ (3 ≤ k ∧ k ≤ 5)) : inB k 3 5 = false := by
  rw [inB_false_iff]; omega
theorem write_app (t : Txt) : ({ data := #[119, 114, 105, 116, 101, 32] } : ByteArray) ++ bs t = bs (wordOf 0 ++ 32 :: t) := by
  show bs [119, 114, 105, 116, 101, 32] ++ bs t = _
  rw [bs_append]; rfl
set_option maxHeartbeats 1000000 in
/-- A kind that has no number. -/
theorem sDeed_other (k n : Int) (t : Txt) (w : World) (h35 : ¬ (3 ≤ k ∧ k ≤ 5)) (h0 : ¬ (k = 0 ∧ n = 0)) :
    Calls Tryz.prog 90 #[dv ⟨k, n, t⟩] w fun e w' => e = .returned (.string (bs (dText ⟨k, n, t⟩))) ∧ Below w.heap.size w w' := by
  have hto := bs_nilB
  have hto2 := bs_toL
  have HI := Lib.hid (fun w => l1In_any k 3 5 w)
  have e35 := inB35 h35
  unfold dv
  have hsz : ∀ t : Txt, (bs t).size = t.length := bs_size
  rcases kind_cases k with rfl | rfl | rfl | rfl | rfl | rfl | rfl | ⟨⟨b0, b1, b2, b3, b4, b5, b6⟩, hw, h7⟩
  · have hn : ¬ n = 0 := fun h => h0 ⟨rfl, h⟩
    have hb : (n == 0) = false := by rw [beq_eq_false_iff_ne]; exact hn
    have HD : Hid (dText ⟨0, n, t⟩ = []) := by show _ = _; unfold dText; simp [hn]
    clear h0 h35 hn
    go_enter Tryz.func90, Tryz.ntmps90
    go_wp2_with fail
    refine (HI.out _).mono ?_
    rintro e w' ⟨rfl, rfl⟩
    rw [e35]
    go_wp2_with fail
    go_ret
    exact ⟨by rw [HD.out]; rfl, below_alloc _ _⟩
  · by_cases hn : n = 0
    · subst hn
      by_cases ht : t = []
      · subst ht
        clear h0 h35
        go_enter Tryz.func90, Tryz.ntmps90
        go_wp2_with fail
        refine (HI.out _).mono ?_
        rintro e w' ⟨rfl, rfl⟩
        rw [e35]
        go_wp2_with fail
        go_ret
        exact ⟨rfl, below_alloc _ _⟩
      · have HD : Hid (dText ⟨1, 0, t⟩ = []) := by show _ = _; unfold dText; simp [ht]
        have ht2 : t.isEmpty = false := by simpa using ht
        clear h0 h35 ht
        go_enter Tryz.func90, Tryz.ntmps90
        go_wp2_with fail
        refine (HI.out _).mono ?_
        rintro e w' ⟨rfl, rfl⟩
        rw [e35]
        go_wp2_with fail
        go_ret
        exact ⟨by rw [HD.out]; rfl, below_alloc _ _⟩
    · have HD : Hid (dText ⟨1, n, t⟩ = []) := by show _ = _; unfold dText; simp [hn]
      have hb : (n == 0) = false := by rw [beq_eq_false_iff_ne]; exact hn
      clear h0 h35 hn
      go_enter Tryz.func90, Tryz.ntmps90
      go_wp2_with fail
      refine (HI.out _).mono ?_
      rintro e w' ⟨rfl, rfl⟩
      rw [e35]
      go_wp2_with fail
      go_ret
      exact ⟨by rw [HD.out]; rfl, below_alloc _ _⟩
  · by_cases hn : n = 0
    · subst hn
      by_cases ht : t = []
      · subst ht
        clear h0 h35
        go_enter Tryz.func90, Tryz.ntmps90
        go_wp2_with fail
        refine (HI.out _).mono ?_
        rintro e w' ⟨rfl, rfl⟩
        rw [e35]
        go_wp2_with fail
        go_ret
        exact ⟨rfl, below_alloc _ _⟩
      · have HD : Hid (dText ⟨2, 0, t⟩ = []) := by show _ = _; unfold dText; simp [ht]
        have ht2 : t.isEmpty = false := by simpa using ht
        clear h0 h35 ht
        go_enter Tryz.func90, Tryz.ntmps90
        go_wp2_with fail
        refine (HI.out _).mono ?_
        rintro e w' ⟨rfl, rfl⟩
        rw [e35]
        go_wp2_with fail
        go_ret
        exact ⟨by rw [HD.out]; rfl, below_alloc _ _⟩
    · have HD : Hid (dText ⟨2, n, t⟩ = []) := by show _ = _; unfold dText; simp [hn]
      have hb : (n == 0) = false := by rw [beq_eq_false_iff_ne]; exact hn
      clear h0 h35 hn
      go_enter Tryz.func90, Tryz.ntmps90
      go_wp2_with fail
      refine (HI.out _).mono ?_
      rintro e w' ⟨rfl, rfl⟩
      rw [e35]
      go_wp2_with fail
      go_ret
      exact ⟨by rw [HD.out]; rfl, below_alloc _ _⟩
  · exact absurd ⟨by omega, by omega⟩ h35
  · exact absurd ⟨by omega, by omega⟩ h35
  · exact absurd ⟨by omega, by omega⟩ h35
  · by_cases hn : n = 0
    · subst hn
      by_cases ht : t = []
      · subst ht
        clear h0 h35
        go_enter Tryz.func90, Tryz.ntmps90
        go_wp2_with fail
        refine (HI.out _).mono ?_
        rintro e w' ⟨rfl, rfl⟩
        rw [e35]
        go_wp2_with fail
        go_ret
        exact ⟨rfl, below_alloc _ _⟩
      · have HD : Hid (dText ⟨6, 0, t⟩ = []) := by show _ = _; unfold dText; simp [ht]
        have ht2 : t.isEmpty = false := by simpa using ht
        clear h0 h35 ht
        go_enter Tryz.func90, Tryz.ntmps90
        go_wp2_with fail
        refine (HI.out _).mono ?_
        rintro e w' ⟨rfl, rfl⟩
        rw [e35]
        go_wp2_with fail
        go_ret
        exact ⟨by rw [HD.out]; rfl, below_alloc _ _⟩
    · have HD : Hid (dText ⟨6, n, t⟩ = []) := by show _ = _; unfold dText; simp [hn]
      have hb : (n == 0) = false := by rw [beq_eq_false_iff_ne]; exact hn
      clear h0 h35 hn
      go_enter Tryz.func90, Tryz.ntmps90
      go_wp2_with fail
      refine (HI.out _).mono ?_
      rintro e w' ⟨rfl, rfl⟩
      rw [e35]
      go_wp2_with fail
      go_ret
      exact ⟨by rw [HD.out]; rfl, below_alloc _ _⟩
  · have HD : Hid (dText ⟨k, n, t⟩ = []) := by
      show _ = _
      unfold dText
      rw [if_neg (show ¬ k = 0 by omega), if_neg (show ¬ (3 ≤ k ∧ k ≤ 5) by omega), if_neg (show ¬ (k = 1 ∨ k = 2 ∨ k = 6) by omega)]
    clear h0 h35 hw h7
    go_enter Tryz.func90, Tryz.ntmps90
    go_wp2_with fail
    refine (HI.out _).mono ?_
    rintro e w' ⟨rfl, rfl⟩
    rw [e35]
    go_wp2_with fail
    go_ret
    exact ⟨by rw [HD.out]; rfl, below_alloc _ _⟩
theorem sDeed_write (t : Txt) (w : World) (hl : t.length ≤ 4611686018427387904) :
    Calls Tryz.prog 90 #[dv ⟨0, 0, t⟩] w fun e w' => e = .returned (.string (bs (dText ⟨0, 0, t⟩))) ∧ Below w.heap.size w w' := by
  have hto := bs_nilB
  have HI := Lib.hid (fun w => l1In_any 0 3 5 w)
  have e35 : inB 0 3 5 = false := rfl
  unfold dv
  have HD := Lib.hid (@dText_write t)
  have HP := Lib.hid (fun w => sPlain t hl w)
  have z1 : (bs t).size ≤ 4611686018427387904 := by rw [bs_size]; exact hl
  have z2 : ({ data := #[119, 114, 105, 116, 101, 32] } : ByteArray).size = 6 := rfl
  cases hp : plainT t with
  | true =>
    have HPT := Lib.hid hp
    rw [hp] at HP
    clear hp
    go_enter Tryz.func90, Tryz.ntmps90
    go_wp2_with fail
    refine (HP.out _).mono ?_
    rintro e w1 ⟨rfl, rfl⟩
    go_wp2_with fail
    go_ret
    refine ⟨?_, below_alloc _ _⟩
    rw [HD.out, HPT.out]
    exact congrArg (fun s => Ending.returned (.string s)) (write_app t)
  | false =>
    have HPT := Lib.hid hp
    rw [hp] at HP
    clear hp
    go_enter Tryz.func90, Tryz.ntmps90
    go_wp2_with fail
    refine (HP.out _).mono ?_
    rintro e w1 ⟨rfl, rfl⟩
    go_wp2_with fail
    refine (HI.out _).mono ?_
    rintro e w' ⟨rfl, rfl⟩
    rw [e35]
    go_wp2_with fail
    go_ret
    exact ⟨by rw [HD.out, HPT.out]; rfl, below_alloc _ _⟩
end Go.Proofs.YtnomlkkhkacajaaGreatDoor
namespace Go.Proofs.YtnomlkkhkacajaaGreatDoor
open Go.RowKit
open Go.Lib hiding intOf

theorem dText_num {k n : Int} {t : Txt} (h : 3 ≤ k ∧ k ≤ 5) : dText ⟨k, n, t⟩ = if t = [] ∧ -99 ≤ n ∧ n ≤ 99 then wordOf k ++ 32 :: itoa n else [] := by
  unfold dText
  rw [if_neg (show ¬ k = 0 by omega), if_pos (show 3 ≤ k ∧ k ≤ 5 from h)]
def wordL (k : Nat) : Txt := if k = 0 then [109, 111, 118, 101, 32] else if k = 1 then [115, 104, 105, 102, 116, 32] else [119, 105, 110, 100, 111, 119, 32]
theorem box_drew {w w1 : World} (vs : Array Value) (E : TypeId) (hb : Below ((w.alloc (.cells vs E)).drew).heap.size (w.alloc (.cells vs E)).drew w1) {j : Nat} {v : Value} (hj : vs[j]? = some v) :
    w1.cell? ⟨w.heap.size, j, none⟩ = some v := box_cell (w := w) vs E ⟨hb.os, hb.tape, hb.output, hb.size, hb.block⟩ hj
theorem lit_drew2 {w w1 : World} {o : Obj} (us : Array Value) (F : TypeId) (hb : Below (((w.alloc o).alloc (.cells us F)).drew).heap.size ((w.alloc o).alloc (.cells us F)).drew w1) {j : Nat} {v : Value} (hj : us[j]? = some v) :
    w1.cell? ⟨w.heap.size + 1, j, none⟩ = some v := by
  have h := box_drew (w := w.alloc o) us F hb hj
  have e : (w.alloc o).heap.size = w.heap.size + 1 := by show (w.heap.push o).size = _; rw [Array.size_push]
  rw [e] at h
  exact h
theorem box_drew2 {w w1 : World} {o : Obj} (vs : Array Value) (E : TypeId) (hb : Below (((w.alloc (.cells vs E)).alloc o).drew).heap.size ((w.alloc (.cells vs E)).alloc o).drew w1) {j : Nat} {v : Value} (hj : vs[j]? = some v) :
    w1.cell? ⟨w.heap.size, j, none⟩ = some v := by
  refine (hb.cell (p := ⟨w.heap.size, j, none⟩) (by show w.heap.size < ((w.heap.push _).push _).size; rw [Array.size_push, Array.size_push]; omega)).trans ?_
  rw [World.cell?_drew]
  refine (World.cell?_alloc_lt _ _ _ (by show w.heap.size < (w.heap.push _).size; rw [Array.size_push]; omega)).trans ?_
  rw [World.cell?_alloc_at _ _ _ _ rfl]
  exact hj
theorem below_drew2 {w w1 : World} {o o' : Obj} (hb : Below (((w.alloc o).alloc o').drew).heap.size ((w.alloc o).alloc o').drew w1) : Below w.heap.size w w1 := by
  have h1 := below_of_drew hb
  exact (below_alloc w o).trans (((below_alloc (w.alloc o) o').trans (h1.mono (below_alloc (w.alloc o) o').size)).mono (below_alloc w o).size)
theorem below_drew1 {w w1 : World} {o : Obj} (hb : Below ((w.alloc o).drew).heap.size (w.alloc o).drew w1) : Below w.heap.size w w1 :=
  (below_alloc w o).trans ((below_of_drew hb).mono (below_alloc w o).size)
theorem num_app (k : Nat) (n : Int) (hk : k < 3) : bs (wordL k) ++ bs (itoa n) = bs (wordOf (k + 3 : Nat) ++ 32 :: itoa n) := by
  rw [bs_append]
  have : k = 0 ∨ k = 1 ∨ k = 2 := by omega
  rcases this with rfl | rfl | rfl <;> rfl

set_option maxHeartbeats 4000000 in
set_option maxRecDepth 100000 in
theorem sDeed_num (k n : Int) (t : Txt) (hk : 3 ≤ k ∧ k ≤ 5) (w : World) :
    Calls Tryz.prog 90 #[dv ⟨k, n, t⟩] w fun e w' => e = .returned (.string (bs (dText ⟨k, n, t⟩))) ∧ Below w.heap.size w w' := by
  have hto := bs_nilB
  have HI := Lib.hid (fun w => l1In_any k 3 5 w)
  have HJ := Lib.hid (fun w => l1In_any n (-99) 99 w)
  have e35 : inB k 3 5 = true := inB_true hk.1 hk.2
  have HD := Lib.hid (@dText_num k n t hk)
  have k0 : (k == 0) = false := by rw [beq_eq_false_iff_ne]; omega
  have k1 : (k == 1) = false := by rw [beq_eq_false_iff_ne]; omega
  have k2 : (k == 2) = false := by rw [beq_eq_false_iff_ne]; omega
  have k6 : (k == 6) = false := by rw [beq_eq_false_iff_ne]; omega
  unfold dv
  by_cases ht : t = []
  · subst ht
    by_cases hn : -99 ≤ n ∧ n ≤ 99
    · have en : inB n (-99) 99 = true := inB_true hn.1 hn.2
      have HDD : Hid (dText ⟨k, n, []⟩ = wordOf k ++ 32 :: itoa n) := by show _ = _; rw [HD.out, if_pos ⟨rfl, hn⟩]
      have K : Hid (∀ w, Calls Tryz.prog 52 #[.int .i64 n] w fun e w' => e = .returned (.string (bs (itoa n))) ∧ Below w.heap.size w w') := fun w => sNumber n (by omega) (by omega) w
      have hz : (bs (itoa n)).size ≤ 21 := by rw [bs_size]; exact itoa_small n (by omega) (by omega)
      clear HD
      have h3 : k = 3 ∨ k = 4 ∨ k = 5 := by omega
      clear hn hk
      have y5 : ¬ 9223372036854775807 < 5 + (bs (itoa n)).size := by omega
      have y6 : ¬ 9223372036854775807 < 6 + (bs (itoa n)).size := by omega
      have y7 : ¬ 9223372036854775807 < 7 + (bs (itoa n)).size := by omega
      have w0 : IntKind.i64.wrap 0 = 0 := IntWalk.i64_in _ (by omega)
      have w1' : IntKind.i64.wrap 1 = 1 := IntWalk.i64_in _ (by omega)
      have w2' : IntKind.i64.wrap 2 = 2 := IntWalk.i64_in _ (by omega)
      rcases h3 with rfl | rfl | rfl
      · go_enter Tryz.func90, Tryz.ntmps90
        go_wp2_with fail
        refine (HI.out _).mono ?_
        rintro e w' ⟨rfl, rfl⟩
        rw [e35]
        go_wp2_with fail
        refine (HJ.out _).mono ?_
        rintro e w' ⟨rfl, rfl⟩
        rw [en]
        go_wp2_with fail
        go_region_law ((go_simp; go_at_call 52; (with_reducible refine Calls.mono (K.out _) ?_); rintro e w1 ⟨rfl, hb⟩; first | (have c0 := box_drew2 _ _ hb (j := 0) rfl; have c1 := box_drew2 _ _ hb (j := 1) rfl; have d0 := lit_drew2 _ _ hb (j := 0) rfl; have HB := Lib.hid (below_drew2 hb); clear hb) | (have c0 := box_drew _ _ hb (j := 0) rfl; have c1 := box_drew _ _ hb (j := 1) rfl; have hlt : w.heap.size < w1.heap.size := (by have := hb.size; simp at this; omega); have k0' := fun o => (World.cell?_alloc_lt w1 o ⟨w.heap.size, 0, none⟩ hlt).trans c0; have k1' := fun o => (World.cell?_alloc_lt w1 o ⟨w.heap.size, 1, none⟩ hlt).trans c1; have HB := Lib.hid (below_drew1 hb); clear hb)))
        all_goals
          go_wp2_with fail
          go_ret
          refine ⟨?_, ?_⟩
          · rw [HDD.out]
            exact congrArg (fun s => Ending.returned (.string s)) (num_app 0 n (by omega))
          · first | exact HB.out | exact HB.out.alloc HB.out.size _
      · go_enter Tryz.func90, Tryz.ntmps90
        go_wp2_with fail
        refine (HI.out _).mono ?_
        rintro e w' ⟨rfl, rfl⟩
        rw [e35]
        go_wp2_with fail
        refine (HJ.out _).mono ?_
        rintro e w' ⟨rfl, rfl⟩
        rw [en]
        go_wp2_with fail
        go_region_law ((go_simp; go_at_call 52; (with_reducible refine Calls.mono (K.out _) ?_); rintro e w1 ⟨rfl, hb⟩; first | (have c0 := box_drew2 _ _ hb (j := 0) rfl; have c1 := box_drew2 _ _ hb (j := 1) rfl; have d0 := lit_drew2 _ _ hb (j := 1) rfl; have HB := Lib.hid (below_drew2 hb); clear hb) | (have c0 := box_drew _ _ hb (j := 0) rfl; have c1 := box_drew _ _ hb (j := 1) rfl; have hlt : w.heap.size < w1.heap.size := (by have := hb.size; simp at this; omega); have k0' := fun o => (World.cell?_alloc_lt w1 o ⟨w.heap.size, 0, none⟩ hlt).trans c0; have k1' := fun o => (World.cell?_alloc_lt w1 o ⟨w.heap.size, 1, none⟩ hlt).trans c1; have HB := Lib.hid (below_drew1 hb); clear hb)))
        all_goals
          go_wp2_with fail
          go_ret
          refine ⟨?_, ?_⟩
          · rw [HDD.out]
            exact congrArg (fun s => Ending.returned (.string s)) (num_app 1 n (by omega))
          · first | exact HB.out | exact HB.out.alloc HB.out.size _
      · go_enter Tryz.func90, Tryz.ntmps90
        go_wp2_with fail
        refine (HI.out _).mono ?_
        rintro e w' ⟨rfl, rfl⟩
        rw [e35]
        go_wp2_with fail
        refine (HJ.out _).mono ?_
        rintro e w' ⟨rfl, rfl⟩
        rw [en]
        go_wp2_with fail
        go_region_law ((go_simp; go_at_call 52; (with_reducible refine Calls.mono (K.out _) ?_); rintro e w1 ⟨rfl, hb⟩; first | (have c0 := box_drew2 _ _ hb (j := 0) rfl; have c1 := box_drew2 _ _ hb (j := 1) rfl; have d0 := lit_drew2 _ _ hb (j := 2) rfl; have HB := Lib.hid (below_drew2 hb); clear hb) | (have c0 := box_drew _ _ hb (j := 0) rfl; have c1 := box_drew _ _ hb (j := 1) rfl; have hlt : w.heap.size < w1.heap.size := (by have := hb.size; simp at this; omega); have k0' := fun o => (World.cell?_alloc_lt w1 o ⟨w.heap.size, 0, none⟩ hlt).trans c0; have k1' := fun o => (World.cell?_alloc_lt w1 o ⟨w.heap.size, 1, none⟩ hlt).trans c1; have HB := Lib.hid (below_drew1 hb); clear hb)))
        all_goals
          go_wp2_with fail
          go_ret
          refine ⟨?_, ?_⟩
          · rw [HDD.out]
            exact congrArg (fun s => Ending.returned (.string s)) (num_app 2 n (by omega))
          · first | exact HB.out | exact HB.out.alloc HB.out.size _
    · have HDD : Hid (dText ⟨k, n, []⟩ = []) := by show _ = _; rw [HD.out, if_neg (fun h => hn h.2)]
      have en : inB n (-99) 99 = false := by rw [inB_false_iff]; omega
      clear HD hn hk
      go_enter Tryz.func90, Tryz.ntmps90
      go_wp2_with fail
      refine (HI.out _).mono ?_
      rintro e w' ⟨rfl, rfl⟩
      rw [e35]
      go_wp2_with fail
      refine (HJ.out _).mono ?_
      rintro e w' ⟨rfl, rfl⟩
      rw [en]
      go_wp2_with fail
      go_ret
      exact ⟨by rw [HDD.out]; rfl, below_alloc _ _⟩
  · have HDD : Hid (dText ⟨k, n, t⟩ = []) := by show _ = _; rw [HD.out, if_neg (fun h => ht h.1)]
    have ht2 : t.isEmpty = false := by simpa using ht
    clear HD ht hk
    go_enter Tryz.func90, Tryz.ntmps90
    go_wp2_with fail
    refine (HI.out _).mono ?_
    rintro e w' ⟨rfl, rfl⟩
    rw [e35]
    go_wp2_with fail
    go_ret
    exact ⟨by rw [HDD.out]; rfl, below_alloc _ _⟩
/-- The text of a deed, by the reference. -/
theorem sDeedText (a : Dd) (hl : a.text.length ≤ 4611686018427387904) (w : World) :
    Calls Tryz.prog 90 #[dv a] w fun e w' => e = .returned (.string (bs (dText a))) ∧ Below w.heap.size w w' := by
  obtain ⟨k, n, t⟩ := a
  by_cases h : 3 ≤ k ∧ k ≤ 5
  · exact sDeed_num k n t h w
  · by_cases h0 : k = 0 ∧ n = 0
    · obtain ⟨rfl, rfl⟩ := h0
      exact sDeed_write t w hl
    · exact sDeed_other k n t w h h0
end Go.Proofs.YtnomlkkhkacajaaGreatDoor
