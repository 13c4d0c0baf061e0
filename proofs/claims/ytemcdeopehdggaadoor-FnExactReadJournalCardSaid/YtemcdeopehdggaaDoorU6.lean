/- Plain texts; the text of a complex number. -/
import Derived.Test.YtemcdeopehdggaaDoorU5
import Derived.Test.YtemcdeopehdggaaDoorB3
namespace Go.Proofs.YtemcdeopehdggaaDoor
open Go.RowKit
open Go.Lib hiding intOf

theorem plain_bad {l : Txt} {k : Nat} (hk : k < l.length) (h : plainB l[k] = false) : plainT l = false := by
  unfold plainT
  rw [Bool.and_eq_false_iff]
  right
  rw [List.all_eq_false]
  exact ⟨l[k], List.getElem_mem hk, by rw [h]; decide⟩
theorem all_take_snoc {p : UInt8 → Bool} {l : Txt} {k : Nat} (hk : k < l.length) (h1 : (l.take k).all p = true) (h2 : p l[k] = true) : (l.take (k + 1)).all p = true := by
  rw [List.take_succ_eq_append_getElem hk, List.all_append, h1]
  simp [h2]
theorem plainB_no {c : UInt8} (h : c.toNat < 32 ∨ 126 < c.toNat) : plainB c = false := by
  cases h2 : plainB c with
  | false => rfl
  | true => have := plainB_iff.1 h2; omega
theorem plain_fin {l : Txt} (h : (l.take l.length).all plainB = true) (b : Bool) (hb : b = decide (l ≠ [])) : plainT l = b := by
  rw [List.take_length] at h
  unfold plainT
  rw [h, hb, Bool.and_true]

set_option maxRecDepth 100000 in
theorem sPlain (l : Txt) (hl : l.length ≤ 4611686018427387904) (w : World) : Calls Tryd.prog 66 #[.string (bs l)] w fun e w' => e = .returned (.bool (plainT l)) ∧ w' = w := by
  obtain ⟨n, hn⟩ : ∃ n, n = l.length := ⟨_, rfl⟩
  have hsz : (bs l).size = n := by rw [bs_size, hn]
  have hn2 : n ≤ 4611686018427387904 := by omega
  have HN := Lib.hid hn
  have HA : Hid (∀ (k : Nat) (_ : k < n), ∃ d : Nat, d < 256 ∧ (∀ h, ((bs l)[k]'h).toNat = d) ∧ ∀ h : k < l.length, (l[k]).toNat = d) := fun k hk =>
    ⟨(l[k]'(by omega)).toNat, UInt8.toNat_lt _, fun h => bs_get l k (by omega) h, fun _ => rfl⟩
  clear hn hl
  go_enter Tryd.func66, Tryd.ntmps66
  go_wp2_with fail
  go_loopw [3] (fun i wr => ∃ (k : Nat), k ≤ n ∧ i = .int .i64 k ∧ (l.take k).all plainB = true ∧ wr = w) (fun i _ => n - (intOf i).toNat)
  case atStart => exact ⟨0, by omega, rfl, by simp, rfl⟩
  case round =>
    obtain ⟨k, hk, rfl, hall, rfl⟩ := hrel
    have HL := Lib.hid hall
    clear hall
    by_cases hlt : k < n
    · obtain ⟨d, hd, hbk, hd2⟩ := HA.out k hlt
      have HD := Lib.hid (hd2 (by rw [← HN.out]; exact hlt))
      clear hd2
      by_cases hlo : d < 32
      · have h1 : (d : Int) < 32 := by omega
        have HP := Lib.hid (plain_bad (l := l) (k := k) (by rw [← HN.out]; exact hlt) (plainB_no (by rw [HD.out]; omega)))
        clear hlo
        go_wp2_with fail
        go_ret
        rw [HP.out]
        exact ⟨rfl, rfl⟩
      · by_cases hhi : 126 < d
        · have h1 : ¬ (d : Int) < 32 := by omega
          have h2 : 126 < (d : Int) := by omega
          have HP := Lib.hid (plain_bad (l := l) (k := k) (by rw [← HN.out]; exact hlt) (plainB_no (by rw [HD.out]; omega)))
          clear hlo hhi
          go_wp2_with fail
          go_ret
          rw [HP.out]
          exact ⟨rfl, rfl⟩
        · have h1 : ¬ (d : Int) < 32 := by omega
          have h2 : ¬ 126 < (d : Int) := by omega
          have HP := Lib.hid (all_take_snoc (l := l) (k := k) (by rw [← HN.out]; exact hlt) HL.out (plainB_iff.2 (by rw [HD.out]; omega)))
          clear hlo hhi
          go_wp2_with fail
          go_roundw
          case rel => exact ⟨k + 1, by omega, by go_num, HP.out, by trivial⟩
          case measure => simp [intOf]; omega
    · obtain rfl : k = n := by omega
      go_wp2_with fail
      go_ret
      rw [plain_fin (by rw [← HN.out]; exact HL.out) (decide (0 < k)) (by
        rw [decide_eq_decide]
        have := HN.out
        constructor
        · rintro h rfl; simp at this; omega
        · intro h; have := List.length_pos_iff.2 h; omega)]
      exact ⟨rfl, rfl⟩
set_option maxRecDepth 100000 in
theorem iPlain (l : Txt) (hl : l.length ≤ 4611686018427387904) (w : World) : Calls Tryd.prog 70 #[.string (bs l)] w fun e w' => e = .returned (.bool (plainT l)) ∧ w' = w := by
  obtain ⟨n, hn⟩ : ∃ n, n = l.length := ⟨_, rfl⟩
  have hsz : (bs l).size = n := by rw [bs_size, hn]
  have hn2 : n ≤ 4611686018427387904 := by omega
  have HN := Lib.hid hn
  have HA : Hid (∀ (k : Nat) (_ : k < n), ∃ d : Nat, d < 256 ∧ (∀ h, ((bs l)[k]'h).toNat = d) ∧ ∀ h : k < l.length, (l[k]).toNat = d) := fun k hk =>
    ⟨(l[k]'(by omega)).toNat, UInt8.toNat_lt _, fun h => bs_get l k (by omega) h, fun _ => rfl⟩
  have hto := bs_toList l
  clear hn hl
  go_enter Tryd.func70, Tryd.ntmps70
  go_wp2_with fail
  go_loopw [3, 6] (fun _ i wr => ∃ (k : Nat), k ≤ n ∧ i = .int .i64 k ∧ (l.take k).all plainB = true ∧ wr = w) (fun _ i _ => n - (intOf i).toNat)
  case atStart => exact ⟨0, by omega, rfl, by simp, rfl⟩
  case round =>
    obtain ⟨k, hk, rfl, hall, rfl⟩ := hrel
    have HL := Lib.hid hall
    clear hall
    by_cases hlt : k < n
    · obtain ⟨d, hd, hbk, hd2⟩ := HA.out k hlt
      have HD := Lib.hid (hd2 (by rw [← HN.out]; exact hlt))
      clear hd2
      by_cases hlo : d < 32
      · have h1 : (d : Int) < 32 := by omega
        have HP := Lib.hid (plain_bad (l := l) (k := k) (by rw [← HN.out]; exact hlt) (plainB_no (by rw [HD.out]; omega)))
        clear hlo
        go_wp2_with fail
        go_ret
        rw [HP.out]
        exact ⟨rfl, rfl⟩
      · by_cases hhi : 126 < d
        · have h1 : ¬ (d : Int) < 32 := by omega
          have h2 : 126 < (d : Int) := by omega
          have HP := Lib.hid (plain_bad (l := l) (k := k) (by rw [← HN.out]; exact hlt) (plainB_no (by rw [HD.out]; omega)))
          clear hlo hhi
          go_wp2_with fail
          go_ret
          rw [HP.out]
          exact ⟨rfl, rfl⟩
        · have h1 : ¬ (d : Int) < 32 := by omega
          have h2 : ¬ 126 < (d : Int) := by omega
          have HP := Lib.hid (all_take_snoc (l := l) (k := k) (by rw [← HN.out]; exact hlt) HL.out (plainB_iff.2 (by rw [HD.out]; omega)))
          clear hlo hhi
          go_wp2_with fail
          go_roundw
          case rel => exact ⟨k + 1, by omega, by go_num, HP.out, by trivial⟩
          case measure => simp [intOf]; omega
    · obtain rfl : k = n := by omega
      have HF := fun b hb => plain_fin (l := l) (by rw [← HN.out]; exact HL.out) b hb
      have HF2 := Lib.hid HF
      clear HF
      go_wp2_with fail
      go_ret
      rw [HF2.out (!l.isEmpty) (by cases l <;> rfl)]
      exact ⟨rfl, rfl⟩
/-- The text of a complex number, if it has one. -/
noncomputable def zText (z : C) : Option Txt := (tho z).map pairText
theorem itoa_small (n : Int) (h0 : -9999999 ≤ n) (h1 : n ≤ 9999999) : (itoa n).length ≤ 21 := itoa_length_le n (by omega) (by omega)
theorem pairText_len {p : Pr} (h : InR p) : (pairText p).length ≤ 43 := by
  unfold pairText
  have h1 := itoa_small p.1 h.1 h.2.1
  have h2 := itoa_small p.2 h.2.2.1 h.2.2.2
  rw [List.length_append, List.length_cons]; omega
theorem tho_inR {z : C} {p : Pr} (h : tho z = some p) : InR p := tho_bd (z := z) (a := p.1) (b := p.2) h
theorem tho_get (z : C) : InR ((tho z).getD (0, 0)) := by
  cases h : tho z with
  | none => exact ⟨by simp, by simp, by simp, by simp⟩
  | some p => exact tho_inR h
theorem bs_app3 (a b : Txt) : (bs a ++ { data := #[44] }) ++ bs b = bs (a ++ 44 :: b) := by
  show (bs a ++ bs [44]) ++ bs b = _
  rw [bs_append, bs_append]; simp

set_option maxRecDepth 100000 in
theorem sText (z : C) (w : World) : Calls Tryd.prog 58 #[cv z] w fun e w' => ∃ t, e = .returned (.tuple #[.string (bs t), .bool (zText z).isSome]) ∧ (∀ u, zText z = some u → t = u) ∧ t.length ≤ 43 ∧ Below w.heap.size w w' := by
  have hb := tho_get z
  have HP := Lib.hid (pairText_len hb)
  obtain ⟨b1, b2, b3, b4⟩ := hb
  have hm := sMilliOf z w
  have hz : (zText z).isSome = (tho z).isSome := by unfold zText; cases tho z <;> rfl
  have hu : ∀ u, zText z = some u → pairText ((tho z).getD (0, 0)) = u := by
    unfold zText
    cases tho z with
    | none => intro u h; cases h
    | some p => intro u h; cases h; rfl
  have HU := Lib.hid hu
  rw [hz]
  clear hz hu
  unfold RetT at hm
  generalize zText z = y at *
  generalize (tho z).isSome = ok at *
  generalize ((tho z).getD (0, 0)) = p at *
  have l1 : (bs (itoa p.1)).size ≤ 21 := by rw [bs_size]; exact itoa_small _ b1 b2
  have l2 : (bs (itoa p.2)).size ≤ 21 := by rw [bs_size]; exact itoa_small _ b3 b4
  have l3 : ({ data := #[44] } : ByteArray).size = 1 := rfl
  have l4 : (bs (itoa p.1) ++ { data := #[44] }).size ≤ 22 := by
    show (bs (itoa p.1) ++ bs [44]).size ≤ 22
    rw [bs_append, bs_size, List.length_append]
    rw [bs_size] at l1
    simp; omega
  have k1 := fun w => sNumber p.1 (by omega) (by omega) w
  have k2 := fun w => sNumber p.2 (by omega) (by omega) w
  have HM := Lib.hid hm
  have K1 := Lib.hid k1
  have K2 := Lib.hid k2
  clear hm k1 k2
  unfold cv at *
  obtain ⟨p1, p2⟩ := p
  simp only at *
  go_enter Tryd.func58, Tryd.ntmps58
  go_wp2_with fail
  refine HM.out.mono ?_
  rintro e w1 ⟨rfl, hd⟩
  have HD := Lib.hid hd.below
  clear hd
  go_wp2_with fail
  refine (K1.out _).mono ?_
  rintro e w2 ⟨rfl, hb2⟩
  have HB2 : Hid (Below w.heap.size w w2) := HD.out.trans (hb2.mono HD.out.size)
  clear hb2
  go_wp2_with fail
  refine (K2.out _).mono ?_
  rintro e w3 ⟨rfl, hb3⟩
  have HB3 : Hid (Below w.heap.size w w3) := HB2.out.trans (hb3.mono HB2.out.size)
  clear hb3
  go_wp2_with fail
  go_ret2
  refine ⟨pairText (p1, p2), ?_, HU.out, HP.out, HB3.out⟩
  show Ending.returned (.tuple #[.string ((bs (itoa p1) ++ { data := #[44] }) ++ bs (itoa p2)), .bool ok]) = _
  rw [bs_app3]; rfl
set_option maxRecDepth 100000 in
theorem iText (z : C) (w : World) (h : EnvT w) : Calls Tryd.prog 55 #[cv z] w fun e w' => e = .returned (.tuple #[.string (bs ((zText z).getD [])), .bool (zText z).isSome]) ∧ Below w.heap.size w w' := by
  have HE := Lib.hid h
  have hm := iMilliOf z w
  unfold RetT at hm
  have hzz : zText z = (tho z).map pairText := rfl
  have hin := @tho_inR z
  cases ht : tho z with
  | none =>
    rw [hzz]
    rw [ht] at hm ⊢
    have HM := Lib.hid hm
    clear hm hin hzz ht h
    unfold cv at *
    go_enter Tryd.func55, Tryd.ntmps55
    go_wp2_with fail
    refine HM.out.mono ?_
    rintro e w1 ⟨rfl, hd⟩
    have HD := Lib.hid hd.below
    clear hd
    go_wp2_with fail
    go_ret2
    exact ⟨rfl, HD.out⟩
  | some p =>
    rw [hzz]
    rw [ht] at hm ⊢
    obtain ⟨b1, b2, b3, b4⟩ := hin ht
    have HM := Lib.hid hm
    clear hm hin hzz ht h
    obtain ⟨p1, p2⟩ := p
    simp only [Option.getD_some] at *
    have l1 : (bs (itoa p1)).size ≤ 21 := by rw [bs_size]; exact itoa_small _ b1 b2
    have l2 : (bs (itoa p2)).size ≤ 21 := by rw [bs_size]; exact itoa_small _ b3 b4
    have l3 : ({ data := #[44] } : ByteArray).size = 1 := rfl
    have l4 : (bs (itoa p1) ++ { data := #[44] }).size ≤ 22 := by
      show (bs (itoa p1) ++ bs [44]).size ≤ 22
      rw [bs_append, bs_size, List.length_append]
      rw [bs_size] at l1
      simp; omega
    have K1 := Lib.hid (fun w h => iItoa p1 (by omega) (by omega) w h)
    have K2 := Lib.hid (fun w h => iItoa p2 (by omega) (by omega) w h)
    unfold cv at *
    go_enter Tryd.func55, Tryd.ntmps55
    go_wp2_with fail
    refine HM.out.mono ?_
    rintro e w1 ⟨rfl, hd⟩
    have HD := Lib.hid hd.below
    clear hd
    go_wp2_with fail
    refine (K1.out _ (HE.out.kp (Kp.below HD.out))).mono ?_
    rintro e w2 ⟨rfl, hb2⟩
    have HB2 : Hid (Below w.heap.size w w2) := HD.out.trans (hb2.mono HD.out.size)
    clear hb2
    go_wp2_with fail
    refine (K2.out _ (HE.out.kp (Kp.below HB2.out))).mono ?_
    rintro e w3 ⟨rfl, hb3⟩
    have HB3 : Hid (Below w.heap.size w w3) := HB2.out.trans (hb3.mono HB2.out.size)
    clear hb3
    go_wp2_with fail
    go_ret2
    refine ⟨?_, HB3.out⟩
    show Ending.returned (.tuple #[.string ((bs (itoa p1) ++ { data := #[44] }) ++ bs (itoa p2)), .bool true]) = _
    rw [bs_app3]; rfl
end Go.Proofs.YtemcdeopehdggaaDoor
