/- Texts on the way to a law (U6, U7, U8), each with its own remark. -/
import Derived.Test.YtnomlkkhkacajaaGreatDoorPB23
import Derived.Test.YtnomlkkhkacajaaGreatDoorPB08
namespace Go.Proofs.YtnomlkkhkacajaaGreatDoor
open Go.RowKit
open Go.Lib hiding intOf

theorem plain_bad {l : Txt} {k : Nat} (hk : k < l.length) (h : plainB l[k] = false) : plainT l = false := by
  unfold plainT
  rw [Bool.and_eq_false_iff]
  right
  rw [List.all_eq_false]
  exact ⟨l[k], List.getElem_mem hk, by rw [h]; decide⟩
theorem all_take_snoc {p : UInt8 → Bool} {l : Txt} {k : Nat} (hk : k < l.length) (h1 : (l.take k).all p = true) (h2 : p l[k] = true) : (l.take (k + 1)).all p = true := by
  rw [List.take_succ_eq_append_getElem hk, List.all_append, h1]
  simp [h2]
theorem plainB_no {c : UInt8} (h : c.toNat < 32 ∨ 126 < c.toNat) : plainB c = false := by
  cases h2 : plainB c with
  | false => rfl
  | true => have := plainB_iff.1 h2; omega
theorem plain_fin {l : Txt} (h : (l.take l.length).all plainB = true) (b : Bool) (hb : b = decide (l ≠ [])) : plainT l = b := by
  rw [List.take_length] at h
  unfold plainT
  rw [h, hb, Bool.and_true]

set_option maxRecDepth 100000 in
theorem sPlain (l : Txt) (hl : l.length ≤ 4611686018427387904) (w : World) : Calls Tryz.prog 121 #[.string (bs l)] w fun e w' => e = .returned (.bool (plainT l)) ∧ w' = w := by
  obtain ⟨n, hn⟩ : ∃ n, n = l.length := ⟨_, rfl⟩
  have hsz : (bs l).size = n := by rw [bs_size, hn]
  have hn2 : n ≤ 4611686018427387904 := by omega
  have HN := Lib.hid hn
  have HA : Hid (∀ (k : Nat) (_ : k < n), ∃ d : Nat, d < 256 ∧ (∀ h, ((bs l)[k]'h).toNat = d) ∧ ∀ h : k < l.length, (l[k]).toNat = d) := fun k hk =>
    ⟨(l[k]'(by omega)).toNat, UInt8.toNat_lt _, fun h => bs_get l k (by omega) h, fun _ => rfl⟩
  clear hn hl
  go_enter Tryz.func121, Tryz.ntmps121
  go_wp2_with fail
  go_loopw [3] (fun i wr => ∃ (k : Nat), k ≤ n ∧ i = .int .i64 k ∧ (l.take k).all plainB = true ∧ wr = w) (fun i _ => n - (intOf i).toNat)
  case atStart => exact ⟨0, by omega, rfl, by simp, rfl⟩
  case round =>
    obtain ⟨k, hk, rfl, hall, rfl⟩ := hrel
    have HL := Lib.hid hall
    clear hall
    by_cases hlt : k < n
    · obtain ⟨d, hd, hbk, hd2⟩ := HA.out k hlt
      have HD := Lib.hid (hd2 (by rw [← HN.out]; exact hlt))
      clear hd2
      by_cases hlo : d < 32
      · have h1 : (d : Int) < 32 := by omega
        have HP := Lib.hid (plain_bad (l := l) (k := k) (by rw [← HN.out]; exact hlt) (plainB_no (by rw [HD.out]; omega)))
        clear hlo
        go_wp2_with fail
        go_ret
        rw [HP.out]
        exact ⟨rfl, rfl⟩
      · by_cases hhi : 126 < d
        · have h1 : ¬ (d : Int) < 32 := by omega
          have h2 : 126 < (d : Int) := by omega
          have HP := Lib.hid (plain_bad (l := l) (k := k) (by rw [← HN.out]; exact hlt) (plainB_no (by rw [HD.out]; omega)))
          clear hlo hhi
          go_wp2_with fail
          go_ret
          rw [HP.out]
          exact ⟨rfl, rfl⟩
        · have h1 : ¬ (d : Int) < 32 := by omega
          have h2 : ¬ 126 < (d : Int) := by omega
          have HP := Lib.hid (all_take_snoc (l := l) (k := k) (by rw [← HN.out]; exact hlt) HL.out (plainB_iff.2 (by rw [HD.out]; omega)))
          clear hlo hhi
          go_wp2_with fail
          go_roundw
          case rel => exact ⟨k + 1, by omega, by go_num, HP.out, by trivial⟩
          case measure => simp [intOf]; omega
    · obtain rfl : k = n := by omega
      go_wp2_with fail
      go_ret
      rw [plain_fin (by rw [← HN.out]; exact HL.out) (decide (0 < k)) (by
        rw [decide_eq_decide]
        have := HN.out
        constructor
        · rintro h rfl; simp at this; omega
        · intro h; have := List.length_pos_iff.2 h; omega)]
      exact ⟨rfl, rfl⟩
set_option maxRecDepth 100000 in
theorem iPlain (l : Txt) (hl : l.length ≤ 4611686018427387904) (w : World) : Calls Tryz.prog 67 #[.string (bs l)] w fun e w' => e = .returned (.bool (plainT l)) ∧ w' = w := by
  obtain ⟨n, hn⟩ : ∃ n, n = l.length := ⟨_, rfl⟩
  have hsz : (bs l).size = n := by rw [bs_size, hn]
  have hn2 : n ≤ 4611686018427387904 := by omega
  have HN := Lib.hid hn
  have HA : Hid (∀ (k : Nat) (_ : k < n), ∃ d : Nat, d < 256 ∧ (∀ h, ((bs l)[k]'h).toNat = d) ∧ ∀ h : k < l.length, (l[k]).toNat = d) := fun k hk =>
    ⟨(l[k]'(by omega)).toNat, UInt8.toNat_lt _, fun h => bs_get l k (by omega) h, fun _ => rfl⟩
  have hto := bs_toList l
  clear hn hl
  go_enter Tryz.func67, Tryz.ntmps67
  go_wp2_with fail
  go_loopw [3, 6] (fun _ i wr => ∃ (k : Nat), k ≤ n ∧ i = .int .i64 k ∧ (l.take k).all plainB = true ∧ wr = w) (fun _ i _ => n - (intOf i).toNat)
  case atStart => exact ⟨0, by omega, rfl, by simp, rfl⟩
  case round =>
    obtain ⟨k, hk, rfl, hall, rfl⟩ := hrel
    have HL := Lib.hid hall
    clear hall
    by_cases hlt : k < n
    · obtain ⟨d, hd, hbk, hd2⟩ := HA.out k hlt
      have HD := Lib.hid (hd2 (by rw [← HN.out]; exact hlt))
      clear hd2
      by_cases hlo : d < 32
      · have h1 : (d : Int) < 32 := by omega
        have HP := Lib.hid (plain_bad (l := l) (k := k) (by rw [← HN.out]; exact hlt) (plainB_no (by rw [HD.out]; omega)))
        clear hlo
        go_wp2_with fail
        go_ret
        rw [HP.out]
        exact ⟨rfl, rfl⟩
      · by_cases hhi : 126 < d
        · have h1 : ¬ (d : Int) < 32 := by omega
          have h2 : 126 < (d : Int) := by omega
          have HP := Lib.hid (plain_bad (l := l) (k := k) (by rw [← HN.out]; exact hlt) (plainB_no (by rw [HD.out]; omega)))
          clear hlo hhi
          go_wp2_with fail
          go_ret
          rw [HP.out]
          exact ⟨rfl, rfl⟩
        · have h1 : ¬ (d : Int) < 32 := by omega
          have h2 : ¬ 126 < (d : Int) := by omega
          have HP := Lib.hid (all_take_snoc (l := l) (k := k) (by rw [← HN.out]; exact hlt) HL.out (plainB_iff.2 (by rw [HD.out]; omega)))
          clear hlo hhi
          go_wp2_with fail
          go_roundw
          case rel => exact ⟨k + 1, by omega, by go_num, HP.out, by trivial⟩
          case measure => simp [intOf]; omega
    · obtain rfl : k = n := by omega
      have HF := fun b hb => plain_fin (l := l) (by rw [← HN.out]; exact HL.out) b hb
      have HF2 := Lib.hid HF
      clear HF
      go_wp2_with fail
      go_ret
      rw [HF2.out (!l.isEmpty) (by cases l <;> rfl)]
      exact ⟨rfl, rfl⟩
/-- The text of a complex number, if it has one. -/
noncomputable def zText (z : C) : Option Txt := (tho z).map pairText
theorem itoa_small (n : Int) (h0 : -9999999 ≤ n) (h1 : n ≤ 9999999) : (itoa n).length ≤ 21 := itoa_length_le n (by omega) (by omega)
theorem pairText_len {p : Pr} (h : InR p) : (pairText p).length ≤ 43 := by
  unfold pairText
  have h1 := itoa_small p.1 h.1 h.2.1
  have h2 := itoa_small p.2 h.2.2.1 h.2.2.2
  rw [List.length_append, List.length_cons]; omega
theorem tho_inR {z : C} {p : Pr} (h : tho z = some p) : InR p := tho_bd (z := z) (a := p.1) (b := p.2) h
theorem tho_get (z : C) : InR ((tho z).getD (0, 0)) := by
  cases h : tho z with
  | none => exact ⟨by simp, by simp, by simp, by simp⟩
  | some p => exact tho_inR h
theorem bs_app3 (a b : Txt) : (bs a ++ { data := #[44] }) ++ bs b = bs (a ++ 44 :: b) := by
  show (bs a ++ bs [44]) ++ bs b = _
  rw [bs_append, bs_append]; simp

set_option maxRecDepth 100000 in
theorem sText (z : C) (w : World) : Calls Tryz.prog 60 #[cv z] w fun e w' => ∃ t, e = .returned (.tuple #[.string (bs t), .bool (zText z).isSome]) ∧ (∀ u, zText z = some u → t = u) ∧ t.length ≤ 43 ∧ Below w.heap.size w w' := by
  have hb := tho_get z
  have HP := Lib.hid (pairText_len hb)
  obtain ⟨b1, b2, b3, b4⟩ := hb
  have hm := sMilliOf z w
  have hz : (zText z).isSome = (tho z).isSome := by unfold zText; cases tho z <;> rfl
  have hu : ∀ u, zText z = some u → pairText ((tho z).getD (0, 0)) = u := by
    unfold zText
    cases tho z with
    | none => intro u h; cases h
    | some p => intro u h; cases h; rfl
  have HU := Lib.hid hu
  rw [hz]
  clear hz hu
  unfold RetT at hm
  generalize zText z = y at *
  generalize (tho z).isSome = ok at *
  generalize ((tho z).getD (0, 0)) = p at *
  have l1 : (bs (itoa p.1)).size ≤ 21 := by rw [bs_size]; exact itoa_small _ b1 b2
  have l2 : (bs (itoa p.2)).size ≤ 21 := by rw [bs_size]; exact itoa_small _ b3 b4
  have l3 : ({ data := #[44] } : ByteArray).size = 1 := rfl
  have l4 : (bs (itoa p.1) ++ { data := #[44] }).size ≤ 22 := by
    show (bs (itoa p.1) ++ bs [44]).size ≤ 22
    rw [bs_append, bs_size, List.length_append]
    rw [bs_size] at l1
    simp; omega
  have k1 := fun w => sNumber p.1 (by omega) (by omega) w
  have k2 := fun w => sNumber p.2 (by omega) (by omega) w
  have HM := Lib.hid hm
  have K1 := Lib.hid k1
  have K2 := Lib.hid k2
  clear hm k1 k2
  unfold cv at *
  obtain ⟨p1, p2⟩ := p
  simp only at *
  go_enter Tryz.func60, Tryz.ntmps60
  go_wp2_with fail
  refine HM.out.mono ?_
  rintro e w1 ⟨rfl, hd⟩
  have HD := Lib.hid hd.below
  clear hd
  go_wp2_with fail
  refine (K1.out _).mono ?_
  rintro e w2 ⟨rfl, hb2⟩
  have HB2 : Hid (Below w.heap.size w w2) := HD.out.trans (hb2.mono HD.out.size)
  clear hb2
  go_wp2_with fail
  refine (K2.out _).mono ?_
  rintro e w3 ⟨rfl, hb3⟩
  have HB3 : Hid (Below w.heap.size w w3) := HB2.out.trans (hb3.mono HB2.out.size)
  clear hb3
  go_wp2_with fail
  go_ret2
  refine ⟨pairText (p1, p2), ?_, HU.out, HP.out, HB3.out⟩
  show Ending.returned (.tuple #[.string ((bs (itoa p1) ++ { data := #[44] }) ++ bs (itoa p2)), .bool ok]) = _
  rw [bs_app3]; rfl
set_option maxRecDepth 100000 in
theorem iText (z : C) (w : World) (h : EnvT w) : Calls Tryz.prog 97 #[cv z] w fun e w' => e = .returned (.tuple #[.string (bs ((zText z).getD [])), .bool (zText z).isSome]) ∧ Below w.heap.size w w' := by
  have HE := Lib.hid h
  have hm := iMilliOf z w
  unfold RetT at hm
  have hzz : zText z = (tho z).map pairText := rfl
  have hin := @tho_inR z
  cases ht : tho z with
  | none =>
    rw [hzz]
    rw [ht] at hm ⊢
    have HM := Lib.hid hm
    clear hm hin hzz ht h
    unfold cv at *
    go_enter Tryz.func97, Tryz.ntmps97
    go_wp2_with fail
    refine HM.out.mono ?_
    rintro e w1 ⟨rfl, hd⟩
    have HD := Lib.hid hd.below
    clear hd
    go_wp2_with fail
    go_ret2
    exact ⟨rfl, HD.out⟩
  | some p =>
    rw [hzz]
    rw [ht] at hm ⊢
    obtain ⟨b1, b2, b3, b4⟩ := hin ht
    have HM := Lib.hid hm
    clear hm hin hzz ht h
    obtain ⟨p1, p2⟩ := p
    simp only [Option.getD_some] at *
    have l1 : (bs (itoa p1)).size ≤ 21 := by rw [bs_size]; exact itoa_small _ b1 b2
    have l2 : (bs (itoa p2)).size ≤ 21 := by rw [bs_size]; exact itoa_small _ b3 b4
    have l3 : ({ data := #[44] } : ByteArray).size = 1 := rfl
    have l4 : (bs (itoa p1) ++ { data := #[44] }).size ≤ 22 := by
      show (bs (itoa p1) ++ bs [44]).size ≤ 22
      rw [bs_append, bs_size, List.length_append]
      rw [bs_size] at l1
      simp; omega
    have K1 := Lib.hid (fun w h => iItoa p1 (by omega) (by omega) w h)
    have K2 := Lib.hid (fun w h => iItoa p2 (by omega) (by omega) w h)
    unfold cv at *
    go_enter Tryz.func97, Tryz.ntmps97
    go_wp2_with fail
    refine HM.out.mono ?_
    rintro e w1 ⟨rfl, hd⟩
    have HD := Lib.hid hd.below
    clear hd
    go_wp2_with fail
    refine (K1.out _ (HE.out.kp (Kp.below HD.out))).mono ?_
    rintro e w2 ⟨rfl, hb2⟩
    have HB2 : Hid (Below w.heap.size w w2) := HD.out.trans (hb2.mono HD.out.size)
    clear hb2
    go_wp2_with fail
    refine (K2.out _ (HE.out.kp (Kp.below HB2.out))).mono ?_
    rintro e w3 ⟨rfl, hb3⟩
    have HB3 : Hid (Below w.heap.size w w3) := HB2.out.trans (hb3.mono HB2.out.size)
    clear hb3
    go_wp2_with fail
    go_ret2
    refine ⟨?_, HB3.out⟩
    show Ending.returned (.tuple #[.string ((bs (itoa p1) ++ { data := #[44] }) ++ bs (itoa p2)), .bool true]) = _
    rw [bs_app3]; rfl
end Go.Proofs.YtnomlkkhkacajaaGreatDoor
namespace Go.Proofs.YtnomlkkhkacajaaGreatDoor
open Go.RowKit
open Go.Lib hiding intOf

/-- The thousandths of all numbers, if they have them. -/
noncomputable def thoAll : List C → Option (List Pr)
  | [] => some []
  | z :: r => match tho z with
    | none => none
    | some p => (thoAll r).map (p :: ·)
/-- The text of a signal, if it has one. -/
noncomputable def sigT (xs : List C) : Option Txt := if sigB xs = true then (thoAll xs).map sigText else none
theorem thoAll_len : ∀ {xs : List C} {ps : List Pr}, thoAll xs = some ps → ps.length = xs.length
  | [], ps, h => by cases h; rfl
  | z :: r, ps, h => by
    unfold thoAll at h
    split at h
    · cases h
    · cases hr : thoAll r with
      | none => rw [hr] at h; cases h
      | some qs => rw [hr] at h; cases h; simp [thoAll_len hr]
theorem thoAll_inR : ∀ {xs : List C} {ps : List Pr}, thoAll xs = some ps → ∀ p ∈ ps, InR p
  | [], ps, h => by cases h; simp
  | z :: r, ps, h => by
    unfold thoAll at h
    split at h
    · cases h
    · rename_i p hp
      cases hr : thoAll r with
      | none => rw [hr] at h; cases h
      | some qs =>
        rw [hr] at h; cases h
        intro q hq
        rcases List.mem_cons.1 hq with rfl | hq
        · exact tho_inR hp
        · exact thoAll_inR hr q hq
theorem thoAll_snoc : ∀ {xs : List C} {ps : List Pr} {z : C} {p : Pr}, thoAll xs = some ps → tho z = some p → thoAll (xs ++ [z]) = some (ps ++ [p])
  | [], ps, z, p, h, hz => by cases h; simp [thoAll, hz]
  | y :: r, ps, z, p, h, hz => by
    unfold thoAll at h
    split at h
    · cases h
    · rename_i q hq
      cases hr : thoAll r with
      | none => rw [hr] at h; cases h
      | some qs =>
        rw [hr] at h; cases h
        show thoAll (y :: (r ++ [z])) = _
        unfold thoAll
        rw [hq]
        simp only [thoAll_snoc hr hz, Option.map_some, List.cons_append]
theorem thoAll_none : ∀ {xs : List C} {k : Nat}, k < xs.length → tho (nth xs k) = none → thoAll xs = none
  | [], k, h, _ => by simp at h
  | y :: r, 0, _, hz => by
    have : nth (y :: r) 0 = y := rfl
    rw [this] at hz
    unfold thoAll; rw [hz]
  | y :: r, k + 1, h, hz => by
    have e : nth (y :: r) (k + 1) = nth r k := rfl
    rw [e] at hz
    have := thoAll_none (xs := r) (k := k) (by simp at h; omega) hz
    unfold thoAll
    cases tho y with
    | none => rfl
    | some p => simp [this]
theorem take_nth {xs : List C} {k : Nat} (h : k < xs.length) : xs.take (k + 1) = xs.take k ++ [nth xs k] := by
  rw [List.take_succ_eq_append_getElem h, nth_eq h]
theorem join_snoc (x : Txt) : ∀ (ws : List Txt), ws ≠ [] → join (ws ++ [x]) [59] = join ws [59] ++ 59 :: x
  | [], h => absurd rfl h
  | [y], _ => by
    show join (y :: x :: []) [59] = _
    rw [join_cons2, join_one, join_one]
  | y :: z :: r, _ => by
    have := join_snoc x (z :: r) (by simp)
    show join (y :: z :: (r ++ [x])) [59] = _
    rw [join_cons2, join_cons2]
    rw [show z :: (r ++ [x]) = (z :: r) ++ [x] from rfl, this, List.append_assoc]
    rfl
theorem join_len : ∀ (ps : List Pr), (∀ p ∈ ps, InR p) → (join (ps.map pairText) [59]).length ≤ 44 * ps.length
  | [], _ => by simp [join_nil]
  | [p], h => by
    rw [List.map_cons, List.map_nil, join_one]
    have := pairText_len (h p List.mem_cons_self)
    simp; omega
  | p :: q :: r, h => by
    have h1 := join_len (q :: r) fun x hx => h x (List.mem_cons_of_mem _ hx)
    have h2 := pairText_len (h p List.mem_cons_self)
    rw [List.map_cons, List.map_cons, join_cons2, ← List.map_cons]
    simp at h1 ⊢; omega
theorem sigText_len {ps : List Pr} (h : ∀ p ∈ ps, InR p) : (sigText ps).length ≤ 1 + 44 * ps.length := by
  unfold sigText
  split
  · simp
  · have := join_len ps h; omega
theorem zText_some {z : C} {u : Txt} (h : zText z = some u) : ∃ p, tho z = some p ∧ u = pairText p := by
  unfold zText at h
  cases hz : tho z with
  | none => rw [hz] at h; cases h
  | some p => rw [hz] at h; cases h; exact ⟨p, rfl, rfl⟩
theorem zText_none {z : C} (h : (zText z).isSome = false) : tho z = none := by
  unfold zText at h
  cases hz : tho z with
  | none => rfl
  | some p => rw [hz] at h; cases h
theorem sigT_yes {xs : List C} {ps : List Pr} (h : sigB xs = true) (h2 : thoAll xs = some ps) : sigT xs = some (sigText ps) := by unfold sigT; rw [if_pos h, h2]; rfl
theorem sigT_no {xs : List C} (h : sigB xs = false ∨ thoAll xs = none) : sigT xs = none := by
  unfold sigT
  split
  · rename_i h1
    rcases h with h | h
    · rw [h] at h1; cases h1
    · rw [h]; rfl
  · rfl
theorem sigT_some {xs : List C} {t : Txt} (h : sigT xs = some t) : sigB xs = true ∧ ∃ ps, thoAll xs = some ps ∧ t = sigText ps ∧ (∀ p ∈ ps, InR p) ∧ ps.length ≤ 16 := by
  unfold sigT at h
  split at h
  · rename_i h1
    cases h2 : thoAll xs with
    | none => rw [h2] at h; cases h
    | some ps =>
      rw [h2] at h
      cases h
      refine ⟨h1, ps, rfl, rfl, thoAll_inR h2, ?_⟩
      rw [thoAll_len h2]
      unfold sigB at h1
      simp at h1
      exact h1.1
  · cases h
theorem sigB_len {xs : List C} (h : sigB xs = true) : xs.length ≤ 16 := by unfold sigB at h; simp at h; exact h.1
def RetX (w : World) (o : Option Txt) (e : Ending) (w' : World) : Prop := e = .returned (.tuple #[.string (bs (o.getD [])), .bool o.isSome]) ∧ Below w.heap.size w w'
theorem RetX.no {w w' : World} {o : Option Txt} (h : o = none) (hb : Below w.heap.size w w') : RetX w o (.returned (.tuple #[.string ⟨#[]⟩, .bool false])) w' := by subst h; exact ⟨rfl, hb⟩
theorem RetX.yes {w w' : World} {o : Option Txt} {s : ByteArray} {t : Txt} (h : o = some t) (hs : s = bs t) (hb : Below w.heap.size w w') : RetX w o (.returned (.tuple #[.string s, .bool true])) w' := by subst h; subst hs; exact ⟨rfl, hb⟩

set_option maxRecDepth 100000 in
set_option maxHeartbeats 1000000 in
theorem sSignalText (A : Option Addr) (n c : Nat) (xs : List C) (w : World) (hn : n ≤ 9223372036854775807) (hx : Cs w A n xs) :
    Calls Tryz.prog 53 #[.slice A n c] w (RetX w (sigT xs)) := by
  have HL := Lib.hid hx.len
  go_enter Tryz.func53, Tryz.ntmps53
  go_wp2_with fail
  refine (sSignalOk A n c xs w hn hx).mono ?_
  rintro e w0 ⟨rfl, m, rfl⟩
  cases hs : sigB xs with
  | false =>
    have HS := Lib.hid hs
    clear hs
    go_wp2_with fail
    go_ret2
    exact RetX.no (sigT_no (.inl HS.out)) (below_drewN (Below.refl _ _) m)
  | true =>
    have HS := Lib.hid hs
    have hn16 : n ≤ 16 := by rw [← HL.out]; exact sigB_len hs
    have HX : Hid (Cs (w.drewN m) A n xs) := Cs.drewN hx m
    have HB0 : Hid (Below w.heap.size w (w.drewN m)) := below_drewN (Below.refl _ _) m
    clear hs hx
    generalize w.drewN m = w0 at *
    go_wp2_with fail
    go_loopw [4, 5, 6, 7] (fun v i _ _ wr => ∃ (k : Nat) (ps : List Pr), k ≤ n ∧ i = .int .i64 k ∧ v = .string (bs (join (ps.map pairText) [59])) ∧ thoAll (xs.take k) = some ps ∧ Below w0.heap.size w0 wr) (fun _ i _ _ _ => n - (intOf i).toNat)
    case atStart => exact ⟨0, [], by omega, rfl, rfl, rfl, Below.refl _ _⟩
    case round =>
      obtain ⟨k, ps, hk, rfl, rfl, hps, hb⟩ := hrel
      have HP := Lib.hid hps
      have HB := Lib.hid hb
      have hlen : ps.length = k := by rw [thoAll_len hps, List.length_take, HL.out]; omega
      have HK := Lib.hid hlen
      have HJ := Lib.hid (join_len ps (thoAll_inR hps))
      clear hps hb hlen
      by_cases hlt : k < n
      · have hx2 : Cs wr A n xs := Sl.below HX.out HB.out
        obtain ⟨b, o, rfl, hbl, hc⟩ := hx2.at_ hlt
        have hck := hc k hlt
        unfold cv at hck
        have HZ := Lib.hid (fun w => sText (nth xs k) w)
        unfold cv at HZ
        clear hc
        go_wp2_with fail
        refine (HZ.out _).mono ?_
        rintro e w1 ⟨t, rfl, ht, htl, hb1⟩
        have HB1 : Hid (Below w0.heap.size w0 w1) := HB.out.trans (hb1.mono HB.out.size)
        have HT := Lib.hid ht
        clear hb1 ht
        cases hz : (zText (nth xs k)).isSome with
        | false =>
          have HN : Hid (sigT xs = none) := sigT_no (.inr (thoAll_none (k := k) (by rw [HL.out]; exact hlt) (zText_none hz)))
          clear hz
          go_wp2_with fail
          go_ret2
          exact RetX.no HN.out (HB0.out.trans (HB1.out.mono HB0.out.size))
        | true =>
          obtain ⟨u, hu⟩ := Option.isSome_iff_exists.1 hz
          have htu := HT.out u hu
          obtain ⟨p, hp, hup⟩ := zText_some hu
          have HNX : Hid (thoAll (xs.take (k + 1)) = some (ps ++ [p])) := by
            show _ = _
            rw [take_nth (by rw [HL.out]; exact hlt)]
            exact thoAll_snoc HP.out hp
          have HTP : Hid (t = pairText p) := by show _ = _; rw [htu, hup]
          have z1 : (bs (join (ps.map pairText) [59])).size ≤ 44 * k := by rw [bs_size, ← HK.out]; exact HJ.out
          have z2 : (bs t).size ≤ 43 := by rw [bs_size]; exact htl
          have z3 : ({ data := #[59] } : ByteArray).size = 1 := rfl
          clear hz hu htu hup hp
          by_cases hk0 : k = 0
          · have HE : Hid (bs (join (ps.map pairText) [59]) ++ bs t = bs (join ((ps ++ [p]).map pairText) [59])) := by
              show _ = _
              have : ps = [] := List.length_eq_zero_iff.1 (by rw [HK.out]; exact hk0)
              rw [bs_append, this, HTP.out]
              simp [join_nil, join_one]
            have h1 : ¬ (0 : Int) < k := by omega
            clear hk0
            go_wp2_with fail
            go_roundw
            case rel => exact ⟨k + 1, ps ++ [p], by omega, by go_num, by rw [← HE.out], HNX.out, HB1.out⟩
            case measure => simp [intOf]; omega
          · have HE : Hid ((bs (join (ps.map pairText) [59]) ++ { data := #[59] }) ++ bs t = bs (join ((ps ++ [p]).map pairText) [59])) := by
              show _ = _
              have h0 : ps.map pairText ≠ [] := by
                intro h; simp at h; rw [h] at HK; exact hk0 HK.out.symm
              rw [show ({ data := #[59] } : ByteArray) = bs [59] from rfl, bs_append, bs_append, List.map_append, List.map_cons, List.map_nil, join_snoc _ _ h0, HTP.out]
              simp
            have h1 : (0 : Int) < k := by omega
            have z4 : (bs (join (ps.map pairText) [59]) ++ { data := #[59] }).size ≤ 44 * k + 1 := by
              rw [show ({ data := #[59] } : ByteArray) = bs [59] from rfl, bs_append, bs_size, List.length_append]
              rw [bs_size] at z1
              simp; omega
            clear hk0
            go_wp2_with fail
            go_roundw
            case rel => exact ⟨k + 1, ps ++ [p], by omega, by go_num, by rw [← HE.out], HNX.out, HB1.out⟩
            case measure => simp [intOf]; omega
      · obtain rfl : k = n := by omega
        have HTA : Hid (thoAll xs = some ps) := by
          show _ = _
          rw [← HP.out, List.take_of_length_le (by rw [HL.out]; omega)]
        have HY := Lib.hid (sigT_yes HS.out HTA.out)
        by_cases hk0 : k = 0
        · subst hk0
          go_wp2_with fail
          go_ret2
          refine RetX.yes HY.out ?_ (HB0.out.trans (HB.out.mono HB0.out.size))
          have : ps = [] := List.length_eq_zero_iff.1 HK.out
          rw [this]; rfl
        · have h1 : ((k : Int) == 0) = false := by rw [beq_eq_false_iff_ne]; omega
          have HQ : Hid (ps ≠ []) := by rintro rfl; exact hk0 HK.out.symm
          clear hk0
          go_wp2_with fail
          go_ret2
          refine RetX.yes HY.out ?_ (HB0.out.trans (HB.out.mono HB0.out.size))
          unfold sigText
          rw [if_neg HQ.out]
end Go.Proofs.YtnomlkkhkacajaaGreatDoor
namespace Go.Proofs.YtnomlkkhkacajaaGreatDoor
open Go.RowKit
open Go.Lib hiding intOf

theorem bs_nil_eq : (⟨#[]⟩ : ByteArray) = bs [] := rfl
theorem set_mid (ws : List Value) (x u : Value) (m : Nat) : (ws ++ List.replicate (m + 1) x).set ws.length u = (ws ++ [u]) ++ List.replicate m x := by
  rw [List.set_append_right _ _ (Nat.le_refl _), Nat.sub_self, List.replicate_succ, List.set_cons_zero, List.append_assoc]
  rfl
set_option maxRecDepth 100000 in
set_option maxHeartbeats 1000000 in
theorem iSignalText (A : Option Addr) (n c : Nat) (xs : List C) (w : World) (hn : n ≤ 9223372036854775807) (hx : Cs w A n xs) (hE : EnvT w) :
    Calls Tryz.prog 93 #[.slice A n c] w (RetX w (sigT xs)) := by
  have HL := Lib.hid hx.len
  have HE := Lib.hid hE
  clear hE
  go_enter Tryz.func93, Tryz.ntmps93
  go_wp2_with fail
  refine (iSignalOk A n c xs w hn hx).mono ?_
  rintro e w0 ⟨rfl, m, rfl⟩
  cases hs : sigB xs with
  | false =>
    have HS := Lib.hid hs
    clear hs
    go_wp2_with fail
    go_ret2
    exact RetX.no (sigT_no (.inl HS.out)) (below_drewN (Below.refl _ _) m)
  | true =>
    have HS := Lib.hid hs
    have hn16 : n ≤ 16 := by rw [← HL.out]; exact sigB_len hs
    have HX : Hid (Cs (w.drewN m) A n xs) := Cs.drewN hx m
    have HB0 : Hid (Below w.heap.size w (w.drewN m)) := below_drewN (Below.refl _ _) m
    clear hs hx
    generalize w.drewN m = w0 at *
    by_cases hn0 : n = 0
    · subst hn0
      have HY : Hid (sigT xs = some [45]) := by
        show _ = _
        have : xs = [] := List.length_eq_zero_iff.1 HL.out
        have hs := HS.out
        subst this
        exact sigT_yes hs rfl
      go_wp2_with fail
      go_ret2
      exact RetX.yes HY.out rfl HB0.out
    have h0 : ((n : Int) == 0) = false := by rw [beq_eq_false_iff_ne]; omega
    go_wp2_with (at_make; refine wl_make (w0 := w0) rfl (.tmp 16) (.tmp 16) 45 rfl Tryz.eS .i64 .i64 n _ _ rfl rfl rfl rfl (by omega) (by unfold maxLen; omega) (Below.refl _ _) ?_; intro w1 hown _ hb1)
    have HO := Lib.hid hown
    have HB1 := Lib.hid hb1
    obtain ⟨G, hG⟩ : ∃ G : Option Addr, G = some ⟨w0.heap.size, 0, none⟩ := ⟨_, rfl⟩
    rw [← hG] at HO ⊢
    have HG := Lib.hid hG
    clear hown hb1 hG
    go_wp2_with fail
    go_loopw [5, 6, 7, 8, 20] (fun _ _ _ _ i wr => ∃ (k : Nat) (ps : List Pr), k ≤ n ∧ i = .int .i64 k ∧ thoAll (xs.take k) = some ps ∧ Ow wr w0.heap.size 9 (.slice G n n) n ((ps.map fun p => sv (pairText p)) ++ List.replicate (n - k) (.string ⟨#[]⟩)) ∧ Below w0.heap.size w0 wr) (fun _ _ _ _ i _ => n - (intOf i).toNat)
    case atStart => exact ⟨0, [], by omega, rfl, rfl, by simpa using HO.out, HB1.out⟩
    case round =>
      obtain ⟨k, ps, hk, rfl, hps, ho, hb⟩ := hrel
      have HP := Lib.hid hps
      have HB := Lib.hid hb
      have HO2 := Lib.hid ho
      have hlen : ps.length = k := by rw [thoAll_len hps, List.length_take, HL.out]; omega
      have HK := Lib.hid hlen
      clear hps hb hlen ho
      by_cases hlt : k < n
      · have hx2 : Cs wr A n xs := Sl.below HX.out HB.out
        obtain ⟨b, o, rfl, hbl, hc⟩ := hx2.at_ hlt
        have hck := hc k hlt
        unfold cv at hck
        have HZ := Lib.hid (fun w h => iText (nth xs k) w h)
        unfold cv at HZ
        clear hc
        go_wp2_with fail
        refine (HZ.out _ ((HE.out.kp (Kp.below HB0.out)).kp (Kp.below HB.out))).mono ?_
        rintro e w1 ⟨rfl, hb1⟩
        have HB3 : Hid (Below w0.heap.size w0 w1) := HB.out.trans (hb1.mono HB.out.size)
        have HO3 : Hid (Ow w1 w0.heap.size 9 (.slice G n n) n ((ps.map fun p => sv (pairText p)) ++ List.replicate (n - k) (.string ⟨#[]⟩))) := Ow.below HO2.out hb1
        clear hb1
        cases hz : zText (nth xs k) with
        | none =>
          have HN : Hid (sigT xs = none) := sigT_no (.inr (thoAll_none (k := k) (by rw [HL.out]; exact hlt) (zText_none (by rw [hz]; rfl))))
          clear hz
          go_wp2_with fail
          go_ret2
          exact RetX.no HN.out (HB0.out.trans (HB3.out.mono HB0.out.size))
        | some u =>
          obtain ⟨p, hp, hup⟩ := zText_some hz
          have HNX : Hid (thoAll (xs.take (k + 1)) = some (ps ++ [p])) := by
            show _ = _
            rw [take_nth (by rw [HL.out]; exact hlt)]
            exact thoAll_snoc HP.out hp
          have HU := Lib.hid hup
          clear hz hp hup
          obtain ⟨g, hg, hge, hgl, hcell, hfr, hst⟩ := HO3.out.at_ hlt
          have hcl := (hcell k hlt).trans (List.getElem?_eq_getElem (by rw [HO3.out.len]; exact hlt))
          have hfr2 := hfr k
          have HST : Hid (Ow (w1.setCell ⟨g, k, none⟩ (.string (bs u))) w0.heap.size 9 (.slice G n n) n (((ps ++ [p]).map fun p => sv (pairText p)) ++ List.replicate (n - (k + 1)) (.string ⟨#[]⟩))) := by
            have h1 := hst k (.string (bs u))
            have h2 := set_mid (ps.map fun p => sv (pairText p)) (.string ⟨#[]⟩) (.string (bs u)) (n - (k + 1))
            rw [List.length_map, HK.out, show n - (k + 1) + 1 = n - k by omega] at h2
            rw [h2] at h1
            rw [hg, List.map_append, List.map_cons, List.map_nil]
            show Ow _ _ _ _ _ (((ps.map fun p => sv (pairText p)) ++ [Value.string (bs (pairText p))]) ++ _)
            rw [← HU.out]
            exact h1
          have HBS : Hid (Below w0.heap.size w0 (w1.setCell ⟨g, k, none⟩ (.string (bs u)))) := HB3.out.trans ((Below.refl _ _).setCell hge _)
          generalize ((ps.map fun p => sv (pairText p)) ++ List.replicate (n - k) (Value.string ⟨#[]⟩))[k]'_ = old at hcl
          clear hcell hfr hst
          subst hg
          go_wp2_with fail
          go_roundw
          case rel => exact ⟨k + 1, ps ++ [p], by omega, by go_num, HNX.out, HST.out, HBS.out⟩
          case measure => simp [intOf]; omega
      · obtain rfl : k = n := by omega
        have HTA : Hid (thoAll xs = some ps) := by
          show _ = _
          rw [← HP.out, List.take_of_length_le (by rw [HL.out]; omega)]
        have HY := Lib.hid (sigT_yes HS.out HTA.out)
        have HW : Hid (Ow wr w0.heap.size 9 (.slice G k k) k (ps.map fun p => sv (pairText p))) := by
          show Ow _ _ _ _ _ _
          simpa using HO2.out
        obtain ⟨g, hg, hge, hgl, hcell, _, _⟩ := HW.out.at_ (k := 0) (by omega)
        have hlist : (ps.map fun p => bs (pairText p)).map (·.data.toList) = ps.map pairText := by
          rw [List.map_map]; exact List.map_congr_left fun p _ => bs_data _
        have hjl := join_len ps (thoAll_inR HTA.out)
        have J := Tryz.strings_Join g 0 k (ps.map fun p => bs (pairText p)) (bs [59]) wr (fun j x hj => by
          rw [Nat.zero_add, hcell j (by have := (List.getElem?_eq_some_iff.1 hj).1; rw [List.length_map, HK.out] at this; exact this)]
          rw [List.getElem?_map] at hj ⊢
          cases hj2 : ps[j]? with
          | none => rw [hj2] at hj; cases hj
          | some p => rw [hj2] at hj; cases hj; rfl) hgl (by rw [List.length_map, HK.out]; omega) (by rw [List.length_map, HK.out]; exact Nat.le_refl _) (by rw [hlist, bs_data]; have := HK.out; omega)
        rw [hlist, bs_data, List.length_map, HK.out] at J
        have HJ := Lib.hid J
        have HQ : Hid (ps ≠ []) := by rintro rfl; have := HK.out; simp at this; omega
        clear J hlist hjl hcell
        subst hg
        go_wp2_with fail
        refine HJ.out.mono ?_
        rintro e w2 ⟨rfl, hb2⟩
        go_wp2_with fail
        go_ret2
        refine RetX.yes HY.out ?_ (HB0.out.trans ((HB.out.trans (hb2.mono HB.out.size)).mono HB0.out.size))
        unfold sigText
        rw [if_neg HQ.out]; rfl
end Go.Proofs.YtnomlkkhkacajaaGreatDoor
