/- Texts on the way to a law (U4, U5, U6), each with its own remark. -/
import Derived.Test.YtnomlkkhkacajaaPA28
import Derived.Test.YtnomlkkhkacajaaPA08
namespace Go.Proofs.Ytnomlkkhkacajaa
open Go.RowKit Go.Lib

theorem bs_extract (l : Txt) (a b : Nat) : (bs l).extract a b = bs ((l.drop a).take (b - a)) := by rw [extract_eq, bs_data]; rfl
theorem digs_neg {r : Txt} : digs (45 :: r) = if r = [] then digs0 [45] |>.map Int.ofNat else (digs0 r).bind fun u => if 0 < u then some (-(u : Int)) else none := by
  unfold digs
  cases r with
  | nil => rfl
  | cons a r => rfl
theorem digs_pos {l : Txt} (h : ¬ (1 < l.length ∧ l.head? = some 45)) : digs l = (digs0 l).map Int.ofNat := by
  unfold digs
  rw [if_neg h]
theorem digs0_minus {r : Txt} (h : r.head? = some 45) : digs0 r = none := by
  cases h2 : digs0 r with
  | none => rfl
  | some u =>
    have h3 := (digs0_iff.1 h2).1
    cases r with
    | nil => cases h
    | cons a r =>
      simp only [List.head?_cons, Option.some.injEq] at h
      have h4 := decDigits_digit u a (by rw [← h3]; exact List.mem_cons_self)
      subst h
      exact absurd h4.1 (by decide)
theorem digs_ne (l : Txt) : ∀ n, digs l = some n → -9999999 ≤ n ∧ n ≤ 9999999 := fun _ h => (digs_iff.1 h).2

set_option maxRecDepth 100000 in
set_option maxHeartbeats 1000000 in
/-- A number of digits, with a sign or not. -/
theorem sDigits (l : Txt) (hl : l.length ≤ 4611686018427387904) (w : World) : Calls Try.prog 36 #[.string (bs l)] w (RetG (digs l) w) := by
  induction hN : l.length using Nat.strongRecOn generalizing l with
  | _ N ih =>
    by_cases hm : 1 < l.length ∧ l.head? = some 45
    · cases l with
      | nil => simp at hm
      | cons c r =>
        obtain ⟨h1, h2⟩ := hm
        simp only [List.head?_cons, Option.some.injEq] at h2
        subst h2
        have hr : r ≠ [] := by rintro rfl; simp at h1
        have K : Hid (Calls Try.prog 36 #[.string (bs r)] w (RetG (digs r) w)) := ih r.length (by rw [← hN]; simp) r (by simp at hl; omega) rfl
        have E : Hid (digs (45 :: r) = (digs0 r).bind fun u => if 0 < u then some (-(u : Int)) else none) := by
          show _ = _
          rw [digs_neg, if_neg hr]
        obtain ⟨n, hn⟩ : ∃ n, n = (45 :: r).length := ⟨_, rfl⟩
        have hsz : (bs (45 :: r)).size = n := by rw [bs_size, hn]
        have hn1 : 1 < n := by omega
        have hb0 : ∀ h, ((bs (45 :: r))[0]'h).toNat = 45 := fun h => by rw [bs_get (45 :: r) 0 (by simp)]; rfl
        have hx : (bs (45 :: r)).extract 1 n = bs r := by
          rw [bs_extract, hn]; simp
        -- the number behind the sign
        have D : Hid (∀ m : Int, (∀ k, digs r = some k → m = k) → RetG (digs (45 :: r)) w (.returned (.tuple #[.int .i64 (-m), .bool ((digs r).isSome && decide (0 < m))])) w ∨ ¬ (-9999999 ≤ m ∧ m ≤ 9999999)) := by
          intro m hm
          by_cases hbd : -9999999 ≤ m ∧ m ≤ 9999999
          · left
            rw [E.out]
            by_cases hmin : 1 < r.length ∧ r.head? = some 45
            · have h0 := digs0_minus hmin.2
              rw [h0]
              have hb : ((digs r).isSome && decide (0 < m)) = false := by
                cases hd : digs r with
                | none => rfl
                | some k =>
                  have hmk := hm k hd
                  have : k < 0 := by
                    unfold digs at hd
                    rw [if_pos hmin] at hd
                    cases h5 : digs0 r.tail with
                    | none => rw [h5] at hd; cases hd
                    | some u =>
                      rw [h5] at hd
                      simp only [Option.bind_some] at hd
                      split at hd
                      · cases hd; omega
                      · cases hd
                  simp; omega
              rw [hb]
              exact ⟨-m, rfl, (fun n hn => by cases hn), by omega, by omega, rfl⟩
            · have hp := digs_pos hmin
              cases h0 : digs0 r with
              | none =>
                rw [h0] at hp
                rw [hp]
                exact ⟨-m, rfl, (fun n hn => by cases hn), by omega, by omega, rfl⟩
              | some u =>
                rw [h0] at hp
                have hmk : m = u := hm _ hp
                rw [hp]
                simp only [Option.bind_some]
                by_cases hu : 0 < u
                · rw [if_pos hu]
                  refine ⟨-m, ?_, ?_, by omega, by omega, rfl⟩
                  · have : decide (0 < m) = true := by simp; omega
                    rw [this]; rfl
                  · intro n hn; cases hn; rw [hmk]
                · rw [if_neg hu]
                  refine ⟨-m, ?_, (fun n hn => by cases hn), by omega, by omega, rfl⟩
                  have : decide (0 < m) = false := by simp; omega
                  rw [this, Bool.and_false]; rfl
          · exact .inr hbd
        clear ih h1 E hr hN hl hn
        go_enter Try.func36, Try.ntmps36
        go_wp2_with fail
        refine K.out.mono ?_
        rintro e w' ⟨m, rfl, hm, h3, h4, rfl⟩
        have e1 : IntKind.i64.wrap (-m) = -m := IntWalk.i64_in _ (by omega)
        have DM := Lib.hid ((D.out m hm).resolve_right (fun hh => hh ⟨h3, h4⟩))
        clear D hm
        generalize (digs r).isSome = b at *
        by_cases h0 : 0 < m
        · cases b with
          | true =>
            go_wp2_with fail
            go_ret2
            have := DM.out
            rw [show decide (0 < m) = true by simpa using h0] at this
            exact this
          | false =>
            go_wp2_with fail
            go_ret2
            exact DM.out
        · cases b with
          | true =>
            go_wp2_with fail
            go_ret2
            exact DM.out
          | false =>
            go_wp2_with fail
            go_ret2
            exact DM.out
    · rw [digs_pos hm]
      exact sDigits0 l w hl hm
end Go.Proofs.Ytnomlkkhkacajaa
namespace Go.Proofs.Ytnomlkkhkacajaa
open Go.RowKit
open Go.Lib hiding intOf

theorem Try.eS : Elem Try.prog 65 9 (.string ⟨#[]⟩) 16 := Elem.mk' Try.underlying65 (by kernel_rfl) rfl
theorem drop_take_next {l : Txt} {f k : Nat} (hf : f ≤ k) (hk : k < l.length) : (l.drop f).take (k + 1 - f) = (l.drop f).take (k - f) ++ [l[k]] := by
  rw [show k + 1 - f = (k - f) + 1 by omega, List.take_succ_eq_append_getElem (by rw [List.length_drop]; omega), List.getElem_drop]
  congr 3; omega
theorem drop_split {l : Txt} {f k : Nat} (hf : f ≤ k) (hk : k < l.length) : l.drop f = (l.drop f).take (k - f) ++ l[k] :: l.drop (k + 1) := by
  conv => lhs; rw [← List.take_append_drop (k - f) (l.drop f)]
  rw [List.drop_drop, show f + (k - f) = k by omega, List.drop_eq_getElem_cons hk]
/-- A list of texts. -/
def RetW (w : World) (ws : List Txt) (e : Ending) (w' : World) : Prop := ∃ A m c, e = .returned (.slice A m c) ∧ Ow w' w.heap.size 9 (.slice A m c) m (ws.map sv) ∧ Below w.heap.size w w'
theorem sv_one (l : Txt) : ∀ u ∈ [Value.string (bs l)], u.oneCell' = true := by intro u hu; rw [List.mem_singleton.1 hu]; rfl

set_option maxRecDepth 100000 in
set_option maxHeartbeats 1000000 in
theorem sCut (l : Txt) (sp : UInt8) (hl : l.length ≤ 4294967280) (w : World) : Calls Try.prog 35 #[.string (bs l), .int .u8 sp.toNat] w (RetW w (cutAll sp l)) := by
  obtain ⟨n, hn⟩ : ∃ n, n = l.length := ⟨_, rfl⟩
  have hsz : (bs l).size = n := by rw [bs_size, hn]
  have hn2 : n ≤ 4294967280 := by omega
  have hx := bs_extract l
  have he := Ow.empty w 9
  have hb0 := below_alloc w (.cells #[] 9)
  have HN := Lib.hid hn
  have HE := Lib.hid he
  have HB0 := Lib.hid hb0
  have HA : Hid (∀ (k : Nat) (_ : k < n), ∃ d : Nat, d < 256 ∧ (∀ h, ((bs l)[k]'h).toNat = d) ∧ ∀ h : k < l.length, (l[k]).toNat = d) := fun k hk =>
    ⟨(l[k]'(by omega)).toNat, UInt8.toNat_lt _, fun h => bs_get l k (by omega) h, fun _ => rfl⟩
  obtain ⟨s, hs⟩ : ∃ s, s = sp.toNat := ⟨_, rfl⟩
  rw [← hs]
  have HS := Lib.hid hs
  clear hn he hb0 hs hl
  go_enter Try.func35, Try.ntmps35
  go_wp2_with fail
  go_loopw [5, 6, 7] (fun v fv i wr => ∃ (k f : Nat) (ws : List Txt), f ≤ k ∧ k ≤ n ∧ fv = .int .i64 f ∧ i = .int .i64 k ∧ ws.length ≤ k ∧ sp ∉ (l.drop f).take (k - f) ∧ cutAll sp l = ws ++ cutAll sp (l.drop f) ∧ Ow wr w.heap.size 9 v ws.length (ws.map sv) ∧ Below w.heap.size w wr) (fun _ _ i _ => n - (intOf i).toNat)
  case atStart => exact ⟨0, 0, [], by omega, by omega, rfl, rfl, by simp, by simp, by simp, HE.out, HB0.out⟩
  case round =>
    obtain ⟨k, f, ws, hf, hk, rfl, rfl, hws, hno, hcut, ho, hb⟩ := hrel
    have HNO := Lib.hid hno
    have HC := Lib.hid hcut
    have HB := Lib.hid hb
    have HO := Lib.hid ho
    clear hno hcut hb ho
    by_cases hlt : k < n
    · obtain ⟨d, hd, hbk, hd2⟩ := HA.out k hlt
      have HD := Lib.hid (hd2 (by rw [← HN.out]; exact hlt))
      clear hd2
      by_cases hds : d = s
      · have hck : ((d : Int) == (s : Int)) = true := by rw [beq_iff_eq]; omega
        have hc : l[k]'(by rw [← HN.out]; exact hlt) = sp := UInt8.toNat_inj.1 (by rw [HD.out, ← HS.out]; exact hds)
        have HNX : Hid (cutAll sp l = (ws ++ [(l.drop f).take (k - f)]) ++ cutAll sp (l.drop (k + 1))) := by
          show _ = _
          have e := drop_split (l := l) hf (by rw [← HN.out]; exact hlt)
          have e2 := cutAll_at (l.drop (k + 1)) HNO.out
          rw [hc] at e
          rw [← e] at e2
          rw [HC.out, e2, List.append_assoc]
          rfl
        have hsz2 := HB.out.size
        clear hds hc
        go_wp2_with (at_builtin; refine wl_appB w.heap.size [.string (bs ((l.drop f).take (k - f)))] hsz2 rfl (.tmp 20) (.tmp 25) 65 rfl Try.eS _ ws.length _ rfl HO.out rfl (sv_one _) (by simp [maxLen]; omega) (by simp; omega) ?_; intro v' w4 ho4 hb4)
        go_roundw
        case rel => exact ⟨k + 1, k + 1, ws ++ [(l.drop f).take (k - f)], by omega, by omega, by go_num, by go_num, by simp; omega, by simp, HNX.out, by rw [List.map_append, List.length_append]; exact ho4, HB.out.trans (hb4.mono (Nat.le_refl _))⟩
        case measure => simp [intOf]; omega
      · have hck : ((d : Int) == (s : Int)) = false := by rw [beq_eq_false_iff_ne]; omega
        clear hds
        go_wp2_with fail
        go_roundw
        case rel =>
          refine ⟨k + 1, f, ws, by omega, by omega, by go_num, by go_num, by omega, ?_, HC.out, HO.out, HB.out⟩
          rw [drop_take_next hf (by rw [← HN.out]; exact hlt)]
          intro hm
          rcases List.mem_append.1 hm with hm | hm
          · exact HNO.out hm
          · have hc := List.mem_singleton.1 hm
            have := HD.out
            rw [← hc, ← HS.out] at this
            rw [this] at hck
            simp at hck
        case measure => simp [intOf]; omega
    · obtain rfl : k = n := by omega
      have hsz2 := HB.out.size
      have HW : Hid (cutAll sp l = ws ++ [(l.drop f).take (k - f)]) := by
        show _ = _
        have e : (l.drop f).take (k - f) = l.drop f := List.take_of_length_le (by rw [List.length_drop, ← HN.out]; omega)
        have h2 := HNO.out
        rw [e] at h2
        rw [HC.out, cutAll_no h2, e]
      go_wp2_with (at_builtin; refine wl_appB w.heap.size [.string (bs ((l.drop f).take (k - f)))] hsz2 rfl (.tmp 29) (.tmp 33) 65 rfl Try.eS _ ws.length _ rfl HO.out rfl (sv_one _) (by simp [maxLen]; omega) (by simp; omega) ?_; intro v' w4 ho4 hb4)
      obtain ⟨A4, c4, rfl⟩ := ho4.shape
      go_ret
      refine ⟨A4, _, c4, rfl, ?_, HB.out.trans hb4⟩
      rw [HW.out, List.map_append]
      exact ho4
end Go.Proofs.Ytnomlkkhkacajaa
namespace Go.Proofs.Ytnomlkkhkacajaa
open Go.RowKit
open Go.Lib hiding intOf

theorem plain_bad {l : Txt} {k : Nat} (hk : k < l.length) (h : plainB l[k] = false) : plainT l = false := by
  unfold plainT
  rw [Bool.and_eq_false_iff]
  right
  rw [List.all_eq_false]
  exact ⟨l[k], List.getElem_mem hk, by rw [h]; decide⟩
theorem all_take_snoc {p : UInt8 → Bool} {l : Txt} {k : Nat} (hk : k < l.length) (h1 : (l.take k).all p = true) (h2 : p l[k] = true) : (l.take (k + 1)).all p = true := by
  rw [List.take_succ_eq_append_getElem hk, List.all_append, h1]
  simp [h2]
theorem plainB_no {c : UInt8} (h : c.toNat < 32 ∨ 126 < c.toNat) : plainB c = false := by
  cases h2 : plainB c with
  | false => rfl
  | true => have := plainB_iff.1 h2; omega
theorem plain_fin {l : Txt} (h : (l.take l.length).all plainB = true) (b : Bool) (hb : b = decide (l ≠ [])) : plainT l = b := by
  rw [List.take_length] at h
  unfold plainT
  rw [h, hb, Bool.and_true]

/-- The text of a complex number, if it has one. -/
noncomputable def zText (z : C) : Option Txt := (tho z).map pairText
theorem itoa_small (n : Int) (h0 : -9999999 ≤ n) (h1 : n ≤ 9999999) : (itoa n).length ≤ 21 := itoa_length_le n (by omega) (by omega)
theorem pairText_len {p : Pr} (h : InR p) : (pairText p).length ≤ 43 := by
  unfold pairText
  have h1 := itoa_small p.1 h.1 h.2.1
  have h2 := itoa_small p.2 h.2.2.1 h.2.2.2
  rw [List.length_append, List.length_cons]; omega
theorem tho_inR {z : C} {p : Pr} (h : tho z = some p) : InR p := tho_bd (z := z) (a := p.1) (b := p.2) h
theorem tho_get (z : C) : InR ((tho z).getD (0, 0)) := by
  cases h : tho z with
  | none => exact ⟨by simp, by simp, by simp, by simp⟩
  | some p => exact tho_inR h
theorem bs_app3 (a b : Txt) : (bs a ++ { data := #[44] }) ++ bs b = bs (a ++ 44 :: b) := by
  show (bs a ++ bs [44]) ++ bs b = _
  rw [bs_append, bs_append]; simp

set_option maxRecDepth 100000 in
theorem sText (z : C) (w : World) : Calls Try.prog 34 #[cv z] w fun e w' => ∃ t, e = .returned (.tuple #[.string (bs t), .bool (zText z).isSome]) ∧ (∀ u, zText z = some u → t = u) ∧ t.length ≤ 43 ∧ Below w.heap.size w w' := by
  have hb := tho_get z
  have HP := Lib.hid (pairText_len hb)
  obtain ⟨b1, b2, b3, b4⟩ := hb
  have hm := sMilliOf z w
  have hz : (zText z).isSome = (tho z).isSome := by unfold zText; cases tho z <;> rfl
  have hu : ∀ u, zText z = some u → pairText ((tho z).getD (0, 0)) = u := by
    unfold zText
    cases tho z with
    | none => intro u h; cases h
    | some p => intro u h; cases h; rfl
  have HU := Lib.hid hu
  rw [hz]
  clear hz hu
  unfold RetT at hm
  generalize zText z = y at *
  generalize (tho z).isSome = ok at *
  generalize ((tho z).getD (0, 0)) = p at *
  have l1 : (bs (itoa p.1)).size ≤ 21 := by rw [bs_size]; exact itoa_small _ b1 b2
  have l2 : (bs (itoa p.2)).size ≤ 21 := by rw [bs_size]; exact itoa_small _ b3 b4
  have l3 : ({ data := #[44] } : ByteArray).size = 1 := rfl
  have l4 : (bs (itoa p.1) ++ { data := #[44] }).size ≤ 22 := by
    show (bs (itoa p.1) ++ bs [44]).size ≤ 22
    rw [bs_append, bs_size, List.length_append]
    rw [bs_size] at l1
    simp; omega
  have k1 := fun w => sNumber p.1 (by omega) (by omega) w
  have k2 := fun w => sNumber p.2 (by omega) (by omega) w
  have HM := Lib.hid hm
  have K1 := Lib.hid k1
  have K2 := Lib.hid k2
  clear hm k1 k2
  unfold cv at *
  obtain ⟨p1, p2⟩ := p
  simp only at *
  go_enter Try.func34, Try.ntmps34
  go_wp2_with fail
  refine HM.out.mono ?_
  rintro e w1 ⟨rfl, hd⟩
  have HD := Lib.hid hd.below
  clear hd
  go_wp2_with fail
  refine (K1.out _).mono ?_
  rintro e w2 ⟨rfl, hb2⟩
  have HB2 : Hid (Below w.heap.size w w2) := HD.out.trans (hb2.mono HD.out.size)
  clear hb2
  go_wp2_with fail
  refine (K2.out _).mono ?_
  rintro e w3 ⟨rfl, hb3⟩
  have HB3 : Hid (Below w.heap.size w w3) := HB2.out.trans (hb3.mono HB2.out.size)
  clear hb3
  go_wp2_with fail
  go_ret2
  refine ⟨pairText (p1, p2), ?_, HU.out, HP.out, HB3.out⟩
  show Ending.returned (.tuple #[.string ((bs (itoa p1) ++ { data := #[44] }) ++ bs (itoa p2)), .bool ok]) = _
  rw [bs_app3]; rfl
end Go.Proofs.Ytnomlkkhkacajaa
