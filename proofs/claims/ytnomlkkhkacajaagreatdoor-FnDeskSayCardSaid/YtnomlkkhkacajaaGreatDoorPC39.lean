/- Texts on the way to a law (H29), each with its own remark. -/
import Derived.Test.YtnomlkkhkacajaaGreatDoorPC38
import Derived.Test.YtnomlkkhkacajaaGreatDoorPC36
namespace Go.Proofs.YtnomlkkhkacajaaGreatDoor
open Go.RowKit
open Go.Lib hiding intOf

set_option maxHeartbeats 40000000 in
set_option maxRecDepth 100000 in
theorem lawDeskSay (A : Option Addr) (n c : Nat) (w : World) (hnc : n ≤ c) (h : Code8 w A n) (hE : EnvX w) :
    Calls Tryz.prog 6 #[.slice A n c] w fun e w' => e = .returned (.bool true) ∧ Below w.heap.size w w' := by
  by_cases hbig : 1048576 < n
  · clear hE
    go_enter Tryz.func6, Tryz.ntmps6
    go_wp2_with fail
    go_ret
    exact ⟨rfl, Below.refl _ _⟩
  have hn2 : n ≤ 1048576 := by omega
  have HE := Lib.hid hE
  clear hE
  go_enter Tryz.func6, Tryz.ntmps6
  go_wp2_with fail
  refine (drawDeskSay_any A n c w hnc hn2 h).mono ?_
  rintro e w1 ⟨A2, n2, c2, A3, m2, c3, d, L, l, lc, ls, rfl, hdk, hds, hdl, hol, hl41, hl6, hll, hb1⟩
  obtain ⟨w2, hw2⟩ : ∃ w2, w2 = w1.alloc (.cells #[.slice A2 n2 c2, .slice A3 m2 c3] 26) := ⟨_, rfl⟩
  have HB2 : Hid (Below w1.heap.size w1 w2) := by rw [hw2]; exact below_alloc _ _
  have HK2 : Hid (KAt w2 w1.heap.size (.slice A2 n2 c2) (.slice A3 m2 c3)) := by rw [hw2]; exact KAt.new w1 _ _ _
  have HV2 : Hid (DkV w2 0 A2 n2 c2 A3 m2 d) := (hdk.mono (Nat.zero_le _)).below HB2.out
  have HD2 : Hid (Sl w2 L l (ls.map sv)) := hol.sl.below HB2.out
  have HW2 : Hid (Below w.heap.size w w2) := hb1.trans (HB2.out.mono hb1.size)
  have hsl : ls.length = l := by have := hol.sl.len; rwa [List.length_map] at this
  obtain ⟨⟨x, ts⟩, hr⟩ : ∃ r, sayF d ls = r := ⟨_, rfl⟩
  have hgx : dkB d = true → ls.length ≤ 40 → ∃ a0, DkL d a0 ∧ 14 ≤ a0 ∧ a0 + 5 * (ls.length : Int) ≤ 122 := fun hb h40 => ⟨39, hdl hb, by omega, by have := hl6 (by omega); omega⟩
  have HI : Hid (∀ w', DkV w' 0 A2 n2 c2 A3 m2 d → Sl w' L l (ls.map sv) → EnvX w' → Calls Tryz.prog 23 #[.agg #[.slice A2 n2 c2, .slice A3 m2 c3], .slice L l lc] w' (RetKS w' (x, ts))) := fun w' h hd he => by rw [← hr]; exact iDeskSay A2 A3 n2 c2 m2 c3 d L l lc ls w' h hds hd (by omega) hll hgx he
  have HS : Hid (∀ w', DkV w' 0 A2 n2 c2 A3 m2 d → Sl w' L l (ls.map sv) → Calls Tryz.prog 24 #[.agg #[.slice A2 n2 c2, .slice A3 m2 c3], .slice L l lc] w' (RetKS w' (x, ts))) := fun w' h hd => by rw [← hr]; exact sDeskSay A2 A3 n2 c2 m2 c3 d L l lc ls w' h hds hd (by omega) hll hgx
  have HOK : Hid (∀ w', DkV w' 0 A2 n2 c2 A3 m2 d → Calls Tryz.prog 17 #[.agg #[.slice A2 n2 c2, .slice A3 m2 c3]] w' fun e w'' => e = .returned (.bool (dkB d)) ∧ Below w'.heap.size w' w'') := fun w' h => sDeskOk A2 A3 n2 c2 m2 c3 d w' h hds
  obtain ⟨k0, k1, l0, l1, l2⟩ := HK2.out
  clear hdk hb1 h
  by_cases hno : dkB d = false ∨ 40 < ls.length
  · have e := sayF_no hno
    rw [hr] at e
    injection e with e1 e2
    subst e2
    have HX0 := Lib.hid e1
    have HZX : Hid (DkS x) := by rw [e1]; exact DkS.zero
    have HFX : Hid (DkF x) := by rw [e1]; exact DkF.zero
    have HTL : Hid (([] : List Txt).length ≤ 41) := by show 0 ≤ 41; omega
    have key : dkB d = false ∨ (dkB d = true ∧ (40 : Int) < (l : Int)) := by
      cases hb : dkB d
      · exact .inl rfl
      · rcases hno with h | h
        · rw [h] at hb; cases hb
        · exact .inr ⟨rfl, by omega⟩
    clear hr hno e1 hdl hgx hol hl6 hll hsl hds hl41
    rcases key with hb | ⟨hb, h40⟩
    all_goals
      rw [hb] at HOK
      clear hb
      go_wp2_with fail
      rw [← hw2]
      clear hw2
      refine (HI.out _ HV2.out HD2.out (HE.out.kp (Kp.below HW2.out))).mono ?_
      rintro e w3 ⟨A4, n4, c4, A5, m5, c5, T, N, tc, rfl, hN, hx3, ht3, hb3⟩
      obtain ⟨w4, hw4⟩ : ∃ w4, w4 = w3.alloc (.cells #[.slice A4 n4 c4, .slice A5 m5 c5] 26) := ⟨_, rfl⟩
      have HB34 : Hid (Below w3.heap.size w3 w4) := by rw [hw4]; exact below_alloc _ _
      have HB4 : Hid (Below w2.heap.size w2 w4) := hb3.trans (HB34.out.mono hb3.size)
      have HXB4 : Hid (KAt w4 w3.heap.size (.slice A4 n4 c4) (.slice A5 m5 c5)) := by rw [hw4]; exact KAt.new w3 _ _ _
      have HX4 : Hid (DkV w4 0 A4 n4 c4 A5 m5 x) := (hx3.mono (Nat.zero_le _)).below HB34.out
      have HT4 := Lib.hid (Sl.below ht3.sl HB34.out)
      have HV4 := Lib.hid (HV2.out.below HB4.out)
      have HD4 := Lib.hid (Sl.below HD2.out HB4.out)
      have HK4 := Lib.hid (HK2.out.below HB4.out HK2.out.lt)
      have HW4 : Hid (Below w.heap.size w w4) := HW2.out.trans (HB4.out.mono HW2.out.size)
      have HNN := Lib.hid hN
      clear k0 k1 l0 l1 l2 ht3 hN
      obtain ⟨k0, k1, l0, l1, l2⟩ := HK2.out.below hb3 HK2.out.lt
      clear hx3 hb3
      go_wp2_with fail
      rw [← hw4]
      clear hw4
      refine (HS.out _ HV4.out HD4.out).mono ?_
      rintro e w5 ⟨A6, n6, c6, A7, m7, c7, T2, N2, tc2, rfl, hN2, hy5, ht5, hb5⟩
      obtain ⟨w6, hw6⟩ : ∃ w6, w6 = w5.alloc (.cells #[.slice A6 n6 c6, .slice A7 m7 c7] 26) := ⟨_, rfl⟩
      have HB56 : Hid (Below w5.heap.size w5 w6) := by rw [hw6]; exact below_alloc _ _
      have HB6 : Hid (Below w4.heap.size w4 w6) := hb5.trans (HB56.out.mono hb5.size)
      have HY6 : Hid (DkV w6 0 A6 n6 c6 A7 m7 x) := (hy5.mono (Nat.zero_le _)).below HB56.out
      have HU6 := Lib.hid (Sl.below ht5.sl HB56.out)
      have HX6 := Lib.hid (HX4.out.below HB6.out)
      have HXB6 := Lib.hid (HXB4.out.below HB6.out HXB4.out.lt)
      have HW6 : Hid (Below w.heap.size w w6) := HW4.out.trans (HB6.out.mono HW4.out.size)
      clear k0 k1 l0 l1 l2 ht5 hN2
      obtain ⟨x0, x1, y0, y1, y2⟩ := HXB4.out.below hb5 HXB4.out.lt
      clear hy5 hb5
      go_wp2_with fail
      rw [← hw6]
      clear hw6 x0 x1 y0 y1 y2
      refine (sameDesk_true A4 A5 A6 A7 n4 c4 m5 c5 n6 c6 m7 c7 x w6 HX6.out HY6.out HZX.out HFX.out).mono ?_
      rintro e w7 ⟨rfl, hb7⟩
      have HB7 : Hid (Below w4.heap.size w4 w7) := HB6.out.trans (hb7.mono HB6.out.size)
      have HT7 := Lib.hid (Sl.below HT4.out HB7.out)
      have HU7 := Lib.hid (Sl.below HU6.out hb7)
      clear hb7
      have hN41 : N ≤ 1048576 := by have h1 := HNN.out; have h2 := HTL.out; omega
      go_wp2_with fail
      refine (sameTexts_true T T2 N tc N2 tc2 _ w7 hN41 HT7.out HU7.out).mono ?_
      rintro e w8 ⟨rfl, hb8⟩
      have HB8 : Hid (Below w4.heap.size w4 w8) := HB7.out.trans (hb8.mono HB7.out.size)
      have HV8 := Lib.hid (HV4.out.below HB8.out)
      clear hb8
      obtain ⟨k0, k1, l0, l1, l2⟩ := HK4.out.below HB8.out HK4.out.lt
      go_wp2_with fail
      refine (HOK.out _ HV8.out).mono ?_
      rintro e w9 ⟨rfl, hb9⟩
      have HB9 : Hid (Below w4.heap.size w4 w9) := HB8.out.trans (hb9.mono HB8.out.size)
      have HX9 := Lib.hid (HX4.out.below HB9.out)
      have HV9 := Lib.hid (HV4.out.below HB9.out)
      have HD9 := Lib.hid (Sl.below HD4.out HB9.out)
      have HT9 := Lib.hid (Sl.below HT4.out HB9.out)
      have HK9 := Lib.hid (HK4.out.below HB9.out HK4.out.lt)
      have HXB9 := Lib.hid (HXB4.out.below HB9.out HXB4.out.lt)
      have HW9 : Hid (Below w.heap.size w w9) := HW4.out.trans (HB9.out.mono HW4.out.size)
      clear hb9 k0 k1 l0 l1 l2
      obtain ⟨x0, x1, y0, y1, y2⟩ := HXB9.out
      have hN0 : N = 0 := HNN.out
      subst hN0
      have HND : Hid (∀ w, DkV w 0 A4 n4 c4 A5 m5 x → Calls Tryz.prog 18 #[.agg #[.slice A4 n4 c4, .slice A5 m5 c5]] w fun e w' => e = .returned (.bool true) ∧ Below w.heap.size w w') := fun w h => by rw [HX0.out] at h; exact noDesk_true A4 A5 n4 c4 m5 c5 w h
      go_wp2_with fail
      refine (HND.out _ HX9.out).mono ?_
      rintro e wa ⟨rfl, hba⟩
      have HWA : Hid (Below w.heap.size w wa) := HW9.out.trans (hba.mono HW9.out.size)
      clear hba
      go_wp2_with fail
      refine (alive_true _).mono ?_
      rintro e wb ⟨rfl, rfl⟩
      go_wp2_with fail
      go_ret
      exact ⟨rfl, HWA.out⟩
  · have hb : dkB d = true := eq_true_of_ne_false fun h => hno (.inl h)
    have h40 : ls.length ≤ 40 := Nat.le_of_not_lt fun h => hno (.inr h)
    have h40i : ¬ (40 : Int) < (l : Int) := by omega
    have hl5 : l ≤ 6 := hl6 (by omega)
    obtain ⟨hh, hhe⟩ : ∃ hh, hh = l / 2 := ⟨_, rfl⟩
    obtain ⟨g1, g2, g3, g4⟩ := say_good (ls := ls) hb (hdl hb) (by omega)
    rw [hr] at g1 g2 g3 g4
    obtain ⟨p1, p2, p3, p4⟩ := say_half (ls := ls) (k := hh) hb (hdl hb) (by omega)
    obtain ⟨⟨xa, fa⟩, hra⟩ : ∃ r, sayF d (ls.take hh) = r := ⟨_, rfl⟩
    rw [hra] at p1 p2 p3 p4
    rw [hr] at p3 p4
    obtain ⟨⟨xb, sa⟩, hrb⟩ : ∃ r, sayF xa (ls.drop hh) = r := ⟨_, rfl⟩
    simp only at p1 p2 p3 p4 g1 g2 g3 g4
    rw [hrb] at p3 p4
    simp only at p3 p4
    subst p3
    have HFS := Lib.hid p4
    have HZX := Lib.hid (DkS.ok g1)
    have HFX := Lib.hid (DkF.of g1)
    have HTE : Hid (ts.length = l) := by show _ = _; omega
    have HTL : Hid (ts.length ≤ 41) := by show _ ≤ _; omega
    have HNE := Lib.hid g4
    have HXK := Lib.hid (And.intro g1 g2)
    have hfl : fa.length ≤ 6 := by have := congrArg List.length p4; rw [List.length_append] at this; omega
    have hsl6 : sa.length ≤ 6 := by have := congrArg List.length p4; rw [List.length_append] at this; omega
    have HFL := Lib.hid (And.intro hfl hsl6)
    obtain ⟨q1, q2, hL⟩ := hol.nil0
    have HR1 : Hid (∀ w' (sc : Nat), DkV w' 0 A2 n2 c2 A3 m2 d → Sl w' L l (ls.map sv) → EnvX w' → Calls Tryz.prog 23 #[.agg #[.slice A2 n2 c2, .slice A3 m2 c3], .slice L hh sc] w' (RetKS w' (xa, fa))) := fun w' sc h hd he => by
      rw [← hra]
      exact iDeskSay A2 A3 n2 c2 m2 c3 d L hh sc (ls.take hh) w' h hds (hd.take_ (by omega)) (by omega) (fun a ha => hll a (List.mem_of_mem_take ha)) (fun _ _ => ⟨39, hdl hb, by omega, by have : (ls.take hh).length ≤ 6 := (by rw [List.length_take]; omega); omega⟩) he
    have HR2 : Hid (∀ w' (A : Option Addr) (n c : Nat) (A' : Option Addr) (m c' : Nat) (L' : Option Addr) (sc : Nat), DkV w' 0 A n c A' m xa → Sl w' L' (l - hh) ((ls.drop hh).map sv) → EnvX w' → Calls Tryz.prog 23 #[.agg #[.slice A n c, .slice A' m c'], .slice L' (l - hh) sc] w' (RetKS w' (xb, sa))) := fun w' A n c A' m c' L' sc h hd he => by
      rw [← hrb]
      exact iDeskSay A A' n c m c' xa L' (l - hh) sc (ls.drop hh) w' h (DkS.ok p1) hd (by omega) (fun a ha => hll a (List.mem_of_mem_drop ha)) (fun _ _ => ⟨69, p2, by omega, by have : (ls.drop hh).length ≤ 6 := (by rw [List.length_drop]; omega); omega⟩) he
    have eh : (l : Int) / 2 = (hh : Int) := by omega
    rw [hb] at HOK
    have hhl : hh ≤ l := by omega
    have HH0 : Hid (l = 0 → hh = 0) := fun h => by omega
    have HHP : Hid (¬ l = 0 → hh < l) := fun h => by omega
    obtain ⟨tx, htx⟩ : ∃ t, orN (sigT xb.now) = t := ⟨_, rfl⟩
    obtain ⟨⟨z, ok⟩, hzr⟩ : ∃ r, lineF xb (tWrite tx) = r := ⟨_, rfl⟩
    obtain ⟨ag, hag⟩ : ∃ t, orN (sigT z.now) = t := ⟨_, rfl⟩
    obtain ⟨f1, f2, f3, f4⟩ := say_fin g1 g2 htx hzr hag
    have HFIN := Lib.hid f4
    have HTX : Hid ((bs tx).size ≤ 100000) := by show _ ≤ _; rw [bs_size]; omega
    have hlx : dkB xb = true → LvOk xb.now := fun _ => g2.lvok (by omega) (by omega)
    have hlz : dkB z = true → LvOk z.now := fun _ => f3.lvok (by omega) (by omega)
    have HS1 : Hid (∀ w' A n c A' m c', DkV w' 0 A n c A' m xb → EnvX w' → Calls Tryz.prog 20 #[.agg #[.slice A n c, .slice A' m c'], .string ⟨#[115, 105, 103, 110, 97, 108]⟩] w' (RetKT w' (xb, tx))) := fun w' A n c A' m c' h he => by
      have e := iDeskLine A A' n c m c' xb [115, 105, 103, 110, 97, 108] w' h (DkS.ok g1) hlx (by decide) he
      rw [line_signal g1, htx] at e
      exact e
    have HS2 : Hid (∀ w' A n c A' m c', DkV w' 0 A n c A' m xb → EnvX w' → Calls Tryz.prog 20 #[.agg #[.slice A n c, .slice A' m c'], .string (({ data := #[119, 114, 105, 116, 101, 32] } : ByteArray) ++ bs tx)] w' (RetKT w' (z, ok))) := fun w' A n c A' m c' h he => by
      have e := iDeskLine A A' n c m c' xb (tWrite tx) w' h (DkS.ok g1) hlx (by unfold tWrite; rw [List.length_append]; show 6 + tx.length ≤ _; omega) he
      rw [hzr, show bs (tWrite tx) = _ from (bs_append _ _).symm] at e
      exact e
    have HS3 : Hid (∀ w' A n c A' m c', DkV w' 0 A n c A' m z → EnvX w' → Calls Tryz.prog 20 #[.agg #[.slice A n c, .slice A' m c'], .string ⟨#[115, 105, 103, 110, 97, 108]⟩] w' (RetKT w' (z, ag))) := fun w' A n c A' m c' h he => by
      have e := iDeskLine A A' n c m c' z [115, 105, 103, 110, 97, 108] w' h (DkS.ok f2) hlz (by decide) he
      rw [line_signal f2, hag] at e
      exact e
    clear htx hzr hag f1 f2 f3 f4 hlx hlz
    clear hr hno hdl hgx hra hrb hb h40 g1 g2 g3 g4 p1 p2 p4 hl6 hll hsl hds hl41 hol hhe hfl hsl6
    go_wp2_with fail
    rw [← hw2]
    clear hw2
    refine (HI.out _ HV2.out HD2.out (HE.out.kp (Kp.below HW2.out))).mono ?_
    rintro e w3 ⟨A4, n4, c4, A5, m5, c5, T, N, tc, rfl, hN, hx3, ht3, hb3⟩
    obtain ⟨w4, hw4⟩ : ∃ w4, w4 = w3.alloc (.cells #[.slice A4 n4 c4, .slice A5 m5 c5] 26) := ⟨_, rfl⟩
    have HB34 : Hid (Below w3.heap.size w3 w4) := by rw [hw4]; exact below_alloc _ _
    have HB4 : Hid (Below w2.heap.size w2 w4) := hb3.trans (HB34.out.mono hb3.size)
    have HXB4 : Hid (KAt w4 w3.heap.size (.slice A4 n4 c4) (.slice A5 m5 c5)) := by rw [hw4]; exact KAt.new w3 _ _ _
    have HX4 : Hid (DkV w4 0 A4 n4 c4 A5 m5 xb) := (hx3.mono (Nat.zero_le _)).below HB34.out
    have HT4 := Lib.hid (Sl.below ht3.sl HB34.out)
    have HV4 := Lib.hid (HV2.out.below HB4.out)
    have HD4 := Lib.hid (Sl.below HD2.out HB4.out)
    have HK4 := Lib.hid (HK2.out.below HB4.out HK2.out.lt)
    have HW4 : Hid (Below w.heap.size w w4) := HW2.out.trans (HB4.out.mono HW2.out.size)
    have HNN := Lib.hid hN
    clear k0 k1 l0 l1 l2 ht3 hN
    obtain ⟨k0, k1, l0, l1, l2⟩ := HK2.out.below hb3 HK2.out.lt
    clear hx3 hb3
    go_wp2_with fail
    rw [← hw4]
    clear hw4
    refine (HS.out _ HV4.out HD4.out).mono ?_
    rintro e w5 ⟨A6, n6, c6, A7, m7, c7, T2, N2, tc2, rfl, hN2, hy5, ht5, hb5⟩
    obtain ⟨w6, hw6⟩ : ∃ w6, w6 = w5.alloc (.cells #[.slice A6 n6 c6, .slice A7 m7 c7] 26) := ⟨_, rfl⟩
    have HB56 : Hid (Below w5.heap.size w5 w6) := by rw [hw6]; exact below_alloc _ _
    have HB6 : Hid (Below w4.heap.size w4 w6) := hb5.trans (HB56.out.mono hb5.size)
    have HY6 : Hid (DkV w6 0 A6 n6 c6 A7 m7 xb) := (hy5.mono (Nat.zero_le _)).below HB56.out
    have HU6 := Lib.hid (Sl.below ht5.sl HB56.out)
    have HX6 := Lib.hid (HX4.out.below HB6.out)
    have HXB6 := Lib.hid (HXB4.out.below HB6.out HXB4.out.lt)
    have HW6 : Hid (Below w.heap.size w w6) := HW4.out.trans (HB6.out.mono HW4.out.size)
    clear k0 k1 l0 l1 l2 ht5 hN2
    obtain ⟨x0, x1, y0, y1, y2⟩ := HXB4.out.below hb5 HXB4.out.lt
    clear hy5 hb5
    go_wp2_with fail
    rw [← hw6]
    clear hw6 x0 x1 y0 y1 y2
    refine (sameDesk_true A4 A5 A6 A7 n4 c4 m5 c5 n6 c6 m7 c7 xb w6 HX6.out HY6.out HZX.out HFX.out).mono ?_
    rintro e w7 ⟨rfl, hb7⟩
    have HB7 : Hid (Below w4.heap.size w4 w7) := HB6.out.trans (hb7.mono HB6.out.size)
    have HT7 := Lib.hid (Sl.below HT4.out HB7.out)
    have HU7 := Lib.hid (Sl.below HU6.out hb7)
    clear hb7
    have hN41 : N ≤ 1048576 := by have h1 := HNN.out; have h2 := HTL.out; omega
    go_wp2_with fail
    refine (sameTexts_true T T2 N tc N2 tc2 _ w7 hN41 HT7.out HU7.out).mono ?_
    rintro e w8 ⟨rfl, hb8⟩
    have HB8 : Hid (Below w4.heap.size w4 w8) := HB7.out.trans (hb8.mono HB7.out.size)
    have HV8 := Lib.hid (HV4.out.below HB8.out)
    clear hb8
    obtain ⟨k0, k1, l0, l1, l2⟩ := HK4.out.below HB8.out HK4.out.lt
    go_wp2_with fail
    refine (HOK.out _ HV8.out).mono ?_
    rintro e w9 ⟨rfl, hb9⟩
    have HB9 : Hid (Below w4.heap.size w4 w9) := HB8.out.trans (hb9.mono HB8.out.size)
    have HX9 := Lib.hid (HX4.out.below HB9.out)
    have HV9 := Lib.hid (HV4.out.below HB9.out)
    have HD9 := Lib.hid (Sl.below HD4.out HB9.out)
    have HT9 := Lib.hid (Sl.below HT4.out HB9.out)
    have HK9 := Lib.hid (HK4.out.below HB9.out HK4.out.lt)
    have HXB9 := Lib.hid (HXB4.out.below HB9.out HXB4.out.lt)
    have HW9 : Hid (Below w.heap.size w w9) := HW4.out.trans (HB9.out.mono HW4.out.size)
    clear hb9 k0 k1 l0 l1 l2
    obtain ⟨x0, x1, y0, y1, y2⟩ := HXB9.out
    rcases hL with ⟨rfl, rfl, rfl⟩ | ⟨g, rfl⟩
    · obtain rfl : hh = 0 := HH0.out rfl
      clear eh
      have HDD : Hid (∀ w', Sl w' none 0 (ls.map sv) → Sl w' none (0 - 0) ((ls.drop 0).map sv)) := fun w' h => h
      as_aux_lemma =>
        clear x0 x1 y0 y1 y2
        obtain ⟨k0, k1, l0, l1, l2⟩ := HK9.out
        go_upto_region 11 with fail
        go_cut [10, 11] (fun sb st wx => ∃ (b : Nat) (A8 : Option Addr) (n8 c8 : Nat) (A9 : Option Addr) (m9 c9 : Nat) (F : Option Addr) (fc : Nat), sb = .pointer (some ⟨b, 0, none⟩) ∧ st = .slice F fa.length fc ∧ (F = none → fc = 0) ∧ KAt wx b (.slice A8 n8 c8) (.slice A9 m9 c9) ∧ DkV wx 0 A8 n8 c8 A9 m9 xa ∧ Sl wx F fa.length (fa.map sv) ∧ Below w9.heap.size w9 wx)
        case first =>
          go_region_law ((go_simp; go_at_call 23; first
            | ((with_reducible refine Calls.mono (HR1.out _ _ (HV9.out.below (Below.refl _ _).drew) (Sl.below HD9.out (Below.refl _ _).drew) (HE.out.kp (Kp.below HW9.out.drew))) ?_); rintro e w0 ⟨A8, n8, c8, A9, m9, c9, F, fn, fc, rfl, hfn, ha9, hf9, hb9⟩; have HA9 : Hid (DkV w0 w9.heap.size A8 n8 c8 A9 m9 xa) := ha9; (have hnil := hf9.hnil); (have HF9 : Hid (Ow w0 (w9.heap.size + 1 + 1) 9 (.slice F fn fc) fn (fa.map sv)) := hf9); (have HFN : Hid (fn = fa.length) := hfn); have HB9 := Lib.hid (below_d hb9); clear ha9 hb9 hf9 hfn)
            | ((with_reducible refine Calls.mono (HR1.out _ _ (HV9.out.below (below_alloc w9 (.cells #[.slice none 0 0, .slice none 0 0] 26)).drew) (Sl.below HD9.out (below_alloc w9 (.cells #[.slice none 0 0, .slice none 0 0] 26)).drew) (HE.out.kp (Kp.below (HW9.out.trans ((below_alloc w9 (.cells #[.slice none 0 0, .slice none 0 0] 26)).drew.mono HW9.out.size))))) ?_); rintro e w0 ⟨A8, n8, c8, A9, m9, c9, F, fn, fc, rfl, hfn, ha9, hf9, hb9⟩; have HA9 : Hid (DkV w0 (w9.heap.size + 1) A8 n8 c8 A9 m9 xa) := (ha9.mono (Nat.le_of_eq (size_alloc w9 (.cells #[.slice none 0 0, .slice none 0 0] 26)).symm)); (have hnil := hf9.hnil); (have HF9 : Hid (Ow w0 (w9.heap.size + 1) 9 (.slice F fn fc) fn (fa.map sv)) := hf9.mono (by have h := size_alloc w9 (.cells #[.slice none 0 0, .slice none 0 0] 26); show _ ≤ (w9.alloc (.cells #[.slice none 0 0, .slice none 0 0] 26)).heap.size + 1 + 1; omega)); (have HFN : Hid (fn = fa.length) := hfn); have HT9 := Lib.hid (((KAt.new w9 (.slice none 0 0) (.slice none 0 0) 26).below (Below.refl _ _).drew (KAt.new w9 (.slice none 0 0) (.slice none 0 0) 26).lt).below hb9 (KAt.new w9 (.slice none 0 0) (.slice none 0 0) 26).lt); have HB9 := Lib.hid (below_da hb9); clear ha9 hb9 hf9 hfn; obtain ⟨t0, t1, v0, v1, v2⟩ := HT9.out)))
          all_goals
            go_wp2_with fail
            go_meet
            first
              | exact ⟨_, A8, n8, c8, A9, m9, c9, F, fc, rfl, by rw [HFN.out], hnil, KAt.new w0 _ _ _, (HA9.out.below (below_alloc _ _)).mono (Nat.zero_le _), by rw [← HFN.out]; exact Sl.below HF9.out.sl (below_alloc _ _), HB9.out.trans ((below_alloc _ _).mono HB9.out.size)⟩
              | exact ⟨_, A8, n8, c8, A9, m9, c9, F, fc, rfl, by rw [HFN.out], hnil, (HT9.out.set0 _).set1 _, (HA9.out.pk (((Pk.refl w9.heap.size w0).setCell 0 _).setCell 1 _) (Nat.lt_succ_self _)).mono (Nat.zero_le _), by rw [← HFN.out]; exact (HF9.out.pk (((Pk.refl w9.heap.size w0).setCell 0 _).setCell 1 _) (Nat.lt_succ_self _)).sl, (HB9.out.setCell (p := ⟨w9.heap.size, 0, none⟩) (Nat.le_refl _) _).setCell (p := ⟨w9.heap.size, 1, none⟩) (Nat.le_refl _) _⟩
        case rest =>
          obtain ⟨b8, A8, n8, c8, A9, m9, c9, F, fc, rfl, rfl, hfn, hkb, hva, hfs, hbc⟩ := hcut
          have HVA := Lib.hid hva
          have HF1 := Lib.hid hfs
          have HFZ := Lib.hid hfn
          have HWC : Hid (Below w.heap.size w wc) := HW9.out.trans (hbc.mono HW9.out.size)
          have HDC := Lib.hid (Sl.below HD9.out hbc)
          have HTC := Lib.hid (Sl.below HT9.out hbc)
          have HXC := Lib.hid (HX9.out.below hbc)
          have HXBC := Lib.hid (HXB9.out.below hbc HXB9.out.lt)
          clear k0 k1 l0 l1 l2 hva hbc hfs hfn
          obtain ⟨b0, b1, l0, l1, l2⟩ := hkb
          go_upto_region 12 with fail
          go_cut [12, 13] (fun sb st wx => ∃ (b : Nat) (A8 : Option Addr) (n8 c8 : Nat) (A9 : Option Addr) (m9 c9 : Nat) (F : Option Addr) (fc : Nat), sb = .pointer (some ⟨b, 0, none⟩) ∧ st = .slice F sa.length fc ∧ (F = none → fc = 0) ∧ KAt wx b (.slice A8 n8 c8) (.slice A9 m9 c9) ∧ DkV wx 0 A8 n8 c8 A9 m9 xb ∧ Sl wx F sa.length (sa.map sv) ∧ Below wc.heap.size wc wx)
          case first =>
            go_region_law ((go_simp; go_at_call 23; first
              | ((with_reducible refine Calls.mono (HR2.out _ _ _ _ _ _ _ _ _ (HVA.out.below (Below.refl _ _).drew) (HDD.out _ (Sl.below HDC.out (Below.refl _ _).drew)) (HE.out.kp (Kp.below HWC.out.drew))) ?_); rintro e w0 ⟨A8, n8, c8, A9, m9, c9, F, fn, fc, rfl, hfn, ha9, hf9, hb9⟩; have HA9 : Hid (DkV w0 wc.heap.size A8 n8 c8 A9 m9 xb) := ha9; (have hnil := hf9.hnil); (have HF9 : Hid (Ow w0 (wc.heap.size + 1 + 1) 9 (.slice F fn fc) fn (sa.map sv)) := hf9); (have HFN : Hid (fn = sa.length) := hfn); have HB9 := Lib.hid (below_d hb9); clear ha9 hb9 hf9 hfn)
              | ((with_reducible refine Calls.mono (HR2.out _ _ _ _ _ _ _ _ _ (HVA.out.below (below_alloc wc (.cells #[.slice none 0 0, .slice none 0 0] 26)).drew) (HDD.out _ (Sl.below HDC.out (below_alloc wc (.cells #[.slice none 0 0, .slice none 0 0] 26)).drew)) (HE.out.kp (Kp.below (HWC.out.trans ((below_alloc wc (.cells #[.slice none 0 0, .slice none 0 0] 26)).drew.mono HWC.out.size))))) ?_); rintro e w0 ⟨A8, n8, c8, A9, m9, c9, F, fn, fc, rfl, hfn, ha9, hf9, hb9⟩; have HA9 : Hid (DkV w0 (wc.heap.size + 1) A8 n8 c8 A9 m9 xb) := (ha9.mono (Nat.le_of_eq (size_alloc wc (.cells #[.slice none 0 0, .slice none 0 0] 26)).symm)); (have hnil := hf9.hnil); (have HF9 : Hid (Ow w0 (wc.heap.size + 1) 9 (.slice F fn fc) fn (sa.map sv)) := hf9.mono (by have h := size_alloc wc (.cells #[.slice none 0 0, .slice none 0 0] 26); show _ ≤ (wc.alloc (.cells #[.slice none 0 0, .slice none 0 0] 26)).heap.size + 1 + 1; omega)); (have HFN : Hid (fn = sa.length) := hfn); have HT9 := Lib.hid (((KAt.new wc (.slice none 0 0) (.slice none 0 0) 26).below (Below.refl _ _).drew (KAt.new wc (.slice none 0 0) (.slice none 0 0) 26).lt).below hb9 (KAt.new wc (.slice none 0 0) (.slice none 0 0) 26).lt); have HB9 := Lib.hid (below_da hb9); clear ha9 hb9 hf9 hfn; obtain ⟨t0, t1, v0, v1, v2⟩ := HT9.out)))
            all_goals
              go_wp2_with fail
              go_meet
              first
                | exact ⟨_, A8, n8, c8, A9, m9, c9, F, fc, rfl, by rw [HFN.out], hnil, KAt.new w0 _ _ _, (HA9.out.below (below_alloc _ _)).mono (Nat.zero_le _), by rw [← HFN.out]; exact Sl.below HF9.out.sl (below_alloc _ _), HB9.out.trans ((below_alloc _ _).mono HB9.out.size)⟩
                | exact ⟨_, A8, n8, c8, A9, m9, c9, F, fc, rfl, by rw [HFN.out], hnil, (HT9.out.set0 _).set1 _, (HA9.out.pk (((Pk.refl wc.heap.size w0).setCell 0 _).setCell 1 _) (Nat.lt_succ_self _)).mono (Nat.zero_le _), by rw [← HFN.out]; exact (HF9.out.pk (((Pk.refl wc.heap.size w0).setCell 0 _).setCell 1 _) (Nat.lt_succ_self _)).sl, (HB9.out.setCell (p := ⟨wc.heap.size, 0, none⟩) (Nat.le_refl _) _).setCell (p := ⟨wc.heap.size, 1, none⟩) (Nat.le_refl _) _⟩
          case rest =>
            obtain ⟨b9, A10, n10, c10, A11, m11, c11, G, gc, rfl, rfl, hgn, hkc, hvc, hgs, hbd⟩ := hcut
            have HVD := Lib.hid hvc
            have HKD := Lib.hid hkc
            have HGD := Lib.hid hgs
            have HGZ := Lib.hid hgn
            have HFD := Lib.hid (Sl.below HF1.out hbd)
            have HTD := Lib.hid (Sl.below HTC.out hbd)
            have HXD := Lib.hid (HXC.out.below hbd)
            have HXBD := Lib.hid (HXBC.out.below hbd HXBC.out.lt)
            have HWD : Hid (Below w.heap.size w wc) := HWC.out.trans (hbd.mono HWC.out.size)
            clear b0 b1 l0 l1 l2 hvc hbd hkc hgs hgn
            go_wp2_with fail
            go_loopw [14] (fun i wr => ∃ k : Nat, k ≤ N ∧ i = .int .i64 k ∧ wr = wc) (fun i _ => N - (intOf i).toNat)
            case atStart => exact ⟨0, by omega, rfl, rfl⟩
            case round =>
              obtain ⟨k, hk, rfl, hwr⟩ := hrel
              subst hwr
              by_cases hlt : k < N
              · obtain ⟨bt, ot, t, rfl, hbt, ht, hct⟩ := HTD.out.txt_at hlt
                have htb := bs_toList t
                have htn : (t == []) = false := by rw [beq_eq_false_iff_ne]; exact HNE.out t (List.mem_of_getElem? ht)
                clear ht
                go_wp2_with fail
                go_roundw
                case rel => exact ⟨k + 1, by omega, by go_num, by first | rfl | trivial⟩
                case measure => simp [intOf]; omega
              · obtain rfl : N = k := by omega
                obtain ⟨x0, x1, y0, y1, y2⟩ := HXBD.out
                go_wp2_with fail
                refine (HS1.out _ _ _ _ _ _ _ HXD.out (HE.out.kp (Kp.below HWD.out))).mono ?_
                rintro e wp ⟨A12, n12, c12, A13, m13, c13, rfl, _, hbp⟩
                obtain ⟨wa, hwa⟩ : ∃ wa, wa = wp.alloc (.cells #[.slice A12 n12 c12, .slice A13 m13 c13] 26) := ⟨_, rfl⟩
                have HBA : Hid (Below wr.heap.size wr wa) := by rw [hwa]; exact hbp.trans ((below_alloc _ _).mono hbp.size)
                have HXA := Lib.hid (HXD.out.below HBA.out)
                have HXBA := Lib.hid (HXBD.out.below HBA.out HXBD.out.lt)
                have HWA : Hid (Below w.heap.size w wa) := HWD.out.trans (HBA.out.mono HWD.out.size)
                clear x0 x1 y0 y1 y2
                obtain ⟨x0, x1, y0, y1, y2⟩ := HXBD.out.below hbp HXBD.out.lt
                clear hbp
                have hz1 : (bs tx).size ≤ 100000 := HTX.out
                have hz2 : ({ data := #[119, 114, 105, 116, 101, 32] } : ByteArray).size = 6 := rfl
                go_wp2_with fail
                rw [← hwa]
                clear hwa x0 x1 y0 y1 y2 hz1 hz2
                refine (HS2.out _ _ _ _ _ _ _ HXA.out (HE.out.kp (Kp.below HWA.out))).mono ?_
                rintro e wp ⟨A14, n14, c14, A15, m15, c15, rfl, hzp, hbp⟩
                obtain ⟨wb, hwb⟩ : ∃ wb, wb = wp.alloc (.cells #[.slice A14 n14 c14, .slice A15 m15 c15] 26) := ⟨_, rfl⟩
                have HBB : Hid (Below wr.heap.size wr wb) := by rw [hwb]; exact HBA.out.trans ((hbp.trans ((below_alloc _ _).mono hbp.size)).mono HBA.out.size)
                have HZB : Hid (DkV wb 0 A14 n14 c14 A15 m15 z) := by rw [hwb]; exact (hzp.mono (Nat.zero_le _)).below (below_alloc _ _)
                have HZBB : Hid (KAt wb wp.heap.size (.slice A14 n14 c14) (.slice A15 m15 c15)) := by rw [hwb]; exact KAt.new wp _ _ _
                have HWB : Hid (Below w.heap.size w wb) := HWD.out.trans (HBB.out.mono HWD.out.size)
                have hsz : wp.heap.size < wb.heap.size := HZBB.out.lt
                obtain ⟨zb, hzb⟩ : ∃ zb, zb = wp.heap.size := ⟨_, rfl⟩
                clear hbp hzp
                go_upto_region 20 with fail
                rw [← hwb, ← hzb]
                rw [← hzb] at HZBB hsz
                clear hwb hzb
                obtain ⟨z0, z1, v0, v1, v2⟩ := HZBB.out
                go_wp2_with fail
                refine (HS3.out _ _ _ _ _ _ _ HZB.out (HE.out.kp (Kp.below HWB.out))).mono ?_
                rintro e wp ⟨A16, n16, c16, A17, m17, c17, rfl, _, hbp⟩
                obtain ⟨wd, hwd⟩ : ∃ wd, wd = wp.alloc (.cells #[.slice A16 n16 c16, .slice A17 m17 c17] 26) := ⟨_, rfl⟩
                have HBD : Hid (Below wr.heap.size wr wd) := by rw [hwd]; exact HBB.out.trans ((hbp.trans ((below_alloc _ _).mono hbp.size)).mono HBB.out.size)
                have HXE := Lib.hid (HXD.out.below HBD.out)
                have HXBE := Lib.hid (HXBD.out.below HBD.out HXBD.out.lt)
                have HVE := Lib.hid (HVD.out.below HBD.out)
                have HKE := Lib.hid (HKD.out.below HBD.out HKD.out.lt)
                have HFE := Lib.hid (Sl.below HFD.out HBD.out)
                have HGE := Lib.hid (Sl.below HGD.out HBD.out)
                have HTE2 := Lib.hid (Sl.below HTD.out HBD.out)
                have HWE : Hid (Below w.heap.size w wd) := HWD.out.trans (HBD.out.mono HWD.out.size)
                clear z0 z1 v0 v1 v2 hbp hsz
                go_upto_region 21 with fail
                rw [← hwd]
                clear hwd
                obtain ⟨x0, x1, y0, y1, y2⟩ := HXBE.out
                obtain ⟨k0, k1, l0, l1, l2⟩ := HKE.out
                go_wp2_with fail
                refine (sameDesk_true A10 A11 A4 A5 n10 c10 m11 c11 n4 c4 m5 c5 xb wd HVE.out HXE.out HZX.out HFX.out).mono ?_
                rintro e we ⟨rfl, hbe⟩
                obtain ⟨wf, hwf⟩ : ∃ wf, wf = we.alloc (.cells #[] 9) := ⟨_, rfl⟩
                have HBF : Hid (Below wd.heap.size wd wf) := by rw [hwf]; exact hbe.trans ((below_alloc _ _).mono hbe.size)
                have HEF : Hid (Ow wf we.heap.size 9 (.slice (some ⟨we.heap.size, 0, none⟩) 0 0) 0 []) := by rw [hwf]; exact Ow.empty we _
                have HWF : Hid (Below w.heap.size w wf) := HWE.out.trans (HBF.out.mono HWE.out.size)
                have hsf : we.heap.size ≤ wf.heap.size := by rw [hwf]; exact (below_alloc we _).size
                have HFF := Lib.hid (Sl.below HFE.out HBF.out)
                have hfl6 : fa.length ≤ 6 := HFL.out.1
                have hgl6 : sa.length ≤ 6 := HFL.out.2
                have HSE : Hid (wd.heap.size ≤ we.heap.size) := hbe.size
                clear x0 x1 y0 y1 y2 k0 k1 l0 l1 l2 hbe
                go_wp2_with first
                  | (at_builtin; rw [← hwf]; refine wl_appSg we.heap.size (fa.map sv) hsf (by rfl) (.tmp 120) (.tmp 121) 45 rfl Tryz.eS _ 0 _ rfl HEF.out F fa.length fc rfl HFZ.out HFF.out (svs_one _) (by unfold maxLen; omega) (by omega) ?_; intro v1 wg ho1 hb1; rw [Nat.zero_add, List.nil_append] at ho1; have HO1 := Lib.hid ho1; have HBG : Hid (Below wd.heap.size wd wg) := HBF.out.trans (hb1.mono HSE.out); have HGG := Lib.hid (Sl.below HGE.out HBG.out); have hsg := Nat.le_trans hsf hb1.size; clear ho1 hb1)
                  | (at_builtin; refine wl_appSg we.heap.size (sa.map sv) hsg (by rfl) (.tmp 122) (.tmp 123) 45 rfl Tryz.eS _ fa.length _ rfl HO1.out G sa.length gc rfl HGZ.out HGG.out (svs_one _) (by unfold maxLen; omega) (by omega) ?_; intro v2 wh ho2 hb2; obtain ⟨U, uc, rfl⟩ := ho2.shape; have HO2 := Lib.hid ho2; have HBH : Hid (Below wd.heap.size wd wh) := HBG.out.trans (hb2.mono HSE.out); clear ho2 hb2)
                have HUH : Hid (Sl wh U (fa.length + sa.length) (ts.map sv)) := by
                  have h := HO2.out.sl
                  rw [← List.map_append, HFS.out] at h
                  exact h
                have HTH := Lib.hid (Sl.below HTE2.out HBH.out)
                have HWH : Hid (Below w.heap.size w wh) := HWE.out.trans (HBH.out.mono HWE.out.size)
                have hnu : fa.length + sa.length ≤ 1048576 := by omega
                refine (sameTexts_true U T (fa.length + sa.length) uc N tc ts wh hnu HUH.out HTH.out).mono ?_
                rintro e wi ⟨rfl, hbi⟩
                have HWI : Hid (Below w.heap.size w wi) := HWH.out.trans (hbi.mono HWH.out.size)
                clear hbi
                have hNl := HNN.out.trans HTE.out
                subst hNl
                have htt := bs_toList tx
                have hto := bs_toList [111, 107]
                rcases HFIN.out with hn | ⟨hn, rfl, rfl⟩
                all_goals
                  go_wp2_with fail
                  go_ret
                  exact ⟨rfl, HWI.out⟩
    · by_cases hl0 : l = 0
      · subst hl0
        obtain rfl : hh = 0 := HH0.out rfl
        clear eh
        have HDD : Hid (∀ w', Sl w' (some ⟨g, 0, none⟩) 0 (ls.map sv) → Sl w' (some ⟨g, 0, none⟩) (0 - 0) ((ls.drop 0).map sv)) := fun w' h => h
        by_cases hlc0 : lc = 0
        · subst hlc0
          as_aux_lemma =>
            clear x0 x1 y0 y1 y2
            obtain ⟨k0, k1, l0, l1, l2⟩ := HK9.out
            go_upto_region 11 with fail
            go_cut [10, 11] (fun sb st wx => ∃ (b : Nat) (A8 : Option Addr) (n8 c8 : Nat) (A9 : Option Addr) (m9 c9 : Nat) (F : Option Addr) (fc : Nat), sb = .pointer (some ⟨b, 0, none⟩) ∧ st = .slice F fa.length fc ∧ (F = none → fc = 0) ∧ KAt wx b (.slice A8 n8 c8) (.slice A9 m9 c9) ∧ DkV wx 0 A8 n8 c8 A9 m9 xa ∧ Sl wx F fa.length (fa.map sv) ∧ Below w9.heap.size w9 wx)
            case first =>
              go_region_law ((go_simp; go_at_call 23; first
                | ((with_reducible refine Calls.mono (HR1.out _ _ (HV9.out.below (Below.refl _ _).drew) (Sl.below HD9.out (Below.refl _ _).drew) (HE.out.kp (Kp.below HW9.out.drew))) ?_); rintro e w0 ⟨A8, n8, c8, A9, m9, c9, F, fn, fc, rfl, hfn, ha9, hf9, hb9⟩; have HA9 : Hid (DkV w0 w9.heap.size A8 n8 c8 A9 m9 xa) := ha9; (have hnil := hf9.hnil); (have HF9 : Hid (Ow w0 (w9.heap.size + 1 + 1) 9 (.slice F fn fc) fn (fa.map sv)) := hf9); (have HFN : Hid (fn = fa.length) := hfn); have HB9 := Lib.hid (below_d hb9); clear ha9 hb9 hf9 hfn)
                | ((with_reducible refine Calls.mono (HR1.out _ _ (HV9.out.below (below_alloc w9 (.cells #[.slice none 0 0, .slice none 0 0] 26)).drew) (Sl.below HD9.out (below_alloc w9 (.cells #[.slice none 0 0, .slice none 0 0] 26)).drew) (HE.out.kp (Kp.below (HW9.out.trans ((below_alloc w9 (.cells #[.slice none 0 0, .slice none 0 0] 26)).drew.mono HW9.out.size))))) ?_); rintro e w0 ⟨A8, n8, c8, A9, m9, c9, F, fn, fc, rfl, hfn, ha9, hf9, hb9⟩; have HA9 : Hid (DkV w0 (w9.heap.size + 1) A8 n8 c8 A9 m9 xa) := (ha9.mono (Nat.le_of_eq (size_alloc w9 (.cells #[.slice none 0 0, .slice none 0 0] 26)).symm)); (have hnil := hf9.hnil); (have HF9 : Hid (Ow w0 (w9.heap.size + 1) 9 (.slice F fn fc) fn (fa.map sv)) := hf9.mono (by have h := size_alloc w9 (.cells #[.slice none 0 0, .slice none 0 0] 26); show _ ≤ (w9.alloc (.cells #[.slice none 0 0, .slice none 0 0] 26)).heap.size + 1 + 1; omega)); (have HFN : Hid (fn = fa.length) := hfn); have HT9 := Lib.hid (((KAt.new w9 (.slice none 0 0) (.slice none 0 0) 26).below (Below.refl _ _).drew (KAt.new w9 (.slice none 0 0) (.slice none 0 0) 26).lt).below hb9 (KAt.new w9 (.slice none 0 0) (.slice none 0 0) 26).lt); have HB9 := Lib.hid (below_da hb9); clear ha9 hb9 hf9 hfn; obtain ⟨t0, t1, v0, v1, v2⟩ := HT9.out)))
              all_goals
                go_wp2_with fail
                go_meet
                first
                  | exact ⟨_, A8, n8, c8, A9, m9, c9, F, fc, rfl, by rw [HFN.out], hnil, KAt.new w0 _ _ _, (HA9.out.below (below_alloc _ _)).mono (Nat.zero_le _), by rw [← HFN.out]; exact Sl.below HF9.out.sl (below_alloc _ _), HB9.out.trans ((below_alloc _ _).mono HB9.out.size)⟩
                  | exact ⟨_, A8, n8, c8, A9, m9, c9, F, fc, rfl, by rw [HFN.out], hnil, (HT9.out.set0 _).set1 _, (HA9.out.pk (((Pk.refl w9.heap.size w0).setCell 0 _).setCell 1 _) (Nat.lt_succ_self _)).mono (Nat.zero_le _), by rw [← HFN.out]; exact (HF9.out.pk (((Pk.refl w9.heap.size w0).setCell 0 _).setCell 1 _) (Nat.lt_succ_self _)).sl, (HB9.out.setCell (p := ⟨w9.heap.size, 0, none⟩) (Nat.le_refl _) _).setCell (p := ⟨w9.heap.size, 1, none⟩) (Nat.le_refl _) _⟩
            case rest =>
              obtain ⟨b8, A8, n8, c8, A9, m9, c9, F, fc, rfl, rfl, hfn, hkb, hva, hfs, hbc⟩ := hcut
              have HVA := Lib.hid hva
              have HF1 := Lib.hid hfs
              have HFZ := Lib.hid hfn
              have HWC : Hid (Below w.heap.size w wc) := HW9.out.trans (hbc.mono HW9.out.size)
              have HDC := Lib.hid (Sl.below HD9.out hbc)
              have HTC := Lib.hid (Sl.below HT9.out hbc)
              have HXC := Lib.hid (HX9.out.below hbc)
              have HXBC := Lib.hid (HXB9.out.below hbc HXB9.out.lt)
              clear k0 k1 l0 l1 l2 hva hbc hfs hfn
              obtain ⟨b0, b1, l0, l1, l2⟩ := hkb
              go_upto_region 12 with fail
              go_cut [12, 13] (fun sb st wx => ∃ (b : Nat) (A8 : Option Addr) (n8 c8 : Nat) (A9 : Option Addr) (m9 c9 : Nat) (F : Option Addr) (fc : Nat), sb = .pointer (some ⟨b, 0, none⟩) ∧ st = .slice F sa.length fc ∧ (F = none → fc = 0) ∧ KAt wx b (.slice A8 n8 c8) (.slice A9 m9 c9) ∧ DkV wx 0 A8 n8 c8 A9 m9 xb ∧ Sl wx F sa.length (sa.map sv) ∧ Below wc.heap.size wc wx)
              case first =>
                go_region_law ((go_simp; go_at_call 23; first
                  | ((with_reducible refine Calls.mono (HR2.out _ _ _ _ _ _ _ _ _ (HVA.out.below (Below.refl _ _).drew) (HDD.out _ (Sl.below HDC.out (Below.refl _ _).drew)) (HE.out.kp (Kp.below HWC.out.drew))) ?_); rintro e w0 ⟨A8, n8, c8, A9, m9, c9, F, fn, fc, rfl, hfn, ha9, hf9, hb9⟩; have HA9 : Hid (DkV w0 wc.heap.size A8 n8 c8 A9 m9 xb) := ha9; (have hnil := hf9.hnil); (have HF9 : Hid (Ow w0 (wc.heap.size + 1 + 1) 9 (.slice F fn fc) fn (sa.map sv)) := hf9); (have HFN : Hid (fn = sa.length) := hfn); have HB9 := Lib.hid (below_d hb9); clear ha9 hb9 hf9 hfn)
                  | ((with_reducible refine Calls.mono (HR2.out _ _ _ _ _ _ _ _ _ (HVA.out.below (below_alloc wc (.cells #[.slice none 0 0, .slice none 0 0] 26)).drew) (HDD.out _ (Sl.below HDC.out (below_alloc wc (.cells #[.slice none 0 0, .slice none 0 0] 26)).drew)) (HE.out.kp (Kp.below (HWC.out.trans ((below_alloc wc (.cells #[.slice none 0 0, .slice none 0 0] 26)).drew.mono HWC.out.size))))) ?_); rintro e w0 ⟨A8, n8, c8, A9, m9, c9, F, fn, fc, rfl, hfn, ha9, hf9, hb9⟩; have HA9 : Hid (DkV w0 (wc.heap.size + 1) A8 n8 c8 A9 m9 xb) := (ha9.mono (Nat.le_of_eq (size_alloc wc (.cells #[.slice none 0 0, .slice none 0 0] 26)).symm)); (have hnil := hf9.hnil); (have HF9 : Hid (Ow w0 (wc.heap.size + 1) 9 (.slice F fn fc) fn (sa.map sv)) := hf9.mono (by have h := size_alloc wc (.cells #[.slice none 0 0, .slice none 0 0] 26); show _ ≤ (wc.alloc (.cells #[.slice none 0 0, .slice none 0 0] 26)).heap.size + 1 + 1; omega)); (have HFN : Hid (fn = sa.length) := hfn); have HT9 := Lib.hid (((KAt.new wc (.slice none 0 0) (.slice none 0 0) 26).below (Below.refl _ _).drew (KAt.new wc (.slice none 0 0) (.slice none 0 0) 26).lt).below hb9 (KAt.new wc (.slice none 0 0) (.slice none 0 0) 26).lt); have HB9 := Lib.hid (below_da hb9); clear ha9 hb9 hf9 hfn; obtain ⟨t0, t1, v0, v1, v2⟩ := HT9.out)))
                all_goals
                  go_wp2_with fail
                  go_meet
                  first
                    | exact ⟨_, A8, n8, c8, A9, m9, c9, F, fc, rfl, by rw [HFN.out], hnil, KAt.new w0 _ _ _, (HA9.out.below (below_alloc _ _)).mono (Nat.zero_le _), by rw [← HFN.out]; exact Sl.below HF9.out.sl (below_alloc _ _), HB9.out.trans ((below_alloc _ _).mono HB9.out.size)⟩
                    | exact ⟨_, A8, n8, c8, A9, m9, c9, F, fc, rfl, by rw [HFN.out], hnil, (HT9.out.set0 _).set1 _, (HA9.out.pk (((Pk.refl wc.heap.size w0).setCell 0 _).setCell 1 _) (Nat.lt_succ_self _)).mono (Nat.zero_le _), by rw [← HFN.out]; exact (HF9.out.pk (((Pk.refl wc.heap.size w0).setCell 0 _).setCell 1 _) (Nat.lt_succ_self _)).sl, (HB9.out.setCell (p := ⟨wc.heap.size, 0, none⟩) (Nat.le_refl _) _).setCell (p := ⟨wc.heap.size, 1, none⟩) (Nat.le_refl _) _⟩
              case rest =>
                obtain ⟨b9, A10, n10, c10, A11, m11, c11, G, gc, rfl, rfl, hgn, hkc, hvc, hgs, hbd⟩ := hcut
                have HVD := Lib.hid hvc
                have HKD := Lib.hid hkc
                have HGD := Lib.hid hgs
                have HGZ := Lib.hid hgn
                have HFD := Lib.hid (Sl.below HF1.out hbd)
                have HTD := Lib.hid (Sl.below HTC.out hbd)
                have HXD := Lib.hid (HXC.out.below hbd)
                have HXBD := Lib.hid (HXBC.out.below hbd HXBC.out.lt)
                have HWD : Hid (Below w.heap.size w wc) := HWC.out.trans (hbd.mono HWC.out.size)
                clear b0 b1 l0 l1 l2 hvc hbd hkc hgs hgn
                go_wp2_with fail
                go_loopw [14] (fun i wr => ∃ k : Nat, k ≤ N ∧ i = .int .i64 k ∧ wr = wc) (fun i _ => N - (intOf i).toNat)
                case atStart => exact ⟨0, by omega, rfl, rfl⟩
                case round =>
                  obtain ⟨k, hk, rfl, hwr⟩ := hrel
                  subst hwr
                  by_cases hlt : k < N
                  · obtain ⟨bt, ot, t, rfl, hbt, ht, hct⟩ := HTD.out.txt_at hlt
                    have htb := bs_toList t
                    have htn : (t == []) = false := by rw [beq_eq_false_iff_ne]; exact HNE.out t (List.mem_of_getElem? ht)
                    clear ht
                    go_wp2_with fail
                    go_roundw
                    case rel => exact ⟨k + 1, by omega, by go_num, by first | rfl | trivial⟩
                    case measure => simp [intOf]; omega
                  · obtain rfl : N = k := by omega
                    obtain ⟨x0, x1, y0, y1, y2⟩ := HXBD.out
                    go_wp2_with fail
                    refine (HS1.out _ _ _ _ _ _ _ HXD.out (HE.out.kp (Kp.below HWD.out))).mono ?_
                    rintro e wp ⟨A12, n12, c12, A13, m13, c13, rfl, _, hbp⟩
                    obtain ⟨wa, hwa⟩ : ∃ wa, wa = wp.alloc (.cells #[.slice A12 n12 c12, .slice A13 m13 c13] 26) := ⟨_, rfl⟩
                    have HBA : Hid (Below wr.heap.size wr wa) := by rw [hwa]; exact hbp.trans ((below_alloc _ _).mono hbp.size)
                    have HXA := Lib.hid (HXD.out.below HBA.out)
                    have HXBA := Lib.hid (HXBD.out.below HBA.out HXBD.out.lt)
                    have HWA : Hid (Below w.heap.size w wa) := HWD.out.trans (HBA.out.mono HWD.out.size)
                    clear x0 x1 y0 y1 y2
                    obtain ⟨x0, x1, y0, y1, y2⟩ := HXBD.out.below hbp HXBD.out.lt
                    clear hbp
                    have hz1 : (bs tx).size ≤ 100000 := HTX.out
                    have hz2 : ({ data := #[119, 114, 105, 116, 101, 32] } : ByteArray).size = 6 := rfl
                    go_wp2_with fail
                    rw [← hwa]
                    clear hwa x0 x1 y0 y1 y2 hz1 hz2
                    refine (HS2.out _ _ _ _ _ _ _ HXA.out (HE.out.kp (Kp.below HWA.out))).mono ?_
                    rintro e wp ⟨A14, n14, c14, A15, m15, c15, rfl, hzp, hbp⟩
                    obtain ⟨wb, hwb⟩ : ∃ wb, wb = wp.alloc (.cells #[.slice A14 n14 c14, .slice A15 m15 c15] 26) := ⟨_, rfl⟩
                    have HBB : Hid (Below wr.heap.size wr wb) := by rw [hwb]; exact HBA.out.trans ((hbp.trans ((below_alloc _ _).mono hbp.size)).mono HBA.out.size)
                    have HZB : Hid (DkV wb 0 A14 n14 c14 A15 m15 z) := by rw [hwb]; exact (hzp.mono (Nat.zero_le _)).below (below_alloc _ _)
                    have HZBB : Hid (KAt wb wp.heap.size (.slice A14 n14 c14) (.slice A15 m15 c15)) := by rw [hwb]; exact KAt.new wp _ _ _
                    have HWB : Hid (Below w.heap.size w wb) := HWD.out.trans (HBB.out.mono HWD.out.size)
                    have hsz : wp.heap.size < wb.heap.size := HZBB.out.lt
                    obtain ⟨zb, hzb⟩ : ∃ zb, zb = wp.heap.size := ⟨_, rfl⟩
                    clear hbp hzp
                    go_upto_region 20 with fail
                    rw [← hwb, ← hzb]
                    rw [← hzb] at HZBB hsz
                    clear hwb hzb
                    obtain ⟨z0, z1, v0, v1, v2⟩ := HZBB.out
                    go_wp2_with fail
                    refine (HS3.out _ _ _ _ _ _ _ HZB.out (HE.out.kp (Kp.below HWB.out))).mono ?_
                    rintro e wp ⟨A16, n16, c16, A17, m17, c17, rfl, _, hbp⟩
                    obtain ⟨wd, hwd⟩ : ∃ wd, wd = wp.alloc (.cells #[.slice A16 n16 c16, .slice A17 m17 c17] 26) := ⟨_, rfl⟩
                    have HBD : Hid (Below wr.heap.size wr wd) := by rw [hwd]; exact HBB.out.trans ((hbp.trans ((below_alloc _ _).mono hbp.size)).mono HBB.out.size)
                    have HXE := Lib.hid (HXD.out.below HBD.out)
                    have HXBE := Lib.hid (HXBD.out.below HBD.out HXBD.out.lt)
                    have HVE := Lib.hid (HVD.out.below HBD.out)
                    have HKE := Lib.hid (HKD.out.below HBD.out HKD.out.lt)
                    have HFE := Lib.hid (Sl.below HFD.out HBD.out)
                    have HGE := Lib.hid (Sl.below HGD.out HBD.out)
                    have HTE2 := Lib.hid (Sl.below HTD.out HBD.out)
                    have HWE : Hid (Below w.heap.size w wd) := HWD.out.trans (HBD.out.mono HWD.out.size)
                    clear z0 z1 v0 v1 v2 hbp hsz
                    go_upto_region 21 with fail
                    rw [← hwd]
                    clear hwd
                    obtain ⟨x0, x1, y0, y1, y2⟩ := HXBE.out
                    obtain ⟨k0, k1, l0, l1, l2⟩ := HKE.out
                    go_wp2_with fail
                    refine (sameDesk_true A10 A11 A4 A5 n10 c10 m11 c11 n4 c4 m5 c5 xb wd HVE.out HXE.out HZX.out HFX.out).mono ?_
                    rintro e we ⟨rfl, hbe⟩
                    obtain ⟨wf, hwf⟩ : ∃ wf, wf = we.alloc (.cells #[] 9) := ⟨_, rfl⟩
                    have HBF : Hid (Below wd.heap.size wd wf) := by rw [hwf]; exact hbe.trans ((below_alloc _ _).mono hbe.size)
                    have HEF : Hid (Ow wf we.heap.size 9 (.slice (some ⟨we.heap.size, 0, none⟩) 0 0) 0 []) := by rw [hwf]; exact Ow.empty we _
                    have HWF : Hid (Below w.heap.size w wf) := HWE.out.trans (HBF.out.mono HWE.out.size)
                    have hsf : we.heap.size ≤ wf.heap.size := by rw [hwf]; exact (below_alloc we _).size
                    have HFF := Lib.hid (Sl.below HFE.out HBF.out)
                    have hfl6 : fa.length ≤ 6 := HFL.out.1
                    have hgl6 : sa.length ≤ 6 := HFL.out.2
                    have HSE : Hid (wd.heap.size ≤ we.heap.size) := hbe.size
                    clear x0 x1 y0 y1 y2 k0 k1 l0 l1 l2 hbe
                    go_wp2_with first
                      | (at_builtin; rw [← hwf]; refine wl_appSg we.heap.size (fa.map sv) hsf (by rfl) (.tmp 120) (.tmp 121) 45 rfl Tryz.eS _ 0 _ rfl HEF.out F fa.length fc rfl HFZ.out HFF.out (svs_one _) (by unfold maxLen; omega) (by omega) ?_; intro v1 wg ho1 hb1; rw [Nat.zero_add, List.nil_append] at ho1; have HO1 := Lib.hid ho1; have HBG : Hid (Below wd.heap.size wd wg) := HBF.out.trans (hb1.mono HSE.out); have HGG := Lib.hid (Sl.below HGE.out HBG.out); have hsg := Nat.le_trans hsf hb1.size; clear ho1 hb1)
                      | (at_builtin; refine wl_appSg we.heap.size (sa.map sv) hsg (by rfl) (.tmp 122) (.tmp 123) 45 rfl Tryz.eS _ fa.length _ rfl HO1.out G sa.length gc rfl HGZ.out HGG.out (svs_one _) (by unfold maxLen; omega) (by omega) ?_; intro v2 wh ho2 hb2; obtain ⟨U, uc, rfl⟩ := ho2.shape; have HO2 := Lib.hid ho2; have HBH : Hid (Below wd.heap.size wd wh) := HBG.out.trans (hb2.mono HSE.out); clear ho2 hb2)
                    have HUH : Hid (Sl wh U (fa.length + sa.length) (ts.map sv)) := by
                      have h := HO2.out.sl
                      rw [← List.map_append, HFS.out] at h
                      exact h
                    have HTH := Lib.hid (Sl.below HTE2.out HBH.out)
                    have HWH : Hid (Below w.heap.size w wh) := HWE.out.trans (HBH.out.mono HWE.out.size)
                    have hnu : fa.length + sa.length ≤ 1048576 := by omega
                    refine (sameTexts_true U T (fa.length + sa.length) uc N tc ts wh hnu HUH.out HTH.out).mono ?_
                    rintro e wi ⟨rfl, hbi⟩
                    have HWI : Hid (Below w.heap.size w wi) := HWH.out.trans (hbi.mono HWH.out.size)
                    clear hbi
                    have hNl := HNN.out.trans HTE.out
                    subst hNl
                    have htt := bs_toList tx
                    have hto := bs_toList [111, 107]
                    rcases HFIN.out with hn | ⟨hn, rfl, rfl⟩
                    all_goals
                      go_wp2_with fail
                      go_ret
                      exact ⟨rfl, HWI.out⟩
        · have hlci : (0 : Int) < (lc : Int) := by omega
          as_aux_lemma =>
            clear x0 x1 y0 y1 y2
            obtain ⟨k0, k1, l0, l1, l2⟩ := HK9.out
            go_upto_region 11 with fail
            go_cut [10, 11] (fun sb st wx => ∃ (b : Nat) (A8 : Option Addr) (n8 c8 : Nat) (A9 : Option Addr) (m9 c9 : Nat) (F : Option Addr) (fc : Nat), sb = .pointer (some ⟨b, 0, none⟩) ∧ st = .slice F fa.length fc ∧ (F = none → fc = 0) ∧ KAt wx b (.slice A8 n8 c8) (.slice A9 m9 c9) ∧ DkV wx 0 A8 n8 c8 A9 m9 xa ∧ Sl wx F fa.length (fa.map sv) ∧ Below w9.heap.size w9 wx)
            case first =>
              go_region_law ((go_simp; go_at_call 23; first
                | ((with_reducible refine Calls.mono (HR1.out _ _ (HV9.out.below (Below.refl _ _).drew) (Sl.below HD9.out (Below.refl _ _).drew) (HE.out.kp (Kp.below HW9.out.drew))) ?_); rintro e w0 ⟨A8, n8, c8, A9, m9, c9, F, fn, fc, rfl, hfn, ha9, hf9, hb9⟩; have HA9 : Hid (DkV w0 w9.heap.size A8 n8 c8 A9 m9 xa) := ha9; (have hnil := hf9.hnil); (have HF9 : Hid (Ow w0 (w9.heap.size + 1 + 1) 9 (.slice F fn fc) fn (fa.map sv)) := hf9); (have HFN : Hid (fn = fa.length) := hfn); have HB9 := Lib.hid (below_d hb9); clear ha9 hb9 hf9 hfn)
                | ((with_reducible refine Calls.mono (HR1.out _ _ (HV9.out.below (below_alloc w9 (.cells #[.slice none 0 0, .slice none 0 0] 26)).drew) (Sl.below HD9.out (below_alloc w9 (.cells #[.slice none 0 0, .slice none 0 0] 26)).drew) (HE.out.kp (Kp.below (HW9.out.trans ((below_alloc w9 (.cells #[.slice none 0 0, .slice none 0 0] 26)).drew.mono HW9.out.size))))) ?_); rintro e w0 ⟨A8, n8, c8, A9, m9, c9, F, fn, fc, rfl, hfn, ha9, hf9, hb9⟩; have HA9 : Hid (DkV w0 (w9.heap.size + 1) A8 n8 c8 A9 m9 xa) := (ha9.mono (Nat.le_of_eq (size_alloc w9 (.cells #[.slice none 0 0, .slice none 0 0] 26)).symm)); (have hnil := hf9.hnil); (have HF9 : Hid (Ow w0 (w9.heap.size + 1) 9 (.slice F fn fc) fn (fa.map sv)) := hf9.mono (by have h := size_alloc w9 (.cells #[.slice none 0 0, .slice none 0 0] 26); show _ ≤ (w9.alloc (.cells #[.slice none 0 0, .slice none 0 0] 26)).heap.size + 1 + 1; omega)); (have HFN : Hid (fn = fa.length) := hfn); have HT9 := Lib.hid (((KAt.new w9 (.slice none 0 0) (.slice none 0 0) 26).below (Below.refl _ _).drew (KAt.new w9 (.slice none 0 0) (.slice none 0 0) 26).lt).below hb9 (KAt.new w9 (.slice none 0 0) (.slice none 0 0) 26).lt); have HB9 := Lib.hid (below_da hb9); clear ha9 hb9 hf9 hfn; obtain ⟨t0, t1, v0, v1, v2⟩ := HT9.out)))
              all_goals
                go_wp2_with fail
                go_meet
                first
                  | exact ⟨_, A8, n8, c8, A9, m9, c9, F, fc, rfl, by rw [HFN.out], hnil, KAt.new w0 _ _ _, (HA9.out.below (below_alloc _ _)).mono (Nat.zero_le _), by rw [← HFN.out]; exact Sl.below HF9.out.sl (below_alloc _ _), HB9.out.trans ((below_alloc _ _).mono HB9.out.size)⟩
                  | exact ⟨_, A8, n8, c8, A9, m9, c9, F, fc, rfl, by rw [HFN.out], hnil, (HT9.out.set0 _).set1 _, (HA9.out.pk (((Pk.refl w9.heap.size w0).setCell 0 _).setCell 1 _) (Nat.lt_succ_self _)).mono (Nat.zero_le _), by rw [← HFN.out]; exact (HF9.out.pk (((Pk.refl w9.heap.size w0).setCell 0 _).setCell 1 _) (Nat.lt_succ_self _)).sl, (HB9.out.setCell (p := ⟨w9.heap.size, 0, none⟩) (Nat.le_refl _) _).setCell (p := ⟨w9.heap.size, 1, none⟩) (Nat.le_refl _) _⟩
            case rest =>
              obtain ⟨b8, A8, n8, c8, A9, m9, c9, F, fc, rfl, rfl, hfn, hkb, hva, hfs, hbc⟩ := hcut
              have HVA := Lib.hid hva
              have HF1 := Lib.hid hfs
              have HFZ := Lib.hid hfn
              have HWC : Hid (Below w.heap.size w wc) := HW9.out.trans (hbc.mono HW9.out.size)
              have HDC := Lib.hid (Sl.below HD9.out hbc)
              have HTC := Lib.hid (Sl.below HT9.out hbc)
              have HXC := Lib.hid (HX9.out.below hbc)
              have HXBC := Lib.hid (HXB9.out.below hbc HXB9.out.lt)
              clear k0 k1 l0 l1 l2 hva hbc hfs hfn
              obtain ⟨b0, b1, l0, l1, l2⟩ := hkb
              go_upto_region 12 with fail
              go_cut [12, 13] (fun sb st wx => ∃ (b : Nat) (A8 : Option Addr) (n8 c8 : Nat) (A9 : Option Addr) (m9 c9 : Nat) (F : Option Addr) (fc : Nat), sb = .pointer (some ⟨b, 0, none⟩) ∧ st = .slice F sa.length fc ∧ (F = none → fc = 0) ∧ KAt wx b (.slice A8 n8 c8) (.slice A9 m9 c9) ∧ DkV wx 0 A8 n8 c8 A9 m9 xb ∧ Sl wx F sa.length (sa.map sv) ∧ Below wc.heap.size wc wx)
              case first =>
                go_region_law ((go_simp; go_at_call 23; first
                  | ((with_reducible refine Calls.mono (HR2.out _ _ _ _ _ _ _ _ _ (HVA.out.below (Below.refl _ _).drew) (HDD.out _ (Sl.below HDC.out (Below.refl _ _).drew)) (HE.out.kp (Kp.below HWC.out.drew))) ?_); rintro e w0 ⟨A8, n8, c8, A9, m9, c9, F, fn, fc, rfl, hfn, ha9, hf9, hb9⟩; have HA9 : Hid (DkV w0 wc.heap.size A8 n8 c8 A9 m9 xb) := ha9; (have hnil := hf9.hnil); (have HF9 : Hid (Ow w0 (wc.heap.size + 1 + 1) 9 (.slice F fn fc) fn (sa.map sv)) := hf9); (have HFN : Hid (fn = sa.length) := hfn); have HB9 := Lib.hid (below_d hb9); clear ha9 hb9 hf9 hfn)
                  | ((with_reducible refine Calls.mono (HR2.out _ _ _ _ _ _ _ _ _ (HVA.out.below (below_alloc wc (.cells #[.slice none 0 0, .slice none 0 0] 26)).drew) (HDD.out _ (Sl.below HDC.out (below_alloc wc (.cells #[.slice none 0 0, .slice none 0 0] 26)).drew)) (HE.out.kp (Kp.below (HWC.out.trans ((below_alloc wc (.cells #[.slice none 0 0, .slice none 0 0] 26)).drew.mono HWC.out.size))))) ?_); rintro e w0 ⟨A8, n8, c8, A9, m9, c9, F, fn, fc, rfl, hfn, ha9, hf9, hb9⟩; have HA9 : Hid (DkV w0 (wc.heap.size + 1) A8 n8 c8 A9 m9 xb) := (ha9.mono (Nat.le_of_eq (size_alloc wc (.cells #[.slice none 0 0, .slice none 0 0] 26)).symm)); (have hnil := hf9.hnil); (have HF9 : Hid (Ow w0 (wc.heap.size + 1) 9 (.slice F fn fc) fn (sa.map sv)) := hf9.mono (by have h := size_alloc wc (.cells #[.slice none 0 0, .slice none 0 0] 26); show _ ≤ (wc.alloc (.cells #[.slice none 0 0, .slice none 0 0] 26)).heap.size + 1 + 1; omega)); (have HFN : Hid (fn = sa.length) := hfn); have HT9 := Lib.hid (((KAt.new wc (.slice none 0 0) (.slice none 0 0) 26).below (Below.refl _ _).drew (KAt.new wc (.slice none 0 0) (.slice none 0 0) 26).lt).below hb9 (KAt.new wc (.slice none 0 0) (.slice none 0 0) 26).lt); have HB9 := Lib.hid (below_da hb9); clear ha9 hb9 hf9 hfn; obtain ⟨t0, t1, v0, v1, v2⟩ := HT9.out)))
                all_goals
                  go_wp2_with fail
                  go_meet
                  first
                    | exact ⟨_, A8, n8, c8, A9, m9, c9, F, fc, rfl, by rw [HFN.out], hnil, KAt.new w0 _ _ _, (HA9.out.below (below_alloc _ _)).mono (Nat.zero_le _), by rw [← HFN.out]; exact Sl.below HF9.out.sl (below_alloc _ _), HB9.out.trans ((below_alloc _ _).mono HB9.out.size)⟩
                    | exact ⟨_, A8, n8, c8, A9, m9, c9, F, fc, rfl, by rw [HFN.out], hnil, (HT9.out.set0 _).set1 _, (HA9.out.pk (((Pk.refl wc.heap.size w0).setCell 0 _).setCell 1 _) (Nat.lt_succ_self _)).mono (Nat.zero_le _), by rw [← HFN.out]; exact (HF9.out.pk (((Pk.refl wc.heap.size w0).setCell 0 _).setCell 1 _) (Nat.lt_succ_self _)).sl, (HB9.out.setCell (p := ⟨wc.heap.size, 0, none⟩) (Nat.le_refl _) _).setCell (p := ⟨wc.heap.size, 1, none⟩) (Nat.le_refl _) _⟩
              case rest =>
                obtain ⟨b9, A10, n10, c10, A11, m11, c11, G, gc, rfl, rfl, hgn, hkc, hvc, hgs, hbd⟩ := hcut
                have HVD := Lib.hid hvc
                have HKD := Lib.hid hkc
                have HGD := Lib.hid hgs
                have HGZ := Lib.hid hgn
                have HFD := Lib.hid (Sl.below HF1.out hbd)
                have HTD := Lib.hid (Sl.below HTC.out hbd)
                have HXD := Lib.hid (HXC.out.below hbd)
                have HXBD := Lib.hid (HXBC.out.below hbd HXBC.out.lt)
                have HWD : Hid (Below w.heap.size w wc) := HWC.out.trans (hbd.mono HWC.out.size)
                clear b0 b1 l0 l1 l2 hvc hbd hkc hgs hgn
                go_wp2_with fail
                go_loopw [14] (fun i wr => ∃ k : Nat, k ≤ N ∧ i = .int .i64 k ∧ wr = wc) (fun i _ => N - (intOf i).toNat)
                case atStart => exact ⟨0, by omega, rfl, rfl⟩
                case round =>
                  obtain ⟨k, hk, rfl, hwr⟩ := hrel
                  subst hwr
                  by_cases hlt : k < N
                  · obtain ⟨bt, ot, t, rfl, hbt, ht, hct⟩ := HTD.out.txt_at hlt
                    have htb := bs_toList t
                    have htn : (t == []) = false := by rw [beq_eq_false_iff_ne]; exact HNE.out t (List.mem_of_getElem? ht)
                    clear ht
                    go_wp2_with fail
                    go_roundw
                    case rel => exact ⟨k + 1, by omega, by go_num, by first | rfl | trivial⟩
                    case measure => simp [intOf]; omega
                  · obtain rfl : N = k := by omega
                    obtain ⟨x0, x1, y0, y1, y2⟩ := HXBD.out
                    go_wp2_with fail
                    refine (HS1.out _ _ _ _ _ _ _ HXD.out (HE.out.kp (Kp.below HWD.out))).mono ?_
                    rintro e wp ⟨A12, n12, c12, A13, m13, c13, rfl, _, hbp⟩
                    obtain ⟨wa, hwa⟩ : ∃ wa, wa = wp.alloc (.cells #[.slice A12 n12 c12, .slice A13 m13 c13] 26) := ⟨_, rfl⟩
                    have HBA : Hid (Below wr.heap.size wr wa) := by rw [hwa]; exact hbp.trans ((below_alloc _ _).mono hbp.size)
                    have HXA := Lib.hid (HXD.out.below HBA.out)
                    have HXBA := Lib.hid (HXBD.out.below HBA.out HXBD.out.lt)
                    have HWA : Hid (Below w.heap.size w wa) := HWD.out.trans (HBA.out.mono HWD.out.size)
                    clear x0 x1 y0 y1 y2
                    obtain ⟨x0, x1, y0, y1, y2⟩ := HXBD.out.below hbp HXBD.out.lt
                    clear hbp
                    have hz1 : (bs tx).size ≤ 100000 := HTX.out
                    have hz2 : ({ data := #[119, 114, 105, 116, 101, 32] } : ByteArray).size = 6 := rfl
                    go_wp2_with fail
                    rw [← hwa]
                    clear hwa x0 x1 y0 y1 y2 hz1 hz2
                    refine (HS2.out _ _ _ _ _ _ _ HXA.out (HE.out.kp (Kp.below HWA.out))).mono ?_
                    rintro e wp ⟨A14, n14, c14, A15, m15, c15, rfl, hzp, hbp⟩
                    obtain ⟨wb, hwb⟩ : ∃ wb, wb = wp.alloc (.cells #[.slice A14 n14 c14, .slice A15 m15 c15] 26) := ⟨_, rfl⟩
                    have HBB : Hid (Below wr.heap.size wr wb) := by rw [hwb]; exact HBA.out.trans ((hbp.trans ((below_alloc _ _).mono hbp.size)).mono HBA.out.size)
                    have HZB : Hid (DkV wb 0 A14 n14 c14 A15 m15 z) := by rw [hwb]; exact (hzp.mono (Nat.zero_le _)).below (below_alloc _ _)
                    have HZBB : Hid (KAt wb wp.heap.size (.slice A14 n14 c14) (.slice A15 m15 c15)) := by rw [hwb]; exact KAt.new wp _ _ _
                    have HWB : Hid (Below w.heap.size w wb) := HWD.out.trans (HBB.out.mono HWD.out.size)
                    have hsz : wp.heap.size < wb.heap.size := HZBB.out.lt
                    obtain ⟨zb, hzb⟩ : ∃ zb, zb = wp.heap.size := ⟨_, rfl⟩
                    clear hbp hzp
                    go_upto_region 20 with fail
                    rw [← hwb, ← hzb]
                    rw [← hzb] at HZBB hsz
                    clear hwb hzb
                    obtain ⟨z0, z1, v0, v1, v2⟩ := HZBB.out
                    go_wp2_with fail
                    refine (HS3.out _ _ _ _ _ _ _ HZB.out (HE.out.kp (Kp.below HWB.out))).mono ?_
                    rintro e wp ⟨A16, n16, c16, A17, m17, c17, rfl, _, hbp⟩
                    obtain ⟨wd, hwd⟩ : ∃ wd, wd = wp.alloc (.cells #[.slice A16 n16 c16, .slice A17 m17 c17] 26) := ⟨_, rfl⟩
                    have HBD : Hid (Below wr.heap.size wr wd) := by rw [hwd]; exact HBB.out.trans ((hbp.trans ((below_alloc _ _).mono hbp.size)).mono HBB.out.size)
                    have HXE := Lib.hid (HXD.out.below HBD.out)
                    have HXBE := Lib.hid (HXBD.out.below HBD.out HXBD.out.lt)
                    have HVE := Lib.hid (HVD.out.below HBD.out)
                    have HKE := Lib.hid (HKD.out.below HBD.out HKD.out.lt)
                    have HFE := Lib.hid (Sl.below HFD.out HBD.out)
                    have HGE := Lib.hid (Sl.below HGD.out HBD.out)
                    have HTE2 := Lib.hid (Sl.below HTD.out HBD.out)
                    have HWE : Hid (Below w.heap.size w wd) := HWD.out.trans (HBD.out.mono HWD.out.size)
                    clear z0 z1 v0 v1 v2 hbp hsz
                    go_upto_region 21 with fail
                    rw [← hwd]
                    clear hwd
                    obtain ⟨x0, x1, y0, y1, y2⟩ := HXBE.out
                    obtain ⟨k0, k1, l0, l1, l2⟩ := HKE.out
                    go_wp2_with fail
                    refine (sameDesk_true A10 A11 A4 A5 n10 c10 m11 c11 n4 c4 m5 c5 xb wd HVE.out HXE.out HZX.out HFX.out).mono ?_
                    rintro e we ⟨rfl, hbe⟩
                    obtain ⟨wf, hwf⟩ : ∃ wf, wf = we.alloc (.cells #[] 9) := ⟨_, rfl⟩
                    have HBF : Hid (Below wd.heap.size wd wf) := by rw [hwf]; exact hbe.trans ((below_alloc _ _).mono hbe.size)
                    have HEF : Hid (Ow wf we.heap.size 9 (.slice (some ⟨we.heap.size, 0, none⟩) 0 0) 0 []) := by rw [hwf]; exact Ow.empty we _
                    have HWF : Hid (Below w.heap.size w wf) := HWE.out.trans (HBF.out.mono HWE.out.size)
                    have hsf : we.heap.size ≤ wf.heap.size := by rw [hwf]; exact (below_alloc we _).size
                    have HFF := Lib.hid (Sl.below HFE.out HBF.out)
                    have hfl6 : fa.length ≤ 6 := HFL.out.1
                    have hgl6 : sa.length ≤ 6 := HFL.out.2
                    have HSE : Hid (wd.heap.size ≤ we.heap.size) := hbe.size
                    clear x0 x1 y0 y1 y2 k0 k1 l0 l1 l2 hbe
                    go_wp2_with first
                      | (at_builtin; rw [← hwf]; refine wl_appSg we.heap.size (fa.map sv) hsf (by rfl) (.tmp 120) (.tmp 121) 45 rfl Tryz.eS _ 0 _ rfl HEF.out F fa.length fc rfl HFZ.out HFF.out (svs_one _) (by unfold maxLen; omega) (by omega) ?_; intro v1 wg ho1 hb1; rw [Nat.zero_add, List.nil_append] at ho1; have HO1 := Lib.hid ho1; have HBG : Hid (Below wd.heap.size wd wg) := HBF.out.trans (hb1.mono HSE.out); have HGG := Lib.hid (Sl.below HGE.out HBG.out); have hsg := Nat.le_trans hsf hb1.size; clear ho1 hb1)
                      | (at_builtin; refine wl_appSg we.heap.size (sa.map sv) hsg (by rfl) (.tmp 122) (.tmp 123) 45 rfl Tryz.eS _ fa.length _ rfl HO1.out G sa.length gc rfl HGZ.out HGG.out (svs_one _) (by unfold maxLen; omega) (by omega) ?_; intro v2 wh ho2 hb2; obtain ⟨U, uc, rfl⟩ := ho2.shape; have HO2 := Lib.hid ho2; have HBH : Hid (Below wd.heap.size wd wh) := HBG.out.trans (hb2.mono HSE.out); clear ho2 hb2)
                    have HUH : Hid (Sl wh U (fa.length + sa.length) (ts.map sv)) := by
                      have h := HO2.out.sl
                      rw [← List.map_append, HFS.out] at h
                      exact h
                    have HTH := Lib.hid (Sl.below HTE2.out HBH.out)
                    have HWH : Hid (Below w.heap.size w wh) := HWE.out.trans (HBH.out.mono HWE.out.size)
                    have hnu : fa.length + sa.length ≤ 1048576 := by omega
                    refine (sameTexts_true U T (fa.length + sa.length) uc N tc ts wh hnu HUH.out HTH.out).mono ?_
                    rintro e wi ⟨rfl, hbi⟩
                    have HWI : Hid (Below w.heap.size w wi) := HWH.out.trans (hbi.mono HWH.out.size)
                    clear hbi
                    have hNl := HNN.out.trans HTE.out
                    subst hNl
                    have htt := bs_toList tx
                    have hto := bs_toList [111, 107]
                    rcases HFIN.out with hn | ⟨hn, rfl, rfl⟩
                    all_goals
                      go_wp2_with fail
                      go_ret
                      exact ⟨rfl, HWI.out⟩
      · have hlt : hh < l := HHP.out hl0
        have hlti : (hh : Int) < (lc : Int) := by omega
        have h1i : (hh : Int) ≤ (l : Int) := by omega
        have h2i : (hh : Int) ≤ (lc : Int) := by omega
        have h3i : (l : Int) ≤ (lc : Int) := by omega
        have hlch : ¬ lc = hh := by omega
        have HDD : Hid (∀ w', Sl w' (some ⟨g, 0, none⟩) l (ls.map sv) → Sl w' (some ⟨g, hh, none⟩) (l - hh) ((ls.drop hh).map sv)) := fun w' h => by have := h.drop_ hlt; rwa [Nat.zero_add] at this
        as_aux_lemma =>
          clear x0 x1 y0 y1 y2
          obtain ⟨k0, k1, l0, l1, l2⟩ := HK9.out
          go_upto_region 11 with fail
          go_cut [10, 11] (fun sb st wx => ∃ (b : Nat) (A8 : Option Addr) (n8 c8 : Nat) (A9 : Option Addr) (m9 c9 : Nat) (F : Option Addr) (fc : Nat), sb = .pointer (some ⟨b, 0, none⟩) ∧ st = .slice F fa.length fc ∧ (F = none → fc = 0) ∧ KAt wx b (.slice A8 n8 c8) (.slice A9 m9 c9) ∧ DkV wx 0 A8 n8 c8 A9 m9 xa ∧ Sl wx F fa.length (fa.map sv) ∧ Below w9.heap.size w9 wx)
          case first =>
            go_region_law ((go_simp; go_at_call 23; first
              | ((with_reducible refine Calls.mono (HR1.out _ _ (HV9.out.below (Below.refl _ _).drew) (Sl.below HD9.out (Below.refl _ _).drew) (HE.out.kp (Kp.below HW9.out.drew))) ?_); rintro e w0 ⟨A8, n8, c8, A9, m9, c9, F, fn, fc, rfl, hfn, ha9, hf9, hb9⟩; have HA9 : Hid (DkV w0 w9.heap.size A8 n8 c8 A9 m9 xa) := ha9; (have hnil := hf9.hnil); (have HF9 : Hid (Ow w0 (w9.heap.size + 1 + 1) 9 (.slice F fn fc) fn (fa.map sv)) := hf9); (have HFN : Hid (fn = fa.length) := hfn); have HB9 := Lib.hid (below_d hb9); clear ha9 hb9 hf9 hfn)
              | ((with_reducible refine Calls.mono (HR1.out _ _ (HV9.out.below (below_alloc w9 (.cells #[.slice none 0 0, .slice none 0 0] 26)).drew) (Sl.below HD9.out (below_alloc w9 (.cells #[.slice none 0 0, .slice none 0 0] 26)).drew) (HE.out.kp (Kp.below (HW9.out.trans ((below_alloc w9 (.cells #[.slice none 0 0, .slice none 0 0] 26)).drew.mono HW9.out.size))))) ?_); rintro e w0 ⟨A8, n8, c8, A9, m9, c9, F, fn, fc, rfl, hfn, ha9, hf9, hb9⟩; have HA9 : Hid (DkV w0 (w9.heap.size + 1) A8 n8 c8 A9 m9 xa) := (ha9.mono (Nat.le_of_eq (size_alloc w9 (.cells #[.slice none 0 0, .slice none 0 0] 26)).symm)); (have hnil := hf9.hnil); (have HF9 : Hid (Ow w0 (w9.heap.size + 1) 9 (.slice F fn fc) fn (fa.map sv)) := hf9.mono (by have h := size_alloc w9 (.cells #[.slice none 0 0, .slice none 0 0] 26); show _ ≤ (w9.alloc (.cells #[.slice none 0 0, .slice none 0 0] 26)).heap.size + 1 + 1; omega)); (have HFN : Hid (fn = fa.length) := hfn); have HT9 := Lib.hid (((KAt.new w9 (.slice none 0 0) (.slice none 0 0) 26).below (Below.refl _ _).drew (KAt.new w9 (.slice none 0 0) (.slice none 0 0) 26).lt).below hb9 (KAt.new w9 (.slice none 0 0) (.slice none 0 0) 26).lt); have HB9 := Lib.hid (below_da hb9); clear ha9 hb9 hf9 hfn; obtain ⟨t0, t1, v0, v1, v2⟩ := HT9.out)))
            all_goals
              go_wp2_with fail
              go_meet
              first
                | exact ⟨_, A8, n8, c8, A9, m9, c9, F, fc, rfl, by rw [HFN.out], hnil, KAt.new w0 _ _ _, (HA9.out.below (below_alloc _ _)).mono (Nat.zero_le _), by rw [← HFN.out]; exact Sl.below HF9.out.sl (below_alloc _ _), HB9.out.trans ((below_alloc _ _).mono HB9.out.size)⟩
                | exact ⟨_, A8, n8, c8, A9, m9, c9, F, fc, rfl, by rw [HFN.out], hnil, (HT9.out.set0 _).set1 _, (HA9.out.pk (((Pk.refl w9.heap.size w0).setCell 0 _).setCell 1 _) (Nat.lt_succ_self _)).mono (Nat.zero_le _), by rw [← HFN.out]; exact (HF9.out.pk (((Pk.refl w9.heap.size w0).setCell 0 _).setCell 1 _) (Nat.lt_succ_self _)).sl, (HB9.out.setCell (p := ⟨w9.heap.size, 0, none⟩) (Nat.le_refl _) _).setCell (p := ⟨w9.heap.size, 1, none⟩) (Nat.le_refl _) _⟩
          case rest =>
            obtain ⟨b8, A8, n8, c8, A9, m9, c9, F, fc, rfl, rfl, hfn, hkb, hva, hfs, hbc⟩ := hcut
            have HVA := Lib.hid hva
            have HF1 := Lib.hid hfs
            have HFZ := Lib.hid hfn
            have HWC : Hid (Below w.heap.size w wc) := HW9.out.trans (hbc.mono HW9.out.size)
            have HDC := Lib.hid (Sl.below HD9.out hbc)
            have HTC := Lib.hid (Sl.below HT9.out hbc)
            have HXC := Lib.hid (HX9.out.below hbc)
            have HXBC := Lib.hid (HXB9.out.below hbc HXB9.out.lt)
            clear k0 k1 l0 l1 l2 hva hbc hfs hfn
            obtain ⟨b0, b1, l0, l1, l2⟩ := hkb
            go_upto_region 12 with fail
            go_cut [12, 13] (fun sb st wx => ∃ (b : Nat) (A8 : Option Addr) (n8 c8 : Nat) (A9 : Option Addr) (m9 c9 : Nat) (F : Option Addr) (fc : Nat), sb = .pointer (some ⟨b, 0, none⟩) ∧ st = .slice F sa.length fc ∧ (F = none → fc = 0) ∧ KAt wx b (.slice A8 n8 c8) (.slice A9 m9 c9) ∧ DkV wx 0 A8 n8 c8 A9 m9 xb ∧ Sl wx F sa.length (sa.map sv) ∧ Below wc.heap.size wc wx)
            case first =>
              go_region_law ((go_simp; go_at_call 23; first
                | ((with_reducible refine Calls.mono (HR2.out _ _ _ _ _ _ _ _ _ (HVA.out.below (Below.refl _ _).drew) (HDD.out _ (Sl.below HDC.out (Below.refl _ _).drew)) (HE.out.kp (Kp.below HWC.out.drew))) ?_); rintro e w0 ⟨A8, n8, c8, A9, m9, c9, F, fn, fc, rfl, hfn, ha9, hf9, hb9⟩; have HA9 : Hid (DkV w0 wc.heap.size A8 n8 c8 A9 m9 xb) := ha9; (have hnil := hf9.hnil); (have HF9 : Hid (Ow w0 (wc.heap.size + 1 + 1) 9 (.slice F fn fc) fn (sa.map sv)) := hf9); (have HFN : Hid (fn = sa.length) := hfn); have HB9 := Lib.hid (below_d hb9); clear ha9 hb9 hf9 hfn)
                | ((with_reducible refine Calls.mono (HR2.out _ _ _ _ _ _ _ _ _ (HVA.out.below (below_alloc wc (.cells #[.slice none 0 0, .slice none 0 0] 26)).drew) (HDD.out _ (Sl.below HDC.out (below_alloc wc (.cells #[.slice none 0 0, .slice none 0 0] 26)).drew)) (HE.out.kp (Kp.below (HWC.out.trans ((below_alloc wc (.cells #[.slice none 0 0, .slice none 0 0] 26)).drew.mono HWC.out.size))))) ?_); rintro e w0 ⟨A8, n8, c8, A9, m9, c9, F, fn, fc, rfl, hfn, ha9, hf9, hb9⟩; have HA9 : Hid (DkV w0 (wc.heap.size + 1) A8 n8 c8 A9 m9 xb) := (ha9.mono (Nat.le_of_eq (size_alloc wc (.cells #[.slice none 0 0, .slice none 0 0] 26)).symm)); (have hnil := hf9.hnil); (have HF9 : Hid (Ow w0 (wc.heap.size + 1) 9 (.slice F fn fc) fn (sa.map sv)) := hf9.mono (by have h := size_alloc wc (.cells #[.slice none 0 0, .slice none 0 0] 26); show _ ≤ (wc.alloc (.cells #[.slice none 0 0, .slice none 0 0] 26)).heap.size + 1 + 1; omega)); (have HFN : Hid (fn = sa.length) := hfn); have HT9 := Lib.hid (((KAt.new wc (.slice none 0 0) (.slice none 0 0) 26).below (Below.refl _ _).drew (KAt.new wc (.slice none 0 0) (.slice none 0 0) 26).lt).below hb9 (KAt.new wc (.slice none 0 0) (.slice none 0 0) 26).lt); have HB9 := Lib.hid (below_da hb9); clear ha9 hb9 hf9 hfn; obtain ⟨t0, t1, v0, v1, v2⟩ := HT9.out)))
              all_goals
                go_wp2_with fail
                go_meet
                first
                  | exact ⟨_, A8, n8, c8, A9, m9, c9, F, fc, rfl, by rw [HFN.out], hnil, KAt.new w0 _ _ _, (HA9.out.below (below_alloc _ _)).mono (Nat.zero_le _), by rw [← HFN.out]; exact Sl.below HF9.out.sl (below_alloc _ _), HB9.out.trans ((below_alloc _ _).mono HB9.out.size)⟩
                  | exact ⟨_, A8, n8, c8, A9, m9, c9, F, fc, rfl, by rw [HFN.out], hnil, (HT9.out.set0 _).set1 _, (HA9.out.pk (((Pk.refl wc.heap.size w0).setCell 0 _).setCell 1 _) (Nat.lt_succ_self _)).mono (Nat.zero_le _), by rw [← HFN.out]; exact (HF9.out.pk (((Pk.refl wc.heap.size w0).setCell 0 _).setCell 1 _) (Nat.lt_succ_self _)).sl, (HB9.out.setCell (p := ⟨wc.heap.size, 0, none⟩) (Nat.le_refl _) _).setCell (p := ⟨wc.heap.size, 1, none⟩) (Nat.le_refl _) _⟩
            case rest =>
              obtain ⟨b9, A10, n10, c10, A11, m11, c11, G, gc, rfl, rfl, hgn, hkc, hvc, hgs, hbd⟩ := hcut
              have HVD := Lib.hid hvc
              have HKD := Lib.hid hkc
              have HGD := Lib.hid hgs
              have HGZ := Lib.hid hgn
              have HFD := Lib.hid (Sl.below HF1.out hbd)
              have HTD := Lib.hid (Sl.below HTC.out hbd)
              have HXD := Lib.hid (HXC.out.below hbd)
              have HXBD := Lib.hid (HXBC.out.below hbd HXBC.out.lt)
              have HWD : Hid (Below w.heap.size w wc) := HWC.out.trans (hbd.mono HWC.out.size)
              clear b0 b1 l0 l1 l2 hvc hbd hkc hgs hgn
              go_wp2_with fail
              go_loopw [14] (fun i wr => ∃ k : Nat, k ≤ N ∧ i = .int .i64 k ∧ wr = wc) (fun i _ => N - (intOf i).toNat)
              case atStart => exact ⟨0, by omega, rfl, rfl⟩
              case round =>
                obtain ⟨k, hk, rfl, hwr⟩ := hrel
                subst hwr
                by_cases hlt : k < N
                · obtain ⟨bt, ot, t, rfl, hbt, ht, hct⟩ := HTD.out.txt_at hlt
                  have htb := bs_toList t
                  have htn : (t == []) = false := by rw [beq_eq_false_iff_ne]; exact HNE.out t (List.mem_of_getElem? ht)
                  clear ht
                  go_wp2_with fail
                  go_roundw
                  case rel => exact ⟨k + 1, by omega, by go_num, by first | rfl | trivial⟩
                  case measure => simp [intOf]; omega
                · obtain rfl : N = k := by omega
                  obtain ⟨x0, x1, y0, y1, y2⟩ := HXBD.out
                  go_wp2_with fail
                  refine (HS1.out _ _ _ _ _ _ _ HXD.out (HE.out.kp (Kp.below HWD.out))).mono ?_
                  rintro e wp ⟨A12, n12, c12, A13, m13, c13, rfl, _, hbp⟩
                  obtain ⟨wa, hwa⟩ : ∃ wa, wa = wp.alloc (.cells #[.slice A12 n12 c12, .slice A13 m13 c13] 26) := ⟨_, rfl⟩
                  have HBA : Hid (Below wr.heap.size wr wa) := by rw [hwa]; exact hbp.trans ((below_alloc _ _).mono hbp.size)
                  have HXA := Lib.hid (HXD.out.below HBA.out)
                  have HXBA := Lib.hid (HXBD.out.below HBA.out HXBD.out.lt)
                  have HWA : Hid (Below w.heap.size w wa) := HWD.out.trans (HBA.out.mono HWD.out.size)
                  clear x0 x1 y0 y1 y2
                  obtain ⟨x0, x1, y0, y1, y2⟩ := HXBD.out.below hbp HXBD.out.lt
                  clear hbp
                  have hz1 : (bs tx).size ≤ 100000 := HTX.out
                  have hz2 : ({ data := #[119, 114, 105, 116, 101, 32] } : ByteArray).size = 6 := rfl
                  go_wp2_with fail
                  rw [← hwa]
                  clear hwa x0 x1 y0 y1 y2 hz1 hz2
                  refine (HS2.out _ _ _ _ _ _ _ HXA.out (HE.out.kp (Kp.below HWA.out))).mono ?_
                  rintro e wp ⟨A14, n14, c14, A15, m15, c15, rfl, hzp, hbp⟩
                  obtain ⟨wb, hwb⟩ : ∃ wb, wb = wp.alloc (.cells #[.slice A14 n14 c14, .slice A15 m15 c15] 26) := ⟨_, rfl⟩
                  have HBB : Hid (Below wr.heap.size wr wb) := by rw [hwb]; exact HBA.out.trans ((hbp.trans ((below_alloc _ _).mono hbp.size)).mono HBA.out.size)
                  have HZB : Hid (DkV wb 0 A14 n14 c14 A15 m15 z) := by rw [hwb]; exact (hzp.mono (Nat.zero_le _)).below (below_alloc _ _)
                  have HZBB : Hid (KAt wb wp.heap.size (.slice A14 n14 c14) (.slice A15 m15 c15)) := by rw [hwb]; exact KAt.new wp _ _ _
                  have HWB : Hid (Below w.heap.size w wb) := HWD.out.trans (HBB.out.mono HWD.out.size)
                  have hsz : wp.heap.size < wb.heap.size := HZBB.out.lt
                  obtain ⟨zb, hzb⟩ : ∃ zb, zb = wp.heap.size := ⟨_, rfl⟩
                  clear hbp hzp
                  go_upto_region 20 with fail
                  rw [← hwb, ← hzb]
                  rw [← hzb] at HZBB hsz
                  clear hwb hzb
                  obtain ⟨z0, z1, v0, v1, v2⟩ := HZBB.out
                  go_wp2_with fail
                  refine (HS3.out _ _ _ _ _ _ _ HZB.out (HE.out.kp (Kp.below HWB.out))).mono ?_
                  rintro e wp ⟨A16, n16, c16, A17, m17, c17, rfl, _, hbp⟩
                  obtain ⟨wd, hwd⟩ : ∃ wd, wd = wp.alloc (.cells #[.slice A16 n16 c16, .slice A17 m17 c17] 26) := ⟨_, rfl⟩
                  have HBD : Hid (Below wr.heap.size wr wd) := by rw [hwd]; exact HBB.out.trans ((hbp.trans ((below_alloc _ _).mono hbp.size)).mono HBB.out.size)
                  have HXE := Lib.hid (HXD.out.below HBD.out)
                  have HXBE := Lib.hid (HXBD.out.below HBD.out HXBD.out.lt)
                  have HVE := Lib.hid (HVD.out.below HBD.out)
                  have HKE := Lib.hid (HKD.out.below HBD.out HKD.out.lt)
                  have HFE := Lib.hid (Sl.below HFD.out HBD.out)
                  have HGE := Lib.hid (Sl.below HGD.out HBD.out)
                  have HTE2 := Lib.hid (Sl.below HTD.out HBD.out)
                  have HWE : Hid (Below w.heap.size w wd) := HWD.out.trans (HBD.out.mono HWD.out.size)
                  clear z0 z1 v0 v1 v2 hbp hsz
                  go_upto_region 21 with fail
                  rw [← hwd]
                  clear hwd
                  obtain ⟨x0, x1, y0, y1, y2⟩ := HXBE.out
                  obtain ⟨k0, k1, l0, l1, l2⟩ := HKE.out
                  go_wp2_with fail
                  refine (sameDesk_true A10 A11 A4 A5 n10 c10 m11 c11 n4 c4 m5 c5 xb wd HVE.out HXE.out HZX.out HFX.out).mono ?_
                  rintro e we ⟨rfl, hbe⟩
                  obtain ⟨wf, hwf⟩ : ∃ wf, wf = we.alloc (.cells #[] 9) := ⟨_, rfl⟩
                  have HBF : Hid (Below wd.heap.size wd wf) := by rw [hwf]; exact hbe.trans ((below_alloc _ _).mono hbe.size)
                  have HEF : Hid (Ow wf we.heap.size 9 (.slice (some ⟨we.heap.size, 0, none⟩) 0 0) 0 []) := by rw [hwf]; exact Ow.empty we _
                  have HWF : Hid (Below w.heap.size w wf) := HWE.out.trans (HBF.out.mono HWE.out.size)
                  have hsf : we.heap.size ≤ wf.heap.size := by rw [hwf]; exact (below_alloc we _).size
                  have HFF := Lib.hid (Sl.below HFE.out HBF.out)
                  have hfl6 : fa.length ≤ 6 := HFL.out.1
                  have hgl6 : sa.length ≤ 6 := HFL.out.2
                  have HSE : Hid (wd.heap.size ≤ we.heap.size) := hbe.size
                  clear x0 x1 y0 y1 y2 k0 k1 l0 l1 l2 hbe
                  go_wp2_with first
                    | (at_builtin; rw [← hwf]; refine wl_appSg we.heap.size (fa.map sv) hsf (by rfl) (.tmp 120) (.tmp 121) 45 rfl Tryz.eS _ 0 _ rfl HEF.out F fa.length fc rfl HFZ.out HFF.out (svs_one _) (by unfold maxLen; omega) (by omega) ?_; intro v1 wg ho1 hb1; rw [Nat.zero_add, List.nil_append] at ho1; have HO1 := Lib.hid ho1; have HBG : Hid (Below wd.heap.size wd wg) := HBF.out.trans (hb1.mono HSE.out); have HGG := Lib.hid (Sl.below HGE.out HBG.out); have hsg := Nat.le_trans hsf hb1.size; clear ho1 hb1)
                    | (at_builtin; refine wl_appSg we.heap.size (sa.map sv) hsg (by rfl) (.tmp 122) (.tmp 123) 45 rfl Tryz.eS _ fa.length _ rfl HO1.out G sa.length gc rfl HGZ.out HGG.out (svs_one _) (by unfold maxLen; omega) (by omega) ?_; intro v2 wh ho2 hb2; obtain ⟨U, uc, rfl⟩ := ho2.shape; have HO2 := Lib.hid ho2; have HBH : Hid (Below wd.heap.size wd wh) := HBG.out.trans (hb2.mono HSE.out); clear ho2 hb2)
                  have HUH : Hid (Sl wh U (fa.length + sa.length) (ts.map sv)) := by
                    have h := HO2.out.sl
                    rw [← List.map_append, HFS.out] at h
                    exact h
                  have HTH := Lib.hid (Sl.below HTE2.out HBH.out)
                  have HWH : Hid (Below w.heap.size w wh) := HWE.out.trans (HBH.out.mono HWE.out.size)
                  have hnu : fa.length + sa.length ≤ 1048576 := by omega
                  refine (sameTexts_true U T (fa.length + sa.length) uc N tc ts wh hnu HUH.out HTH.out).mono ?_
                  rintro e wi ⟨rfl, hbi⟩
                  have HWI : Hid (Below w.heap.size w wi) := HWH.out.trans (hbi.mono HWH.out.size)
                  clear hbi
                  have hNl := HNN.out.trans HTE.out
                  subst hNl
                  have htt := bs_toList tx
                  have hto := bs_toList [111, 107]
                  rcases HFIN.out with hn | ⟨hn, rfl, rfl⟩
                  all_goals
                    go_wp2_with fail
                    go_ret
                    exact ⟨rfl, HWI.out⟩
end Go.Proofs.YtnomlkkhkacajaaGreatDoor
