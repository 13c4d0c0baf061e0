/- Texts on the way to a law (H9), each with its own remark. -/
import Derived.Test.YtnomlkkhkacajaaGreatDoorPB36
namespace Go.Proofs.YtnomlkkhkacajaaGreatDoor
open Go.RowKit
open Go.Lib hiding intOf

set_option maxHeartbeats 4000000 in
set_option maxRecDepth 100000 in
theorem lawDeskDo (A : Option Addr) (n c : Nat) (w : World) (hnc : n ≤ c) (h : Code8 w A n) (hE : EnvA w) :
    Calls Tryz.prog 3 #[.slice A n c] w fun e w' => e = .returned (.bool true) ∧ Below w.heap.size w w' := by
  by_cases hbig : 1048576 < n
  · clear hE
    go_enter Tryz.func3, Tryz.ntmps3
    go_wp2_with fail
    go_ret
    exact ⟨rfl, Below.refl _ _⟩
  have hn2 : n ≤ 1048576 := by omega
  have HE := Lib.hid hE
  clear hE
  go_enter Tryz.func3, Tryz.ntmps3
  go_wp2_with fail
  refine (drawDeskDo_any A n c w hnc hn2 h).mono ?_
  rintro e w1 ⟨A2, n2, c2, A3, m2, c3, d, a, rfl, hdk, hds, hdl, ha, hb1⟩
  obtain ⟨w2, hw2⟩ : ∃ w2, w2 = (w1.alloc (.cells #[.slice A2 n2 c2, .slice A3 m2 c3] 26)).alloc (.cells #[.int .i64 a.kind, .int .i64 a.num, .string (bs a.text)] 28) := ⟨_, rfl⟩
  have HB2 : Hid (Below w1.heap.size w1 w2) := by rw [hw2]; exact below2 _ _ _
  have HK2 : Hid (KAt w2 w1.heap.size (.slice A2 n2 c2) (.slice A3 m2 c3)) := by rw [hw2]; exact (KAt.new w1 _ _ _).below (below_alloc _ _) (by rw [size_alloc]; omega)
  have HA2 : Hid (DAt w2 (w1.heap.size + 1) a.kind a.num (bs a.text)) := by
    have h := DAt.new (w1.alloc (.cells #[.slice A2 n2 c2, .slice A3 m2 c3] 26)) a.kind a.num (bs a.text) 28
    rw [size_alloc] at h
    rw [hw2]; exact h
  have HV2 : Hid (DkV w2 0 A2 n2 c2 A3 m2 d) := (hdk.mono (Nat.zero_le _)).below HB2.out
  have HW2 : Hid (Below w.heap.size w w2) := hb1.trans (HB2.out.mono hb1.size)
  have hml := hdk.past.len
  obtain ⟨⟨x, ok⟩, hr⟩ : ∃ r, doF d a = r := ⟨_, rfl⟩
  have HI : Hid (∀ w', DkV w' 0 A2 n2 c2 A3 m2 d → EnvA w' → Calls Tryz.prog 9 #[.agg #[.slice A2 n2 c2, .slice A3 m2 c3], dv a] w' (RetKB w' (x, ok))) := fun w' h he => by rw [← hr]; exact iDeskDo A2 A3 n2 c2 m2 c3 d a w' h hds (fun hk => (hdl hk).lvok (by omega) (by omega)) (by omega) he
  have HS : Hid (∀ w', DkV w' 0 A2 n2 c2 A3 m2 d → Calls Tryz.prog 10 #[.agg #[.slice A2 n2 c2, .slice A3 m2 c3], dv a] w' (RetKB w' (x, ok))) := fun w' h => by rw [← hr]; exact sDeskDo A2 A3 n2 c2 m2 c3 d a w' h hds (fun hk => (hdl hk).lvok (by omega) (by omega)) (by omega)
  have HOK : Hid (∀ w', DkV w' 0 A2 n2 c2 A3 m2 d → Calls Tryz.prog 12 #[.agg #[.slice A2 n2 c2, .slice A3 m2 c3]] w' fun e w'' => e = .returned (.bool (dkB d)) ∧ Below w'.heap.size w' w'') := fun w' h => iDeskOk A2 A3 n2 c2 m2 c3 d w' h hds
  obtain ⟨k0, k1, l0, l1, l2⟩ := HK2.out
  obtain ⟨d0, d1, d2, e0, e1, e2, e3⟩ := HA2.out
  clear hdk hb1 h
  unfold dv at HI HS ⊢
  cases hb : dkB d
  · have e := doF_bad a hb
    rw [hr] at e
    injection e with e1 e2
    subst e2
    rw [hb] at HOK
    have HX0 := Lib.hid e1
    have HZX : Hid (DkS x) := by rw [e1]; exact DkS.zero
    have HFX : Hid (DkF x) := by rw [e1]; exact DkF.zero
    clear hr hb hdl e1
    go_wp2_with fail
    rw [← hw2]
    clear hw2
    refine (HI.out _ HV2.out (HE.out.kp (Kp.below HW2.out))).mono ?_
    rintro e w3 ⟨A4, n4, c4, A5, m5, c5, rfl, hs3, hp3, _, hb3⟩
    have HX3 : Hid (DkV w3 0 A4 n4 c4 A5 m5 x) := ⟨hs3.mono (Nat.zero_le _), hp3.mono (Nat.zero_le _)⟩
    have HV3 := Lib.hid (HV2.out.below hb3)
    have HW3 : Hid (Below w.heap.size w w3) := HW2.out.trans (hb3.mono HW2.out.size)
    have HK3 := Lib.hid (HK2.out.below hb3 HK2.out.lt)
    have HA3 := Lib.hid (HA2.out.below hb3)
    obtain ⟨w4, hw4⟩ : ∃ w4, w4 = w3.alloc (.cells #[.slice A4 n4 c4, .slice A5 m5 c5] 26) := ⟨_, rfl⟩
    have HB4 : Hid (Below w3.heap.size w3 w4) := by rw [hw4]; exact below_alloc _ _
    have HXB4 : Hid (KAt w4 w3.heap.size (.slice A4 n4 c4) (.slice A5 m5 c5)) := by rw [hw4]; exact KAt.new w3 _ _ _
    have HX4 := Lib.hid (HX3.out.below HB4.out)
    have HV4 := Lib.hid (HV3.out.below HB4.out)
    have HK4 := Lib.hid (HK3.out.below HB4.out HK3.out.lt)
    have HA4 := Lib.hid (HA3.out.below HB4.out)
    have HW4 : Hid (Below w.heap.size w w4) := HW3.out.trans (HB4.out.mono HW3.out.size)
    clear hs3 hp3 hb3 k0 k1 l0 l1 l2 d0 d1 d2 e0 e1 e2 e3
    obtain ⟨k0, k1, l0, l1, l2⟩ := HK3.out
    obtain ⟨d0, d1, d2, e0, e1, e2, e3⟩ := HA3.out
    go_wp2_with fail
    rw [← hw4]
    clear hw4
    refine (HS.out _ HV4.out).mono ?_
    rintro e w5 ⟨A6, n6, c6, A7, m7, c7, rfl, hs5, hp5, _, hb5⟩
    have HY5 : Hid (DkV w5 0 A6 n6 c6 A7 m7 x) := ⟨hs5.mono (Nat.zero_le _), hp5.mono (Nat.zero_le _)⟩
    have HX5 := Lib.hid (HX4.out.below hb5)
    have HV5 := Lib.hid (HV4.out.below hb5)
    have HK5 := Lib.hid (HK4.out.below hb5 HK4.out.lt)
    have HA5 := Lib.hid (HA4.out.below hb5)
    have HXB5 := Lib.hid (HXB4.out.below hb5 HXB4.out.lt)
    have HW5 : Hid (Below w.heap.size w w5) := HW4.out.trans (hb5.mono HW4.out.size)
    obtain ⟨w6, hw6⟩ : ∃ w6, w6 = w5.alloc (.cells #[.slice A6 n6 c6, .slice A7 m7 c7] 26) := ⟨_, rfl⟩
    have HB6 : Hid (Below w5.heap.size w5 w6) := by rw [hw6]; exact below_alloc _ _
    have HX6 := Lib.hid (HX5.out.below HB6.out)
    have HY6 := Lib.hid (HY5.out.below HB6.out)
    have HV6 := Lib.hid (HV5.out.below HB6.out)
    have HK6 := Lib.hid (HK5.out.below HB6.out HK5.out.lt)
    have HA6 := Lib.hid (HA5.out.below HB6.out)
    have HXB6 := Lib.hid (HXB5.out.below HB6.out HXB5.out.lt)
    have HW6 : Hid (Below w.heap.size w w6) := HW5.out.trans (HB6.out.mono HW5.out.size)
    clear hs5 hp5 hb5 k0 k1 l0 l1 l2 d0 d1 d2 e0 e1 e2 e3
    obtain ⟨x0, x1, y0, y1, y2⟩ := HXB5.out
    go_wp2_with fail
    rw [← hw6]
    clear hw6 x0 x1 y0 y1 y2
    refine (sameDesk_true A4 A5 A6 A7 n4 c4 m5 c5 n6 c6 m7 c7 x w6 HX6.out HY6.out HZX.out HFX.out).mono ?_
    rintro e w7 ⟨rfl, hb7⟩
    have HX7 := Lib.hid (HX6.out.below hb7)
    have HV7 := Lib.hid (HV6.out.below hb7)
    have HK7 := Lib.hid (HK6.out.below hb7 HK6.out.lt)
    have HA7 := Lib.hid (HA6.out.below hb7)
    have HXB7 := Lib.hid (HXB6.out.below hb7 HXB6.out.lt)
    have HW7 : Hid (Below w.heap.size w w7) := HW6.out.trans (hb7.mono HW6.out.size)
    clear hb7
    obtain ⟨x0, x1, y0, y1, y2⟩ := HXB7.out
    obtain ⟨k0, k1, l0, l1, l2⟩ := HK7.out
    obtain ⟨d0, d1, d2, e0, e1, e2, e3⟩ := HA7.out
    obtain ⟨rfl, rfl⟩ : n4 = 0 ∧ m5 = 0 := by have e1 := HX7.out.now.len; have e2 := HX7.out.past.len; rw [HX0.out] at e1 e2; exact ⟨e1.symm, e2.symm⟩
    have HSZ : Hid (∀ w, Calls Tryz.prog 11 #[.agg #[.slice A4 0 c4, .slice A5 0 c5], .agg #[.slice A2 n2 c2, .slice A3 m2 c3]] w fun e w' => (∃ b, e = .returned (.bool b)) ∧ Below w.heap.size w w') := fun w => sameDesk_empty A4 A5 A2 A3 c4 c5 n2 c2 m2 c3 w
    go_wp2_with fail
    refine (HSZ.out _).mono ?_
    rintro e w8 ⟨⟨b, rfl⟩, hb8⟩
    have HW8 : Hid (Below w.heap.size w w8) := HW7.out.trans (hb8.mono HW7.out.size)
    have HV8 := Lib.hid (HV7.out.below hb8)
    have HK8 := Lib.hid (HK7.out.below hb8 HK7.out.lt)
    clear hb8 k0 k1 l0 l1 l2 d0 d1 d2 e0 e1 e2 e3 x0 x1 y0 y1 y2
    obtain ⟨k0, k1, l0, l1, l2⟩ := HK8.out
    cases b
    · go_wp2_with fail
      refine (HOK.out _ HV8.out).mono ?_
      rintro e w10 ⟨rfl, hb10⟩
      have HW10 : Hid (Below w.heap.size w w10) := HW8.out.trans (hb10.mono HW8.out.size)
      clear hb10
      go_wp2_with fail
      refine (alive_true _).mono ?_
      rintro e w9 ⟨rfl, rfl⟩
      go_wp2_with fail
      go_ret
      exact ⟨rfl, HW10.out⟩
    · go_wp2_with fail
      refine (alive_true _).mono ?_
      rintro e w9 ⟨rfl, rfl⟩
      go_wp2_with fail
      go_ret
      exact ⟨rfl, HW8.out⟩
  · obtain ⟨hx1, hx2, _⟩ := doF_ok a hb (hdl hb) (by omega) (by omega)
    rw [hr] at hx1 hx2
    have HZX := Lib.hid (DkS.ok hx1)
    have HFX := Lib.hid (DkF.of hx1)
    have HXL : Hid (LvOk x.now) := hx2.lvok (by omega) (by omega)
    rw [hb] at HOK
    have HOX : Hid (∀ w' A n c A' m c', DkV w' 0 A n c A' m x → Calls Tryz.prog 12 #[.agg #[.slice A n c, .slice A' m c']] w' fun e w'' => e = .returned (.bool true) ∧ Below w'.heap.size w' w'') := fun w' A n c A' m c' h => by rw [← hx1]; exact iDeskOk A A' n c m c' x w' h HZX.out
    cases ok
    · have e := doF_same (a := a) hb (by rw [hr])
      rw [hr] at e
      obtain rfl : x = d := e
      clear hr hb hdl hx1 hx2
      go_wp2_with fail
      rw [← hw2]
      clear hw2
      refine (HI.out _ HV2.out (HE.out.kp (Kp.below HW2.out))).mono ?_
      rintro e w3 ⟨A4, n4, c4, A5, m5, c5, rfl, hs3, hp3, _, hb3⟩
      have HX3 : Hid (DkV w3 0 A4 n4 c4 A5 m5 x) := ⟨hs3.mono (Nat.zero_le _), hp3.mono (Nat.zero_le _)⟩
      have HV3 := Lib.hid (HV2.out.below hb3)
      have HW3 : Hid (Below w.heap.size w w3) := HW2.out.trans (hb3.mono HW2.out.size)
      have HK3 := Lib.hid (HK2.out.below hb3 HK2.out.lt)
      have HA3 := Lib.hid (HA2.out.below hb3)
      obtain ⟨w4, hw4⟩ : ∃ w4, w4 = w3.alloc (.cells #[.slice A4 n4 c4, .slice A5 m5 c5] 26) := ⟨_, rfl⟩
      have HB4 : Hid (Below w3.heap.size w3 w4) := by rw [hw4]; exact below_alloc _ _
      have HXB4 : Hid (KAt w4 w3.heap.size (.slice A4 n4 c4) (.slice A5 m5 c5)) := by rw [hw4]; exact KAt.new w3 _ _ _
      have HX4 := Lib.hid (HX3.out.below HB4.out)
      have HV4 := Lib.hid (HV3.out.below HB4.out)
      have HK4 := Lib.hid (HK3.out.below HB4.out HK3.out.lt)
      have HA4 := Lib.hid (HA3.out.below HB4.out)
      have HW4 : Hid (Below w.heap.size w w4) := HW3.out.trans (HB4.out.mono HW3.out.size)
      clear hs3 hp3 hb3 k0 k1 l0 l1 l2 d0 d1 d2 e0 e1 e2 e3
      obtain ⟨k0, k1, l0, l1, l2⟩ := HK3.out
      obtain ⟨d0, d1, d2, e0, e1, e2, e3⟩ := HA3.out
      go_wp2_with fail
      rw [← hw4]
      clear hw4
      refine (HS.out _ HV4.out).mono ?_
      rintro e w5 ⟨A6, n6, c6, A7, m7, c7, rfl, hs5, hp5, _, hb5⟩
      have HY5 : Hid (DkV w5 0 A6 n6 c6 A7 m7 x) := ⟨hs5.mono (Nat.zero_le _), hp5.mono (Nat.zero_le _)⟩
      have HX5 := Lib.hid (HX4.out.below hb5)
      have HV5 := Lib.hid (HV4.out.below hb5)
      have HK5 := Lib.hid (HK4.out.below hb5 HK4.out.lt)
      have HA5 := Lib.hid (HA4.out.below hb5)
      have HXB5 := Lib.hid (HXB4.out.below hb5 HXB4.out.lt)
      have HW5 : Hid (Below w.heap.size w w5) := HW4.out.trans (hb5.mono HW4.out.size)
      obtain ⟨w6, hw6⟩ : ∃ w6, w6 = w5.alloc (.cells #[.slice A6 n6 c6, .slice A7 m7 c7] 26) := ⟨_, rfl⟩
      have HB6 : Hid (Below w5.heap.size w5 w6) := by rw [hw6]; exact below_alloc _ _
      have HX6 := Lib.hid (HX5.out.below HB6.out)
      have HY6 := Lib.hid (HY5.out.below HB6.out)
      have HV6 := Lib.hid (HV5.out.below HB6.out)
      have HK6 := Lib.hid (HK5.out.below HB6.out HK5.out.lt)
      have HA6 := Lib.hid (HA5.out.below HB6.out)
      have HXB6 := Lib.hid (HXB5.out.below HB6.out HXB5.out.lt)
      have HW6 : Hid (Below w.heap.size w w6) := HW5.out.trans (HB6.out.mono HW5.out.size)
      clear hs5 hp5 hb5 k0 k1 l0 l1 l2 d0 d1 d2 e0 e1 e2 e3
      obtain ⟨x0, x1, y0, y1, y2⟩ := HXB5.out
      go_wp2_with fail
      rw [← hw6]
      clear hw6 x0 x1 y0 y1 y2
      refine (sameDesk_true A4 A5 A6 A7 n4 c4 m5 c5 n6 c6 m7 c7 x w6 HX6.out HY6.out HZX.out HFX.out).mono ?_
      rintro e w7 ⟨rfl, hb7⟩
      have HX7 := Lib.hid (HX6.out.below hb7)
      have HV7 := Lib.hid (HV6.out.below hb7)
      have HK7 := Lib.hid (HK6.out.below hb7 HK6.out.lt)
      have HA7 := Lib.hid (HA6.out.below hb7)
      have HXB7 := Lib.hid (HXB6.out.below hb7 HXB6.out.lt)
      have HW7 : Hid (Below w.heap.size w w7) := HW6.out.trans (hb7.mono HW6.out.size)
      clear hb7
      obtain ⟨x0, x1, y0, y1, y2⟩ := HXB7.out
      obtain ⟨k0, k1, l0, l1, l2⟩ := HK7.out
      obtain ⟨d0, d1, d2, e0, e1, e2, e3⟩ := HA7.out
      go_wp2_with fail
      refine (sameDesk_true A4 A5 A2 A3 n4 c4 m5 c5 n2 c2 m2 c3 x w7 HX7.out HV7.out HZX.out HFX.out).mono ?_
      rintro e w8 ⟨rfl, hb8⟩
      have HW8 : Hid (Below w.heap.size w w8) := HW7.out.trans (hb8.mono HW7.out.size)
      clear hb8
      go_wp2_with fail
      refine (alive_true _).mono ?_
      rintro e w9 ⟨rfl, rfl⟩
      go_wp2_with fail
      go_ret
      exact ⟨rfl, HW8.out⟩
    · by_cases h6 : a.kind = 6
      · have H6 := Lib.hid h6
        clear hr hb hdl hx1 hx2 h6
        go_wp2_with fail
        rw [← hw2]
        clear hw2
        refine (HI.out _ HV2.out (HE.out.kp (Kp.below HW2.out))).mono ?_
        rintro e w3 ⟨A4, n4, c4, A5, m5, c5, rfl, hs3, hp3, _, hb3⟩
        have HX3 : Hid (DkV w3 0 A4 n4 c4 A5 m5 x) := ⟨hs3.mono (Nat.zero_le _), hp3.mono (Nat.zero_le _)⟩
        have HV3 := Lib.hid (HV2.out.below hb3)
        have HW3 : Hid (Below w.heap.size w w3) := HW2.out.trans (hb3.mono HW2.out.size)
        have HK3 := Lib.hid (HK2.out.below hb3 HK2.out.lt)
        have HA3 := Lib.hid (HA2.out.below hb3)
        obtain ⟨w4, hw4⟩ : ∃ w4, w4 = w3.alloc (.cells #[.slice A4 n4 c4, .slice A5 m5 c5] 26) := ⟨_, rfl⟩
        have HB4 : Hid (Below w3.heap.size w3 w4) := by rw [hw4]; exact below_alloc _ _
        have HXB4 : Hid (KAt w4 w3.heap.size (.slice A4 n4 c4) (.slice A5 m5 c5)) := by rw [hw4]; exact KAt.new w3 _ _ _
        have HX4 := Lib.hid (HX3.out.below HB4.out)
        have HV4 := Lib.hid (HV3.out.below HB4.out)
        have HK4 := Lib.hid (HK3.out.below HB4.out HK3.out.lt)
        have HA4 := Lib.hid (HA3.out.below HB4.out)
        have HW4 : Hid (Below w.heap.size w w4) := HW3.out.trans (HB4.out.mono HW3.out.size)
        clear hs3 hp3 hb3 k0 k1 l0 l1 l2 d0 d1 d2 e0 e1 e2 e3
        obtain ⟨k0, k1, l0, l1, l2⟩ := HK3.out
        obtain ⟨d0, d1, d2, e0, e1, e2, e3⟩ := HA3.out
        go_wp2_with fail
        rw [← hw4]
        clear hw4
        refine (HS.out _ HV4.out).mono ?_
        rintro e w5 ⟨A6, n6, c6, A7, m7, c7, rfl, hs5, hp5, _, hb5⟩
        have HY5 : Hid (DkV w5 0 A6 n6 c6 A7 m7 x) := ⟨hs5.mono (Nat.zero_le _), hp5.mono (Nat.zero_le _)⟩
        have HX5 := Lib.hid (HX4.out.below hb5)
        have HV5 := Lib.hid (HV4.out.below hb5)
        have HK5 := Lib.hid (HK4.out.below hb5 HK4.out.lt)
        have HA5 := Lib.hid (HA4.out.below hb5)
        have HXB5 := Lib.hid (HXB4.out.below hb5 HXB4.out.lt)
        have HW5 : Hid (Below w.heap.size w w5) := HW4.out.trans (hb5.mono HW4.out.size)
        obtain ⟨w6, hw6⟩ : ∃ w6, w6 = w5.alloc (.cells #[.slice A6 n6 c6, .slice A7 m7 c7] 26) := ⟨_, rfl⟩
        have HB6 : Hid (Below w5.heap.size w5 w6) := by rw [hw6]; exact below_alloc _ _
        have HX6 := Lib.hid (HX5.out.below HB6.out)
        have HY6 := Lib.hid (HY5.out.below HB6.out)
        have HV6 := Lib.hid (HV5.out.below HB6.out)
        have HK6 := Lib.hid (HK5.out.below HB6.out HK5.out.lt)
        have HA6 := Lib.hid (HA5.out.below HB6.out)
        have HXB6 := Lib.hid (HXB5.out.below HB6.out HXB5.out.lt)
        have HW6 : Hid (Below w.heap.size w w6) := HW5.out.trans (HB6.out.mono HW5.out.size)
        clear hs5 hp5 hb5 k0 k1 l0 l1 l2 d0 d1 d2 e0 e1 e2 e3
        obtain ⟨x0, x1, y0, y1, y2⟩ := HXB5.out
        go_wp2_with fail
        rw [← hw6]
        clear hw6 x0 x1 y0 y1 y2
        refine (sameDesk_true A4 A5 A6 A7 n4 c4 m5 c5 n6 c6 m7 c7 x w6 HX6.out HY6.out HZX.out HFX.out).mono ?_
        rintro e w7 ⟨rfl, hb7⟩
        have HX7 := Lib.hid (HX6.out.below hb7)
        have HV7 := Lib.hid (HV6.out.below hb7)
        have HK7 := Lib.hid (HK6.out.below hb7 HK6.out.lt)
        have HA7 := Lib.hid (HA6.out.below hb7)
        have HXB7 := Lib.hid (HXB6.out.below hb7 HXB6.out.lt)
        have HW7 : Hid (Below w.heap.size w w7) := HW6.out.trans (hb7.mono HW6.out.size)
        clear hb7
        obtain ⟨x0, x1, y0, y1, y2⟩ := HXB7.out
        obtain ⟨k0, k1, l0, l1, l2⟩ := HK7.out
        obtain ⟨d0, d1, d2, e0, e1, e2, e3⟩ := HA7.out
        obtain ⟨⟨z, okz⟩, hz⟩ : ∃ r, doF x ⟨6, 0, []⟩ = r := ⟨_, rfl⟩
        have HIX : Hid (Calls Tryz.prog 9 #[.agg #[.slice A4 n4 c4, .slice A5 m5 c5], .agg #[.int .i64 6, .int .i64 0, .string ⟨#[]⟩]] w7 (RetKB w7 (z, okz))) := by
          have h := iDeskDo A4 A5 n4 c4 m5 c5 x ⟨6, 0, []⟩ w7 HX7.out HZX.out (fun _ => HXL.out) (by show (0 : Nat) ≤ _; omega) (HE.out.kp (Kp.below HW7.out))
          rw [hz] at h
          exact h
        have HZB := Lib.hid hz
        clear hz
        go_wp2_with fail
        refine HIX.out.mono ?_
        rintro e w8 ⟨A8, n8, c8, A9, m9, c9, rfl, hs8, hp8, _, hb8⟩
        have HZ8 : Hid (DkV w8 0 A8 n8 c8 A9 m9 z) := ⟨hs8.mono (Nat.zero_le _), hp8.mono (Nat.zero_le _)⟩
        obtain ⟨w9, hw9⟩ : ∃ w9, w9 = w8.alloc (.cells #[.slice A8 n8 c8, .slice A9 m9 c9] 26) := ⟨_, rfl⟩
        have HB9 : Hid (Below w7.heap.size w7 w9) := by rw [hw9]; exact hb8.trans ((below_alloc _ _).mono hb8.size)
        have HBZ9 : Hid (KAt w9 w8.heap.size (.slice A8 n8 c8) (.slice A9 m9 c9)) := by rw [hw9]; exact KAt.new w8 _ _ _
        have HZ9 : Hid (DkV w9 0 A8 n8 c8 A9 m9 z) := by rw [hw9]; exact HZ8.out.below (below_alloc _ _)
        have HX9 := Lib.hid (HX7.out.below HB9.out)
        have HV9 := Lib.hid (HV7.out.below HB9.out)
        have HK9 := Lib.hid (HK7.out.below HB9.out HK7.out.lt)
        have HA9 := Lib.hid (HA7.out.below HB9.out)
        have HW9 : Hid (Below w.heap.size w w9) := HW7.out.trans (HB9.out.mono HW7.out.size)
        clear k0 k1 l0 l1 l2 d0 d1 d2 e0 e1 e2 e3 x0 x1 y0 y1 y2
        obtain ⟨x0, x1, y0, y1, y2⟩ := HXB7.out.below hb8 HXB7.out.lt
        clear hs8 hp8 hb8
        go_wp2_with fail
        rw [← hw9]
        clear hw9 x0 x1 y0 y1 y2
        refine (HOX.out _ _ _ _ _ _ _ HX9.out).mono ?_
        rintro e w10 ⟨rfl, hb10⟩
        have HW10 : Hid (Below w.heap.size w w10) := HW9.out.trans (hb10.mono HW9.out.size)
        have HZ10 := Lib.hid (HZ9.out.below hb10)
        have HV10 := Lib.hid (HV9.out.below hb10)
        obtain ⟨k0, k1, l0, l1, l2⟩ := HK9.out.below hb10 HK9.out.lt
        obtain ⟨d0, d1, d2, e0, e1, e2, e3⟩ := HA9.out.below hb10
        obtain ⟨z0, z1, v0, v1, v2⟩ := HBZ9.out.below hb10 HBZ9.out.lt
        clear hb10
        rw [H6.out] at d0
        go_wp2_with fail
        go_ret
        exact ⟨rfl, HW10.out⟩
      have h6b : (a.kind == 6) = false := by rw [beq_eq_false_iff_ne]; exact h6
      by_cases h8 : 8 ≤ m2
      · have h8i : (8 : Int) ≤ (m2 : Int) := by omega
        clear hr hb hdl hx1 hx2
        go_wp2_with fail
        rw [← hw2]
        clear hw2
        refine (HI.out _ HV2.out (HE.out.kp (Kp.below HW2.out))).mono ?_
        rintro e w3 ⟨A4, n4, c4, A5, m5, c5, rfl, hs3, hp3, _, hb3⟩
        have HX3 : Hid (DkV w3 0 A4 n4 c4 A5 m5 x) := ⟨hs3.mono (Nat.zero_le _), hp3.mono (Nat.zero_le _)⟩
        have HV3 := Lib.hid (HV2.out.below hb3)
        have HW3 : Hid (Below w.heap.size w w3) := HW2.out.trans (hb3.mono HW2.out.size)
        have HK3 := Lib.hid (HK2.out.below hb3 HK2.out.lt)
        have HA3 := Lib.hid (HA2.out.below hb3)
        obtain ⟨w4, hw4⟩ : ∃ w4, w4 = w3.alloc (.cells #[.slice A4 n4 c4, .slice A5 m5 c5] 26) := ⟨_, rfl⟩
        have HB4 : Hid (Below w3.heap.size w3 w4) := by rw [hw4]; exact below_alloc _ _
        have HXB4 : Hid (KAt w4 w3.heap.size (.slice A4 n4 c4) (.slice A5 m5 c5)) := by rw [hw4]; exact KAt.new w3 _ _ _
        have HX4 := Lib.hid (HX3.out.below HB4.out)
        have HV4 := Lib.hid (HV3.out.below HB4.out)
        have HK4 := Lib.hid (HK3.out.below HB4.out HK3.out.lt)
        have HA4 := Lib.hid (HA3.out.below HB4.out)
        have HW4 : Hid (Below w.heap.size w w4) := HW3.out.trans (HB4.out.mono HW3.out.size)
        clear hs3 hp3 hb3 k0 k1 l0 l1 l2 d0 d1 d2 e0 e1 e2 e3
        obtain ⟨k0, k1, l0, l1, l2⟩ := HK3.out
        obtain ⟨d0, d1, d2, e0, e1, e2, e3⟩ := HA3.out
        go_wp2_with fail
        rw [← hw4]
        clear hw4
        refine (HS.out _ HV4.out).mono ?_
        rintro e w5 ⟨A6, n6, c6, A7, m7, c7, rfl, hs5, hp5, _, hb5⟩
        have HY5 : Hid (DkV w5 0 A6 n6 c6 A7 m7 x) := ⟨hs5.mono (Nat.zero_le _), hp5.mono (Nat.zero_le _)⟩
        have HX5 := Lib.hid (HX4.out.below hb5)
        have HV5 := Lib.hid (HV4.out.below hb5)
        have HK5 := Lib.hid (HK4.out.below hb5 HK4.out.lt)
        have HA5 := Lib.hid (HA4.out.below hb5)
        have HXB5 := Lib.hid (HXB4.out.below hb5 HXB4.out.lt)
        have HW5 : Hid (Below w.heap.size w w5) := HW4.out.trans (hb5.mono HW4.out.size)
        obtain ⟨w6, hw6⟩ : ∃ w6, w6 = w5.alloc (.cells #[.slice A6 n6 c6, .slice A7 m7 c7] 26) := ⟨_, rfl⟩
        have HB6 : Hid (Below w5.heap.size w5 w6) := by rw [hw6]; exact below_alloc _ _
        have HX6 := Lib.hid (HX5.out.below HB6.out)
        have HY6 := Lib.hid (HY5.out.below HB6.out)
        have HV6 := Lib.hid (HV5.out.below HB6.out)
        have HK6 := Lib.hid (HK5.out.below HB6.out HK5.out.lt)
        have HA6 := Lib.hid (HA5.out.below HB6.out)
        have HXB6 := Lib.hid (HXB5.out.below HB6.out HXB5.out.lt)
        have HW6 : Hid (Below w.heap.size w w6) := HW5.out.trans (HB6.out.mono HW5.out.size)
        clear hs5 hp5 hb5 k0 k1 l0 l1 l2 d0 d1 d2 e0 e1 e2 e3
        obtain ⟨x0, x1, y0, y1, y2⟩ := HXB5.out
        go_wp2_with fail
        rw [← hw6]
        clear hw6 x0 x1 y0 y1 y2
        refine (sameDesk_true A4 A5 A6 A7 n4 c4 m5 c5 n6 c6 m7 c7 x w6 HX6.out HY6.out HZX.out HFX.out).mono ?_
        rintro e w7 ⟨rfl, hb7⟩
        have HX7 := Lib.hid (HX6.out.below hb7)
        have HV7 := Lib.hid (HV6.out.below hb7)
        have HK7 := Lib.hid (HK6.out.below hb7 HK6.out.lt)
        have HA7 := Lib.hid (HA6.out.below hb7)
        have HXB7 := Lib.hid (HXB6.out.below hb7 HXB6.out.lt)
        have HW7 : Hid (Below w.heap.size w w7) := HW6.out.trans (hb7.mono HW6.out.size)
        clear hb7
        obtain ⟨x0, x1, y0, y1, y2⟩ := HXB7.out
        obtain ⟨k0, k1, l0, l1, l2⟩ := HK7.out
        obtain ⟨d0, d1, d2, e0, e1, e2, e3⟩ := HA7.out
        obtain ⟨⟨z, okz⟩, hz⟩ : ∃ r, doF x ⟨6, 0, []⟩ = r := ⟨_, rfl⟩
        have HIX : Hid (Calls Tryz.prog 9 #[.agg #[.slice A4 n4 c4, .slice A5 m5 c5], .agg #[.int .i64 6, .int .i64 0, .string ⟨#[]⟩]] w7 (RetKB w7 (z, okz))) := by
          have h := iDeskDo A4 A5 n4 c4 m5 c5 x ⟨6, 0, []⟩ w7 HX7.out HZX.out (fun _ => HXL.out) (by show (0 : Nat) ≤ _; omega) (HE.out.kp (Kp.below HW7.out))
          rw [hz] at h
          exact h
        have HZB := Lib.hid hz
        clear hz
        go_wp2_with fail
        refine HIX.out.mono ?_
        rintro e w8 ⟨A8, n8, c8, A9, m9, c9, rfl, hs8, hp8, _, hb8⟩
        have HZ8 : Hid (DkV w8 0 A8 n8 c8 A9 m9 z) := ⟨hs8.mono (Nat.zero_le _), hp8.mono (Nat.zero_le _)⟩
        obtain ⟨w9, hw9⟩ : ∃ w9, w9 = w8.alloc (.cells #[.slice A8 n8 c8, .slice A9 m9 c9] 26) := ⟨_, rfl⟩
        have HB9 : Hid (Below w7.heap.size w7 w9) := by rw [hw9]; exact hb8.trans ((below_alloc _ _).mono hb8.size)
        have HBZ9 : Hid (KAt w9 w8.heap.size (.slice A8 n8 c8) (.slice A9 m9 c9)) := by rw [hw9]; exact KAt.new w8 _ _ _
        have HZ9 : Hid (DkV w9 0 A8 n8 c8 A9 m9 z) := by rw [hw9]; exact HZ8.out.below (below_alloc _ _)
        have HX9 := Lib.hid (HX7.out.below HB9.out)
        have HV9 := Lib.hid (HV7.out.below HB9.out)
        have HK9 := Lib.hid (HK7.out.below HB9.out HK7.out.lt)
        have HA9 := Lib.hid (HA7.out.below HB9.out)
        have HW9 : Hid (Below w.heap.size w w9) := HW7.out.trans (HB9.out.mono HW7.out.size)
        clear k0 k1 l0 l1 l2 d0 d1 d2 e0 e1 e2 e3 x0 x1 y0 y1 y2
        obtain ⟨x0, x1, y0, y1, y2⟩ := HXB7.out.below hb8 HXB7.out.lt
        clear hs8 hp8 hb8
        go_wp2_with fail
        rw [← hw9]
        clear hw9 x0 x1 y0 y1 y2
        refine (HOX.out _ _ _ _ _ _ _ HX9.out).mono ?_
        rintro e w10 ⟨rfl, hb10⟩
        have HW10 : Hid (Below w.heap.size w w10) := HW9.out.trans (hb10.mono HW9.out.size)
        have HZ10 := Lib.hid (HZ9.out.below hb10)
        have HV10 := Lib.hid (HV9.out.below hb10)
        obtain ⟨k0, k1, l0, l1, l2⟩ := HK9.out.below hb10 HK9.out.lt
        obtain ⟨d0, d1, d2, e0, e1, e2, e3⟩ := HA9.out.below hb10
        obtain ⟨z0, z1, v0, v1, v2⟩ := HBZ9.out.below hb10 HBZ9.out.lt
        clear hb10
        go_wp2_with fail
        go_ret
        exact ⟨rfl, HW10.out⟩
      · have h8i : ¬ (8 : Int) ≤ (m2 : Int) := by omega
        have HBK : Hid (doF x ⟨6, 0, []⟩ = (d, true)) := by
          have := doF_back (a := a) hb (by rw [hr]) h6 (by omega) (by rw [hr]; exact hx1)
          rwa [hr] at this
        have HZD := Lib.hid (DkS.ok hb)
        have HFD := Lib.hid (DkF.of hb)
        clear hr hb hdl hx1 hx2
        go_wp2_with fail
        rw [← hw2]
        clear hw2
        refine (HI.out _ HV2.out (HE.out.kp (Kp.below HW2.out))).mono ?_
        rintro e w3 ⟨A4, n4, c4, A5, m5, c5, rfl, hs3, hp3, _, hb3⟩
        have HX3 : Hid (DkV w3 0 A4 n4 c4 A5 m5 x) := ⟨hs3.mono (Nat.zero_le _), hp3.mono (Nat.zero_le _)⟩
        have HV3 := Lib.hid (HV2.out.below hb3)
        have HW3 : Hid (Below w.heap.size w w3) := HW2.out.trans (hb3.mono HW2.out.size)
        have HK3 := Lib.hid (HK2.out.below hb3 HK2.out.lt)
        have HA3 := Lib.hid (HA2.out.below hb3)
        obtain ⟨w4, hw4⟩ : ∃ w4, w4 = w3.alloc (.cells #[.slice A4 n4 c4, .slice A5 m5 c5] 26) := ⟨_, rfl⟩
        have HB4 : Hid (Below w3.heap.size w3 w4) := by rw [hw4]; exact below_alloc _ _
        have HXB4 : Hid (KAt w4 w3.heap.size (.slice A4 n4 c4) (.slice A5 m5 c5)) := by rw [hw4]; exact KAt.new w3 _ _ _
        have HX4 := Lib.hid (HX3.out.below HB4.out)
        have HV4 := Lib.hid (HV3.out.below HB4.out)
        have HK4 := Lib.hid (HK3.out.below HB4.out HK3.out.lt)
        have HA4 := Lib.hid (HA3.out.below HB4.out)
        have HW4 : Hid (Below w.heap.size w w4) := HW3.out.trans (HB4.out.mono HW3.out.size)
        clear hs3 hp3 hb3 k0 k1 l0 l1 l2 d0 d1 d2 e0 e1 e2 e3
        obtain ⟨k0, k1, l0, l1, l2⟩ := HK3.out
        obtain ⟨d0, d1, d2, e0, e1, e2, e3⟩ := HA3.out
        go_wp2_with fail
        rw [← hw4]
        clear hw4
        refine (HS.out _ HV4.out).mono ?_
        rintro e w5 ⟨A6, n6, c6, A7, m7, c7, rfl, hs5, hp5, _, hb5⟩
        have HY5 : Hid (DkV w5 0 A6 n6 c6 A7 m7 x) := ⟨hs5.mono (Nat.zero_le _), hp5.mono (Nat.zero_le _)⟩
        have HX5 := Lib.hid (HX4.out.below hb5)
        have HV5 := Lib.hid (HV4.out.below hb5)
        have HK5 := Lib.hid (HK4.out.below hb5 HK4.out.lt)
        have HA5 := Lib.hid (HA4.out.below hb5)
        have HXB5 := Lib.hid (HXB4.out.below hb5 HXB4.out.lt)
        have HW5 : Hid (Below w.heap.size w w5) := HW4.out.trans (hb5.mono HW4.out.size)
        obtain ⟨w6, hw6⟩ : ∃ w6, w6 = w5.alloc (.cells #[.slice A6 n6 c6, .slice A7 m7 c7] 26) := ⟨_, rfl⟩
        have HB6 : Hid (Below w5.heap.size w5 w6) := by rw [hw6]; exact below_alloc _ _
        have HX6 := Lib.hid (HX5.out.below HB6.out)
        have HY6 := Lib.hid (HY5.out.below HB6.out)
        have HV6 := Lib.hid (HV5.out.below HB6.out)
        have HK6 := Lib.hid (HK5.out.below HB6.out HK5.out.lt)
        have HA6 := Lib.hid (HA5.out.below HB6.out)
        have HXB6 := Lib.hid (HXB5.out.below HB6.out HXB5.out.lt)
        have HW6 : Hid (Below w.heap.size w w6) := HW5.out.trans (HB6.out.mono HW5.out.size)
        clear hs5 hp5 hb5 k0 k1 l0 l1 l2 d0 d1 d2 e0 e1 e2 e3
        obtain ⟨x0, x1, y0, y1, y2⟩ := HXB5.out
        go_wp2_with fail
        rw [← hw6]
        clear hw6 x0 x1 y0 y1 y2
        refine (sameDesk_true A4 A5 A6 A7 n4 c4 m5 c5 n6 c6 m7 c7 x w6 HX6.out HY6.out HZX.out HFX.out).mono ?_
        rintro e w7 ⟨rfl, hb7⟩
        have HX7 := Lib.hid (HX6.out.below hb7)
        have HV7 := Lib.hid (HV6.out.below hb7)
        have HK7 := Lib.hid (HK6.out.below hb7 HK6.out.lt)
        have HA7 := Lib.hid (HA6.out.below hb7)
        have HXB7 := Lib.hid (HXB6.out.below hb7 HXB6.out.lt)
        have HW7 : Hid (Below w.heap.size w w7) := HW6.out.trans (hb7.mono HW6.out.size)
        clear hb7
        obtain ⟨x0, x1, y0, y1, y2⟩ := HXB7.out
        obtain ⟨k0, k1, l0, l1, l2⟩ := HK7.out
        obtain ⟨d0, d1, d2, e0, e1, e2, e3⟩ := HA7.out
        obtain ⟨⟨z, okz⟩, hz⟩ : ∃ r, doF x ⟨6, 0, []⟩ = r := ⟨_, rfl⟩
        have HIX : Hid (Calls Tryz.prog 9 #[.agg #[.slice A4 n4 c4, .slice A5 m5 c5], .agg #[.int .i64 6, .int .i64 0, .string ⟨#[]⟩]] w7 (RetKB w7 (z, okz))) := by
          have h := iDeskDo A4 A5 n4 c4 m5 c5 x ⟨6, 0, []⟩ w7 HX7.out HZX.out (fun _ => HXL.out) (by show (0 : Nat) ≤ _; omega) (HE.out.kp (Kp.below HW7.out))
          rw [hz] at h
          exact h
        rw [HBK.out] at hz
        injection hz with hz1 hz2
        subst hz2
        have HZE := Lib.hid hz1
        clear hz1
        go_wp2_with fail
        refine HIX.out.mono ?_
        rintro e w8 ⟨A8, n8, c8, A9, m9, c9, rfl, hs8, hp8, _, hb8⟩
        have HZ8 : Hid (DkV w8 0 A8 n8 c8 A9 m9 z) := ⟨hs8.mono (Nat.zero_le _), hp8.mono (Nat.zero_le _)⟩
        obtain ⟨w9, hw9⟩ : ∃ w9, w9 = w8.alloc (.cells #[.slice A8 n8 c8, .slice A9 m9 c9] 26) := ⟨_, rfl⟩
        have HB9 : Hid (Below w7.heap.size w7 w9) := by rw [hw9]; exact hb8.trans ((below_alloc _ _).mono hb8.size)
        have HBZ9 : Hid (KAt w9 w8.heap.size (.slice A8 n8 c8) (.slice A9 m9 c9)) := by rw [hw9]; exact KAt.new w8 _ _ _
        have HZ9 : Hid (DkV w9 0 A8 n8 c8 A9 m9 z) := by rw [hw9]; exact HZ8.out.below (below_alloc _ _)
        have HX9 := Lib.hid (HX7.out.below HB9.out)
        have HV9 := Lib.hid (HV7.out.below HB9.out)
        have HK9 := Lib.hid (HK7.out.below HB9.out HK7.out.lt)
        have HA9 := Lib.hid (HA7.out.below HB9.out)
        have HW9 : Hid (Below w.heap.size w w9) := HW7.out.trans (HB9.out.mono HW7.out.size)
        clear k0 k1 l0 l1 l2 d0 d1 d2 e0 e1 e2 e3 x0 x1 y0 y1 y2
        obtain ⟨x0, x1, y0, y1, y2⟩ := HXB7.out.below hb8 HXB7.out.lt
        clear hs8 hp8 hb8
        go_wp2_with fail
        rw [← hw9]
        clear hw9 x0 x1 y0 y1 y2
        refine (HOX.out _ _ _ _ _ _ _ HX9.out).mono ?_
        rintro e w10 ⟨rfl, hb10⟩
        have HW10 : Hid (Below w.heap.size w w10) := HW9.out.trans (hb10.mono HW9.out.size)
        have HZ10 := Lib.hid (HZ9.out.below hb10)
        have HV10 := Lib.hid (HV9.out.below hb10)
        obtain ⟨k0, k1, l0, l1, l2⟩ := HK9.out.below hb10 HK9.out.lt
        obtain ⟨d0, d1, d2, e0, e1, e2, e3⟩ := HA9.out.below hb10
        obtain ⟨z0, z1, v0, v1, v2⟩ := HBZ9.out.below hb10 HBZ9.out.lt
        clear hb10
        go_wp2_with fail
        refine (sameDesk_true A8 A9 A2 A3 n8 c8 m9 c9 n2 c2 m2 c3 d w10 (by rw [HZE.out]; exact HZ10.out) HV10.out HZD.out HFD.out).mono ?_
        rintro e w11 ⟨rfl, hb11⟩
        have HW11 : Hid (Below w.heap.size w w11) := HW10.out.trans (hb11.mono HW10.out.size)
        clear hb11
        go_wp2_with fail
        go_ret
        exact ⟨rfl, HW11.out⟩
end Go.Proofs.YtnomlkkhkacajaaGreatDoor
