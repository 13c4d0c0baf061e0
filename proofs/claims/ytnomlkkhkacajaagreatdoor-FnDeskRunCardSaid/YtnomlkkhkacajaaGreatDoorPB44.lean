/- Texts on the way to a law (H13), each with its own remark. -/
import Derived.Test.YtnomlkkhkacajaaGreatDoorPB41
import Derived.Test.YtnomlkkhkacajaaGreatDoorPB43
namespace Go.Proofs.YtnomlkkhkacajaaGreatDoor
open Go.RowKit
open Go.Lib hiding intOf

theorem runF_two {d : Dk} {ds : List Dd} (hb : dkB d = true) (hl : ds.length ≤ 40) (h : Nat) (ha : dkB (runF d (ds.take h)).1 = true) :
    runF (runF d (ds.take h)).1 (ds.drop h) = ((runF d ds).1, (runF (runF d (ds.take h)).1 (ds.drop h)).2) ∧ (runF d (ds.take h)).2 + (runF (runF d (ds.take h)).1 (ds.drop h)).2 = (runF d ds).2 := by
  have e1 := runF_yes (ds := ds.take h) hb (by rw [List.length_take]; omega)
  have e2 := runF_yes (ds := ds.drop h) ha (by rw [List.length_drop]; omega)
  have e3 := runF_yes hb hl
  have e4 : runG (d, 0) ds = runG (runG (d, 0) (ds.take h)) (ds.drop h) := by rw [← runG_app, List.take_append_drop]
  rw [e1] at e2
  rw [e1, e2, e3, e4]
  generalize runG (d, 0) (ds.take h) = r
  obtain ⟨y, p⟩ := r
  rw [runG_count y p]
  exact ⟨rfl, rfl⟩
theorem runG_le (d : Dk) (n : Nat) : ∀ ds : List Dd, (runG (d, n) ds).2 ≤ n + ds.length := fun ds => by
  induction ds generalizing d n with
  | nil => exact Nat.le_refl _
  | cons a l ih =>
    show (runG (runS (d, n) a) l).2 ≤ _
    rw [List.length_cons]
    cases h : (doF d a).2
    · rw [runS_no (r := (d, n)) h]; have := ih d n; omega
    · rw [runS_yes (r := (d, n)) h]; show (runG ((doF d a).1, n + 1) l).2 ≤ _; have := ih (doF d a).1 (n + 1); omega
theorem runF_le (d : Dk) (ds : List Dd) : (runF d ds).2 ≤ ds.length := by
  unfold runF
  split
  · have := runG_le d 0 ds; omega
  · exact Nat.zero_le _
theorem runF_ok {d : Dk} {ds : List Dd} {a0 : Int} (hb : dkB d = true) (hl : DkL d a0) (h1 : 14 ≤ a0) (h2 : ds.length ≤ 40) (h3 : a0 + 5 * (ds.length : Int) ≤ 122) : dkB (runF d ds).1 = true ∧ DkL (runF d ds).1 (a0 + 5 * (ds.length : Int)) := by
  rw [runF_yes hb h2]; exact runG_ok hb hl h1 0 ds h3

set_option maxHeartbeats 8000000 in
set_option maxRecDepth 100000 in
theorem lawDeskRun (A : Option Addr) (n c : Nat) (w : World) (hnc : n ≤ c) (h : Code8 w A n) (hE : EnvA w) :
    Calls Tryz.prog 4 #[.slice A n c] w fun e w' => e = .returned (.bool true) ∧ Below w.heap.size w w' := by
  by_cases hbig : 1048576 < n
  · clear hE
    go_enter Tryz.func4, Tryz.ntmps4
    go_wp2_with fail
    go_ret
    exact ⟨rfl, Below.refl _ _⟩
  have hn2 : n ≤ 1048576 := by omega
  have HE := Lib.hid hE
  clear hE
  go_enter Tryz.func4, Tryz.ntmps4
  go_wp2_with fail
  refine (drawDeskRun_any A n c w hnc hn2 h).mono ?_
  rintro e w1 ⟨A2, n2, c2, A3, m2, c3, d, L, l, lc, ds, rfl, hdk, hds, hdl, hD1, hlc, hlm, hL, h41, h5, htx, hb1⟩
  obtain ⟨w2, hw2⟩ : ∃ w2, w2 = w1.alloc (.cells #[.slice A2 n2 c2, .slice A3 m2 c3] 26) := ⟨_, rfl⟩
  have HB2 : Hid (Below w1.heap.size w1 w2) := by rw [hw2]; exact below_alloc _ _
  have HK2 : Hid (KAt w2 w1.heap.size (.slice A2 n2 c2) (.slice A3 m2 c3)) := by rw [hw2]; exact KAt.new w1 _ _ _
  have HV2 : Hid (DkV w2 0 A2 n2 c2 A3 m2 d) := (hdk.mono (Nat.zero_le _)).below HB2.out
  have HD2 : Hid (Ds w2 L l ds) := hD1.below HB2.out
  have HW2 : Hid (Below w.heap.size w w2) := hb1.trans (HB2.out.mono hb1.size)
  have hdsl : ds.length = l := hD1.1
  obtain ⟨⟨x, q⟩, hr⟩ : ∃ r, runF d ds = r := ⟨_, rfl⟩
  have hgx : dkB d = true → ds.length ≤ 40 → ∃ a0, DkL d a0 ∧ 14 ≤ a0 ∧ a0 + 5 * (ds.length : Int) ≤ 122 := fun hb h40 => ⟨39, hdl hb, by omega, by have := h5 (by omega); omega⟩
  have HI : Hid (∀ w', DkV w' 0 A2 n2 c2 A3 m2 d → Ds w' L l ds → EnvA w' → Calls Tryz.prog 15 #[.agg #[.slice A2 n2 c2, .slice A3 m2 c3], .slice L l lc] w' (RetKN w' (x, q))) := fun w' h hd he => by rw [← hr]; exact iDeskRun A2 A3 n2 c2 m2 c3 d L l lc ds w' h hds hd (by omega) (fun a ha => by have := htx a ha; omega) hgx he
  have HS : Hid (∀ w', DkV w' 0 A2 n2 c2 A3 m2 d → Ds w' L l ds → Calls Tryz.prog 16 #[.agg #[.slice A2 n2 c2, .slice A3 m2 c3], .slice L l lc] w' (RetKN w' (x, q))) := fun w' h hd => by rw [← hr]; exact sDeskRun A2 A3 n2 c2 m2 c3 d L l lc ds w' h hds hd (by omega) (fun a ha => by have := htx a ha; omega) hgx
  have HOK : Hid (∀ w', DkV w' 0 A2 n2 c2 A3 m2 d → Calls Tryz.prog 17 #[.agg #[.slice A2 n2 c2, .slice A3 m2 c3]] w' fun e w'' => e = .returned (.bool (dkB d)) ∧ Below w'.heap.size w' w'') := fun w' h => sDeskOk A2 A3 n2 c2 m2 c3 d w' h hds
  obtain ⟨k0, k1, l0, l1, l2⟩ := HK2.out
  clear hdk hb1 h hD1
  by_cases hno : dkB d = false ∨ 40 < ds.length
  · have e := runF_no hno
    rw [hr] at e
    injection e with e1 e2
    subst e2
    have HX0 := Lib.hid e1
    have HZX : Hid (DkS x) := by rw [e1]; exact DkS.zero
    have HFX : Hid (DkF x) := by rw [e1]; exact DkF.zero
    have key : dkB d = false ∨ (dkB d = true ∧ (40 : Int) < (l : Int)) := by
      cases hb : dkB d
      · exact .inl rfl
      · rcases hno with h | h
        · rw [h] at hb; cases hb
        · exact .inr ⟨rfl, by omega⟩
    clear hr hno e1 hdl hgx h5 htx
    rcases key with hb | ⟨hb, h40⟩
    all_goals
      rw [hb] at HOK
      clear hb
      go_wp2_with fail
      rw [← hw2]
      clear hw2
      refine (HI.out _ HV2.out HD2.out (HE.out.kp (Kp.below HW2.out))).mono ?_
      rintro e w3 ⟨A4, n4, c4, A5, m5, c5, rfl, hx3, hb3⟩
      obtain ⟨w4, hw4⟩ : ∃ w4, w4 = w3.alloc (.cells #[.slice A4 n4 c4, .slice A5 m5 c5] 26) := ⟨_, rfl⟩
      have HB34 : Hid (Below w3.heap.size w3 w4) := by rw [hw4]; exact below_alloc _ _
      have HB4 : Hid (Below w2.heap.size w2 w4) := hb3.trans (HB34.out.mono hb3.size)
      have HXB4 : Hid (KAt w4 w3.heap.size (.slice A4 n4 c4) (.slice A5 m5 c5)) := by rw [hw4]; exact KAt.new w3 _ _ _
      have HX4 : Hid (DkV w4 0 A4 n4 c4 A5 m5 x) := (hx3.mono (Nat.zero_le _)).below HB34.out
      have HV4 := Lib.hid (HV2.out.below HB4.out)
      have HD4 := Lib.hid (HD2.out.below HB4.out)
      have HK4 := Lib.hid (HK2.out.below HB4.out HK2.out.lt)
      have HW4 : Hid (Below w.heap.size w w4) := HW2.out.trans (HB4.out.mono HW2.out.size)
      clear k0 k1 l0 l1 l2
      obtain ⟨k0, k1, l0, l1, l2⟩ := HK2.out.below hb3 HK2.out.lt
      clear hx3 hb3
      go_wp2_with fail
      rw [← hw4]
      clear hw4
      refine (HS.out _ HV4.out HD4.out).mono ?_
      rintro e w5 ⟨A6, n6, c6, A7, m7, c7, rfl, hy5, hb5⟩
      obtain ⟨w6, hw6⟩ : ∃ w6, w6 = w5.alloc (.cells #[.slice A6 n6 c6, .slice A7 m7 c7] 26) := ⟨_, rfl⟩
      have HB56 : Hid (Below w5.heap.size w5 w6) := by rw [hw6]; exact below_alloc _ _
      have HB6 : Hid (Below w4.heap.size w4 w6) := hb5.trans (HB56.out.mono hb5.size)
      have HY6 : Hid (DkV w6 0 A6 n6 c6 A7 m7 x) := (hy5.mono (Nat.zero_le _)).below HB56.out
      have HX6 := Lib.hid (HX4.out.below HB6.out)
      have HXB6 := Lib.hid (HXB4.out.below HB6.out HXB4.out.lt)
      have HW6 : Hid (Below w.heap.size w w6) := HW4.out.trans (HB6.out.mono HW4.out.size)
      clear k0 k1 l0 l1 l2
      obtain ⟨x0, x1, y0, y1, y2⟩ := HXB4.out.below hb5 HXB4.out.lt
      clear hy5 hb5
      go_wp2_with fail
      rw [← hw6]
      clear hw6 x0 x1 y0 y1 y2
      refine (sameDesk_true A4 A5 A6 A7 n4 c4 m5 c5 n6 c6 m7 c7 x w6 HX6.out HY6.out HZX.out HFX.out).mono ?_
      rintro e w7 ⟨rfl, hb7⟩
      have HB7 : Hid (Below w4.heap.size w4 w7) := HB6.out.trans (hb7.mono HB6.out.size)
      have HX7 := Lib.hid (HX4.out.below HB7.out)
      have HV7 := Lib.hid (HV4.out.below HB7.out)
      have HD7 := Lib.hid (HD4.out.below HB7.out)
      have HK7 := Lib.hid (HK4.out.below HB7.out HK4.out.lt)
      have HXB7 := Lib.hid (HXB4.out.below HB7.out HXB4.out.lt)
      have HW7 : Hid (Below w.heap.size w w7) := HW4.out.trans (HB7.out.mono HW4.out.size)
      clear hb7
      obtain ⟨k0, k1, l0, l1, l2⟩ := HK7.out
      go_wp2_with fail
      refine (HOK.out _ HV7.out).mono ?_
      rintro e w8 ⟨rfl, hb8⟩
      have HB8 : Hid (Below w4.heap.size w4 w8) := HB7.out.trans (hb8.mono HB7.out.size)
      have HX8 := Lib.hid (HX4.out.below HB8.out)
      have HV8 := Lib.hid (HV4.out.below HB8.out)
      have HD8 := Lib.hid (HD4.out.below HB8.out)
      have HK8 := Lib.hid (HK4.out.below HB8.out HK4.out.lt)
      have HXB8 := Lib.hid (HXB4.out.below HB8.out HXB4.out.lt)
      have HW8 : Hid (Below w.heap.size w w8) := HW4.out.trans (HB8.out.mono HW4.out.size)
      clear hb8 k0 k1 l0 l1 l2
      obtain ⟨x0, x1, y0, y1, y2⟩ := HXB8.out
      go_wp2_with fail
      refine (noDesk_true A4 A5 n4 c4 m5 c5 w8 (by rw [← HX0.out]; exact HX8.out)).mono ?_
      rintro e w9 ⟨rfl, hb9⟩
      have HW9 : Hid (Below w.heap.size w w9) := HW8.out.trans (hb9.mono HW8.out.size)
      clear hb9
      go_wp2_with fail
      refine (alive_true _).mono ?_
      rintro e w10 ⟨rfl, rfl⟩
      go_wp2_with fail
      go_ret
      exact ⟨rfl, HW9.out⟩
  have hb : dkB d = true := eq_true_of_ne_false fun h => hno (.inl h)
  have h40 : ds.length ≤ 40 := Nat.le_of_not_lt fun h => hno (.inr h)
  have h40i : ¬ (40 : Int) < (l : Int) := by omega
  have hl5 : l ≤ 5 := h5 (by omega)
  obtain ⟨hh, hhe⟩ : ∃ hh, hh = l / 2 := ⟨_, rfl⟩
  have hok := runF_ok hb (hdl hb) (by omega) h40 (by omega)
  rw [hr] at hok
  have HZX := Lib.hid (DkS.ok hok.1)
  have HFX := Lib.hid (DkF.of hok.1)
  have HOX : Hid (∀ w' A n c A' m c', DkV w' 0 A n c A' m x → Calls Tryz.prog 12 #[.agg #[.slice A n c, .slice A' m c']] w' fun e w'' => e = .returned (.bool true) ∧ Below w'.heap.size w' w'') := fun w' A n c A' m c' h => by rw [← hok.1]; exact iDeskOk A A' n c m c' x w' h HZX.out
  have htl : (ds.take hh).length ≤ 5 := by rw [List.length_take]; omega
  have hoka := runF_ok (ds := ds.take hh) hb (hdl hb) (by omega) (by omega) (by omega)
  obtain ⟨e1, e2⟩ := runF_two hb h40 hh hoka.1
  obtain ⟨⟨xa, p⟩, hra⟩ : ∃ r, runF d (ds.take hh) = r := ⟨_, rfl⟩
  rw [hra] at hoka e1 e2
  rw [hr] at e1 e2
  obtain ⟨p2, hp2⟩ : ∃ p2, p2 = (runF xa (ds.drop hh)).2 := ⟨_, rfl⟩
  simp only at e1 e2
  rw [← hp2] at e1 e2
  have HE1 := Lib.hid e1
  have hq5 : q ≤ ds.length := by have := runF_le d ds; rwa [hr] at this
  have HR1 : Hid (∀ w' (sc : Nat), DkV w' 0 A2 n2 c2 A3 m2 d → Ds w' L l ds → EnvA w' → Calls Tryz.prog 15 #[.agg #[.slice A2 n2 c2, .slice A3 m2 c3], .slice L hh sc] w' (RetKN w' (xa, p))) := fun w' sc h hd he => by
    rw [← hra]
    exact iDeskRun A2 A3 n2 c2 m2 c3 d L hh sc (ds.take hh) w' h hds (hd.take_ (by omega)) (by omega) (fun a ha => by have := htx a (List.mem_of_mem_take ha); omega) (fun _ _ => ⟨39, hdl hb, by omega, by omega⟩) he
  have HR2 : Hid (∀ w' (A : Option Addr) (n c : Nat) (A' : Option Addr) (m c' : Nat) (L' : Option Addr) (sc : Nat), DkV w' 0 A n c A' m xa → Ds w' L' (l - hh) (ds.drop hh) → EnvA w' → Calls Tryz.prog 15 #[.agg #[.slice A n c, .slice A' m c'], .slice L' (l - hh) sc] w' (RetKN w' (x, p2))) := fun w' A n c A' m c' L' sc h hd he => by
    rw [← HE1.out]
    exact iDeskRun A A' n c m c' xa L' (l - hh) sc (ds.drop hh) w' h (DkS.ok hoka.1) hd (by omega) (fun a ha => by have := htx a (List.mem_of_mem_drop ha); omega) (fun _ _ => ⟨_, hoka.2, by omega, by have : (ds.drop hh).length ≤ 5 := (by rw [List.length_drop]; omega); omega⟩) he
  have eh : (l : Int) / 2 = (hh : Int) := by omega
  have hpi : IntKind.i64.wrap ((p : Int) + (p2 : Int)) = (q : Int) := by rw [IntWalk.i64_in _ (by omega)]; omega
  rw [hb] at HOK
  have hhl : hh ≤ l := by omega
  have hh0 : l = 0 → hh = 0 := fun h => by omega
  have hhp : ¬ l = 0 → hh < l := fun h => by omega
  have HH0 := Lib.hid hh0
  have HHP := Lib.hid hhp
  clear hr hno hdl hgx htx hok hoka hra hp2 e1 e2 hb h40 htl hq5 hdsl h41 h5 hhe hh0 hhp
  rcases hL with ⟨rfl, rfl, rfl⟩ | ⟨g, rfl⟩
  · skip
    obtain rfl : hh = 0 := HH0.out rfl
    clear eh
    have HDD : Hid (∀ w', Ds w' none 0 ds → Ds w' none (0 - 0) (ds.drop 0)) := fun w' h => h
    go_wp2_with fail
    rw [← hw2]
    clear hw2
    refine (HI.out _ HV2.out HD2.out (HE.out.kp (Kp.below HW2.out))).mono ?_
    rintro e w3 ⟨A4, n4, c4, A5, m5, c5, rfl, hx3, hb3⟩
    obtain ⟨w4, hw4⟩ : ∃ w4, w4 = w3.alloc (.cells #[.slice A4 n4 c4, .slice A5 m5 c5] 26) := ⟨_, rfl⟩
    have HB34 : Hid (Below w3.heap.size w3 w4) := by rw [hw4]; exact below_alloc _ _
    have HB4 : Hid (Below w2.heap.size w2 w4) := hb3.trans (HB34.out.mono hb3.size)
    have HXB4 : Hid (KAt w4 w3.heap.size (.slice A4 n4 c4) (.slice A5 m5 c5)) := by rw [hw4]; exact KAt.new w3 _ _ _
    have HX4 : Hid (DkV w4 0 A4 n4 c4 A5 m5 x) := (hx3.mono (Nat.zero_le _)).below HB34.out
    have HV4 := Lib.hid (HV2.out.below HB4.out)
    have HD4 := Lib.hid (HD2.out.below HB4.out)
    have HK4 := Lib.hid (HK2.out.below HB4.out HK2.out.lt)
    have HW4 : Hid (Below w.heap.size w w4) := HW2.out.trans (HB4.out.mono HW2.out.size)
    clear k0 k1 l0 l1 l2
    obtain ⟨k0, k1, l0, l1, l2⟩ := HK2.out.below hb3 HK2.out.lt
    clear hx3 hb3
    go_wp2_with fail
    rw [← hw4]
    clear hw4
    refine (HS.out _ HV4.out HD4.out).mono ?_
    rintro e w5 ⟨A6, n6, c6, A7, m7, c7, rfl, hy5, hb5⟩
    obtain ⟨w6, hw6⟩ : ∃ w6, w6 = w5.alloc (.cells #[.slice A6 n6 c6, .slice A7 m7 c7] 26) := ⟨_, rfl⟩
    have HB56 : Hid (Below w5.heap.size w5 w6) := by rw [hw6]; exact below_alloc _ _
    have HB6 : Hid (Below w4.heap.size w4 w6) := hb5.trans (HB56.out.mono hb5.size)
    have HY6 : Hid (DkV w6 0 A6 n6 c6 A7 m7 x) := (hy5.mono (Nat.zero_le _)).below HB56.out
    have HX6 := Lib.hid (HX4.out.below HB6.out)
    have HXB6 := Lib.hid (HXB4.out.below HB6.out HXB4.out.lt)
    have HW6 : Hid (Below w.heap.size w w6) := HW4.out.trans (HB6.out.mono HW4.out.size)
    clear k0 k1 l0 l1 l2
    obtain ⟨x0, x1, y0, y1, y2⟩ := HXB4.out.below hb5 HXB4.out.lt
    clear hy5 hb5
    go_wp2_with fail
    rw [← hw6]
    clear hw6 x0 x1 y0 y1 y2
    refine (sameDesk_true A4 A5 A6 A7 n4 c4 m5 c5 n6 c6 m7 c7 x w6 HX6.out HY6.out HZX.out HFX.out).mono ?_
    rintro e w7 ⟨rfl, hb7⟩
    have HB7 : Hid (Below w4.heap.size w4 w7) := HB6.out.trans (hb7.mono HB6.out.size)
    have HX7 := Lib.hid (HX4.out.below HB7.out)
    have HV7 := Lib.hid (HV4.out.below HB7.out)
    have HD7 := Lib.hid (HD4.out.below HB7.out)
    have HK7 := Lib.hid (HK4.out.below HB7.out HK4.out.lt)
    have HXB7 := Lib.hid (HXB4.out.below HB7.out HXB4.out.lt)
    have HW7 : Hid (Below w.heap.size w w7) := HW4.out.trans (HB7.out.mono HW4.out.size)
    clear hb7
    obtain ⟨k0, k1, l0, l1, l2⟩ := HK7.out
    go_wp2_with fail
    refine (HOK.out _ HV7.out).mono ?_
    rintro e w8 ⟨rfl, hb8⟩
    have HB8 : Hid (Below w4.heap.size w4 w8) := HB7.out.trans (hb8.mono HB7.out.size)
    have HX8 := Lib.hid (HX4.out.below HB8.out)
    have HV8 := Lib.hid (HV4.out.below HB8.out)
    have HD8 := Lib.hid (HD4.out.below HB8.out)
    have HK8 := Lib.hid (HK4.out.below HB8.out HK4.out.lt)
    have HXB8 := Lib.hid (HXB4.out.below HB8.out HXB4.out.lt)
    have HW8 : Hid (Below w.heap.size w w8) := HW4.out.trans (HB8.out.mono HW4.out.size)
    clear hb8 k0 k1 l0 l1 l2
    obtain ⟨k0, k1, l0, l1, l2⟩ := HK8.out
    go_upto_region 11 with fail
    go_cut [10, 11] (fun s10 s11 wx => ∃ (b : Nat) (A8 : Option Addr) (n8 c8 : Nat) (A9 : Option Addr) (m9 c9 : Nat), s10 = .pointer (some ⟨b, 0, none⟩) ∧ s11 = .int .i64 p ∧ KAt wx b (.slice A8 n8 c8) (.slice A9 m9 c9) ∧ DkV wx 0 A8 n8 c8 A9 m9 xa ∧ Below w8.heap.size w8 wx)
    case first =>
      go_region_law ((go_simp; go_at_call 15; first
        | ((with_reducible refine Calls.mono (HR1.out _ _ (HV8.out.below (Below.refl _ _).drew) (HD8.out.below (Below.refl _ _).drew) (HE.out.kp (Kp.below HW8.out.drew))) ?_); rintro e w9 ⟨A8, n8, c8, A9, m9, c9, rfl, ha9, hb9⟩; have HA9 : Hid (DkV w9 w8.heap.size A8 n8 c8 A9 m9 xa) := ha9; have HB9 := Lib.hid (below_d hb9); clear ha9 hb9)
        | ((with_reducible refine Calls.mono (HR1.out _ _ (HV8.out.below (below_alloc w8 (.cells #[.slice none 0 0, .slice none 0 0] 26)).drew) (HD8.out.below (below_alloc w8 (.cells #[.slice none 0 0, .slice none 0 0] 26)).drew) (HE.out.kp (Kp.below (HW8.out.trans ((below_alloc w8 (.cells #[.slice none 0 0, .slice none 0 0] 26)).drew.mono HW8.out.size))))) ?_); rintro e w9 ⟨A8, n8, c8, A9, m9, c9, rfl, ha9, hb9⟩; have HA9 : Hid (DkV w9 (w8.heap.size + 1) A8 n8 c8 A9 m9 xa) := (ha9.mono (Nat.le_of_eq (size_alloc w8 (.cells #[.slice none 0 0, .slice none 0 0] 26)).symm)); have HT9 := Lib.hid (((KAt.new w8 (.slice none 0 0) (.slice none 0 0) 26).below (Below.refl _ _).drew (KAt.new w8 (.slice none 0 0) (.slice none 0 0) 26).lt).below hb9 (KAt.new w8 (.slice none 0 0) (.slice none 0 0) 26).lt); have HB9 := Lib.hid (below_da hb9); clear ha9 hb9; obtain ⟨t0, t1, v0, v1, v2⟩ := HT9.out)))
      all_goals
        go_wp2_with fail
        go_meet
        first
          | exact ⟨_, A8, n8, c8, A9, m9, c9, rfl, rfl, KAt.new w9 _ _ _, (HA9.out.below (below_alloc _ _)).mono (Nat.zero_le _), HB9.out.trans ((below_alloc _ _).mono HB9.out.size)⟩
          | exact ⟨_, A8, n8, c8, A9, m9, c9, rfl, rfl, (HT9.out.set0 _).set1 _, (HA9.out.pk (((Pk.refl w8.heap.size w9).setCell 0 _).setCell 1 _) (Nat.lt_succ_self _)).mono (Nat.zero_le _), (HB9.out.setCell (p := ⟨w8.heap.size, 0, none⟩) (Nat.le_refl _) _).setCell (p := ⟨w8.heap.size, 1, none⟩) (Nat.le_refl _) _⟩
    case rest =>
      obtain ⟨b, A8, n8, c8, A9, m9, c9, rfl, rfl, hkb, hva, hbc⟩ := hcut
      have HVA := Lib.hid hva
      have HBC := Lib.hid hbc
      have HWC : Hid (Below w.heap.size w wc) := HW8.out.trans (hbc.mono HW8.out.size)
      have HDC := Lib.hid (HD8.out.below hbc)
      have HXC := Lib.hid (HX8.out.below hbc)
      have HXBC := Lib.hid (HXB8.out.below hbc HXB8.out.lt)
      clear k0 k1 l0 l1 l2 hva hbc
      obtain ⟨b0, b1, l0, l1, l2⟩ := hkb
      go_upto_region 12 with fail
      go_cut [12, 13] (fun s12 s13 wx => ∃ (b : Nat) (A8 : Option Addr) (n8 c8 : Nat) (A9 : Option Addr) (m9 c9 : Nat), s12 = .pointer (some ⟨b, 0, none⟩) ∧ s13 = .int .i64 p2 ∧ KAt wx b (.slice A8 n8 c8) (.slice A9 m9 c9) ∧ DkV wx 0 A8 n8 c8 A9 m9 x ∧ Below wc.heap.size wc wx)
      case first =>
        go_region_law ((go_simp; go_at_call 15; first
          | ((with_reducible refine Calls.mono (HR2.out _ _ _ _ _ _ _ _ _ (HVA.out.below (Below.refl _ _).drew) (HDD.out _ (HDC.out.below (Below.refl _ _).drew)) (HE.out.kp (Kp.below HWC.out.drew))) ?_); rintro e w9 ⟨A10, n10, c10, A11, m11, c11, rfl, ha9, hb9⟩; have HA9 : Hid (DkV w9 wc.heap.size A10 n10 c10 A11 m11 x) := ha9; have HB9 := Lib.hid (below_d hb9); clear ha9 hb9)
          | ((with_reducible refine Calls.mono (HR2.out _ _ _ _ _ _ _ _ _ (HVA.out.below (below_alloc wc (.cells #[.slice none 0 0, .slice none 0 0] 26)).drew) (HDD.out _ (HDC.out.below (below_alloc wc (.cells #[.slice none 0 0, .slice none 0 0] 26)).drew)) (HE.out.kp (Kp.below (HWC.out.trans ((below_alloc wc (.cells #[.slice none 0 0, .slice none 0 0] 26)).drew.mono HWC.out.size))))) ?_); rintro e w9 ⟨A10, n10, c10, A11, m11, c11, rfl, ha9, hb9⟩; have HA9 : Hid (DkV w9 (wc.heap.size + 1) A10 n10 c10 A11 m11 x) := (ha9.mono (Nat.le_of_eq (size_alloc wc (.cells #[.slice none 0 0, .slice none 0 0] 26)).symm)); have HT9 := Lib.hid (((KAt.new wc (.slice none 0 0) (.slice none 0 0) 26).below (Below.refl _ _).drew (KAt.new wc (.slice none 0 0) (.slice none 0 0) 26).lt).below hb9 (KAt.new wc (.slice none 0 0) (.slice none 0 0) 26).lt); have HB9 := Lib.hid (below_da hb9); clear ha9 hb9; obtain ⟨t0, t1, v0, v1, v2⟩ := HT9.out)))
        all_goals
          go_wp2_with fail
          go_meet
          first
            | exact ⟨_, A10, n10, c10, A11, m11, c11, rfl, rfl, KAt.new w9 _ _ _, (HA9.out.below (below_alloc _ _)).mono (Nat.zero_le _), HB9.out.trans ((below_alloc _ _).mono HB9.out.size)⟩
            | exact ⟨_, A10, n10, c10, A11, m11, c11, rfl, rfl, (HT9.out.set0 _).set1 _, (HA9.out.pk (((Pk.refl wc.heap.size w9).setCell 0 _).setCell 1 _) (Nat.lt_succ_self _)).mono (Nat.zero_le _), (HB9.out.setCell (p := ⟨wc.heap.size, 0, none⟩) (Nat.le_refl _) _).setCell (p := ⟨wc.heap.size, 1, none⟩) (Nat.le_refl _) _⟩
      case rest =>
        obtain ⟨b9, A10, n10, c10, A11, m11, c11, rfl, rfl, hkc, hvc, hbd⟩ := hcut
        have HVC := Lib.hid hvc
        have HKC := Lib.hid hkc
        have HWD : Hid (Below w.heap.size w wc) := HWC.out.trans (hbd.mono HWC.out.size)
        have HXD := Lib.hid (HXC.out.below hbd)
        have HXBD := Lib.hid (HXBC.out.below hbd HXBC.out.lt)
        clear b0 b1 l0 l1 l2 hvc hbd hkc
        obtain ⟨x0, x1, y0, y1, y2⟩ := HXBD.out
        go_wp2_with fail
        refine (HOX.out _ _ _ _ _ _ _ HXD.out).mono ?_
        rintro e w10 ⟨rfl, hb10⟩
        have HW10 : Hid (Below w.heap.size w w10) := HWD.out.trans (hb10.mono HWD.out.size)
        have HV10 := Lib.hid (HVC.out.below hb10)
        have HX10 := Lib.hid (HXD.out.below hb10)
        have HXB10 := Lib.hid (HXBD.out.below hb10 HXBD.out.lt)
        have HK10 := Lib.hid (HKC.out.below hb10 HKC.out.lt)
        clear hb10 x0 x1 y0 y1 y2
        obtain ⟨x0, x1, y0, y1, y2⟩ := HXB10.out
        obtain ⟨z0, z1, v0, v1, v2⟩ := HK10.out
        go_wp2_with fail
        refine (sameDesk_true A10 A11 A4 A5 n10 c10 m11 c11 n4 c4 m5 c5 x w10 HV10.out HX10.out HZX.out HFX.out).mono ?_
        rintro e w11 ⟨rfl, hb11⟩
        have HW11 : Hid (Below w.heap.size w w11) := HW10.out.trans (hb11.mono HW10.out.size)
        clear hb11
        go_wp2_with fail
        go_ret
        exact ⟨rfl, HW11.out⟩
  · by_cases hl0 : l = 0
    · subst hl0
      obtain rfl : hh = 0 := HH0.out rfl
      clear eh
      have HDD : Hid (∀ w', Ds w' (some ⟨g, 0, none⟩) 0 ds → Ds w' (some ⟨g, 0, none⟩) (0 - 0) (ds.drop 0)) := fun w' h => h
      by_cases hlc0 : lc = 0
      · subst hlc0
        go_wp2_with fail
        rw [← hw2]
        clear hw2
        refine (HI.out _ HV2.out HD2.out (HE.out.kp (Kp.below HW2.out))).mono ?_
        rintro e w3 ⟨A4, n4, c4, A5, m5, c5, rfl, hx3, hb3⟩
        obtain ⟨w4, hw4⟩ : ∃ w4, w4 = w3.alloc (.cells #[.slice A4 n4 c4, .slice A5 m5 c5] 26) := ⟨_, rfl⟩
        have HB34 : Hid (Below w3.heap.size w3 w4) := by rw [hw4]; exact below_alloc _ _
        have HB4 : Hid (Below w2.heap.size w2 w4) := hb3.trans (HB34.out.mono hb3.size)
        have HXB4 : Hid (KAt w4 w3.heap.size (.slice A4 n4 c4) (.slice A5 m5 c5)) := by rw [hw4]; exact KAt.new w3 _ _ _
        have HX4 : Hid (DkV w4 0 A4 n4 c4 A5 m5 x) := (hx3.mono (Nat.zero_le _)).below HB34.out
        have HV4 := Lib.hid (HV2.out.below HB4.out)
        have HD4 := Lib.hid (HD2.out.below HB4.out)
        have HK4 := Lib.hid (HK2.out.below HB4.out HK2.out.lt)
        have HW4 : Hid (Below w.heap.size w w4) := HW2.out.trans (HB4.out.mono HW2.out.size)
        clear k0 k1 l0 l1 l2
        obtain ⟨k0, k1, l0, l1, l2⟩ := HK2.out.below hb3 HK2.out.lt
        clear hx3 hb3
        go_wp2_with fail
        rw [← hw4]
        clear hw4
        refine (HS.out _ HV4.out HD4.out).mono ?_
        rintro e w5 ⟨A6, n6, c6, A7, m7, c7, rfl, hy5, hb5⟩
        obtain ⟨w6, hw6⟩ : ∃ w6, w6 = w5.alloc (.cells #[.slice A6 n6 c6, .slice A7 m7 c7] 26) := ⟨_, rfl⟩
        have HB56 : Hid (Below w5.heap.size w5 w6) := by rw [hw6]; exact below_alloc _ _
        have HB6 : Hid (Below w4.heap.size w4 w6) := hb5.trans (HB56.out.mono hb5.size)
        have HY6 : Hid (DkV w6 0 A6 n6 c6 A7 m7 x) := (hy5.mono (Nat.zero_le _)).below HB56.out
        have HX6 := Lib.hid (HX4.out.below HB6.out)
        have HXB6 := Lib.hid (HXB4.out.below HB6.out HXB4.out.lt)
        have HW6 : Hid (Below w.heap.size w w6) := HW4.out.trans (HB6.out.mono HW4.out.size)
        clear k0 k1 l0 l1 l2
        obtain ⟨x0, x1, y0, y1, y2⟩ := HXB4.out.below hb5 HXB4.out.lt
        clear hy5 hb5
        go_wp2_with fail
        rw [← hw6]
        clear hw6 x0 x1 y0 y1 y2
        refine (sameDesk_true A4 A5 A6 A7 n4 c4 m5 c5 n6 c6 m7 c7 x w6 HX6.out HY6.out HZX.out HFX.out).mono ?_
        rintro e w7 ⟨rfl, hb7⟩
        have HB7 : Hid (Below w4.heap.size w4 w7) := HB6.out.trans (hb7.mono HB6.out.size)
        have HX7 := Lib.hid (HX4.out.below HB7.out)
        have HV7 := Lib.hid (HV4.out.below HB7.out)
        have HD7 := Lib.hid (HD4.out.below HB7.out)
        have HK7 := Lib.hid (HK4.out.below HB7.out HK4.out.lt)
        have HXB7 := Lib.hid (HXB4.out.below HB7.out HXB4.out.lt)
        have HW7 : Hid (Below w.heap.size w w7) := HW4.out.trans (HB7.out.mono HW4.out.size)
        clear hb7
        obtain ⟨k0, k1, l0, l1, l2⟩ := HK7.out
        go_wp2_with fail
        refine (HOK.out _ HV7.out).mono ?_
        rintro e w8 ⟨rfl, hb8⟩
        have HB8 : Hid (Below w4.heap.size w4 w8) := HB7.out.trans (hb8.mono HB7.out.size)
        have HX8 := Lib.hid (HX4.out.below HB8.out)
        have HV8 := Lib.hid (HV4.out.below HB8.out)
        have HD8 := Lib.hid (HD4.out.below HB8.out)
        have HK8 := Lib.hid (HK4.out.below HB8.out HK4.out.lt)
        have HXB8 := Lib.hid (HXB4.out.below HB8.out HXB4.out.lt)
        have HW8 : Hid (Below w.heap.size w w8) := HW4.out.trans (HB8.out.mono HW4.out.size)
        clear hb8 k0 k1 l0 l1 l2
        obtain ⟨k0, k1, l0, l1, l2⟩ := HK8.out
        go_upto_region 11 with fail
        go_cut [10, 11] (fun s10 s11 wx => ∃ (b : Nat) (A8 : Option Addr) (n8 c8 : Nat) (A9 : Option Addr) (m9 c9 : Nat), s10 = .pointer (some ⟨b, 0, none⟩) ∧ s11 = .int .i64 p ∧ KAt wx b (.slice A8 n8 c8) (.slice A9 m9 c9) ∧ DkV wx 0 A8 n8 c8 A9 m9 xa ∧ Below w8.heap.size w8 wx)
        case first =>
          go_region_law ((go_simp; go_at_call 15; first
            | ((with_reducible refine Calls.mono (HR1.out _ _ (HV8.out.below (Below.refl _ _).drew) (HD8.out.below (Below.refl _ _).drew) (HE.out.kp (Kp.below HW8.out.drew))) ?_); rintro e w9 ⟨A8, n8, c8, A9, m9, c9, rfl, ha9, hb9⟩; have HA9 : Hid (DkV w9 w8.heap.size A8 n8 c8 A9 m9 xa) := ha9; have HB9 := Lib.hid (below_d hb9); clear ha9 hb9)
            | ((with_reducible refine Calls.mono (HR1.out _ _ (HV8.out.below (below_alloc w8 (.cells #[.slice none 0 0, .slice none 0 0] 26)).drew) (HD8.out.below (below_alloc w8 (.cells #[.slice none 0 0, .slice none 0 0] 26)).drew) (HE.out.kp (Kp.below (HW8.out.trans ((below_alloc w8 (.cells #[.slice none 0 0, .slice none 0 0] 26)).drew.mono HW8.out.size))))) ?_); rintro e w9 ⟨A8, n8, c8, A9, m9, c9, rfl, ha9, hb9⟩; have HA9 : Hid (DkV w9 (w8.heap.size + 1) A8 n8 c8 A9 m9 xa) := (ha9.mono (Nat.le_of_eq (size_alloc w8 (.cells #[.slice none 0 0, .slice none 0 0] 26)).symm)); have HT9 := Lib.hid (((KAt.new w8 (.slice none 0 0) (.slice none 0 0) 26).below (Below.refl _ _).drew (KAt.new w8 (.slice none 0 0) (.slice none 0 0) 26).lt).below hb9 (KAt.new w8 (.slice none 0 0) (.slice none 0 0) 26).lt); have HB9 := Lib.hid (below_da hb9); clear ha9 hb9; obtain ⟨t0, t1, v0, v1, v2⟩ := HT9.out)))
          all_goals
            go_wp2_with fail
            go_meet
            first
              | exact ⟨_, A8, n8, c8, A9, m9, c9, rfl, rfl, KAt.new w9 _ _ _, (HA9.out.below (below_alloc _ _)).mono (Nat.zero_le _), HB9.out.trans ((below_alloc _ _).mono HB9.out.size)⟩
              | exact ⟨_, A8, n8, c8, A9, m9, c9, rfl, rfl, (HT9.out.set0 _).set1 _, (HA9.out.pk (((Pk.refl w8.heap.size w9).setCell 0 _).setCell 1 _) (Nat.lt_succ_self _)).mono (Nat.zero_le _), (HB9.out.setCell (p := ⟨w8.heap.size, 0, none⟩) (Nat.le_refl _) _).setCell (p := ⟨w8.heap.size, 1, none⟩) (Nat.le_refl _) _⟩
        case rest =>
          obtain ⟨b, A8, n8, c8, A9, m9, c9, rfl, rfl, hkb, hva, hbc⟩ := hcut
          have HVA := Lib.hid hva
          have HBC := Lib.hid hbc
          have HWC : Hid (Below w.heap.size w wc) := HW8.out.trans (hbc.mono HW8.out.size)
          have HDC := Lib.hid (HD8.out.below hbc)
          have HXC := Lib.hid (HX8.out.below hbc)
          have HXBC := Lib.hid (HXB8.out.below hbc HXB8.out.lt)
          clear k0 k1 l0 l1 l2 hva hbc
          obtain ⟨b0, b1, l0, l1, l2⟩ := hkb
          go_upto_region 12 with fail
          go_cut [12, 13] (fun s12 s13 wx => ∃ (b : Nat) (A8 : Option Addr) (n8 c8 : Nat) (A9 : Option Addr) (m9 c9 : Nat), s12 = .pointer (some ⟨b, 0, none⟩) ∧ s13 = .int .i64 p2 ∧ KAt wx b (.slice A8 n8 c8) (.slice A9 m9 c9) ∧ DkV wx 0 A8 n8 c8 A9 m9 x ∧ Below wc.heap.size wc wx)
          case first =>
            go_region_law ((go_simp; go_at_call 15; first
              | ((with_reducible refine Calls.mono (HR2.out _ _ _ _ _ _ _ _ _ (HVA.out.below (Below.refl _ _).drew) (HDD.out _ (HDC.out.below (Below.refl _ _).drew)) (HE.out.kp (Kp.below HWC.out.drew))) ?_); rintro e w9 ⟨A10, n10, c10, A11, m11, c11, rfl, ha9, hb9⟩; have HA9 : Hid (DkV w9 wc.heap.size A10 n10 c10 A11 m11 x) := ha9; have HB9 := Lib.hid (below_d hb9); clear ha9 hb9)
              | ((with_reducible refine Calls.mono (HR2.out _ _ _ _ _ _ _ _ _ (HVA.out.below (below_alloc wc (.cells #[.slice none 0 0, .slice none 0 0] 26)).drew) (HDD.out _ (HDC.out.below (below_alloc wc (.cells #[.slice none 0 0, .slice none 0 0] 26)).drew)) (HE.out.kp (Kp.below (HWC.out.trans ((below_alloc wc (.cells #[.slice none 0 0, .slice none 0 0] 26)).drew.mono HWC.out.size))))) ?_); rintro e w9 ⟨A10, n10, c10, A11, m11, c11, rfl, ha9, hb9⟩; have HA9 : Hid (DkV w9 (wc.heap.size + 1) A10 n10 c10 A11 m11 x) := (ha9.mono (Nat.le_of_eq (size_alloc wc (.cells #[.slice none 0 0, .slice none 0 0] 26)).symm)); have HT9 := Lib.hid (((KAt.new wc (.slice none 0 0) (.slice none 0 0) 26).below (Below.refl _ _).drew (KAt.new wc (.slice none 0 0) (.slice none 0 0) 26).lt).below hb9 (KAt.new wc (.slice none 0 0) (.slice none 0 0) 26).lt); have HB9 := Lib.hid (below_da hb9); clear ha9 hb9; obtain ⟨t0, t1, v0, v1, v2⟩ := HT9.out)))
            all_goals
              go_wp2_with fail
              go_meet
              first
                | exact ⟨_, A10, n10, c10, A11, m11, c11, rfl, rfl, KAt.new w9 _ _ _, (HA9.out.below (below_alloc _ _)).mono (Nat.zero_le _), HB9.out.trans ((below_alloc _ _).mono HB9.out.size)⟩
                | exact ⟨_, A10, n10, c10, A11, m11, c11, rfl, rfl, (HT9.out.set0 _).set1 _, (HA9.out.pk (((Pk.refl wc.heap.size w9).setCell 0 _).setCell 1 _) (Nat.lt_succ_self _)).mono (Nat.zero_le _), (HB9.out.setCell (p := ⟨wc.heap.size, 0, none⟩) (Nat.le_refl _) _).setCell (p := ⟨wc.heap.size, 1, none⟩) (Nat.le_refl _) _⟩
          case rest =>
            obtain ⟨b9, A10, n10, c10, A11, m11, c11, rfl, rfl, hkc, hvc, hbd⟩ := hcut
            have HVC := Lib.hid hvc
            have HKC := Lib.hid hkc
            have HWD : Hid (Below w.heap.size w wc) := HWC.out.trans (hbd.mono HWC.out.size)
            have HXD := Lib.hid (HXC.out.below hbd)
            have HXBD := Lib.hid (HXBC.out.below hbd HXBC.out.lt)
            clear b0 b1 l0 l1 l2 hvc hbd hkc
            obtain ⟨x0, x1, y0, y1, y2⟩ := HXBD.out
            go_wp2_with fail
            refine (HOX.out _ _ _ _ _ _ _ HXD.out).mono ?_
            rintro e w10 ⟨rfl, hb10⟩
            have HW10 : Hid (Below w.heap.size w w10) := HWD.out.trans (hb10.mono HWD.out.size)
            have HV10 := Lib.hid (HVC.out.below hb10)
            have HX10 := Lib.hid (HXD.out.below hb10)
            have HXB10 := Lib.hid (HXBD.out.below hb10 HXBD.out.lt)
            have HK10 := Lib.hid (HKC.out.below hb10 HKC.out.lt)
            clear hb10 x0 x1 y0 y1 y2
            obtain ⟨x0, x1, y0, y1, y2⟩ := HXB10.out
            obtain ⟨z0, z1, v0, v1, v2⟩ := HK10.out
            go_wp2_with fail
            refine (sameDesk_true A10 A11 A4 A5 n10 c10 m11 c11 n4 c4 m5 c5 x w10 HV10.out HX10.out HZX.out HFX.out).mono ?_
            rintro e w11 ⟨rfl, hb11⟩
            have HW11 : Hid (Below w.heap.size w w11) := HW10.out.trans (hb11.mono HW10.out.size)
            clear hb11
            go_wp2_with fail
            go_ret
            exact ⟨rfl, HW11.out⟩
      · have hlci : (0 : Int) < (lc : Int) := by omega
        go_wp2_with fail
        rw [← hw2]
        clear hw2
        refine (HI.out _ HV2.out HD2.out (HE.out.kp (Kp.below HW2.out))).mono ?_
        rintro e w3 ⟨A4, n4, c4, A5, m5, c5, rfl, hx3, hb3⟩
        obtain ⟨w4, hw4⟩ : ∃ w4, w4 = w3.alloc (.cells #[.slice A4 n4 c4, .slice A5 m5 c5] 26) := ⟨_, rfl⟩
        have HB34 : Hid (Below w3.heap.size w3 w4) := by rw [hw4]; exact below_alloc _ _
        have HB4 : Hid (Below w2.heap.size w2 w4) := hb3.trans (HB34.out.mono hb3.size)
        have HXB4 : Hid (KAt w4 w3.heap.size (.slice A4 n4 c4) (.slice A5 m5 c5)) := by rw [hw4]; exact KAt.new w3 _ _ _
        have HX4 : Hid (DkV w4 0 A4 n4 c4 A5 m5 x) := (hx3.mono (Nat.zero_le _)).below HB34.out
        have HV4 := Lib.hid (HV2.out.below HB4.out)
        have HD4 := Lib.hid (HD2.out.below HB4.out)
        have HK4 := Lib.hid (HK2.out.below HB4.out HK2.out.lt)
        have HW4 : Hid (Below w.heap.size w w4) := HW2.out.trans (HB4.out.mono HW2.out.size)
        clear k0 k1 l0 l1 l2
        obtain ⟨k0, k1, l0, l1, l2⟩ := HK2.out.below hb3 HK2.out.lt
        clear hx3 hb3
        go_wp2_with fail
        rw [← hw4]
        clear hw4
        refine (HS.out _ HV4.out HD4.out).mono ?_
        rintro e w5 ⟨A6, n6, c6, A7, m7, c7, rfl, hy5, hb5⟩
        obtain ⟨w6, hw6⟩ : ∃ w6, w6 = w5.alloc (.cells #[.slice A6 n6 c6, .slice A7 m7 c7] 26) := ⟨_, rfl⟩
        have HB56 : Hid (Below w5.heap.size w5 w6) := by rw [hw6]; exact below_alloc _ _
        have HB6 : Hid (Below w4.heap.size w4 w6) := hb5.trans (HB56.out.mono hb5.size)
        have HY6 : Hid (DkV w6 0 A6 n6 c6 A7 m7 x) := (hy5.mono (Nat.zero_le _)).below HB56.out
        have HX6 := Lib.hid (HX4.out.below HB6.out)
        have HXB6 := Lib.hid (HXB4.out.below HB6.out HXB4.out.lt)
        have HW6 : Hid (Below w.heap.size w w6) := HW4.out.trans (HB6.out.mono HW4.out.size)
        clear k0 k1 l0 l1 l2
        obtain ⟨x0, x1, y0, y1, y2⟩ := HXB4.out.below hb5 HXB4.out.lt
        clear hy5 hb5
        go_wp2_with fail
        rw [← hw6]
        clear hw6 x0 x1 y0 y1 y2
        refine (sameDesk_true A4 A5 A6 A7 n4 c4 m5 c5 n6 c6 m7 c7 x w6 HX6.out HY6.out HZX.out HFX.out).mono ?_
        rintro e w7 ⟨rfl, hb7⟩
        have HB7 : Hid (Below w4.heap.size w4 w7) := HB6.out.trans (hb7.mono HB6.out.size)
        have HX7 := Lib.hid (HX4.out.below HB7.out)
        have HV7 := Lib.hid (HV4.out.below HB7.out)
        have HD7 := Lib.hid (HD4.out.below HB7.out)
        have HK7 := Lib.hid (HK4.out.below HB7.out HK4.out.lt)
        have HXB7 := Lib.hid (HXB4.out.below HB7.out HXB4.out.lt)
        have HW7 : Hid (Below w.heap.size w w7) := HW4.out.trans (HB7.out.mono HW4.out.size)
        clear hb7
        obtain ⟨k0, k1, l0, l1, l2⟩ := HK7.out
        go_wp2_with fail
        refine (HOK.out _ HV7.out).mono ?_
        rintro e w8 ⟨rfl, hb8⟩
        have HB8 : Hid (Below w4.heap.size w4 w8) := HB7.out.trans (hb8.mono HB7.out.size)
        have HX8 := Lib.hid (HX4.out.below HB8.out)
        have HV8 := Lib.hid (HV4.out.below HB8.out)
        have HD8 := Lib.hid (HD4.out.below HB8.out)
        have HK8 := Lib.hid (HK4.out.below HB8.out HK4.out.lt)
        have HXB8 := Lib.hid (HXB4.out.below HB8.out HXB4.out.lt)
        have HW8 : Hid (Below w.heap.size w w8) := HW4.out.trans (HB8.out.mono HW4.out.size)
        clear hb8 k0 k1 l0 l1 l2
        obtain ⟨k0, k1, l0, l1, l2⟩ := HK8.out
        go_upto_region 11 with fail
        go_cut [10, 11] (fun s10 s11 wx => ∃ (b : Nat) (A8 : Option Addr) (n8 c8 : Nat) (A9 : Option Addr) (m9 c9 : Nat), s10 = .pointer (some ⟨b, 0, none⟩) ∧ s11 = .int .i64 p ∧ KAt wx b (.slice A8 n8 c8) (.slice A9 m9 c9) ∧ DkV wx 0 A8 n8 c8 A9 m9 xa ∧ Below w8.heap.size w8 wx)
        case first =>
          go_region_law ((go_simp; go_at_call 15; first
            | ((with_reducible refine Calls.mono (HR1.out _ _ (HV8.out.below (Below.refl _ _).drew) (HD8.out.below (Below.refl _ _).drew) (HE.out.kp (Kp.below HW8.out.drew))) ?_); rintro e w9 ⟨A8, n8, c8, A9, m9, c9, rfl, ha9, hb9⟩; have HA9 : Hid (DkV w9 w8.heap.size A8 n8 c8 A9 m9 xa) := ha9; have HB9 := Lib.hid (below_d hb9); clear ha9 hb9)
            | ((with_reducible refine Calls.mono (HR1.out _ _ (HV8.out.below (below_alloc w8 (.cells #[.slice none 0 0, .slice none 0 0] 26)).drew) (HD8.out.below (below_alloc w8 (.cells #[.slice none 0 0, .slice none 0 0] 26)).drew) (HE.out.kp (Kp.below (HW8.out.trans ((below_alloc w8 (.cells #[.slice none 0 0, .slice none 0 0] 26)).drew.mono HW8.out.size))))) ?_); rintro e w9 ⟨A8, n8, c8, A9, m9, c9, rfl, ha9, hb9⟩; have HA9 : Hid (DkV w9 (w8.heap.size + 1) A8 n8 c8 A9 m9 xa) := (ha9.mono (Nat.le_of_eq (size_alloc w8 (.cells #[.slice none 0 0, .slice none 0 0] 26)).symm)); have HT9 := Lib.hid (((KAt.new w8 (.slice none 0 0) (.slice none 0 0) 26).below (Below.refl _ _).drew (KAt.new w8 (.slice none 0 0) (.slice none 0 0) 26).lt).below hb9 (KAt.new w8 (.slice none 0 0) (.slice none 0 0) 26).lt); have HB9 := Lib.hid (below_da hb9); clear ha9 hb9; obtain ⟨t0, t1, v0, v1, v2⟩ := HT9.out)))
          all_goals
            go_wp2_with fail
            go_meet
            first
              | exact ⟨_, A8, n8, c8, A9, m9, c9, rfl, rfl, KAt.new w9 _ _ _, (HA9.out.below (below_alloc _ _)).mono (Nat.zero_le _), HB9.out.trans ((below_alloc _ _).mono HB9.out.size)⟩
              | exact ⟨_, A8, n8, c8, A9, m9, c9, rfl, rfl, (HT9.out.set0 _).set1 _, (HA9.out.pk (((Pk.refl w8.heap.size w9).setCell 0 _).setCell 1 _) (Nat.lt_succ_self _)).mono (Nat.zero_le _), (HB9.out.setCell (p := ⟨w8.heap.size, 0, none⟩) (Nat.le_refl _) _).setCell (p := ⟨w8.heap.size, 1, none⟩) (Nat.le_refl _) _⟩
        case rest =>
          obtain ⟨b, A8, n8, c8, A9, m9, c9, rfl, rfl, hkb, hva, hbc⟩ := hcut
          have HVA := Lib.hid hva
          have HBC := Lib.hid hbc
          have HWC : Hid (Below w.heap.size w wc) := HW8.out.trans (hbc.mono HW8.out.size)
          have HDC := Lib.hid (HD8.out.below hbc)
          have HXC := Lib.hid (HX8.out.below hbc)
          have HXBC := Lib.hid (HXB8.out.below hbc HXB8.out.lt)
          clear k0 k1 l0 l1 l2 hva hbc
          obtain ⟨b0, b1, l0, l1, l2⟩ := hkb
          go_upto_region 12 with fail
          go_cut [12, 13] (fun s12 s13 wx => ∃ (b : Nat) (A8 : Option Addr) (n8 c8 : Nat) (A9 : Option Addr) (m9 c9 : Nat), s12 = .pointer (some ⟨b, 0, none⟩) ∧ s13 = .int .i64 p2 ∧ KAt wx b (.slice A8 n8 c8) (.slice A9 m9 c9) ∧ DkV wx 0 A8 n8 c8 A9 m9 x ∧ Below wc.heap.size wc wx)
          case first =>
            go_region_law ((go_simp; go_at_call 15; first
              | ((with_reducible refine Calls.mono (HR2.out _ _ _ _ _ _ _ _ _ (HVA.out.below (Below.refl _ _).drew) (HDD.out _ (HDC.out.below (Below.refl _ _).drew)) (HE.out.kp (Kp.below HWC.out.drew))) ?_); rintro e w9 ⟨A10, n10, c10, A11, m11, c11, rfl, ha9, hb9⟩; have HA9 : Hid (DkV w9 wc.heap.size A10 n10 c10 A11 m11 x) := ha9; have HB9 := Lib.hid (below_d hb9); clear ha9 hb9)
              | ((with_reducible refine Calls.mono (HR2.out _ _ _ _ _ _ _ _ _ (HVA.out.below (below_alloc wc (.cells #[.slice none 0 0, .slice none 0 0] 26)).drew) (HDD.out _ (HDC.out.below (below_alloc wc (.cells #[.slice none 0 0, .slice none 0 0] 26)).drew)) (HE.out.kp (Kp.below (HWC.out.trans ((below_alloc wc (.cells #[.slice none 0 0, .slice none 0 0] 26)).drew.mono HWC.out.size))))) ?_); rintro e w9 ⟨A10, n10, c10, A11, m11, c11, rfl, ha9, hb9⟩; have HA9 : Hid (DkV w9 (wc.heap.size + 1) A10 n10 c10 A11 m11 x) := (ha9.mono (Nat.le_of_eq (size_alloc wc (.cells #[.slice none 0 0, .slice none 0 0] 26)).symm)); have HT9 := Lib.hid (((KAt.new wc (.slice none 0 0) (.slice none 0 0) 26).below (Below.refl _ _).drew (KAt.new wc (.slice none 0 0) (.slice none 0 0) 26).lt).below hb9 (KAt.new wc (.slice none 0 0) (.slice none 0 0) 26).lt); have HB9 := Lib.hid (below_da hb9); clear ha9 hb9; obtain ⟨t0, t1, v0, v1, v2⟩ := HT9.out)))
            all_goals
              go_wp2_with fail
              go_meet
              first
                | exact ⟨_, A10, n10, c10, A11, m11, c11, rfl, rfl, KAt.new w9 _ _ _, (HA9.out.below (below_alloc _ _)).mono (Nat.zero_le _), HB9.out.trans ((below_alloc _ _).mono HB9.out.size)⟩
                | exact ⟨_, A10, n10, c10, A11, m11, c11, rfl, rfl, (HT9.out.set0 _).set1 _, (HA9.out.pk (((Pk.refl wc.heap.size w9).setCell 0 _).setCell 1 _) (Nat.lt_succ_self _)).mono (Nat.zero_le _), (HB9.out.setCell (p := ⟨wc.heap.size, 0, none⟩) (Nat.le_refl _) _).setCell (p := ⟨wc.heap.size, 1, none⟩) (Nat.le_refl _) _⟩
          case rest =>
            obtain ⟨b9, A10, n10, c10, A11, m11, c11, rfl, rfl, hkc, hvc, hbd⟩ := hcut
            have HVC := Lib.hid hvc
            have HKC := Lib.hid hkc
            have HWD : Hid (Below w.heap.size w wc) := HWC.out.trans (hbd.mono HWC.out.size)
            have HXD := Lib.hid (HXC.out.below hbd)
            have HXBD := Lib.hid (HXBC.out.below hbd HXBC.out.lt)
            clear b0 b1 l0 l1 l2 hvc hbd hkc
            obtain ⟨x0, x1, y0, y1, y2⟩ := HXBD.out
            go_wp2_with fail
            refine (HOX.out _ _ _ _ _ _ _ HXD.out).mono ?_
            rintro e w10 ⟨rfl, hb10⟩
            have HW10 : Hid (Below w.heap.size w w10) := HWD.out.trans (hb10.mono HWD.out.size)
            have HV10 := Lib.hid (HVC.out.below hb10)
            have HX10 := Lib.hid (HXD.out.below hb10)
            have HXB10 := Lib.hid (HXBD.out.below hb10 HXBD.out.lt)
            have HK10 := Lib.hid (HKC.out.below hb10 HKC.out.lt)
            clear hb10 x0 x1 y0 y1 y2
            obtain ⟨x0, x1, y0, y1, y2⟩ := HXB10.out
            obtain ⟨z0, z1, v0, v1, v2⟩ := HK10.out
            go_wp2_with fail
            refine (sameDesk_true A10 A11 A4 A5 n10 c10 m11 c11 n4 c4 m5 c5 x w10 HV10.out HX10.out HZX.out HFX.out).mono ?_
            rintro e w11 ⟨rfl, hb11⟩
            have HW11 : Hid (Below w.heap.size w w11) := HW10.out.trans (hb11.mono HW10.out.size)
            clear hb11
            go_wp2_with fail
            go_ret
            exact ⟨rfl, HW11.out⟩
    · have hlt : hh < l := HHP.out hl0
      have hlti : (hh : Int) < (lc : Int) := by omega
      have h1i : (hh : Int) ≤ (l : Int) := by omega
      have h2i : (hh : Int) ≤ (lc : Int) := by omega
      have h3i : (l : Int) ≤ (lc : Int) := by omega
      have hlch : ¬ lc = hh := by omega
      have HDD : Hid (∀ w', Ds w' (some ⟨g, 0, none⟩) l ds → Ds w' (some ⟨g, hh * 3, none⟩) (l - hh) (ds.drop hh)) := fun w' h => by have := h.drop_ hlt; rwa [Nat.zero_add] at this
      go_wp2_with fail
      rw [← hw2]
      clear hw2
      refine (HI.out _ HV2.out HD2.out (HE.out.kp (Kp.below HW2.out))).mono ?_
      rintro e w3 ⟨A4, n4, c4, A5, m5, c5, rfl, hx3, hb3⟩
      obtain ⟨w4, hw4⟩ : ∃ w4, w4 = w3.alloc (.cells #[.slice A4 n4 c4, .slice A5 m5 c5] 26) := ⟨_, rfl⟩
      have HB34 : Hid (Below w3.heap.size w3 w4) := by rw [hw4]; exact below_alloc _ _
      have HB4 : Hid (Below w2.heap.size w2 w4) := hb3.trans (HB34.out.mono hb3.size)
      have HXB4 : Hid (KAt w4 w3.heap.size (.slice A4 n4 c4) (.slice A5 m5 c5)) := by rw [hw4]; exact KAt.new w3 _ _ _
      have HX4 : Hid (DkV w4 0 A4 n4 c4 A5 m5 x) := (hx3.mono (Nat.zero_le _)).below HB34.out
      have HV4 := Lib.hid (HV2.out.below HB4.out)
      have HD4 := Lib.hid (HD2.out.below HB4.out)
      have HK4 := Lib.hid (HK2.out.below HB4.out HK2.out.lt)
      have HW4 : Hid (Below w.heap.size w w4) := HW2.out.trans (HB4.out.mono HW2.out.size)
      clear k0 k1 l0 l1 l2
      obtain ⟨k0, k1, l0, l1, l2⟩ := HK2.out.below hb3 HK2.out.lt
      clear hx3 hb3
      go_wp2_with fail
      rw [← hw4]
      clear hw4
      refine (HS.out _ HV4.out HD4.out).mono ?_
      rintro e w5 ⟨A6, n6, c6, A7, m7, c7, rfl, hy5, hb5⟩
      obtain ⟨w6, hw6⟩ : ∃ w6, w6 = w5.alloc (.cells #[.slice A6 n6 c6, .slice A7 m7 c7] 26) := ⟨_, rfl⟩
      have HB56 : Hid (Below w5.heap.size w5 w6) := by rw [hw6]; exact below_alloc _ _
      have HB6 : Hid (Below w4.heap.size w4 w6) := hb5.trans (HB56.out.mono hb5.size)
      have HY6 : Hid (DkV w6 0 A6 n6 c6 A7 m7 x) := (hy5.mono (Nat.zero_le _)).below HB56.out
      have HX6 := Lib.hid (HX4.out.below HB6.out)
      have HXB6 := Lib.hid (HXB4.out.below HB6.out HXB4.out.lt)
      have HW6 : Hid (Below w.heap.size w w6) := HW4.out.trans (HB6.out.mono HW4.out.size)
      clear k0 k1 l0 l1 l2
      obtain ⟨x0, x1, y0, y1, y2⟩ := HXB4.out.below hb5 HXB4.out.lt
      clear hy5 hb5
      go_wp2_with fail
      rw [← hw6]
      clear hw6 x0 x1 y0 y1 y2
      refine (sameDesk_true A4 A5 A6 A7 n4 c4 m5 c5 n6 c6 m7 c7 x w6 HX6.out HY6.out HZX.out HFX.out).mono ?_
      rintro e w7 ⟨rfl, hb7⟩
      have HB7 : Hid (Below w4.heap.size w4 w7) := HB6.out.trans (hb7.mono HB6.out.size)
      have HX7 := Lib.hid (HX4.out.below HB7.out)
      have HV7 := Lib.hid (HV4.out.below HB7.out)
      have HD7 := Lib.hid (HD4.out.below HB7.out)
      have HK7 := Lib.hid (HK4.out.below HB7.out HK4.out.lt)
      have HXB7 := Lib.hid (HXB4.out.below HB7.out HXB4.out.lt)
      have HW7 : Hid (Below w.heap.size w w7) := HW4.out.trans (HB7.out.mono HW4.out.size)
      clear hb7
      obtain ⟨k0, k1, l0, l1, l2⟩ := HK7.out
      go_wp2_with fail
      refine (HOK.out _ HV7.out).mono ?_
      rintro e w8 ⟨rfl, hb8⟩
      have HB8 : Hid (Below w4.heap.size w4 w8) := HB7.out.trans (hb8.mono HB7.out.size)
      have HX8 := Lib.hid (HX4.out.below HB8.out)
      have HV8 := Lib.hid (HV4.out.below HB8.out)
      have HD8 := Lib.hid (HD4.out.below HB8.out)
      have HK8 := Lib.hid (HK4.out.below HB8.out HK4.out.lt)
      have HXB8 := Lib.hid (HXB4.out.below HB8.out HXB4.out.lt)
      have HW8 : Hid (Below w.heap.size w w8) := HW4.out.trans (HB8.out.mono HW4.out.size)
      clear hb8 k0 k1 l0 l1 l2
      obtain ⟨k0, k1, l0, l1, l2⟩ := HK8.out
      go_upto_region 11 with fail
      go_cut [10, 11] (fun s10 s11 wx => ∃ (b : Nat) (A8 : Option Addr) (n8 c8 : Nat) (A9 : Option Addr) (m9 c9 : Nat), s10 = .pointer (some ⟨b, 0, none⟩) ∧ s11 = .int .i64 p ∧ KAt wx b (.slice A8 n8 c8) (.slice A9 m9 c9) ∧ DkV wx 0 A8 n8 c8 A9 m9 xa ∧ Below w8.heap.size w8 wx)
      case first =>
        go_region_law ((go_simp; go_at_call 15; first
          | ((with_reducible refine Calls.mono (HR1.out _ _ (HV8.out.below (Below.refl _ _).drew) (HD8.out.below (Below.refl _ _).drew) (HE.out.kp (Kp.below HW8.out.drew))) ?_); rintro e w9 ⟨A8, n8, c8, A9, m9, c9, rfl, ha9, hb9⟩; have HA9 : Hid (DkV w9 w8.heap.size A8 n8 c8 A9 m9 xa) := ha9; have HB9 := Lib.hid (below_d hb9); clear ha9 hb9)
          | ((with_reducible refine Calls.mono (HR1.out _ _ (HV8.out.below (below_alloc w8 (.cells #[.slice none 0 0, .slice none 0 0] 26)).drew) (HD8.out.below (below_alloc w8 (.cells #[.slice none 0 0, .slice none 0 0] 26)).drew) (HE.out.kp (Kp.below (HW8.out.trans ((below_alloc w8 (.cells #[.slice none 0 0, .slice none 0 0] 26)).drew.mono HW8.out.size))))) ?_); rintro e w9 ⟨A8, n8, c8, A9, m9, c9, rfl, ha9, hb9⟩; have HA9 : Hid (DkV w9 (w8.heap.size + 1) A8 n8 c8 A9 m9 xa) := (ha9.mono (Nat.le_of_eq (size_alloc w8 (.cells #[.slice none 0 0, .slice none 0 0] 26)).symm)); have HT9 := Lib.hid (((KAt.new w8 (.slice none 0 0) (.slice none 0 0) 26).below (Below.refl _ _).drew (KAt.new w8 (.slice none 0 0) (.slice none 0 0) 26).lt).below hb9 (KAt.new w8 (.slice none 0 0) (.slice none 0 0) 26).lt); have HB9 := Lib.hid (below_da hb9); clear ha9 hb9; obtain ⟨t0, t1, v0, v1, v2⟩ := HT9.out)))
        all_goals
          go_wp2_with fail
          go_meet
          first
            | exact ⟨_, A8, n8, c8, A9, m9, c9, rfl, rfl, KAt.new w9 _ _ _, (HA9.out.below (below_alloc _ _)).mono (Nat.zero_le _), HB9.out.trans ((below_alloc _ _).mono HB9.out.size)⟩
            | exact ⟨_, A8, n8, c8, A9, m9, c9, rfl, rfl, (HT9.out.set0 _).set1 _, (HA9.out.pk (((Pk.refl w8.heap.size w9).setCell 0 _).setCell 1 _) (Nat.lt_succ_self _)).mono (Nat.zero_le _), (HB9.out.setCell (p := ⟨w8.heap.size, 0, none⟩) (Nat.le_refl _) _).setCell (p := ⟨w8.heap.size, 1, none⟩) (Nat.le_refl _) _⟩
      case rest =>
        obtain ⟨b, A8, n8, c8, A9, m9, c9, rfl, rfl, hkb, hva, hbc⟩ := hcut
        have HVA := Lib.hid hva
        have HBC := Lib.hid hbc
        have HWC : Hid (Below w.heap.size w wc) := HW8.out.trans (hbc.mono HW8.out.size)
        have HDC := Lib.hid (HD8.out.below hbc)
        have HXC := Lib.hid (HX8.out.below hbc)
        have HXBC := Lib.hid (HXB8.out.below hbc HXB8.out.lt)
        clear k0 k1 l0 l1 l2 hva hbc
        obtain ⟨b0, b1, l0, l1, l2⟩ := hkb
        go_upto_region 12 with fail
        go_cut [12, 13] (fun s12 s13 wx => ∃ (b : Nat) (A8 : Option Addr) (n8 c8 : Nat) (A9 : Option Addr) (m9 c9 : Nat), s12 = .pointer (some ⟨b, 0, none⟩) ∧ s13 = .int .i64 p2 ∧ KAt wx b (.slice A8 n8 c8) (.slice A9 m9 c9) ∧ DkV wx 0 A8 n8 c8 A9 m9 x ∧ Below wc.heap.size wc wx)
        case first =>
          go_region_law ((go_simp; go_at_call 15; first
            | ((with_reducible refine Calls.mono (HR2.out _ _ _ _ _ _ _ _ _ (HVA.out.below (Below.refl _ _).drew) (HDD.out _ (HDC.out.below (Below.refl _ _).drew)) (HE.out.kp (Kp.below HWC.out.drew))) ?_); rintro e w9 ⟨A10, n10, c10, A11, m11, c11, rfl, ha9, hb9⟩; have HA9 : Hid (DkV w9 wc.heap.size A10 n10 c10 A11 m11 x) := ha9; have HB9 := Lib.hid (below_d hb9); clear ha9 hb9)
            | ((with_reducible refine Calls.mono (HR2.out _ _ _ _ _ _ _ _ _ (HVA.out.below (below_alloc wc (.cells #[.slice none 0 0, .slice none 0 0] 26)).drew) (HDD.out _ (HDC.out.below (below_alloc wc (.cells #[.slice none 0 0, .slice none 0 0] 26)).drew)) (HE.out.kp (Kp.below (HWC.out.trans ((below_alloc wc (.cells #[.slice none 0 0, .slice none 0 0] 26)).drew.mono HWC.out.size))))) ?_); rintro e w9 ⟨A10, n10, c10, A11, m11, c11, rfl, ha9, hb9⟩; have HA9 : Hid (DkV w9 (wc.heap.size + 1) A10 n10 c10 A11 m11 x) := (ha9.mono (Nat.le_of_eq (size_alloc wc (.cells #[.slice none 0 0, .slice none 0 0] 26)).symm)); have HT9 := Lib.hid (((KAt.new wc (.slice none 0 0) (.slice none 0 0) 26).below (Below.refl _ _).drew (KAt.new wc (.slice none 0 0) (.slice none 0 0) 26).lt).below hb9 (KAt.new wc (.slice none 0 0) (.slice none 0 0) 26).lt); have HB9 := Lib.hid (below_da hb9); clear ha9 hb9; obtain ⟨t0, t1, v0, v1, v2⟩ := HT9.out)))
          all_goals
            go_wp2_with fail
            go_meet
            first
              | exact ⟨_, A10, n10, c10, A11, m11, c11, rfl, rfl, KAt.new w9 _ _ _, (HA9.out.below (below_alloc _ _)).mono (Nat.zero_le _), HB9.out.trans ((below_alloc _ _).mono HB9.out.size)⟩
              | exact ⟨_, A10, n10, c10, A11, m11, c11, rfl, rfl, (HT9.out.set0 _).set1 _, (HA9.out.pk (((Pk.refl wc.heap.size w9).setCell 0 _).setCell 1 _) (Nat.lt_succ_self _)).mono (Nat.zero_le _), (HB9.out.setCell (p := ⟨wc.heap.size, 0, none⟩) (Nat.le_refl _) _).setCell (p := ⟨wc.heap.size, 1, none⟩) (Nat.le_refl _) _⟩
        case rest =>
          obtain ⟨b9, A10, n10, c10, A11, m11, c11, rfl, rfl, hkc, hvc, hbd⟩ := hcut
          have HVC := Lib.hid hvc
          have HKC := Lib.hid hkc
          have HWD : Hid (Below w.heap.size w wc) := HWC.out.trans (hbd.mono HWC.out.size)
          have HXD := Lib.hid (HXC.out.below hbd)
          have HXBD := Lib.hid (HXBC.out.below hbd HXBC.out.lt)
          clear b0 b1 l0 l1 l2 hvc hbd hkc
          obtain ⟨x0, x1, y0, y1, y2⟩ := HXBD.out
          go_wp2_with fail
          refine (HOX.out _ _ _ _ _ _ _ HXD.out).mono ?_
          rintro e w10 ⟨rfl, hb10⟩
          have HW10 : Hid (Below w.heap.size w w10) := HWD.out.trans (hb10.mono HWD.out.size)
          have HV10 := Lib.hid (HVC.out.below hb10)
          have HX10 := Lib.hid (HXD.out.below hb10)
          have HXB10 := Lib.hid (HXBD.out.below hb10 HXBD.out.lt)
          have HK10 := Lib.hid (HKC.out.below hb10 HKC.out.lt)
          clear hb10 x0 x1 y0 y1 y2
          obtain ⟨x0, x1, y0, y1, y2⟩ := HXB10.out
          obtain ⟨z0, z1, v0, v1, v2⟩ := HK10.out
          go_wp2_with fail
          refine (sameDesk_true A10 A11 A4 A5 n10 c10 m11 c11 n4 c4 m5 c5 x w10 HV10.out HX10.out HZX.out HFX.out).mono ?_
          rintro e w11 ⟨rfl, hb11⟩
          have HW11 : Hid (Below w.heap.size w w11) := HW10.out.trans (hb11.mono HW10.out.size)
          clear hb11
          go_wp2_with fail
          go_ret
          exact ⟨rfl, HW11.out⟩
end Go.Proofs.YtnomlkkhkacajaaGreatDoor
