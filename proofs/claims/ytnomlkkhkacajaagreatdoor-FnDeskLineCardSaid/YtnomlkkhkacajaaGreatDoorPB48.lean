/- Texts on the way to a law (H21), each with its own remark. -/
import Derived.Test.YtnomlkkhkacajaaGreatDoorPB47
import Derived.Test.YtnomlkkhkacajaaGreatDoorPB43
namespace Go.Proofs.YtnomlkkhkacajaaGreatDoor
open Go.RowKit
open Go.Lib hiding intOf

/-- A desk and a line, drawn. -/
def RetDLn (w : World) (e : Ending) (w' : World) : Prop :=
  ∃ A n c A' m c' d l, e = .returned (.tuple #[.agg #[.slice A n c, .slice A' m c'], .string (bs l)]) ∧ DkV w' w.heap.size A n c A' m d ∧ DkS d ∧ (dkB d = true → DkL d 39) ∧ l.length ≤ 1048576 ∧ Below w.heap.size w w'
set_option maxHeartbeats 2000000 in
theorem drawDeskLine_any (A : Option Addr) (n c : Nat) (w : World) (hnc : n ≤ c) (hn : n ≤ 1048576) (h : Code8 w A n) :
    Calls Tryz.prog 19 #[.slice A n c] w (RetDLn w) := by
  have HC := Lib.hid h
  clear h
  obtain ⟨w0, hw0⟩ : ∃ w0, w0 = w.alloc (.cells #[.slice none 0 0, .slice none 0 0] 26) := ⟨_, rfl⟩
  have HSZ : Hid (w0.heap.size = w.heap.size + 1) := by show _ = _; rw [hw0, size_alloc]
  have HB0 : Hid (Below w.heap.size w w0) := by rw [hw0]; exact below_alloc _ _
  have HK0 : Hid (KAt w0 w.heap.size (.slice none 0 0) (.slice none 0 0)) := by rw [hw0]; exact KAt.new w _ _ _
  go_enter Tryz.func19, Tryz.ntmps19
  go_wp2_with fail
  rw [← hw0]
  clear hw0
  refine (open_any A n c _ hnc hn (code8_below HC.out HB0.out)).mono ?_
  rintro e w1 ⟨g, rfl, hg, hr1, hb1⟩
  have HB1 : Hid (Below w0.heap.size w0 w1) := hb1
  have HK1 := Lib.hid (HK0.out.below hb1 (by rw [HSZ.out]; omega))
  have HG : Hid (w.heap.size + 1 ≤ g) := by show _ ≤ _; rw [← HSZ.out]; exact hg
  have HS1 : Hid (w.heap.size + 1 ≤ w1.heap.size) := by show _ ≤ _; rw [← HSZ.out]; exact hb1.size
  clear hb1 hg
  go_wp2_with fail
  refine (desk_any g 0 12 w1 (by omega) (by omega) hr1).mono ?_
  rintro e w2 ⟨A2, n2, c2, A3, m2, c3, d, rfl, hdk, hds, hdl, hr2, hp2⟩
  have hgn : w.heap.size ≠ g := by have := HG.out; omega
  have hgl := hr1.lt
  have HK2 := Lib.hid (HK1.out.pk hp2 hgn)
  have HDK := Lib.hid hdk
  have HP2 := Lib.hid hp2
  clear hdk hp2 hr1
  go_wp2_with fail
  refine (line_any g (0 + 400) w2 (by omega) hr2).mono ?_
  rintro e w3 ⟨l, rfl, hl, hr3, hp3⟩
  have HK3 := Lib.hid (HK2.out.pk hp3 hgn)
  have HV3 := Lib.hid (HDK.out.pk hp3 hgl)
  have HB3 : Hid (Below w.heap.size w w3) := HB0.out.trans ((HB1.out.mono (by rw [HSZ.out]; omega)).trans ((HP2.out.trans hp3).below (by have := HG.out; omega) (by have := HS1.out; omega)))
  obtain ⟨r0, r1, s0, s1, rl⟩ := HK3.out
  clear hr2 hr3 hp3 hgl
  go_wp2_with fail
  refine bodyPost_ret (v := .tuple #[.agg #[.slice A2 n2 c2, .slice A3 m2 c3], .string (bs l)]) (by simp [results, Tryz.results19, go_sem, r0, r1]) rfl ?_
  have hpk : Pk w.heap.size w3 ((w3.setCell ⟨w.heap.size, 0, none⟩ (.slice A2 n2 c2)).setCell ⟨w.heap.size, 1, none⟩ (.slice A3 m2 c3)) := ((Pk.refl _ _).setCell 0 _).setCell 1 _
  have hb := HS1.out
  exact ⟨_, _, _, _, _, _, d, l, rfl, (HV3.out.pk hpk (by omega)).mono (by omega), hds, hdl, hl, (HB3.out.setCell (p := ⟨w.heap.size, 0, none⟩) (Nat.le_refl _) _).setCell (p := ⟨w.heap.size, 1, none⟩) (Nat.le_refl _) _⟩
theorem read_space : readDd [32] = none := by rfl
theorem lineF_space {d : Dk} (h : dkB d = true) : lineF d [32] = (d, tWhat) := by
  rw [lineF_ask h read_space, ansF_none (l := [32]) (by decide) (by decide) (by decide) (by decide) (show whole? (cut1 32 [32]).2.1 0 9999 = none from whole_nil)]
theorem lineF_same {d : Dk} {l : Txt} (h : dkB d = true) (ht : ((lineF d l).2 == [111, 107]) = false) : (lineF d l).1 = d := by
  cases hr : readDd l with
  | none => rw [lineF_ask h hr]
  | some a =>
    rw [lineF_do h hr] at ht ⊢
    cases hk : (doF d a).2
    · exact doF_same h hk
    · rw [hk] at ht; exact absurd (show ((tOk : Txt) == [111, 107]) = false from ht) (by decide)
theorem lineF_ok {d : Dk} {l : Txt} (h : dkB d = true) (hd : DkL d 39) : dkB (lineF d l).1 = true := by
  cases hr : readDd l with
  | none => rw [lineF_ask h hr]; exact h
  | some a => rw [lineF_do h hr]; exact (doF_ok a h hd (by omega) (by omega)).1

set_option maxHeartbeats 4000000 in
set_option maxRecDepth 100000 in
theorem lawDeskLine (A : Option Addr) (n c : Nat) (w : World) (hnc : n ≤ c) (h : Code8 w A n) (hE : EnvX w) :
    Calls Tryz.prog 5 #[.slice A n c] w fun e w' => e = .returned (.bool true) ∧ Below w.heap.size w w' := by
  by_cases hbig : 1048576 < n
  · clear hE
    go_enter Tryz.func5, Tryz.ntmps5
    go_wp2_with fail
    go_ret
    exact ⟨rfl, Below.refl _ _⟩
  have hn2 : n ≤ 1048576 := by omega
  have HE := Lib.hid hE
  clear hE
  go_enter Tryz.func5, Tryz.ntmps5
  go_wp2_with fail
  refine (drawDeskLine_any A n c w hnc hn2 h).mono ?_
  rintro e w1 ⟨A2, n2, c2, A3, m2, c3, d, l, rfl, hdk, hds, hdl, hl, hb1⟩
  obtain ⟨w2, hw2⟩ : ∃ w2, w2 = w1.alloc (.cells #[.slice A2 n2 c2, .slice A3 m2 c3] 26) := ⟨_, rfl⟩
  have HB2 : Hid (Below w1.heap.size w1 w2) := by rw [hw2]; exact below_alloc _ _
  have HK2 : Hid (KAt w2 w1.heap.size (.slice A2 n2 c2) (.slice A3 m2 c3)) := by rw [hw2]; exact KAt.new w1 _ _ _
  have HV2 : Hid (DkV w2 0 A2 n2 c2 A3 m2 d) := (hdk.mono (Nat.zero_le _)).below HB2.out
  have HW2 : Hid (Below w.heap.size w w2) := hb1.trans (HB2.out.mono hb1.size)
  have hlv : dkB d = true → LvOk d.now := fun hk => (hdl hk).lvok (by omega) (by omega)
  have HL2 : Hid (∀ q w', q.length ≤ 1048576 → DkV w' 0 A2 n2 c2 A3 m2 d → EnvX w' → Calls Tryz.prog 20 #[.agg #[.slice A2 n2 c2, .slice A3 m2 c3], .string (bs q)] w' (RetKT w' (lineF d q))) := fun q w' hq h he => iDeskLine A2 A3 n2 c2 m2 c3 d q w' h hds hlv hq he
  have HS : Hid (∀ w', DkV w' 0 A2 n2 c2 A3 m2 d → Calls Tryz.prog 21 #[.agg #[.slice A2 n2 c2, .slice A3 m2 c3], .string (bs l)] w' (RetKT w' (lineF d l))) := fun w' h => sDeskLine A2 A3 n2 c2 m2 c3 d l w' h hds hlv hl
  have HOK : Hid (∀ w', DkV w' 0 A2 n2 c2 A3 m2 d → Calls Tryz.prog 17 #[.agg #[.slice A2 n2 c2, .slice A3 m2 c3]] w' fun e w'' => e = .returned (.bool (dkB d)) ∧ Below w'.heap.size w' w'') := fun w' h => sDeskOk A2 A3 n2 c2 m2 c3 d w' h hds
  have HOKB : Hid (dkB d = true → dkB (lineF d l).1 = true) := fun h => lineF_ok h (hdl h)
  have HSAME : Hid (dkB d = true → ((lineF d l).2 == [111, 107]) = false → (lineF d l).1 = d) := fun h => lineF_same h
  have HBAD : Hid (dkB d = false → lineF d l = (dk0, [])) := lineF_bad l
  obtain ⟨⟨x, t⟩, hr⟩ : ∃ r, lineF d l = r := ⟨_, rfl⟩
  rw [hr] at HS HOKB HSAME HBAD
  have HI : Hid (∀ w', DkV w' 0 A2 n2 c2 A3 m2 d → EnvX w' → Calls Tryz.prog 20 #[.agg #[.slice A2 n2 c2, .slice A3 m2 c3], .string (bs l)] w' (RetKT w' (x, t))) := fun w' h he => by rw [← hr]; exact HL2.out l w' hl h he
  have HZX : Hid (DkS x) := by
    cases hb : dkB d
    · have := HBAD.out hb; injection this with e1 _; rw [e1]; exact DkS.zero
    · exact DkS.ok (HOKB.out hb)
  have HFX : Hid (DkF x) := by
    cases hb : dkB d
    · have := HBAD.out hb; injection this with e1 _; rw [e1]; exact DkF.zero
    · exact DkF.of (HOKB.out hb)
  have htt := bs_toList t
  obtain ⟨k0, k1, l0, l1, l2⟩ := HK2.out
  clear hdk hb1 h hr hdl hlv
  go_wp2_with fail
  rw [← hw2]
  clear hw2
  refine (HI.out _ HV2.out (HE.out.kp (Kp.below HW2.out))).mono ?_
  rintro e w3 ⟨A4, n4, c4, A5, m5, c5, rfl, hx3, hb3⟩
  have HX3 : Hid (DkV w3 0 A4 n4 c4 A5 m5 x) := hx3.mono (Nat.zero_le _)
  have HV3 := Lib.hid (HV2.out.below hb3)
  have HW3 : Hid (Below w.heap.size w w3) := HW2.out.trans (hb3.mono HW2.out.size)
  have HK3 := Lib.hid (HK2.out.below hb3 HK2.out.lt)
  obtain ⟨w4, hw4⟩ : ∃ w4, w4 = w3.alloc (.cells #[.slice A4 n4 c4, .slice A5 m5 c5] 26) := ⟨_, rfl⟩
  have HB4 : Hid (Below w3.heap.size w3 w4) := by rw [hw4]; exact below_alloc _ _
  have HXB4 : Hid (KAt w4 w3.heap.size (.slice A4 n4 c4) (.slice A5 m5 c5)) := by rw [hw4]; exact KAt.new w3 _ _ _
  have HX4 := Lib.hid (HX3.out.below HB4.out)
  have HV4 := Lib.hid (HV3.out.below HB4.out)
  have HK4 := Lib.hid (HK3.out.below HB4.out HK3.out.lt)
  have HW4 : Hid (Below w.heap.size w w4) := HW3.out.trans (HB4.out.mono HW3.out.size)
  clear hx3 hb3 k0 k1 l0 l1 l2
  obtain ⟨k0, k1, l0, l1, l2⟩ := HK3.out
  go_wp2_with fail
  rw [← hw4]
  clear hw4
  refine (HS.out _ HV4.out).mono ?_
  rintro e w5 ⟨A6, n6, c6, A7, m7, c7, rfl, hy5, hb5⟩
  have HY5 : Hid (DkV w5 0 A6 n6 c6 A7 m7 x) := hy5.mono (Nat.zero_le _)
  have HX5 := Lib.hid (HX4.out.below hb5)
  have HV5 := Lib.hid (HV4.out.below hb5)
  have HK5 := Lib.hid (HK4.out.below hb5 HK4.out.lt)
  have HXB5 := Lib.hid (HXB4.out.below hb5 HXB4.out.lt)
  have HW5 : Hid (Below w.heap.size w w5) := HW4.out.trans (hb5.mono HW4.out.size)
  obtain ⟨w6, hw6⟩ : ∃ w6, w6 = w5.alloc (.cells #[.slice A6 n6 c6, .slice A7 m7 c7] 26) := ⟨_, rfl⟩
  have HB6 : Hid (Below w5.heap.size w5 w6) := by rw [hw6]; exact below_alloc _ _
  have HX6 := Lib.hid (HX5.out.below HB6.out)
  have HY6 := Lib.hid (HY5.out.below HB6.out)
  have HV6 := Lib.hid (HV5.out.below HB6.out)
  have HK6 := Lib.hid (HK5.out.below HB6.out HK5.out.lt)
  have HXB6 := Lib.hid (HXB5.out.below HB6.out HXB5.out.lt)
  have HW6 : Hid (Below w.heap.size w w6) := HW5.out.trans (HB6.out.mono HW5.out.size)
  clear hy5 hb5 k0 k1 l0 l1 l2
  obtain ⟨x0, x1, y0, y1, y2⟩ := HXB5.out
  go_wp2_with fail
  rw [← hw6]
  clear hw6 x0 x1 y0 y1 y2
  refine (sameDesk_true A4 A5 A6 A7 n4 c4 m5 c5 n6 c6 m7 c7 x w6 HX6.out HY6.out HZX.out HFX.out).mono ?_
  rintro e w7 ⟨rfl, hb7⟩
  have HX7 := Lib.hid (HX6.out.below hb7)
  have HV7 := Lib.hid (HV6.out.below hb7)
  have HK7 := Lib.hid (HK6.out.below hb7 HK6.out.lt)
  have HXB7 := Lib.hid (HXB6.out.below hb7 HXB6.out.lt)
  have HW7 : Hid (Below w.heap.size w w7) := HW6.out.trans (hb7.mono HW6.out.size)
  clear hb7
  obtain ⟨x0, x1, y0, y1, y2⟩ := HXB7.out
  obtain ⟨k0, k1, l0, l1, l2⟩ := HK7.out
  go_wp2_with fail
  refine (HOK.out _ HV7.out).mono ?_
  rintro e w8 ⟨rfl, hb8⟩
  have HX8 := Lib.hid (HX7.out.below hb8)
  have HV8 := Lib.hid (HV7.out.below hb8)
  have HK8 := Lib.hid (HK7.out.below hb8 HK7.out.lt)
  have HXB8 := Lib.hid (HXB7.out.below hb8 HXB7.out.lt)
  have HW8 : Hid (Below w.heap.size w w8) := HW7.out.trans (hb8.mono HW7.out.size)
  clear hb8 x0 x1 y0 y1 y2 k0 k1 l0 l1 l2
  obtain ⟨x0, x1, y0, y1, y2⟩ := HXB8.out
  obtain ⟨k0, k1, l0, l1, l2⟩ := HK8.out
  cases hb : dkB d
  · have e := HBAD.out hb
    injection e with e1 e2
    have ht0 : (t == []) = true := by rw [e2]; rfl
    have HND : Hid (∀ w, DkV w 0 A4 n4 c4 A5 m5 x → Calls Tryz.prog 18 #[.agg #[.slice A4 n4 c4, .slice A5 m5 c5]] w fun e w' => e = .returned (.bool true) ∧ Below w.heap.size w w') := fun w h => by rw [e1] at h; exact noDesk_true A4 A5 n4 c4 m5 c5 w h
    clear hb e1 e2
    go_wp2_with fail
    refine (HND.out _ HX8.out).mono ?_
    rintro e w9 ⟨rfl, hb9⟩
    have HW9 : Hid (Below w.heap.size w w9) := HW8.out.trans (hb9.mono HW8.out.size)
    clear hb9
    go_wp2_with fail
    refine (alive_true _).mono ?_
    rintro e w10 ⟨rfl, rfl⟩
    go_wp2_with fail
    go_ret
    exact ⟨rfl, HW9.out⟩
  · have HZD := Lib.hid (DkS.ok hb)
    have HFD := Lib.hid (DkF.of hb)
    have hox := HOKB.out hb
    have HOX : Hid (∀ w', DkV w' 0 A4 n4 c4 A5 m5 x → Calls Tryz.prog 12 #[.agg #[.slice A4 n4 c4, .slice A5 m5 c5]] w' fun e w'' => e = .returned (.bool true) ∧ Below w'.heap.size w' w'') := fun w' h => by rw [← hox]; exact iDeskOk A4 A5 n4 c4 m5 c5 x w' h HZX.out
    have HSP : Hid (Calls Tryz.prog 20 #[.agg #[.slice A2 n2 c2, .slice A3 m2 c3], .string ⟨#[32]⟩] w8 (RetKT w8 (d, tWhat))) := by
      have h := HL2.out [32] w8 (by decide) HV8.out (HE.out.kp (Kp.below HW8.out))
      rw [lineF_space hb] at h
      exact h
    have HSM := Lib.hid (HSAME.out hb)
    clear hb hox
    go_wp2_with fail
    refine HSP.out.mono ?_
    rintro e w9 ⟨A8, n8, c8, A9, m9, c9, rfl, hz9, hb9⟩
    have HZ9 : Hid (DkV w9 0 A8 n8 c8 A9 m9 d) := hz9.mono (Nat.zero_le _)
    obtain ⟨wa, hwa⟩ : ∃ wa, wa = w9.alloc (.cells #[.slice A8 n8 c8, .slice A9 m9 c9] 26) := ⟨_, rfl⟩
    have HBA : Hid (Below w8.heap.size w8 wa) := by rw [hwa]; exact hb9.trans ((below_alloc _ _).mono hb9.size)
    have HZBA : Hid (KAt wa w9.heap.size (.slice A8 n8 c8) (.slice A9 m9 c9)) := by rw [hwa]; exact KAt.new w9 _ _ _
    have HZA : Hid (DkV wa 0 A8 n8 c8 A9 m9 d) := by rw [hwa]; exact HZ9.out.below (below_alloc _ _)
    have HXA := Lib.hid (HX8.out.below HBA.out)
    have HVA := Lib.hid (HV8.out.below HBA.out)
    have HKA := Lib.hid (HK8.out.below HBA.out HK8.out.lt)
    have HXBA := Lib.hid (HXB8.out.below HBA.out HXB8.out.lt)
    have HWA : Hid (Below w.heap.size w wa) := HW8.out.trans (HBA.out.mono HW8.out.size)
    clear x0 x1 y0 y1 y2 k0 k1 l0 l1 l2
    obtain ⟨x0, x1, y0, y1, y2⟩ := HXB8.out.below hb9 HXB8.out.lt
    clear hz9 hb9
    unfold tWhat
    go_wp2_with fail
    rw [← hwa]
    clear hwa x0 x1 y0 y1 y2
    refine (HOX.out _ HXA.out).mono ?_
    rintro e wb ⟨rfl, hbb⟩
    have HWB : Hid (Below w.heap.size w wb) := HWA.out.trans (hbb.mono HWA.out.size)
    have HZB := Lib.hid (HZA.out.below hbb)
    have HXB := Lib.hid (HXA.out.below hbb)
    have HVB := Lib.hid (HVA.out.below hbb)
    have HKB := Lib.hid (HKA.out.below hbb HKA.out.lt)
    have HXBB := Lib.hid (HXBA.out.below hbb HXBA.out.lt)
    have HZBB := Lib.hid (HZBA.out.below hbb HZBA.out.lt)
    clear hbb
    obtain ⟨x0, x1, y0, y1, y2⟩ := HXBB.out
    obtain ⟨k0, k1, l0, l1, l2⟩ := HKB.out
    obtain ⟨z0, z1, v0, v1, v2⟩ := HZBB.out
    have htw := bs_toList [119, 104, 97, 116]
    have HSDZ : Hid (∀ w', DkV w' 0 A8 n8 c8 A9 m9 d → DkV w' 0 A2 n2 c2 A3 m2 d → Calls Tryz.prog 11 #[.agg #[.slice A8 n8 c8, .slice A9 m9 c9], .agg #[.slice A2 n2 c2, .slice A3 m2 c3]] w' fun e w'' => e = .returned (.bool true) ∧ Below w'.heap.size w' w'') := fun w' h1 h2 => sameDesk_true A8 A9 A2 A3 n8 c8 m9 c9 n2 c2 m2 c3 d w' h1 h2 HZD.out HFD.out
    cases hok : t == [111, 107]
    · have hxd := HSM.out hok
      have HSD : Hid (Calls Tryz.prog 11 #[.agg #[.slice A4 n4 c4, .slice A5 m5 c5], .agg #[.slice A2 n2 c2, .slice A3 m2 c3]] wb fun e w'' => e = .returned (.bool true) ∧ Below wb.heap.size wb w'') := by
        refine sameDesk_true A4 A5 A2 A3 n4 c4 m5 c5 n2 c2 m2 c3 d wb ?_ HVB.out HZD.out HFD.out
        have h := HXB.out
        rw [show x = d from hxd] at h
        exact h
      clear hxd
      go_wp2_with fail
      refine HSD.out.mono ?_
      rintro e wc ⟨rfl, hbc⟩
      have HWC : Hid (Below w.heap.size w wc) := HWB.out.trans (hbc.mono HWB.out.size)
      have HZC := Lib.hid (HZB.out.below hbc)
      have HVC := Lib.hid (HVB.out.below hbc)
      have HKC := Lib.hid (HKB.out.below hbc HKB.out.lt)
      have HZBC := Lib.hid (HZBB.out.below hbc HZBB.out.lt)
      clear hbc x0 x1 y0 y1 y2 k0 k1 l0 l1 l2 z0 z1 v0 v1 v2
      obtain ⟨k0, k1, l0, l1, l2⟩ := HKC.out
      obtain ⟨z0, z1, v0, v1, v2⟩ := HZBC.out
      go_wp2_with fail
      refine (HSDZ.out _ HZC.out HVC.out).mono ?_
      rintro e we ⟨rfl, hbe⟩
      have HWE : Hid (Below w.heap.size w we) := HWC.out.trans (hbe.mono HWC.out.size)
      clear hbe
      go_wp2_with fail
      go_ret
      exact ⟨rfl, HWE.out⟩
    · go_wp2_with fail
      refine (HSDZ.out _ HZB.out HVB.out).mono ?_
      rintro e we ⟨rfl, hbe⟩
      have HWE : Hid (Below w.heap.size w we) := HWB.out.trans (hbe.mono HWB.out.size)
      clear hbe
      go_wp2_with fail
      go_ret
      exact ⟨rfl, HWE.out⟩
end Go.Proofs.YtnomlkkhkacajaaGreatDoor
