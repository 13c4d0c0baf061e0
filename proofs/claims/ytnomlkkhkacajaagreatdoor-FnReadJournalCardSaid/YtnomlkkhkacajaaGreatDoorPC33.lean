/- Texts on the way to a law (H19), each with its own remark. -/
import Derived.Test.YtnomlkkhkacajaaGreatDoorPC32
import Derived.Test.YtnomlkkhkacajaaGreatDoorPC19
import Derived.Deep.RegionHeld3
namespace Go.Proofs.YtnomlkkhkacajaaGreatDoor
open Go.RowKit
open Go.Lib hiding intOf

set_option maxHeartbeats 4000000 in
set_option maxRecDepth 100000 in
theorem sDeskLine (A A' : Option Addr) (n c m c' : Nat) (d : Dk) (l : Txt) (w : World) (hd : DkV w 0 A n c A' m d) (hz : DkS d) (hg : dkB d = true → LvOk d.now) (hl : l.length ≤ 1048576) :
    Calls Tryz.prog 21 #[.agg #[.slice A n c, .slice A' m c'], .string (bs l)] w (RetKT w (lineF d l)) := by
  have hto := bs_toList l
  obtain ⟨w0, hw0⟩ : ∃ w0, w0 = (w.alloc (.cells #[.slice A n c, .slice A' m c'] 26)).alloc (.cells #[.slice none 0 0, .slice none 0 0] 26) := ⟨_, rfl⟩
  have HB0 : Hid (Below w.heap.size w w0) := by rw [hw0]; exact below2 _ _ _
  have HK0 : Hid (KAt w0 w.heap.size (.slice A n c) (.slice A' m c')) := by rw [hw0]; exact (KAt.new w _ _ _).below (below_alloc _ _) (by rw [size_alloc]; omega)
  have HR0 : Hid (KAt w0 (w.heap.size + 1) (.slice none 0 0) (.slice none 0 0)) := by
    have h := KAt.new (w.alloc (.cells #[.slice A n c, .slice A' m c'] 26)) (.slice none 0 0) (.slice none 0 0) 26
    rw [size_alloc] at h
    rw [hw0]; exact h
  have HV0 : Hid (DkV w0 0 A n c A' m d) := hd.below HB0.out
  have HOK : Hid (∀ w, DkV w 0 A n c A' m d → Calls Tryz.prog 17 #[.agg #[.slice A n c, .slice A' m c']] w fun e w' => e = .returned (.bool (dkB d)) ∧ Below w.heap.size w w') := fun w h => sDeskOk A A' n c m c' d w h hz
  obtain ⟨k0, k1, l0, l1, l2⟩ := HK0.out
  cases hb : dkB d
  · have HF := Lib.hid (lineF_bad l hb)
    rw [hb] at HOK
    clear hb hd hz hg
    go_enter Tryz.func21, Tryz.ntmps21
    go_wp2_with fail
    rw [← hw0]
    clear hw0
    refine (HOK.out _ HV0.out).mono ?_
    rintro e w1 ⟨rfl, hb1⟩
    have HB1 : Hid (Below w.heap.size w w1) := HB0.out.trans (hb1.mono HB0.out.size)
    obtain ⟨r0, r1, s0, s1, s2⟩ := HR0.out.below hb1 HR0.out.lt
    clear hb1 k0 k1 l0 l1 l2
    go_wp2_with fail
    refine bodyPost_ret (v := .tuple #[.agg #[.slice none 0 0, .slice none 0 0], .string (bs [])]) (by simp [results, Tryz.results21, go_sem, r0, r1]; rfl) rfl ?_
    rw [HF.out]
    exact ⟨_, _, _, _, _, _, rfl, DkV.zero _ _, (HB1.out.setCell (p := ⟨w.heap.size + 1, 0, none⟩) (by show w.heap.size ≤ w.heap.size + 1; omega) _).setCell (p := ⟨w.heap.size + 1, 1, none⟩) (by show w.heap.size ≤ w.heap.size + 1; omega) _⟩
  have hgd := hg hb
  have HG := Lib.hid hgd.good
  have HPR := Lib.hid (hgd.prod (-1))
  have HNL := Lib.hid hd.now.len
  have HML := Lib.hid hd.past.len
  have hn17 : n ≤ 17 := by have := hd.now.len; have := hz.now; omega
  have hm9 : m ≤ 9 := by have := hd.past.len; have := hz.len; omega
  have HDO : Hid (∀ (a : Dd) w', DkV w' 0 A n c A' m d → a.text.length ≤ 1048576 → Calls Tryz.prog 10 #[.agg #[.slice A n c, .slice A' m c'], .agg #[.int .i64 a.kind, .int .i64 a.num, .string (bs a.text)]] w' (RetKB w' (doF d a))) := fun a w' h ht => sDeskDo A A' n c m c' d a w' h hz (fun _ => hgd) (by omega)
  have HCP : Hid (∀ w, DkV w 0 A n c A' m d → Calls Tryz.prog 39 #[.agg #[.slice A n c, .slice A' m c']] w (RetK w d)) := fun w h => sCopy A A' n c m c' d w h hz
  have HRD := Lib.hid (fun w' => sReadDeed l (by omega) w')
  have hbb := Lib.hid hb
  rw [hb] at HOK
  clear hb hd hz hg hgd
  go_enter Tryz.func21, Tryz.ntmps21
  go_wp2_with fail
  rw [← hw0]
  clear hw0
  refine (HOK.out _ HV0.out).mono ?_
  rintro e w1 ⟨rfl, hb1⟩
  have HB1 : Hid (Below w.heap.size w w1) := HB0.out.trans (hb1.mono HB0.out.size)
  have HK1 := Lib.hid (HK0.out.below hb1 HK0.out.lt)
  have HR1 := Lib.hid (HR0.out.below hb1 HR0.out.lt)
  have HV1 := Lib.hid (HV0.out.below hb1)
  clear k0 k1 l0 l1 l2 hb1
  obtain ⟨k0, k1, l0, l1, l2⟩ := HK1.out
  go_wp2_with fail
  refine (HCP.out _ HV1.out).mono ?_
  rintro e w2 ⟨A2, n2, c2, A3, m3, c3, rfl, hs2, hp2, hb2, _⟩
  have hs1 : w.heap.size + 1 < w1.heap.size := HR1.out.lt
  have hs12 : w1.heap.size ≤ w2.heap.size := hb2.size
  have HB2 : Hid (Below w.heap.size w w2) := HB1.out.trans (hb2.mono HB1.out.size)
  obtain ⟨w3, hw3⟩ : ∃ w3, w3 = w2.alloc (.cells #[.slice A2 n2 c2, .slice A3 m3 c3] 26) := ⟨_, rfl⟩
  have HB3 : Hid (Below w2.heap.size w2 w3) := by rw [hw3]; exact below_alloc _ _
  have HI3 : Hid (LnI w w2.heap.size w3 A n c A' m c' A2 n2 c2 A3 m3 c3 d) := by
    have h1 : KAt w3 w2.heap.size (.slice A2 n2 c2) (.slice A3 m3 c3) := by rw [hw3]; exact KAt.new w2 _ _ _
    have h2 : DkV w2 w1.heap.size A2 n2 c2 A3 m3 d := ⟨hs2, hp2.ps⟩
    exact ⟨(HK1.out.below hb2 HK1.out.lt).below HB3.out (by omega), (HV1.out.below hb2).below HB3.out, ⟨h1, (HR1.out.below hb2 HR1.out.lt).below HB3.out (by omega), ((h2.dkx (X := fun b => b = w2.heap.size ∨ b = w.heap.size + 1) fun b g1 g2 hx => by rcases hx with hx | hx <;> omega).kx (Kx.of HB3.out)).mono HB1.out.size, HB2.out.trans (HB3.out.mono HB2.out.size), by omega⟩⟩
  clear k0 k1 l0 l1 l2 hs2 hp2 hb2
  obtain ⟨gb, hgb⟩ : ∃ gb, gb = w2.heap.size := ⟨_, rfl⟩
  go_wp2_with fail
  rw [← hw3, ← hgb]
  rw [← hgb] at HI3
  clear hw3 hgb HB3 hs1 hs12 HB2 HR1 HK1 HV1 HB1 HR0 HV0 HK0 HB0
  refine (HRD.out w3).mono ?_
  rintro e w4 ⟨rfl, hb4⟩
  have HI4 := Lib.hid (HI3.out.step hb4)
  clear hb4
  have hgt := HI4.out.run.gt
  have hne1 : ¬ w.heap.size = w.heap.size + 1 := by omega
  have hne2 : ¬ w.heap.size + 1 = w.heap.size := by omega
  have hne3 : ¬ gb = w.heap.size + 1 := by omega
  have hne4 : ¬ w.heap.size + 1 = gb := by omega
  have hne5 : ¬ gb = w.heap.size := by omega
  have hne6 : ¬ w.heap.size = gb := by omega
  cases hrd : readDd l with
  | some a =>
    have HF := Lib.hid (lineF_do hbb.out hrd)
    have htx : a.text.length ≤ 1048576 := by have := dText_text hrd; omega
    clear hrd
    unfold od dv
    simp only [Option.getD_some, Option.isSome_some]
    obtain ⟨wb, hwb⟩ : ∃ wb, wb = w4.alloc (.cells #[.int .i64 a.kind, .int .i64 a.num, .string (bs a.text)] 28) := ⟨_, rfl⟩
    have HI : Hid (LnI w gb wb A n c A' m c' A2 n2 c2 A3 m3 c3 d) := by rw [hwb]; exact HI4.out.step (below_alloc _ _)
    obtain ⟨k0, k1, l0, l1, l2⟩ := HI4.out.old
    go_wp2_with fail
    rw [← hwb]
    clear hwb k0 k1 l0 l1 l2
    refine (HDO.out a wb HI.out.src htx).mono ?_
    rintro e w5 ⟨A6, n6, c6, A7, m7, c7, rfl, hs5, hp5, _, hb5⟩
    have HN5 : Hid (DkV w5 wb.heap.size A6 n6 c6 A7 m7 (doF d a).1) := ⟨hs5, hp5⟩
    have HI5 := Lib.hid (HI.out.step hb5)
    have hge : w.heap.size ≤ wb.heap.size := HI.out.run.below.size
    have hrl : w.heap.size + 1 < wb.heap.size := HI.out.run.res.lt
    clear hs5 hp5 hb5
    have HPK : Hid (Pk (w.heap.size + 1) w5 ((w5.setCell ⟨w.heap.size + 1, 0, none⟩ (.slice A6 n6 c6)).setCell ⟨w.heap.size + 1, 1, none⟩ (.slice A7 m7 c7))) := ((Pk.refl _ _).setCell 0 _).setCell 1 _
    have HFV : Hid (∀ t o, RetKT w ((doF d a).1, t) (.returned (.tuple #[.agg #[.slice A6 n6 c6, .slice A7 m7 c7], .string (bs t)])) (((w5.setCell ⟨w.heap.size + 1, 0, none⟩ (.slice A6 n6 c6)).setCell ⟨w.heap.size + 1, 1, none⟩ (.slice A7 m7 c7)).alloc o)) := fun t o =>
      ⟨_, _, _, _, _, _, rfl, ((HN5.out.pk HPK.out hrl).below (below_alloc _ _)).mono hge, ((HI5.out.run.below.setCell (p := ⟨w.heap.size + 1, 0, none⟩) (by show w.heap.size ≤ w.heap.size + 1; omega) _).setCell (p := ⟨w.heap.size + 1, 1, none⟩) (by show w.heap.size ≤ w.heap.size + 1; omega) _).trans ((below_alloc _ _).mono (by rw [size_set, size_set]; exact HI5.out.run.below.size))⟩
    have HZ := Lib.hid (((HI5.out.run.res.set0 (.slice A6 n6 c6)).set1 (.slice A7 m7 c7)).below (below_alloc _ (.cells #[.slice A6 n6 c6, .slice A7 m7 c7] 26)) ((HI5.out.run.res.set0 (.slice A6 n6 c6)).set1 (.slice A7 m7 c7)).lt)
    obtain ⟨r0, r1, s0, s1, s2⟩ := HI5.out.run.res
    have hn8 : ¬ w.heap.size + 1 = w5.heap.size := by omega
    have hn9 : ¬ w5.heap.size = w.heap.size + 1 := by omega
    cases hok : (doF d a).2
    · have HT : Hid (lineF d l = ((doF d a).1, tNo)) := by show _ = _; rw [HF.out, hok]; rfl
      clear hok
      go_wp2_with fail
      obtain ⟨z0, z1, _, _, _⟩ := HZ.out
      refine bodyPost_ret (v := .tuple #[.agg #[.slice A6 n6 c6, .slice A7 m7 c7], .string (bs tNo)]) (by simp [results, Tryz.results21, go_sem, z0, z1]; rfl) rfl ?_
      rw [HT.out]
      exact HFV.out _ _
    · have HT : Hid (lineF d l = ((doF d a).1, tOk)) := by show _ = _; rw [HF.out, hok]; rfl
      clear hok
      go_wp2_with fail
      obtain ⟨z0, z1, _, _, _⟩ := HZ.out
      refine bodyPost_ret (v := .tuple #[.agg #[.slice A6 n6 c6, .slice A7 m7 c7], .string (bs tOk)]) (by simp [results, Tryz.results21, go_sem, z0, z1]; rfl) rfl ?_
      rw [HT.out]
      exact HFV.out _ _
  | none =>
    have HF := Lib.hid (lineF_ask hbb.out hrd)
    clear hrd
    unfold od dv
    simp only [Option.getD_none, Option.isSome_none]
    obtain ⟨wb, hwb⟩ : ∃ wb, wb = w4.alloc (.cells #[.int .i64 0, .int .i64 0, .string (bs [])] 28) := ⟨_, rfl⟩
    have HI : Hid (LnI w gb wb A n c A' m c' A2 n2 c2 A3 m3 c3 d) := by rw [hwb]; exact HI4.out.step (below_alloc _ _)
    have HFS := Lib.hid (HI.out.step (Below.refl _ wb).drew).fin
    obtain ⟨k0, k1, l0, l1, l2⟩ := HI.out.old
    obtain ⟨g0, g1, q0, q1, q2⟩ := HI.out.run.at_
    obtain ⟨r0, r1, s0, s1, s2⟩ := HI.out.run.res
    obtain ⟨y0, y1, y2, y3, y4⟩ := HI4.out.old
    rcases line_cases l with h1 | ⟨h1, h2, h3, h4⟩ | ⟨h1, h2, h3, h4⟩ | ⟨h1, h2, h3, h4⟩ | ⟨h1, h2, h3, h4⟩
    · -- points
      have HA := Lib.hid (ansF_points (d := d) h1)
      have HNU : Hid (∀ w', Calls Tryz.prog 52 #[.int .i64 n] w' fun e w'' => e = .returned (.string (bs (itoa (d.now.length : Int)))) ∧ Below w'.heap.size w' w'') := fun w' => by rw [HNL.out]; exact sNumber n (by omega) (by omega) w'
      obtain ⟨t, ht⟩ : ∃ t, t = itoa (d.now.length : Int) := ⟨_, rfl⟩
      rw [← ht] at HNU HA
      clear ht
      go_upto_region 12 with fail
      rw [← hwb]
      clear hwb
      go_region_held3 (fun w' => w'.cell? ⟨gb, 0, none⟩ = some (.slice A2 n2 c2) ∧ w'.cell? ⟨gb, 1, none⟩ = some (.slice A3 m3 c3) ∧ w'.cell? ⟨w.heap.size, 0, none⟩ = some (.slice A n c))
        (first | exact ⟨g8, g9, k8⟩ | exact ⟨g4, g5, k4⟩ | exact ⟨g0, g1, k0⟩ | go_keep)
        ((first
          | (go_at_call 52; first
              | ((with_reducible refine Calls.mono (HNU.out wb.drew) ?_); rintro e w5 ⟨rfl, hb5⟩; have HI5 := Lib.hid (HI.out.step (below_d hb5)); clear hb5; have HFIN := Lib.hid HI5.out.fin; obtain ⟨k4, k5, _, _, _⟩ := HI5.out.old; obtain ⟨g4, g5, _, _, _⟩ := HI5.out.run.at_; obtain ⟨r6, r7, s6, s7, s8⟩ := HI5.out.run.res)
              | ((with_reducible refine Calls.mono (HNU.out _) ?_); rintro e w5 ⟨rfl, hb5⟩; have HFIN := Lib.hid (HFS.out.step hb5); clear hb5; obtain ⟨k4, k5, _, _, _⟩ := HFIN.out.old; obtain ⟨g4, g5, _, _, _⟩ := HFIN.out.at_; obtain ⟨r6, r7, s6, s7, s8⟩ := HFIN.out.res))))
      all_goals
        go_wp2_with fail
        obtain ⟨z0, z1, _, _, _⟩ := HFIN.out.res
        refine bodyPost_ret (v := .tuple #[.agg #[.slice A2 n2 c2, .slice A3 m3 c3], .string (bs t)]) (by simp [results, Tryz.results21, go_sem, z0, z1]) rfl ?_
        rw [HF.out, HA.out]
        exact HFIN.out.ret _
    · -- past
      have HA := Lib.hid (ansF_past (d := d) h1 h2)
      have HNU : Hid (∀ w', Calls Tryz.prog 52 #[.int .i64 m] w' fun e w'' => e = .returned (.string (bs (itoa (d.past.length : Int)))) ∧ Below w'.heap.size w' w'') := fun w' => by rw [HML.out]; exact sNumber m (by omega) (by omega) w'
      obtain ⟨t, ht⟩ : ∃ t, t = itoa (d.past.length : Int) := ⟨_, rfl⟩
      rw [← ht] at HNU HA
      clear ht
      go_upto_region 20 with fail
      rw [← hwb]
      clear hwb
      go_region_held3 (fun w' => w'.cell? ⟨gb, 0, none⟩ = some (.slice A2 n2 c2) ∧ w'.cell? ⟨gb, 1, none⟩ = some (.slice A3 m3 c3) ∧ w'.cell? ⟨w.heap.size, 1, none⟩ = some (.slice A' m c'))
        (first | exact ⟨g8, g9, k9⟩ | exact ⟨g4, g5, k5⟩ | exact ⟨g0, g1, k1⟩ | go_keep)
        ((first
          | (go_at_call 52; first
              | ((with_reducible refine Calls.mono (HNU.out wb.drew) ?_); rintro e w5 ⟨rfl, hb5⟩; have HI5 := Lib.hid (HI.out.step (below_d hb5)); clear hb5; have HFIN := Lib.hid HI5.out.fin; obtain ⟨k4, k5, _, _, _⟩ := HI5.out.old; obtain ⟨g4, g5, _, _, _⟩ := HI5.out.run.at_; obtain ⟨r6, r7, s6, s7, s8⟩ := HI5.out.run.res)
              | ((with_reducible refine Calls.mono (HNU.out _) ?_); rintro e w5 ⟨rfl, hb5⟩; have HFIN := Lib.hid (HFS.out.step hb5); clear hb5; obtain ⟨k4, k5, _, _, _⟩ := HFIN.out.old; obtain ⟨g4, g5, _, _, _⟩ := HFIN.out.at_; obtain ⟨r6, r7, s6, s7, s8⟩ := HFIN.out.res))))
      all_goals
        go_wp2_with fail
        obtain ⟨z0, z1, _, _, _⟩ := HFIN.out.res
        refine bodyPost_ret (v := .tuple #[.agg #[.slice A2 n2 c2, .slice A3 m3 c3], .string (bs t)]) (by simp [results, Tryz.results21, go_sem, z0, z1]) rfl ?_
        rw [HF.out, HA.out]
        exact HFIN.out.ret _
    · -- signal
      have HA := Lib.hid (ansF_signal (d := d) h1 h2 h3)
      have HST : Hid (Calls Tryz.prog 53 #[.slice A n c] wb (RetX wb (sigT d.now))) := sSignalText A n c d.now wb (by omega) HI.out.src.now.cs
      obtain ⟨o, ho⟩ : ∃ o, o = sigT d.now := ⟨_, rfl⟩
      rw [← ho] at HST HA
      clear ho
      have HOR : Hid (∀ w', Calls Tryz.prog 54 #[.string (bs (o.getD [])), .bool o.isSome] w' fun e w'' => e = .returned (.string (bs (orN o))) ∧ Below w'.heap.size w' w'') := fun w' => by
        rw [show (orN o) = (if o.isSome = true then (o.getD []) else tNone) from orN_if.symm]
        exact (sOr_any _ _ w').mono fun e w'' h => ⟨h.1, h.2 ▸ Below.refl _ _⟩
      obtain ⟨t, ht⟩ : ∃ t, t = orN o := ⟨_, rfl⟩
      rw [← ht] at HOR HA
      clear ht
      go_wp2_with fail
      rw [← hwb]
      clear hwb
      refine HST.out.mono ?_
      rintro e w6 ⟨rfl, hb6⟩
      have HJ := Lib.hid (HI.out.step hb6)
      have HJS := Lib.hid (HJ.out.step (Below.refl _ w6).drew).fin
      clear hb6 HI HFS
      try clear y0 y1 y2 y3 y4
      clear k0 k1 l0 l1 l2 g0 g1 q0 q1 q2 r0 r1 s0 s1 s2
      obtain ⟨k0, k1, l0, l1, l2⟩ := HJ.out.old
      obtain ⟨g0, g1, q0, q1, q2⟩ := HJ.out.run.at_
      obtain ⟨r0, r1, s0, s1, s2⟩ := HJ.out.run.res
      go_upto_region 15 with fail
      go_region_held3 (fun w' => w'.cell? ⟨gb, 0, none⟩ = some (.slice A2 n2 c2) ∧ w'.cell? ⟨gb, 1, none⟩ = some (.slice A3 m3 c3))
        (first | exact ⟨g8, g9⟩ | exact ⟨g4, g5⟩ | exact ⟨g0, g1⟩ | go_keep)
        ((first
          | (go_at_call 54; first
              | ((with_reducible refine Calls.mono (HOR.out w6.drew) ?_); rintro e w5 ⟨rfl, hb5⟩; have HI5 := Lib.hid (HJ.out.step (below_d hb5)); clear hb5; have HFIN := Lib.hid HI5.out.fin; obtain ⟨k4, k5, _, _, _⟩ := HI5.out.old; obtain ⟨g4, g5, _, _, _⟩ := HI5.out.run.at_; obtain ⟨r6, r7, s6, s7, s8⟩ := HI5.out.run.res)
              | ((with_reducible refine Calls.mono (HOR.out _) ?_); rintro e w5 ⟨rfl, hb5⟩; have HFIN := Lib.hid (HJS.out.step hb5); clear hb5; obtain ⟨k4, k5, _, _, _⟩ := HFIN.out.old; obtain ⟨g4, g5, _, _, _⟩ := HFIN.out.at_; obtain ⟨r6, r7, s6, s7, s8⟩ := HFIN.out.res))))
      all_goals
        go_wp2_with fail
        obtain ⟨z0, z1, _, _, _⟩ := HFIN.out.res
        refine bodyPost_ret (v := .tuple #[.agg #[.slice A2 n2 c2, .slice A3 m3 c3], .string (bs t)]) (by simp [results, Tryz.results21, go_sem, z0, z1]) rfl ?_
        rw [HF.out, HA.out]
        exact HFIN.out.ret _
    · -- greatest
      have HA := Lib.hid (ansF_greatest (d := d) h1 h2 h3 h4)
      have HGR : Hid (Calls Tryz.prog 55 #[.slice A n c] wb (RetNO wb (greO pwI d.now))) := by
        rw [← greO_same HG.out]
        exact sGreatest A n c d.now wb (by omega) HI.out.src.now.cs HG.out
      obtain ⟨o, ho⟩ : ∃ o, o = greO pwI d.now := ⟨_, rfl⟩
      rw [← ho] at HGR HA
      clear ho
      go_wp2_with fail
      rw [← hwb]
      clear hwb
      refine HGR.out.mono ?_
      rintro e w6 ⟨v, rfl, hv, hv0, hv1, hb6⟩
      have HJ := Lib.hid (HI.out.step hb6)
      have HJS := Lib.hid (HJ.out.step (Below.refl _ w6).drew).fin
      have HQ : Hid (orN (o.map fun (k : Nat) => itoa (k : Int)) = (if o.isSome = true then itoa v else tNone)) := by
        show _ = _
        cases o with
        | none => rfl
        | some k => rw [hv k rfl]; rfl
      clear hb6 HI HFS hv
      try clear y0 y1 y2 y3 y4
      clear k0 k1 l0 l1 l2 g0 g1 q0 q1 q2 r0 r1 s0 s1 s2
      have HOR : Hid (∀ w', Calls Tryz.prog 54 #[.string (bs (itoa v)), .bool o.isSome] w' fun e w'' => e = .returned (.string (bs (orN (o.map fun (k : Nat) => itoa (k : Int))))) ∧ Below w'.heap.size w' w'') := fun w' => by
        rw [show (orN (o.map fun (k : Nat) => itoa (k : Int))) = (if o.isSome = true then (itoa v) else tNone) from HQ.out]
        exact (sOr_any _ _ w').mono fun e w'' h => ⟨h.1, h.2 ▸ Below.refl _ _⟩
      have HNU : Hid (∀ w', Calls Tryz.prog 52 #[.int .i64 v] w' fun e w'' => e = .returned (.string (bs (itoa v))) ∧ Below w'.heap.size w' w'') := fun w' => sNumber v (by omega) (by omega) w'
      obtain ⟨t, ht⟩ : ∃ t, t = orN (o.map fun (k : Nat) => itoa (k : Int)) := ⟨_, rfl⟩
      rw [← ht] at HOR HA
      clear ht HQ
      obtain ⟨k0, k1, l0, l1, l2⟩ := HJ.out.old
      obtain ⟨g0, g1, q0, q1, q2⟩ := HJ.out.run.at_
      obtain ⟨r0, r1, s0, s1, s2⟩ := HJ.out.run.res
      go_upto_region 18 with fail
      go_region_held3 (fun w' => w'.cell? ⟨gb, 0, none⟩ = some (.slice A2 n2 c2) ∧ w'.cell? ⟨gb, 1, none⟩ = some (.slice A3 m3 c3))
        (first | exact ⟨g8, g9⟩ | exact ⟨g4, g5⟩ | exact ⟨g0, g1⟩ | go_keep)
        ((first
          | (go_at_call 52; first
              | ((with_reducible refine Calls.mono (HNU.out w6.drew) ?_); rintro e w5 ⟨rfl, hb5⟩; have HI5 := Lib.hid (HJ.out.step (below_d hb5)); clear hb5; have HFIN := Lib.hid HI5.out.fin; obtain ⟨k4, k5, _, _, _⟩ := HI5.out.old; obtain ⟨g4, g5, _, _, _⟩ := HI5.out.run.at_; obtain ⟨r6, r7, s6, s7, s8⟩ := HI5.out.run.res)
              | ((with_reducible refine Calls.mono (HNU.out _) ?_); rintro e w5 ⟨rfl, hb5⟩; have HFIN := Lib.hid (HJS.out.step hb5); clear hb5; obtain ⟨k4, k5, _, _, _⟩ := HFIN.out.old; obtain ⟨g4, g5, _, _, _⟩ := HFIN.out.at_; obtain ⟨r6, r7, s6, s7, s8⟩ := HFIN.out.res))
          | (go_at_call 54; first
              | ((with_reducible refine Calls.mono (HOR.out w5) ?_); rintro e w7 ⟨rfl, hb7⟩; have HI7 := Lib.hid (HI5.out.step hb7); clear hb7; have HFIN := Lib.hid HI7.out.fin; obtain ⟨k8, k9, _, _, _⟩ := HI7.out.old; obtain ⟨g8, g9, _, _, _⟩ := HI7.out.run.at_; obtain ⟨r8, r9, s9, s10, s11⟩ := HI7.out.run.res)
              | ((with_reducible refine Calls.mono (HOR.out _) ?_); rintro e w7 ⟨rfl, hb7⟩; have HFIN := Lib.hid (HFIN.out.step hb7); clear hb7; obtain ⟨k8, k9, _, _, _⟩ := HFIN.out.old; obtain ⟨g8, g9, _, _, _⟩ := HFIN.out.at_; obtain ⟨r8, r9, s9, s10, s11⟩ := HFIN.out.res))))
      all_goals
        go_wp2_with fail
        obtain ⟨z0, z1, _, _, _⟩ := HFIN.out.res
        refine bodyPost_ret (v := .tuple #[.agg #[.slice A2 n2 c2, .slice A3 m3 c3], .string (bs t)]) (by simp [results, Tryz.results21, go_sem, z0, z1]) rfl ?_
        rw [HF.out, HA.out]
        exact HFIN.out.ret _
    · -- another line
      have HAN : Hid (whole? (cut1 32 l).2.1 0 9999 = none → ansF d l = tWhat) := fun h => ansF_none h1 h2 h3 h4 h
      have HAS : Hid (∀ v, whole? (cut1 32 l).2.1 0 9999 = some v → ansF d l = askF d (cut1 32 l).1 v) := fun v h => ansF_some h1 h2 h3 h4 h
      have HCU : Hid (Calls Tryz.prog 56 #[.string (bs l), .int .u8 32] wb (RetW wb (cutAll 32 l))) := sCut l 32 (by omega) wb
      have HWL := Lib.hid (fun b hb => cutAll_word 32 l b hb)
      have HWN : Hid ((cutAll 32 l).length ≠ 2 → whole? (cut1 32 l).2.1 0 9999 = none) := words_not
      have HWT : Hid (∀ a b, cutAll 32 l = [a, b] → (cut1 32 l).1 = a ∧ (cut1 32 l).2.1 = b) := fun a b h => words_two h
      have HWC := Lib.hid (words_cases l)
      go_wp2_with fail
      rw [← hwb]
      clear hwb
      refine HCU.out.mono ?_
      rintro e w6 ⟨A6, m6, c6, rfl, ho6, hb6⟩
      have HJ := Lib.hid (HI.out.step hb6)
      have hml : m6 = (cutAll 32 l).length := by have := ho6.sl.len; rw [List.length_map] at this; omega
      have HO6 := Lib.hid ho6.sl
      clear hb6 HI HFS ho6 HCU
      try clear y0 y1 y2 y3 y4
      clear k0 k1 l0 l1 l2 g0 g1 q0 q1 q2 r0 r1 s0 s1 s2
      obtain ⟨k0, k1, l0, l1, l2⟩ := HJ.out.old
      obtain ⟨g0, g1, q0, q1, q2⟩ := HJ.out.run.at_
      obtain ⟨r0, r1, s0, s1, s2⟩ := HJ.out.run.res
      rcases HWC.out with hw | ⟨a, b, hab⟩
      · have HA := Lib.hid (HAN.out (HWN.out hw))
        have hne : ¬ (m6 : Int) = 2 := by omega
        clear hw hml
        have HFIN := Lib.hid HJ.out.fin
        go_wp2_with fail
        obtain ⟨z0, z1, _, _, _⟩ := HFIN.out.res
        refine bodyPost_ret (v := .tuple #[.agg #[.slice A2 n2 c2, .slice A3 m3 c3], .string (bs tWhat)]) (by simp [results, Tryz.results21, go_sem, z0, z1]; rfl) rfl ?_
        rw [HF.out, HA.out]
        exact HFIN.out.ret _
      obtain ⟨ea, eb⟩ := HWT.out a b hab
      have hbl : b.length ≤ 1048576 := by have := HWL.out b (by rw [hab]; simp); omega
      rw [hab] at HO6 hml
      rw [ea] at HAS
      rw [eb] at HAS HAN
      obtain rfl : m6 = 2 := hml
      obtain ⟨b6, o6, rfl, hbl6, hc6⟩ := HO6.out.at_ (k := 0) (by omega)
      have hca : w6.cell? ⟨b6, o6, none⟩ = some (.string (bs a)) := hc6 0 (.string (bs a)) rfl
      have hcb : w6.cell? ⟨b6, o6 + 1, none⟩ = some (.string (bs b)) := hc6 1 (.string (bs b)) rfl
      have HWD := Lib.hid (whole_digs b)
      have hta := bs_toList a
      have HDG := Lib.hid (sDigits b (by omega) w6)
      clear hc6 hab ea eb HWN HWT HWC HWL hbl h1 h2 h3 h4
      go_wp2_with fail
      refine HDG.out.mono ?_
      rintro e w7 ⟨v, rfl, hv, hv1, hv2, hw7⟩
      obtain rfl := hw7.symm
      clear hw7
      rcases word_cases a with ⟨e1, e2⟩ | ⟨e1, e2⟩ | ⟨e1, e2⟩
      · have HQ : Hid (∀ v, askF d a v = orN ((oneF d.now v).bind zText)) := fun v => askF_number e1
        cases hdg : digs b with
        | none =>
          have HA := Lib.hid (HAN.out (by rw [HWD.out, hdg]; rfl))
          clear hdg
          simp only [Option.isSome_none]
          have HFIN := Lib.hid HJ.out.fin
          go_wp2_with fail
          obtain ⟨z0, z1, _, _, _⟩ := HFIN.out.res
          refine bodyPost_ret (v := .tuple #[.agg #[.slice A2 n2 c2, .slice A3 m3 c3], .string (bs tWhat)]) (by simp [results, Tryz.results21, go_sem, z0, z1]; rfl) rfl ?_
          rw [HF.out, HA.out]
          exact HFIN.out.ret _
        | some u =>
          obtain rfl := hv u hdg
          simp only [Option.isSome_some]
          cases hin : inB v 0 9999
          · have HA := Lib.hid (HAN.out (by rw [HWD.out, hdg]; show (if inB v 0 9999 = true then some v else none) = none; rw [hin]; rfl))
            have HIN : Hid (∀ w', Calls Tryz.prog 58 #[.int .i64 v, .int .i64 0, .int .i64 9999] w' fun e w'' => e = .returned (.bool false) ∧ w'' = w') := fun w' => by rw [← hin]; exact l1In_any v 0 9999 w'
            clear hdg hin
            have HFIN := Lib.hid HJ.out.fin
            go_wp2_with fail
            refine (HIN.out _).mono ?_
            rintro e w8 ⟨rfl, hw8⟩
            obtain rfl := hw8.symm
            clear hw8
            have HFIN := Lib.hid HJ.out.fin
            go_wp2_with fail
            obtain ⟨z0, z1, _, _, _⟩ := HFIN.out.res
            refine bodyPost_ret (v := .tuple #[.agg #[.slice A2 n2 c2, .slice A3 m3 c3], .string (bs tWhat)]) (by simp [results, Tryz.results21, go_sem, z0, z1]; rfl) rfl ?_
            rw [HF.out, HA.out]
            exact HFIN.out.ret _
          · have HA := Lib.hid (HAS.out v (by rw [HWD.out, hdg]; show (if inB v 0 9999 = true then some v else none) = some v; rw [hin]; rfl))
            have HIN : Hid (∀ w', Calls Tryz.prog 58 #[.int .i64 v, .int .i64 0, .int .i64 9999] w' fun e w'' => e = .returned (.bool true) ∧ w'' = w') := fun w' => by rw [← hin]; exact l1In_any v 0 9999 w'
            have HQ := Lib.hid (HQ.out v)
            clear hdg hin
            go_wp2_with fail
            refine (HIN.out _).mono ?_
            rintro e w8 ⟨rfl, hw8⟩
            obtain rfl := hw8.symm
            clear hw8
            go_wp2_with fail
            refine (sOne A n c d.now v w6 (by omega) HJ.out.src.now.cs (fun _ => HPR.out)).mono ?_
            rintro e w9 ⟨rfl, hb9⟩
            have HJ9 := Lib.hid (HJ.out.step hb9)
            clear hb9
            obtain ⟨o, ho⟩ : ∃ o, o = oneF d.now v := ⟨_, rfl⟩
            rw [← ho] at HQ ⊢
            clear ho
            obtain ⟨z, hz⟩ : ∃ z, z = o.getD (0, 0) := ⟨_, rfl⟩
            rw [← hz]
            have HTX : Hid (Calls Tryz.prog 60 #[.complex .f32 z.1 z.2] w9 fun e w' => ∃ t, e = .returned (.tuple #[.string (bs t), .bool (zText z).isSome]) ∧ (∀ u, zText z = some u → t = u) ∧ t.length ≤ 43 ∧ Below w9.heap.size w9 w') := sText z w9
            have HZ := Lib.hid hz
            try clear y0 y1 y2 y3 y4
            clear k0 k1 l0 l1 l2 g0 g1 q0 q1 q2 r0 r1 s0 s1 s2
            obtain ⟨k0, k1, l0, l1, l2⟩ := HJ9.out.old
            obtain ⟨g0, g1, q0, q1, q2⟩ := HJ9.out.run.at_
            obtain ⟨r0, r1, s0, s1, s2⟩ := HJ9.out.run.res
            clear hz
            unfold cv
            go_wp2_with fail
            refine HTX.out.mono ?_
            rintro e w10 ⟨t, rfl, ht1, _, hb10⟩
            have HJ10 := Lib.hid (HJ9.out.step hb10)
            have HJS := Lib.hid (HJ10.out.step (Below.refl _ w10).drew).fin
            clear hb10
            have HQ2 : Hid (orN (o.bind zText) = (if (o.isSome && (zText z).isSome) = true then t else tNone)) := by
              show _ = _
              have hz := HZ.out
              cases o with
              | none => rfl
              | some y =>
                obtain rfl : z = y := hz
                show (zText z).getD tNone = _
                cases hzt : zText z with
                | none => rfl
                | some u => rw [ht1 u hzt]; rfl
            clear ht1
            have HOR : Hid (∀ w', Calls Tryz.prog 54 #[.string (bs t), .bool (o.isSome && (zText z).isSome)] w' fun e w'' => e = .returned (.string (bs (orN (o.bind zText)))) ∧ Below w'.heap.size w' w'') := fun w' => by
              rw [show (orN (o.bind zText)) = (if (o.isSome && (zText z).isSome) = true then t else tNone) from HQ2.out]
              exact (sOr_any _ _ w').mono fun e w'' h => ⟨h.1, h.2 ▸ Below.refl _ _⟩
            obtain ⟨y, hy⟩ : ∃ y, y = orN (o.bind zText) := ⟨_, rfl⟩
            rw [← hy] at HOR HQ
            clear hy HQ2 HTX
            obtain ⟨u, hu⟩ : ∃ u, u = (zText z).isSome := ⟨_, rfl⟩
            rw [← hu] at HOR ⊢
            clear hu HZ
            try clear y0 y1 y2 y3 y4
            clear k0 k1 l0 l1 l2 g0 g1 q0 q1 q2 r0 r1 s0 s1 s2
            obtain ⟨k0, k1, l0, l1, l2⟩ := HJ10.out.old
            obtain ⟨g0, g1, q0, q1, q2⟩ := HJ10.out.run.at_
            obtain ⟨r0, r1, s0, s1, s2⟩ := HJ10.out.run.res
            obtain ⟨p, hp⟩ : ∃ p, p = o.isSome := ⟨_, rfl⟩
            rw [← hp] at HOR ⊢
            clear hp
            cases p
            · simp only [Bool.false_and] at HOR
              go_upto_region 28 with fail
              first
                | go_region_law ((go_simp; go_at_call 54; first
                      | ((with_reducible refine Calls.mono (HOR.out w10.drew) ?_); rintro e w5 ⟨rfl, hb5⟩; have HI5 := Lib.hid (HJ10.out.step (below_d hb5)); clear hb5; have HFIN := Lib.hid HI5.out.fin; obtain ⟨k4, k5, _, _, _⟩ := HI5.out.old; obtain ⟨g4, g5, _, _, _⟩ := HI5.out.run.at_; obtain ⟨r6, r7, s6, s7, s8⟩ := HI5.out.run.res)
                      | ((with_reducible refine Calls.mono (HOR.out _) ?_); rintro e w5 ⟨rfl, hb5⟩; have HFIN := Lib.hid (HJS.out.step hb5); clear hb5; obtain ⟨k4, k5, _, _, _⟩ := HFIN.out.old; obtain ⟨g4, g5, _, _, _⟩ := HFIN.out.at_; obtain ⟨r6, r7, s6, s7, s8⟩ := HFIN.out.res)))
                | fail "the region"
              all_goals
                go_wp2_with fail
                obtain ⟨z0, z1, _, _, _⟩ := HFIN.out.res
                refine bodyPost_ret (v := .tuple #[.agg #[.slice A2 n2 c2, .slice A3 m3 c3], .string (bs y)]) (by simp [results, Tryz.results21, go_sem, z0, z1]) rfl ?_
                rw [HF.out, HA.out, HQ.out]
                exact HFIN.out.ret _
            · simp only [Bool.true_and] at HOR
              go_upto_region 28 with fail
              go_region_held3 (fun w' => w'.cell? ⟨gb, 0, none⟩ = some (.slice A2 n2 c2) ∧ w'.cell? ⟨gb, 1, none⟩ = some (.slice A3 m3 c3))
                (first | exact ⟨g8, g9⟩ | exact ⟨g4, g5⟩ | exact ⟨g0, g1⟩ | go_keep)
                ((first
                  | (go_at_call 54; first
                      | ((with_reducible refine Calls.mono (HOR.out w10.drew) ?_); rintro e w5 ⟨rfl, hb5⟩; have HI5 := Lib.hid (HJ10.out.step (below_d hb5)); clear hb5; have HFIN := Lib.hid HI5.out.fin; obtain ⟨k4, k5, _, _, _⟩ := HI5.out.old; obtain ⟨g4, g5, _, _, _⟩ := HI5.out.run.at_; obtain ⟨r6, r7, s6, s7, s8⟩ := HI5.out.run.res)
                      | ((with_reducible refine Calls.mono (HOR.out _) ?_); rintro e w5 ⟨rfl, hb5⟩; have HFIN := Lib.hid (HJS.out.step hb5); clear hb5; obtain ⟨k4, k5, _, _, _⟩ := HFIN.out.old; obtain ⟨g4, g5, _, _, _⟩ := HFIN.out.at_; obtain ⟨r6, r7, s6, s7, s8⟩ := HFIN.out.res))))
              all_goals
                go_wp2_with fail
                obtain ⟨z0, z1, _, _, _⟩ := HFIN.out.res
                refine bodyPost_ret (v := .tuple #[.agg #[.slice A2 n2 c2, .slice A3 m3 c3], .string (bs y)]) (by simp [results, Tryz.results21, go_sem, z0, z1]) rfl ?_
                rw [HF.out, HA.out, HQ.out]
                exact HFIN.out.ret _
      · have HQ : Hid (∀ v, askF d a v = tonT (tonsO pwI d.now v)) := fun v => askF_tones e1 e2
        cases hdg : digs b with
        | none =>
          have HA := Lib.hid (HAN.out (by rw [HWD.out, hdg]; rfl))
          clear hdg
          simp only [Option.isSome_none]
          have HFIN := Lib.hid HJ.out.fin
          go_wp2_with fail
          obtain ⟨z0, z1, _, _, _⟩ := HFIN.out.res
          refine bodyPost_ret (v := .tuple #[.agg #[.slice A2 n2 c2, .slice A3 m3 c3], .string (bs tWhat)]) (by simp [results, Tryz.results21, go_sem, z0, z1]; rfl) rfl ?_
          rw [HF.out, HA.out]
          exact HFIN.out.ret _
        | some u =>
          obtain rfl := hv u hdg
          simp only [Option.isSome_some]
          cases hin : inB v 0 9999
          · have HA := Lib.hid (HAN.out (by rw [HWD.out, hdg]; show (if inB v 0 9999 = true then some v else none) = none; rw [hin]; rfl))
            have HIN : Hid (∀ w', Calls Tryz.prog 58 #[.int .i64 v, .int .i64 0, .int .i64 9999] w' fun e w'' => e = .returned (.bool false) ∧ w'' = w') := fun w' => by rw [← hin]; exact l1In_any v 0 9999 w'
            clear hdg hin
            have HFIN := Lib.hid HJ.out.fin
            go_wp2_with fail
            refine (HIN.out _).mono ?_
            rintro e w8 ⟨rfl, hw8⟩
            obtain rfl := hw8.symm
            clear hw8
            have HFIN := Lib.hid HJ.out.fin
            go_wp2_with fail
            obtain ⟨z0, z1, _, _, _⟩ := HFIN.out.res
            refine bodyPost_ret (v := .tuple #[.agg #[.slice A2 n2 c2, .slice A3 m3 c3], .string (bs tWhat)]) (by simp [results, Tryz.results21, go_sem, z0, z1]; rfl) rfl ?_
            rw [HF.out, HA.out]
            exact HFIN.out.ret _
          · have HA := Lib.hid (HAS.out v (by rw [HWD.out, hdg]; show (if inB v 0 9999 = true then some v else none) = some v; rw [hin]; rfl))
            have HIN : Hid (∀ w', Calls Tryz.prog 58 #[.int .i64 v, .int .i64 0, .int .i64 9999] w' fun e w'' => e = .returned (.bool true) ∧ w'' = w') := fun w' => by rw [← hin]; exact l1In_any v 0 9999 w'
            have HQ := Lib.hid (HQ.out v)
            clear hdg hin
            go_wp2_with fail
            refine (HIN.out _).mono ?_
            rintro e w8 ⟨rfl, hw8⟩
            obtain rfl := hw8.symm
            clear hw8
            go_wp2_with fail
            refine (sTones A n c d.now v w6 (by omega) HJ.out.src.now.cs HG.out).mono ?_
            rintro e w9 ⟨A5, n5, c5, hn5, rfl, ho5, hb9⟩
            rw [tonsO_same HG.out] at hn5 ho5
            have HJ9 := Lib.hid (HJ.out.step hb9)
            have HO5 := Lib.hid ho5.sl
            have hn16 : n5 ≤ 16 := by rw [hn5]; exact tonsO_len HG.out
            have HBD : Hid (∀ x ∈ tonsO pwI d.now v, -9999999 ≤ x ∧ x ≤ 9999999) := tonsO_bd _ _ _
            obtain ⟨is, his⟩ : ∃ is, is = tonsO pwI d.now v := ⟨_, rfl⟩
            rw [← his] at HQ HO5 HBD hn5
            have HL := Lib.hid hn5
            clear hb9 ho5 hn5 his
            try clear y0 y1 y2 y3 y4
            clear k0 k1 l0 l1 l2 g0 g1 q0 q1 q2 r0 r1 s0 s1 s2
            go_wp2_with fail
            go_loopw [23, 24] (fun s i wr => ∃ k : Nat, k ≤ n5 ∧ i = .int .i64 k ∧ s = .string (bs (digT (is.take k))) ∧ LnI w gb wr A n c A' m c' A2 n2 c2 A3 m3 c3 d ∧ Below w9.heap.size w9 wr) (fun _ i _ => n5 - (intOf i).toNat)
            case atStart => first | exact ⟨0, by omega, rfl, rfl, HJ9.out, Below.refl _ _⟩ | ((repeat apply Exists.intro); exact ⟨by omega, rfl, rfl, HJ9.out, Below.refl _ _⟩)
            case round =>
              obtain ⟨k, hk, rfl, rfl, hj, hb⟩ := hrel
              have HJR := Lib.hid hj
              have HBR := Lib.hid hb
              clear hj hb
              by_cases hlt : k < n5
              · obtain ⟨b5, o5, rfl, hbl, hc⟩ := (Sl.below HO5.out HBR.out).int_at hlt
                have hck := hc k hlt
                obtain ⟨x, hxk⟩ : ∃ x, is[k]? = some x := ⟨_, List.getElem?_eq_getElem (by rw [← HL.out]; exact hlt)⟩
                have hin : inth is k = x := by unfold inth; rw [List.getD_eq_getElem?_getD, hxk]; rfl
                have hxb := HBD.out x (List.mem_of_getElem? hxk)
                have HS := Lib.hid (digT_snoc hxk)
                have HNU : Hid (∀ w', Calls Tryz.prog 52 #[.int .i64 x] w' fun e w'' => e = .returned (.string (bs (itoa x))) ∧ Below w'.heap.size w' w'') := fun w' => sNumber x (by omega) (by omega) w'
                have hz : ¬ 9223372036854775807 < (bs (digT (is.take k))).size + (bs (itoa x)).size := by
                  have htl : (digT (is.take k)).length ≤ (is.take k).length * 21 := digT_len fun y hy => HBD.out y (List.mem_of_mem_take hy)
                  have htk : (is.take k).length ≤ 16 := by rw [List.length_take]; omega
                  have hit := itoa_small x hxb.1 hxb.2
                  rw [bs_size, bs_size]; omega
                rw [hin] at hck
                clear hc hxk hin hxb
                go_wp2_with fail
                refine (HNU.out _).mono ?_
                rintro e w11 ⟨rfl, hb11⟩
                have HJ11 := Lib.hid (HJR.out.step hb11)
                have HB11 : Hid (Below w9.heap.size w9 w11) := HBR.out.trans (hb11.mono HBR.out.size)
                clear hb11
                go_wp2_with fail
                go_roundw
                case rel => exact ⟨k + 1, by omega, by go_num, by rw [HS.out, ← bs_append], HJ11.out, HB11.out⟩
                case measure => simp [intOf]; omega
              · obtain rfl : k = n5 := by omega
                have HT : Hid (digT (is.take k) = digT is) := by show _ = _; rw [List.take_of_length_le (by rw [← HL.out]; exact Nat.le_refl _)]
                have HJS := Lib.hid (HJR.out.step (Below.refl _ wr).drew).fin
                have HQ2 : Hid (tonT is = (if (decide (0 < k)) = true then digT (is.take k) else tNone)) := by show _ = _; rw [HT.out, HL.out]; exact (tonT_if is).symm
                have HOR : Hid (∀ w', Calls Tryz.prog 54 #[.string (bs (digT (is.take k))), .bool (decide (0 < k))] w' fun e w'' => e = .returned (.string (bs (tonT is))) ∧ Below w'.heap.size w' w'') := fun w' => by
                  rw [show (tonT is) = (if (decide (0 < k)) = true then (digT (is.take k)) else tNone) from HQ2.out]
                  exact (sOr_any _ _ w').mono fun e w'' h => ⟨h.1, h.2 ▸ Below.refl _ _⟩
                obtain ⟨y, hy⟩ : ∃ y, y = tonT is := ⟨_, rfl⟩
                rw [← hy] at HOR HQ
                obtain ⟨t, ht⟩ : ∃ t, t = digT (is.take k) := ⟨_, rfl⟩
                rw [← ht] at HOR ⊢
                clear hy HQ2 ht HT
                obtain ⟨k0, k1, l0, l1, l2⟩ := HJR.out.old
                obtain ⟨g0, g1, q0, q1, q2⟩ := HJR.out.run.at_
                obtain ⟨r0, r1, s0, s1, s2⟩ := HJR.out.run.res
                by_cases h0 : 0 < k
                · have h0i : (0 : Int) < (k : Int) := by omega
                  rw [decide_eq_true h0] at HOR
                  go_upto_region 36 with fail
                  go_region_held3 (fun w' => w'.cell? ⟨gb, 0, none⟩ = some (.slice A2 n2 c2) ∧ w'.cell? ⟨gb, 1, none⟩ = some (.slice A3 m3 c3))
                    (first | exact ⟨g8, g9⟩ | exact ⟨g4, g5⟩ | exact ⟨g0, g1⟩ | go_keep)
                    ((first
                      | (go_at_call 54; first
                          | ((with_reducible refine Calls.mono (HOR.out wr.drew) ?_); rintro e w5 ⟨rfl, hb5⟩; have HI5 := Lib.hid (HJR.out.step (below_d hb5)); clear hb5; have HFIN := Lib.hid HI5.out.fin; obtain ⟨k4, k5, _, _, _⟩ := HI5.out.old; obtain ⟨g4, g5, _, _, _⟩ := HI5.out.run.at_; obtain ⟨r6, r7, s6, s7, s8⟩ := HI5.out.run.res)
                          | ((with_reducible refine Calls.mono (HOR.out _) ?_); rintro e w5 ⟨rfl, hb5⟩; have HFIN := Lib.hid (HJS.out.step hb5); clear hb5; obtain ⟨k4, k5, _, _, _⟩ := HFIN.out.old; obtain ⟨g4, g5, _, _, _⟩ := HFIN.out.at_; obtain ⟨r6, r7, s6, s7, s8⟩ := HFIN.out.res))))
                  all_goals
                    go_wp2_with fail
                    obtain ⟨z0, z1, _, _, _⟩ := HFIN.out.res
                    refine bodyPost_ret (v := .tuple #[.agg #[.slice A2 n2 c2, .slice A3 m3 c3], .string (bs y)]) (by simp [results, Tryz.results21, go_sem, z0, z1]) rfl ?_
                    rw [HF.out, HA.out, HQ.out]
                    exact HFIN.out.ret _
                · have h0i : ¬ (0 : Int) < (k : Int) := by omega
                  rw [decide_eq_false h0] at HOR
                  go_upto_region 36 with fail
                  go_region_held3 (fun w' => w'.cell? ⟨gb, 0, none⟩ = some (.slice A2 n2 c2) ∧ w'.cell? ⟨gb, 1, none⟩ = some (.slice A3 m3 c3))
                    (first | exact ⟨g8, g9⟩ | exact ⟨g4, g5⟩ | exact ⟨g0, g1⟩ | go_keep)
                    ((first
                      | (go_at_call 54; first
                          | ((with_reducible refine Calls.mono (HOR.out wr.drew) ?_); rintro e w5 ⟨rfl, hb5⟩; have HI5 := Lib.hid (HJR.out.step (below_d hb5)); clear hb5; have HFIN := Lib.hid HI5.out.fin; obtain ⟨k4, k5, _, _, _⟩ := HI5.out.old; obtain ⟨g4, g5, _, _, _⟩ := HI5.out.run.at_; obtain ⟨r6, r7, s6, s7, s8⟩ := HI5.out.run.res)
                          | ((with_reducible refine Calls.mono (HOR.out _) ?_); rintro e w5 ⟨rfl, hb5⟩; have HFIN := Lib.hid (HJS.out.step hb5); clear hb5; obtain ⟨k4, k5, _, _, _⟩ := HFIN.out.old; obtain ⟨g4, g5, _, _, _⟩ := HFIN.out.at_; obtain ⟨r6, r7, s6, s7, s8⟩ := HFIN.out.res))))
                  all_goals
                    go_wp2_with fail
                    obtain ⟨z0, z1, _, _, _⟩ := HFIN.out.res
                    refine bodyPost_ret (v := .tuple #[.agg #[.slice A2 n2 c2, .slice A3 m3 c3], .string (bs y)]) (by simp [results, Tryz.results21, go_sem, z0, z1]) rfl ?_
                    rw [HF.out, HA.out, HQ.out]
                    exact HFIN.out.ret _
      · have HQ : Hid (∀ v, askF d a v = tWhat) := fun v => askF_not e1 e2
        cases hdg : digs b with
        | none =>
          have HA := Lib.hid (HAN.out (by rw [HWD.out, hdg]; rfl))
          clear hdg
          simp only [Option.isSome_none]
          have HFIN := Lib.hid HJ.out.fin
          go_wp2_with fail
          obtain ⟨z0, z1, _, _, _⟩ := HFIN.out.res
          refine bodyPost_ret (v := .tuple #[.agg #[.slice A2 n2 c2, .slice A3 m3 c3], .string (bs tWhat)]) (by simp [results, Tryz.results21, go_sem, z0, z1]; rfl) rfl ?_
          rw [HF.out, HA.out]
          exact HFIN.out.ret _
        | some u =>
          obtain rfl := hv u hdg
          simp only [Option.isSome_some]
          cases hin : inB v 0 9999
          · have HA := Lib.hid (HAN.out (by rw [HWD.out, hdg]; show (if inB v 0 9999 = true then some v else none) = none; rw [hin]; rfl))
            clear hdg hin
            have HFIN := Lib.hid HJ.out.fin
            go_wp2_with fail
            obtain ⟨z0, z1, _, _, _⟩ := HFIN.out.res
            refine bodyPost_ret (v := .tuple #[.agg #[.slice A2 n2 c2, .slice A3 m3 c3], .string (bs tWhat)]) (by simp [results, Tryz.results21, go_sem, z0, z1]; rfl) rfl ?_
            rw [HF.out, HA.out]
            exact HFIN.out.ret _
          · have HA := Lib.hid (HAS.out v (by rw [HWD.out, hdg]; show (if inB v 0 9999 = true then some v else none) = some v; rw [hin]; rfl))
            clear hdg hin
            have HFIN := Lib.hid HJ.out.fin
            go_wp2_with fail
            obtain ⟨z0, z1, _, _, _⟩ := HFIN.out.res
            refine bodyPost_ret (v := .tuple #[.agg #[.slice A2 n2 c2, .slice A3 m3 c3], .string (bs tWhat)]) (by simp [results, Tryz.results21, go_sem, z0, z1]; rfl) rfl ?_
            rw [HF.out, HA.out, HQ.out]
            exact HFIN.out.ret _
end Go.Proofs.YtnomlkkhkacajaaGreatDoor
