/- Texts on the way to a law (E12, E13), each with its own remark. -/
import Derived.Test.YtnomlkkhkacajaaGreatDoorPC28
namespace Go.Proofs.YtnomlkkhkacajaaGreatDoor
open Go.RowKit
open Go.Lib hiding intOf

set_option maxHeartbeats 4000000 in
set_option maxRecDepth 100000 in
theorem sDeskDo_bad (A A' : Option Addr) (n c m c' : Nat) (d : Dk) (k i : Int) (t : Txt) (w : World) (hd : DkV w 0 A n c A' m d) (hz : DkS d) (hk : dkB d = false) :
    Calls Tryz.prog 10 #[.agg #[.slice A n c, .slice A' m c'], dv ⟨k, i, t⟩] w (RetKB w (doF d ⟨k, i, t⟩)) := by
  obtain ⟨w0, hw0⟩ : ∃ w0, w0 = ((w.alloc (.cells #[.slice A n c, .slice A' m c'] 26)).alloc (.cells #[.int .i64 k, .int .i64 i, .string (bs t)] 28)).alloc (.cells #[.slice none 0 0, .slice none 0 0] 26) := ⟨_, rfl⟩
  have HD0 : Hid (Do3 w A n c A' m c' k i t w0) := by rw [hw0]; exact Do3.of w A n c A' m c' k i t _ _ _
  have HV0 : Hid (DkV w0 0 A n c A' m d) := hd.below HD0.out.below
  have HOK : Hid (∀ w, DkV w 0 A n c A' m d → Calls Tryz.prog 17 #[.agg #[.slice A n c, .slice A' m c']] w fun e w' => e = .returned (.bool false) ∧ Below w.heap.size w w') := fun w h => by rw [← hk]; exact sDeskOk A A' n c m c' d w h hz
  have HDO := Lib.hid (doF_bad ⟨k, i, t⟩ hk)
  obtain ⟨k0, k1, l0, l1, l2⟩ := HD0.out.desk
  clear hd hz hk
  unfold dv
  go_enter Tryz.func10, Tryz.ntmps10
  go_wp2_with fail
  rw [← hw0]
  clear hw0
  refine (HOK.out _ HV0.out).mono ?_
  rintro e w1 ⟨rfl, hb1⟩
  have HD1 := Lib.hid (HD0.out.call hb1)
  clear hb1 k0 k1 l0 l1 l2
  obtain ⟨r0, r1, s0, s1, s2⟩ := HD1.out.res
  have HB : Hid (Below w.heap.size w ((w1.setCell ⟨w.heap.size + 1 + 1, 0, none⟩ (.slice none 0 0)).setCell ⟨w.heap.size + 1 + 1, 1, none⟩ (.slice none 0 0))) := (HD1.out.below.setCell (p := ⟨w.heap.size + 1 + 1, 0, none⟩) (by show w.heap.size ≤ w.heap.size + 1 + 1; omega) _).setCell (p := ⟨w.heap.size + 1 + 1, 1, none⟩) (by show w.heap.size ≤ w.heap.size + 1 + 1; omega) _
  go_wp2_with fail
  refine bodyPost_ret (v := .tuple #[.agg #[.slice none 0 0, .slice none 0 0], .bool false]) (by simp [results, Tryz.results10, go_sem, r0, r1]) rfl ?_
  rw [HDO.out]
  exact ⟨_, _, _, _, _, _, rfl, Sg.nil_ _ _, Ps.nil _ _, fun _ => Po.nil _ _, HB.out⟩

set_option maxHeartbeats 8000000 in
set_option maxRecDepth 100000 in
theorem sDeskDo_made (A A' : Option Addr) (n c m c' : Nat) (d : Dk) (k i : Int) (t : Txt) (w : World) (hd : DkV w 0 A n c A' m d) (hk : dkB d = true) (hu : undB d ⟨k, i, t⟩ = false) (hg : LvOk d.now) (ht : t.length ≤ 1073741824) :
    Calls Tryz.prog 10 #[.agg #[.slice A n c, .slice A' m c'], dv ⟨k, i, t⟩] w (RetKB w (doF d ⟨k, i, t⟩)) := by
  have hto := bs_nilB
  have hto2 := bs_toL
  have hl := hd.past.len
  have hnl := hd.now.len
  have hm8 : m ≤ 8 := by have := (dkB_iff.1 hk).2.1; omega
  have hn16 : n ≤ 16 := by have := sig_len (dkB_iff.1 hk).1; omega
  obtain ⟨w0, hw0⟩ : ∃ w0, w0 = ((w.alloc (.cells #[.slice A n c, .slice A' m c'] 26)).alloc (.cells #[.int .i64 k, .int .i64 i, .string (bs t)] 28)).alloc (.cells #[.slice none 0 0, .slice none 0 0] 26) := ⟨_, rfl⟩
  have HD0 : Hid (Do3 w A n c A' m c' k i t w0) := by rw [hw0]; exact Do3.of w A n c A' m c' k i t _ _ _
  have HV0 : Hid (DkV w0 0 A n c A' m d) := hd.below HD0.out.below
  have hz := DkS.ok hk
  have HOK : Hid (∀ w, DkV w 0 A n c A' m d → Calls Tryz.prog 17 #[.agg #[.slice A n c, .slice A' m c']] w fun e w' => e = .returned (.bool true) ∧ Below w.heap.size w w') := fun w h => by rw [← hk]; exact sDeskOk A A' n c m c' d w h hz
  have HCP : Hid (∀ w, DkV w 0 A n c A' m d → Calls Tryz.prog 39 #[.agg #[.slice A n c, .slice A' m c']] w (RetK w d)) := fun w h => sCopy A A' n c m c' d w h hz
  have HNL := Lib.hid hnl
  have HL := Lib.hid hl
  obtain ⟨k0, k1, l0, l1, l2⟩ := HD0.out.desk
  obtain ⟨d0, d1, d2, e0, e1, e2, e3⟩ := HD0.out.deed
  have key : (k == 6) = false ∨ (k = 6 ∧ (i == 0) = false) ∨ (k = 6 ∧ i = 0 ∧ t.isEmpty = false) ∨ (k = 6 ∧ i = 0 ∧ t = [] ∧ ¬ 0 < m) := by
    by_cases h1 : k = 6
    · by_cases h2 : i = 0
      · by_cases h3 : t = []
        · by_cases h4 : d.past = []
          · exact .inr (.inr (.inr ⟨h1, h2, h3, by rw [← hl, h4]; decide⟩))
          · unfold undB at hu
            rw [decide_eq_true h1, decide_eq_true h2, decide_eq_true h3, decide_eq_true h4] at hu
            cases hu
        · exact .inr (.inr (.inl ⟨h1, h2, by simpa using h3⟩))
      · exact .inr (.inl ⟨h1, by rw [beq_eq_false_iff_ne]; exact h2⟩)
    · exact .inl (by rw [beq_eq_false_iff_ne]; exact h1)
  have HMD : Hid (∀ w, Cs w A n d.now → Calls Tryz.prog 40 #[.slice A n c, .agg #[.int .i64 k, .int .i64 i, .string (bs t)]] w (RetO w (madF d.now ⟨k, i, t⟩))) := fun w h => sMade A n c d.now k i t w (by omega) h hg ht
  have HGL := Lib.hid hg
  clear hz hg ht
  unfold dv
  cases hm : madF d.now ⟨k, i, t⟩ with
  | none =>
    have HDO := Lib.hid (doF_none hk hu hm)
    rw [hm] at HMD
    clear hm hk hu hd hl hnl
    rcases key with b6 | ⟨rfl, hb⟩ | ⟨rfl, rfl, ht2⟩ | ⟨rfl, rfl, rfl, hm0⟩
    all_goals
      go_enter Tryz.func10, Tryz.ntmps10
      go_wp2_with fail
      rw [← hw0]
      clear hw0
      refine (HOK.out _ HV0.out).mono ?_
      rintro e w1 ⟨rfl, hb1⟩
      have HD1 := Lib.hid (HD0.out.call hb1)
      have HV1 := Lib.hid (HV0.out.below hb1)
      clear hb1 k0 k1 l0 l1 l2 d0 d1 d2 e0 e1 e2 e3
      obtain ⟨k0, k1, l0, l1, l2⟩ := HD1.out.desk
      obtain ⟨d0, d1, d2, e0, e1, e2, e3⟩ := HD1.out.deed
      go_wp2_with fail
      refine (HCP.out _ HV1.out).mono ?_
      rintro e w2 ⟨A2, n2, c2, A3, m3, c3, rfl, hs2, hp2, hb2, hne2⟩
      obtain rfl : n = n2 := by have h1 := hs2.len; have h2 := HNL.out; omega
      obtain rfl : m = m3 := by have h1 := hp2.ps.len; have h2 := HL.out; omega
      have HD2 := Lib.hid (HD1.out.call hb2)
      have HS2 := Lib.hid hs2
      have HP2 := Lib.hid hp2
      have HNE := Lib.hid hne2
      have HB2 := Lib.hid hb2
      have HW1 : Hid (w.heap.size + 1 + 1 < w1.heap.size) := HD1.out.size
      clear hs2 hp2 hb2 hne2 k0 k1 l0 l1 l2 d0 d1 d2 e0 e1 e2 e3
      obtain ⟨k0, k1, l0, l1, l2⟩ := HD2.out.desk
      obtain ⟨d0, d1, d2, e0, e1, e2, e3⟩ := HD2.out.deed
      go_wp2_with fail
      obtain ⟨w3, hw3⟩ : ∃ w3, w3 = w2.alloc (.cells #[.slice A2 n c2, .slice A3 m c3] 26) := ⟨_, rfl⟩
      have HG3 := Lib.hid (KAt.new w2 (.slice A2 n c2) (.slice A3 m c3) 26)
      have HB3 : Hid (Below w2.heap.size w2 w3) := by rw [hw3]; exact below_alloc _ _
      rw [← hw3] at HG3
      have HD3 := Lib.hid (HD2.out.call HB3.out)
      have HX3 : Hid (Cs w3 A n d.now) := ((HV1.out.now.below HB2.out).below HB3.out).cs
      rw [← hw3]
      clear hw3 k0 k1 l0 l1 l2 d0 d1 d2 e0 e1 e2 e3
      refine (HMD.out _ HX3.out).mono ?_
      rintro e w4 ⟨A5, m5, c5, rfl, ho5, hb5⟩
      have HD4 := Lib.hid (HD3.out.call hb5)
      have HG4 := Lib.hid (HG3.out.below hb5 HG3.out.lt)
      have HB4 : Hid (Below w2.heap.size w2 w4) := HB3.out.trans (hb5.mono HB3.out.size)
      clear ho5 hb5
      obtain ⟨r0, r1, s0, s1, s2⟩ := HD4.out.res
      obtain ⟨g0, g1, q0, q1, q2⟩ := HG4.out
      have HPK : Hid (Pk (w.heap.size + 1 + 1) w4 ((w4.setCell ⟨w.heap.size + 1 + 1, 0, none⟩ (.slice A2 n c2)).setCell ⟨w.heap.size + 1 + 1, 1, none⟩ (.slice A3 m c3))) := ((Pk.refl _ w4).setCell 0 _).setCell 1 _
      have HR : Hid (RetKB w (d, false) (.returned (.tuple #[.agg #[.slice A2 n c2, .slice A3 m c3], .bool false])) ((w4.setCell ⟨w.heap.size + 1 + 1, 0, none⟩ (.slice A2 n c2)).setCell ⟨w.heap.size + 1 + 1, 1, none⟩ (.slice A3 m c3))) := ⟨_, _, _, _, _, _, rfl, ((HS2.out.below HB4.out).pk HPK.out HW1.out).mono HD1.out.below.size, ((HP2.out.below HB4.out).pk HPK.out HW1.out).ps.mono HD1.out.below.size, fun _ => ((HP2.out.below HB4.out).pk HPK.out HW1.out).mono HD1.out.below.size, (HD4.out.below.setCell (p := ⟨w.heap.size + 1 + 1, 0, none⟩) (by show w.heap.size ≤ w.heap.size + 1 + 1; omega) _).setCell (p := ⟨w.heap.size + 1 + 1, 1, none⟩) (by show w.heap.size ≤ w.heap.size + 1 + 1; omega) _⟩
      simp only [Option.isSome_none]
      go_wp2_with fail
      refine bodyPost_ret (v := .tuple #[.agg #[.slice A2 n c2, .slice A3 m c3], .bool false]) (by simp [results, Tryz.results10, go_sem, r0, r1]) rfl ?_
      rw [HDO.out]
      exact HR.out
  | some y =>
    have HDO := Lib.hid (doF_some hk hu hm)
    have hy16 : y.length ≤ 16 := by obtain ⟨a0, ha0, ha1, ha2⟩ := HGL.out; exact (madF_lv (a0 := if a0 < 14 then 14 else a0) (ha0.mono (by split <;> omega)) (sig_len (dkB_iff.1 hk).1) (by split <;> omega) (by split <;> omega) hm).2
    rw [hm] at HMD
    clear hm hk hu hd hl hnl
    by_cases h7 : m ≤ 7
    · have hc1 : ¬ (8 : Int) < (m : Int) + 1 := by omega
      have hc2 : ¬ 8 < m + 1 := by omega
      rcases key with b6 | ⟨rfl, hb⟩ | ⟨rfl, rfl, ht2⟩ | ⟨rfl, rfl, rfl, hm0⟩
      all_goals
        go_enter Tryz.func10, Tryz.ntmps10
        go_wp2_with fail
        rw [← hw0]
        clear hw0
        refine (HOK.out _ HV0.out).mono ?_
        rintro e w1 ⟨rfl, hb1⟩
        have HD1 := Lib.hid (HD0.out.call hb1)
        have HV1 := Lib.hid (HV0.out.below hb1)
        clear hb1 k0 k1 l0 l1 l2 d0 d1 d2 e0 e1 e2 e3
        obtain ⟨k0, k1, l0, l1, l2⟩ := HD1.out.desk
        obtain ⟨d0, d1, d2, e0, e1, e2, e3⟩ := HD1.out.deed
        go_wp2_with fail
        refine (HCP.out _ HV1.out).mono ?_
        rintro e w2 ⟨A2, n2, c2, A3, m3, c3, rfl, hs2, hp2, hb2, hne2⟩
        obtain rfl : n = n2 := by have h1 := hs2.len; have h2 := HNL.out; omega
        obtain rfl : m = m3 := by have h1 := hp2.ps.len; have h2 := HL.out; omega
        have HD2 := Lib.hid (HD1.out.call hb2)
        have HS2 := Lib.hid hs2
        have HP2 := Lib.hid hp2
        have HNE := Lib.hid hne2
        have HB2 := Lib.hid hb2
        have HW1 : Hid (w.heap.size + 1 + 1 < w1.heap.size) := HD1.out.size
        clear hs2 hp2 hb2 hne2 k0 k1 l0 l1 l2 d0 d1 d2 e0 e1 e2 e3
        obtain ⟨k0, k1, l0, l1, l2⟩ := HD2.out.desk
        obtain ⟨d0, d1, d2, e0, e1, e2, e3⟩ := HD2.out.deed
        go_wp2_with fail
        obtain ⟨w3, hw3⟩ : ∃ w3, w3 = w2.alloc (.cells #[.slice A2 n c2, .slice A3 m c3] 26) := ⟨_, rfl⟩
        have HG3 := Lib.hid (KAt.new w2 (.slice A2 n c2) (.slice A3 m c3) 26)
        have HB3 : Hid (Below w2.heap.size w2 w3) := by rw [hw3]; exact below_alloc _ _
        have hw3s : w3.heap.size = w2.heap.size + 1 := by rw [hw3, size_alloc]
        rw [← hw3] at HG3
        have HD3 := Lib.hid (HD2.out.call HB3.out)
        have HX3 : Hid (Cs w3 A n d.now) := ((HV1.out.now.below HB2.out).below HB3.out).cs
        rw [← hw3]
        clear hw3 k0 k1 l0 l1 l2 d0 d1 d2 e0 e1 e2 e3
        refine (HMD.out _ HX3.out).mono ?_
        rintro e w4 ⟨A5, m5, c5, rfl, ho5, hb5⟩
        have HY4 : Hid (Sg w4 (w2.heap.size + 1) A5 m5 c5 y) := (Sg.of ho5).mono (by omega)
        have hm5 : m5 ≤ 16 := by have := HY4.out.len; omega
        have HD4 := Lib.hid (HD3.out.call hb5)
        have HG4 := Lib.hid (HG3.out.below hb5 HG3.out.lt)
        have HB4 : Hid (Below w2.heap.size w2 w4) := HB3.out.trans (hb5.mono HB3.out.size)
        clear ho5 hb5
        obtain ⟨vs, hov, hpv, hpn⟩ := HP2.out
        have HOV := Lib.hid hov
        have HPV := Lib.hid hpv
        have HPN := Lib.hid hpn
        have HOV4 := Lib.hid (hov.below HB4.out)
        have hsz4 : w1.heap.size ≤ w4.heap.size := Nat.le_trans HB2.out.size HB4.out.size
        have hg2 : w.heap.size + 1 + 1 < w2.heap.size := Nat.lt_of_lt_of_le HW1.out HB2.out.size
        clear hov hpv hpn
        obtain ⟨r0, r1, s0, s1, s2⟩ := HD4.out.res
        obtain ⟨g0, g1, q0, q1, q2⟩ := HG4.out
        simp only [Option.isSome_some]
        go_upto_region 13 with (at_builtin; refine wl_appW w1.heap.size (.slice A2 n c2) hsz4 rfl (.tmp 52) (.tmp 55) 24 rfl Tryz.ePs _ m vs rfl HOV4.out rfl rfl (by unfold maxLen; omega) (by omega) ?_; intro v6 w6 ho6 hb6 hf6 hl6; obtain ⟨A6, c6, rfl⟩ := ho6.shape; have HST := Lib.hid (do_step (r := w.heap.size + 1 + 1) HW1.out HS2.out HOV.out HPV.out HPN.out HNE.out HB4.out HG4.out.lt HY4.out ho6 hb6.size hf6 hl6); have HG6 := Lib.hid (HG4.out.keep hb6.size HST.out.2.1); have HD6 := Lib.hid (HD4.out.belowB hb6 HW1.out); clear ho6 hb6 hf6 hl6 r0 r1 s0 s1 s2 g0 g1 q0 q1 q2; obtain ⟨g0, g1, q0, q1, q2⟩ := HG6.out)
        have HG7 : Hid (KAt ((w6.setCell ⟨w2.heap.size, 1, none⟩ (.slice A6 (m + 1) c6)).alloc (.cells #[] 73)) w2.heap.size (.slice A2 n c2) (.slice A6 (m + 1) c6)) := (HG6.out.set1 _).below (below_alloc _ _) (by rw [size_set]; exact HG6.out.lt)
        have HE7 : Hid (Ow ((w6.setCell ⟨w2.heap.size, 1, none⟩ (.slice A6 (m + 1) c6)).alloc (.cells #[] 73)) w6.heap.size 73 (.slice (some ⟨w6.heap.size, 0, none⟩) 0 0) 0 []) := by
          have h := Ow.empty (w6.setCell ⟨w2.heap.size, 1, none⟩ (.slice A6 (m + 1) c6)) 73
          rwa [size_set] at h
        have HY7 : Hid (Sg ((w6.setCell ⟨w2.heap.size, 1, none⟩ (.slice A6 (m + 1) c6)).alloc (.cells #[] 73)) (w2.heap.size + 1) A5 m5 c5 y) := (HST.out.2.2.pk ((Pk.refl w2.heap.size w6).setCell 1 _) (Nat.lt_succ_self _)).below (below_alloc _ _)
        have HK7 : Hid (∀ b, b < w6.heap.size → ¬ (b = w2.heap.size ∨ b = w.heap.size + 1 + 1) → ((w6.setCell ⟨w2.heap.size, 1, none⟩ (.slice A6 (m + 1) c6)).alloc (.cells #[] 73)).heap[b]? = w6.heap[b]?) := fun b hb hx => ((below_alloc (w6.setCell ⟨w2.heap.size, 1, none⟩ (.slice A6 (m + 1) c6)) _).block b (by rw [size_set]; exact hb)).trans (Below.heap_setCell _ _ _ _ fun e => hx (.inl e))
        have HB7 : Hid (Below w.heap.size w ((w6.setCell ⟨w2.heap.size, 1, none⟩ (.slice A6 (m + 1) c6)).alloc (.cells #[] 73))) := (HD6.out.below.setCell (p := ⟨w2.heap.size, 1, none⟩) (by show w.heap.size ≤ w2.heap.size; omega) _).alloc (by rw [size_set]; exact HD6.out.below.size) _
        have HR7 : Hid (KAt ((w6.setCell ⟨w2.heap.size, 1, none⟩ (.slice A6 (m + 1) c6)).alloc (.cells #[] 73)) (w.heap.size + 1 + 1) (.slice none 0 0) (.slice none 0 0)) := (HD6.out.res.keep (by rw [size_set]; exact Nat.le_refl _) (Below.heap_setCell _ _ _ _ (by show w.heap.size + 1 + 1 ≠ w2.heap.size; omega))).below (below_alloc _ _) (by rw [size_set]; exact HD6.out.res.lt)
        have hsz7 : w6.heap.size ≤ ((w6.setCell ⟨w2.heap.size, 1, none⟩ (.slice A6 (m + 1) c6)).alloc (.cells #[] 73)).heap.size := by rw [size_alloc, size_set]; omega
        have HW6 : Hid (w2.heap.size < w6.heap.size) := HG6.out.lt
        go_wp2_with (at_builtin; refine wl_appS w6.heap.size (y.map cv) hsz7 rfl (.tmp 66) (.tmp 67) 23 rfl Tryz.eC _ 0 _ rfl HE7.out A5 m5 c5 rfl HY7.out.nil HY7.out.cs (cvs_one _) (by unfold maxLen; omega) (by omega) ?_; intro v8 w8 ho8 hb8; rw [Nat.zero_add, List.nil_append] at ho8; obtain ⟨A8, c8, rfl⟩ := ho8.shape; have HO8 := Lib.hid ho8; have HB8 := Lib.hid hb8; obtain ⟨g0, g1, q0, q1, q2⟩ := HG7.out.below hb8 HW6.out; obtain ⟨r0, r1, s0, s1, s2⟩ := HR7.out.below hb8 (Nat.lt_trans hg2 HW6.out); clear ho8 hb8; have hgr : ¬ w2.heap.size = w.heap.size + 1 + 1 := (by omega))
        have hgr2 : ¬ w.heap.size + 1 + 1 = w2.heap.size := by omega
        have HR : Hid (RetKB w (⟨y, (d.past ++ [d.now]).drop (d.past.length - 7)⟩, true) (.returned (.tuple #[.agg #[.slice A8 m5 c8, .slice A6 (m + 1) c6], .bool true])) (((w8.setCell ⟨w2.heap.size, 0, none⟩ (.slice A8 m5 c8)).setCell ⟨w.heap.size + 1 + 1, 0, none⟩ (.slice A8 m5 c8)).setCell ⟨w.heap.size + 1 + 1, 1, none⟩ (.slice A6 (m + 1) c6))) := by
          have hk8 : Kx (fun b => b = w2.heap.size ∨ b = w.heap.size + 1 + 1) w6 w8 := ⟨Nat.le_trans hsz7 HB8.out.size, fun b hb hx => (HB8.out.block b hb).trans (HK7.out b hb hx)⟩
          have hkf := ((hk8.trans (Kx.set w8 (p := ⟨w2.heap.size, 0, none⟩) (.inl rfl) (.slice A8 m5 c8))).trans (Kx.set _ (p := ⟨w.heap.size + 1 + 1, 0, none⟩) (.inr rfl) (.slice A8 m5 c8))).trans (Kx.set _ (p := ⟨w.heap.size + 1 + 1, 1, none⟩) (.inr rfl) (.slice A6 (m + 1) c6))
          have hpf := (HST.out.1.kx hkf).po
          rw [HL.out, show m - 7 = 0 by omega, List.drop_zero]
          exact ⟨_, _, _, _, _, _, rfl, (((Sg.of HO8.out).pk ((Pk.refl w2.heap.size w8).setCell 0 _) HW6.out).pk (((Pk.refl (w.heap.size + 1 + 1) _).setCell 0 _).setCell 1 _) (Nat.lt_trans hg2 HW6.out)).mono (by omega), hpf.ps.mono HD1.out.below.size, fun _ => hpf.mono HD1.out.below.size, ((((HB7.out.trans (HB8.out.mono (by omega))).setCell (p := ⟨w2.heap.size, 0, none⟩) (by show w.heap.size ≤ w2.heap.size; omega) _).setCell (p := ⟨w.heap.size + 1 + 1, 0, none⟩) (by show w.heap.size ≤ w.heap.size + 1 + 1; omega) _).setCell (p := ⟨w.heap.size + 1 + 1, 1, none⟩) (by show w.heap.size ≤ w.heap.size + 1 + 1; omega) _)⟩
        go_wp2_with fail
        refine bodyPost_ret (v := .tuple #[.agg #[.slice A8 m5 c8, .slice A6 (m + 1) c6], .bool true]) (by simp [results, Tryz.results10, go_sem, r0, r1]) rfl ?_
        rw [HDO.out]
        exact HR.out
    · obtain rfl : m = 8 := by omega
      have hc1 : (8 : Int) < (8 : Int) + 1 := by omega
      have key2 : (k == 6) = false ∨ (k = 6 ∧ (i == 0) = false) ∨ (k = 6 ∧ i = 0 ∧ t.isEmpty = false) := by
        rcases key with h | h | h | ⟨_, _, _, h⟩
        · exact .inl h
        · exact .inr (.inl h)
        · exact .inr (.inr h)
        · omega
      clear key
      rcases key2 with b6 | ⟨rfl, hb⟩ | ⟨rfl, rfl, ht2⟩
      all_goals
        go_enter Tryz.func10, Tryz.ntmps10
        go_wp2_with fail
        rw [← hw0]
        clear hw0
        refine (HOK.out _ HV0.out).mono ?_
        rintro e w1 ⟨rfl, hb1⟩
        have HD1 := Lib.hid (HD0.out.call hb1)
        have HV1 := Lib.hid (HV0.out.below hb1)
        clear hb1 k0 k1 l0 l1 l2 d0 d1 d2 e0 e1 e2 e3
        obtain ⟨k0, k1, l0, l1, l2⟩ := HD1.out.desk
        obtain ⟨d0, d1, d2, e0, e1, e2, e3⟩ := HD1.out.deed
        go_wp2_with fail
        refine (HCP.out _ HV1.out).mono ?_
        rintro e w2 ⟨A2, n2, c2, A3, m3, c3, rfl, hs2, hp2, hb2, hne2⟩
        obtain rfl : n = n2 := by have h1 := hs2.len; have h2 := HNL.out; omega
        obtain rfl : 8 = m3 := by have h1 := hp2.ps.len; have h2 := HL.out; omega
        have HD2 := Lib.hid (HD1.out.call hb2)
        have HS2 := Lib.hid hs2
        have HP2 := Lib.hid hp2
        have HNE := Lib.hid hne2
        have HB2 := Lib.hid hb2
        have HW1 : Hid (w.heap.size + 1 + 1 < w1.heap.size) := HD1.out.size
        clear hs2 hp2 hb2 hne2 k0 k1 l0 l1 l2 d0 d1 d2 e0 e1 e2 e3
        obtain ⟨k0, k1, l0, l1, l2⟩ := HD2.out.desk
        obtain ⟨d0, d1, d2, e0, e1, e2, e3⟩ := HD2.out.deed
        go_wp2_with fail
        obtain ⟨w3, hw3⟩ : ∃ w3, w3 = w2.alloc (.cells #[.slice A2 n c2, .slice A3 8 c3] 26) := ⟨_, rfl⟩
        have HG3 := Lib.hid (KAt.new w2 (.slice A2 n c2) (.slice A3 8 c3) 26)
        have HB3 : Hid (Below w2.heap.size w2 w3) := by rw [hw3]; exact below_alloc _ _
        have hw3s : w3.heap.size = w2.heap.size + 1 := by rw [hw3, size_alloc]
        rw [← hw3] at HG3
        have HD3 := Lib.hid (HD2.out.call HB3.out)
        have HX3 : Hid (Cs w3 A n d.now) := ((HV1.out.now.below HB2.out).below HB3.out).cs
        rw [← hw3]
        clear hw3 k0 k1 l0 l1 l2 d0 d1 d2 e0 e1 e2 e3
        refine (HMD.out _ HX3.out).mono ?_
        rintro e w4 ⟨A5, m5, c5, rfl, ho5, hb5⟩
        have HY4 : Hid (Sg w4 (w2.heap.size + 1) A5 m5 c5 y) := (Sg.of ho5).mono (by omega)
        have hm5 : m5 ≤ 16 := by have := HY4.out.len; omega
        have HD4 := Lib.hid (HD3.out.call hb5)
        have HG4 := Lib.hid (HG3.out.below hb5 HG3.out.lt)
        have HB4 : Hid (Below w2.heap.size w2 w4) := HB3.out.trans (hb5.mono HB3.out.size)
        clear ho5 hb5
        obtain ⟨vs, hov, hpv, hpn⟩ := HP2.out
        have HOV := Lib.hid hov
        have HPV := Lib.hid hpv
        have HPN := Lib.hid hpn
        have HOV4 := Lib.hid (hov.below HB4.out)
        have hsz4 : w1.heap.size ≤ w4.heap.size := Nat.le_trans HB2.out.size HB4.out.size
        have hg2 : w.heap.size + 1 + 1 < w2.heap.size := Nat.lt_of_lt_of_le HW1.out HB2.out.size
        clear hov hpv hpn
        obtain ⟨r0, r1, s0, s1, s2⟩ := HD4.out.res
        obtain ⟨g0, g1, q0, q1, q2⟩ := HG4.out
        simp only [Option.isSome_some]
        go_upto_region 13 with (at_builtin; refine wl_appW w1.heap.size (.slice A2 n c2) hsz4 rfl (.tmp 52) (.tmp 55) 24 rfl Tryz.ePs _ 8 vs rfl HOV4.out rfl rfl (by unfold maxLen; omega) (by omega) ?_; intro v6 w6 ho6 hb6 hf6 hl6; obtain ⟨A6, c6, rfl⟩ := ho6.shape; have HST := Lib.hid (do_step (m := 8) (r := w.heap.size + 1 + 1) HW1.out HS2.out HOV.out HPV.out HPN.out HNE.out HB4.out HG4.out.lt HY4.out ho6 hb6.size hf6 hl6); have HG6 := Lib.hid (HG4.out.keep hb6.size HST.out.2.1); have HD6 := Lib.hid (HD4.out.belowB hb6 HW1.out); clear ho6 hb6 hf6 hl6 r0 r1 s0 s1 s2 g0 g1 q0 q1 q2; obtain ⟨g0, g1, q0, q1, q2⟩ := HG6.out; obtain ⟨gg, hgg, hc9, hcm⟩ := HST.out.1.some; subst hgg)
        go_upto_region 15 with fail
        have HG7 : Hid (KAt (((w6.setCell ⟨w2.heap.size, 1, none⟩ (.slice (some ⟨gg, 0, none⟩) 9 c6)).setCell ⟨w2.heap.size, 1, none⟩ (.slice (some ⟨gg, 1, none⟩) 8 (c6 - 1))).alloc (.cells #[] 73)) w2.heap.size (.slice A2 n c2) (.slice (some ⟨gg, 1, none⟩) 8 (c6 - 1))) := ((HG6.out.set1 _).set1 _).below (below_alloc _ _) (by rw [size_set, size_set]; exact HG6.out.lt)
        have HE7 : Hid (Ow (((w6.setCell ⟨w2.heap.size, 1, none⟩ (.slice (some ⟨gg, 0, none⟩) 9 c6)).setCell ⟨w2.heap.size, 1, none⟩ (.slice (some ⟨gg, 1, none⟩) 8 (c6 - 1))).alloc (.cells #[] 73)) w6.heap.size 73 (.slice (some ⟨w6.heap.size, 0, none⟩) 0 0) 0 []) := by
          have h := Ow.empty ((w6.setCell ⟨w2.heap.size, 1, none⟩ (.slice (some ⟨gg, 0, none⟩) 9 c6)).setCell ⟨w2.heap.size, 1, none⟩ (.slice (some ⟨gg, 1, none⟩) 8 (c6 - 1))) 73
          rwa [size_set, size_set] at h
        have HY7 : Hid (Sg (((w6.setCell ⟨w2.heap.size, 1, none⟩ (.slice (some ⟨gg, 0, none⟩) 9 c6)).setCell ⟨w2.heap.size, 1, none⟩ (.slice (some ⟨gg, 1, none⟩) 8 (c6 - 1))).alloc (.cells #[] 73)) (w2.heap.size + 1) A5 m5 c5 y) := (HST.out.2.2.pk (((Pk.refl w2.heap.size w6).setCell 1 _).setCell 1 _) (Nat.lt_succ_self _)).below (below_alloc _ _)
        have HK7 : Hid (∀ b, b < w6.heap.size → ¬ (b = w2.heap.size ∨ b = w.heap.size + 1 + 1) → (((w6.setCell ⟨w2.heap.size, 1, none⟩ (.slice (some ⟨gg, 0, none⟩) 9 c6)).setCell ⟨w2.heap.size, 1, none⟩ (.slice (some ⟨gg, 1, none⟩) 8 (c6 - 1))).alloc (.cells #[] 73)).heap[b]? = w6.heap[b]?) := fun b hb hx => ((below_alloc ((w6.setCell ⟨w2.heap.size, 1, none⟩ (.slice (some ⟨gg, 0, none⟩) 9 c6)).setCell ⟨w2.heap.size, 1, none⟩ (.slice (some ⟨gg, 1, none⟩) 8 (c6 - 1))) _).block b (by rw [size_set, size_set]; exact hb)).trans ((Below.heap_setCell _ _ _ _ fun e => hx (.inl e)).trans (Below.heap_setCell _ _ _ _ fun e => hx (.inl e)))
        have HB7 : Hid (Below w.heap.size w (((w6.setCell ⟨w2.heap.size, 1, none⟩ (.slice (some ⟨gg, 0, none⟩) 9 c6)).setCell ⟨w2.heap.size, 1, none⟩ (.slice (some ⟨gg, 1, none⟩) 8 (c6 - 1))).alloc (.cells #[] 73))) := ((HD6.out.below.setCell (p := ⟨w2.heap.size, 1, none⟩) (by show w.heap.size ≤ w2.heap.size; omega) _).setCell (p := ⟨w2.heap.size, 1, none⟩) (by show w.heap.size ≤ w2.heap.size; omega) _).alloc (by rw [size_set, size_set]; exact HD6.out.below.size) _
        have HR7 : Hid (KAt (((w6.setCell ⟨w2.heap.size, 1, none⟩ (.slice (some ⟨gg, 0, none⟩) 9 c6)).setCell ⟨w2.heap.size, 1, none⟩ (.slice (some ⟨gg, 1, none⟩) 8 (c6 - 1))).alloc (.cells #[] 73)) (w.heap.size + 1 + 1) (.slice none 0 0) (.slice none 0 0)) := (HD6.out.res.keep (by rw [size_set, size_set]; exact Nat.le_refl _) ((Below.heap_setCell _ _ _ _ (by show w.heap.size + 1 + 1 ≠ w2.heap.size; omega)).trans (Below.heap_setCell _ _ _ _ (by show w.heap.size + 1 + 1 ≠ w2.heap.size; omega)))).below (below_alloc _ _) (by rw [size_set, size_set]; exact HD6.out.res.lt)
        have hsz7 : w6.heap.size ≤ (((w6.setCell ⟨w2.heap.size, 1, none⟩ (.slice (some ⟨gg, 0, none⟩) 9 c6)).setCell ⟨w2.heap.size, 1, none⟩ (.slice (some ⟨gg, 1, none⟩) 8 (c6 - 1))).alloc (.cells #[] 73)).heap.size := by rw [size_alloc, size_set, size_set]; omega
        have HW6 : Hid (w2.heap.size < w6.heap.size) := HG6.out.lt
        go_wp2_with (at_builtin; refine wl_appS w6.heap.size (y.map cv) hsz7 rfl (.tmp 66) (.tmp 67) 23 rfl Tryz.eC _ 0 _ rfl HE7.out A5 m5 c5 rfl HY7.out.nil HY7.out.cs (cvs_one _) (by unfold maxLen; omega) (by omega) ?_; intro v8 w8 ho8 hb8; rw [Nat.zero_add, List.nil_append] at ho8; obtain ⟨A8, c8, rfl⟩ := ho8.shape; have HO8 := Lib.hid ho8; have HB8 := Lib.hid hb8; obtain ⟨g0, g1, q0, q1, q2⟩ := HG7.out.below hb8 HW6.out; obtain ⟨r0, r1, s0, s1, s2⟩ := HR7.out.below hb8 (Nat.lt_trans hg2 HW6.out); clear ho8 hb8; have hgr : ¬ w2.heap.size = w.heap.size + 1 + 1 := (by omega))
        have hgr2 : ¬ w.heap.size + 1 + 1 = w2.heap.size := by omega
        have HR : Hid (RetKB w (⟨y, (d.past ++ [d.now]).drop (d.past.length - 7)⟩, true) (.returned (.tuple #[.agg #[.slice A8 m5 c8, .slice (some ⟨gg, 1, none⟩) 8 (c6 - 1)], .bool true])) (((w8.setCell ⟨w2.heap.size, 0, none⟩ (.slice A8 m5 c8)).setCell ⟨w.heap.size + 1 + 1, 0, none⟩ (.slice A8 m5 c8)).setCell ⟨w.heap.size + 1 + 1, 1, none⟩ (.slice (some ⟨gg, 1, none⟩) 8 (c6 - 1)))) := by
          have hk8 : Kx (fun b => b = w2.heap.size ∨ b = w.heap.size + 1 + 1) w6 w8 := ⟨Nat.le_trans hsz7 HB8.out.size, fun b hb hx => (HB8.out.block b hb).trans (HK7.out b hb hx)⟩
          have hkf := ((hk8.trans (Kx.set w8 (p := ⟨w2.heap.size, 0, none⟩) (.inl rfl) (.slice A8 m5 c8))).trans (Kx.set _ (p := ⟨w.heap.size + 1 + 1, 0, none⟩) (.inr rfl) (.slice A8 m5 c8))).trans (Kx.set _ (p := ⟨w.heap.size + 1 + 1, 1, none⟩) (.inr rfl) (.slice (some ⟨gg, 1, none⟩) 8 (c6 - 1)))
          have hpf := (HST.out.1.kx hkf).po
          rw [HL.out, show 8 - 7 = 1 from rfl]
          exact ⟨_, _, _, _, _, _, rfl, (((Sg.of HO8.out).pk ((Pk.refl w2.heap.size w8).setCell 0 _) HW6.out).pk (((Pk.refl (w.heap.size + 1 + 1) _).setCell 0 _).setCell 1 _) (Nat.lt_trans hg2 HW6.out)).mono (by omega), hpf.tail.mono HD1.out.below.size, fun h => absurd h (by show ¬ ((d.past ++ [d.now]).drop 1).length < 8; rw [List.length_drop, List.length_append, HL.out, List.length_singleton]; decide), ((((HB7.out.trans (HB8.out.mono (by omega))).setCell (p := ⟨w2.heap.size, 0, none⟩) (by show w.heap.size ≤ w2.heap.size; omega) _).setCell (p := ⟨w.heap.size + 1 + 1, 0, none⟩) (by show w.heap.size ≤ w.heap.size + 1 + 1; omega) _).setCell (p := ⟨w.heap.size + 1 + 1, 1, none⟩) (by show w.heap.size ≤ w.heap.size + 1 + 1; omega) _)⟩
        go_wp2_with fail
        refine bodyPost_ret (v := .tuple #[.agg #[.slice A8 m5 c8, .slice (some ⟨gg, 1, none⟩) 8 (c6 - 1)], .bool true]) (by simp [results, Tryz.results10, go_sem, r0, r1]) rfl ?_
        rw [HDO.out]
        exact HR.out
end Go.Proofs.YtnomlkkhkacajaaGreatDoor
namespace Go.Proofs.YtnomlkkhkacajaaGreatDoor
open Go.RowKit
open Go.Lib hiding intOf

theorem Sg.kx {w w' : World} {B : Nat} {X : Nat → Prop} {A : Option Addr} {n c : Nat} {x : List C} (h : Sg w B A n c x) (hX : ∀ b, B ≤ b → b < w.heap.size → ¬ X b) (hk : Kx X w w') : Sg w' B A n c x :=
  h.keep hk.size fun ad e hl => hk.block ad.block hl (hX _ (h.ge ad e).1 hl)
theorem Po.kx {w w' : World} {B : Nat} {X : Nat → Prop} {A : Option Addr} {m c : Nat} {ps : List (List C)} (h : Po w B A m c ps) (hX : ∀ b, B ≤ b → b < w.heap.size → ¬ X b) (hk : Kx X w w') : Po w' B A m c ps := by
  obtain ⟨vs, h1, h2, h3⟩ := h
  have hf : Pf w B X A m c ps := ⟨vs, h1, h2, h3, fun ad e => hX _ (h1.ge ad e).1 (h1.ge ad e).2, fun ad n c hm => by
    obtain ⟨z, hz⟩ := h2.mem hm
    exact hX _ (hz.ge ad rfl).1 (hz.ge ad rfl).2⟩
  exact (hf.kx hk).po
theorem Po.some {w : World} {B : Nat} {A : Option Addr} {m c : Nat} {ps : List (List C)} (h : Po w B A m c ps) (hm : 0 < m) : ∃ g, A = some ⟨g, 0, none⟩ ∧ m ≤ c ∧ c ≤ maxLen ∧ B ≤ g ∧ g < w.heap.size := by
  obtain ⟨vs, h1, _⟩ := h
  have hge := h1.ge
  rcases h1.2 with ⟨_, h0⟩ | ⟨g, cap, cur, hv, hg, hh, hn, hc, _⟩
  · omega
  · injection hv with e1 e2 e3
    exact ⟨g, e1, by omega, by omega, (hge _ e1).1, (hge _ e1).2⟩

set_option maxHeartbeats 4000000 in
set_option maxRecDepth 100000 in
theorem sDeskDo_undo (A A' : Option Addr) (n c m c' : Nat) (d : Dk) (w : World) (hd : DkV w 0 A n c A' m d) (hk : dkB d = true) (hu : undB d ⟨6, 0, []⟩ = true) :
    Calls Tryz.prog 10 #[.agg #[.slice A n c, .slice A' m c'], dv ⟨6, 0, []⟩] w (RetKB w (doF d ⟨6, 0, []⟩)) := by
  have hto := bs_nilB
  have hto2 := bs_toL
  have hl := hd.past.len
  have hnl := hd.now.len
  have hm8 : m ≤ 8 := by have := (dkB_iff.1 hk).2.1; omega
  have hn16 : n ≤ 16 := by have := sig_len (dkB_iff.1 hk).1; omega
  obtain ⟨w0, hw0⟩ : ∃ w0, w0 = ((w.alloc (.cells #[.slice A n c, .slice A' m c'] 26)).alloc (.cells #[.int .i64 6, .int .i64 0, .string (bs [])] 28)).alloc (.cells #[.slice none 0 0, .slice none 0 0] 26) := ⟨_, rfl⟩
  have HD0 : Hid (Do3 w A n c A' m c' 6 0 [] w0) := by rw [hw0]; exact Do3.of w A n c A' m c' 6 0 [] _ _ _
  have HV0 : Hid (DkV w0 0 A n c A' m d) := hd.below HD0.out.below
  have hz := DkS.ok hk
  have HOK : Hid (∀ w, DkV w 0 A n c A' m d → Calls Tryz.prog 17 #[.agg #[.slice A n c, .slice A' m c']] w fun e w' => e = .returned (.bool true) ∧ Below w.heap.size w w') := fun w h => by rw [← hk]; exact sDeskOk A A' n c m c' d w h hz
  have HCP : Hid (∀ w, DkV w 0 A n c A' m d → Calls Tryz.prog 39 #[.agg #[.slice A n c, .slice A' m c']] w (RetK w d)) := fun w h => sCopy A A' n c m c' d w h hz
  have HNL := Lib.hid hnl
  have HL := Lib.hid hl
  obtain ⟨k0, k1, l0, l1, l2⟩ := HD0.out.desk
  obtain ⟨d0, d1, d2, e0, e1, e2, e3⟩ := HD0.out.deed
  have hmp : 0 < m := by
    have := undB_past hu
    rw [← hl]
    exact List.length_pos_iff.2 this
  obtain ⟨p, hp⟩ : ∃ p, m = p + 1 := ⟨m - 1, by omega⟩
  have HP := Lib.hid hp
  have e9 : IntKind.i64.wrap ((m : Int) - 1) = (p : Int) := by rw [IntWalk.i64_in _ (by omega)]; omega
  have hpm : (p : Int) < (m : Int) := by omega
  have HDO := Lib.hid (doF_undo hk hu)
  clear hz hk hu hd hl hnl hp
  unfold dv
  go_enter Tryz.func10, Tryz.ntmps10
  go_wp2_with fail
  rw [← hw0]
  clear hw0
  refine (HOK.out _ HV0.out).mono ?_
  rintro e w1 ⟨rfl, hb1⟩
  have HD1 := Lib.hid (HD0.out.call hb1)
  have HV1 := Lib.hid (HV0.out.below hb1)
  clear hb1 k0 k1 l0 l1 l2 d0 d1 d2 e0 e1 e2 e3
  obtain ⟨k0, k1, l0, l1, l2⟩ := HD1.out.desk
  obtain ⟨d0, d1, d2, e0, e1, e2, e3⟩ := HD1.out.deed
  go_wp2_with fail
  refine (HCP.out _ HV1.out).mono ?_
  rintro e w2 ⟨A2, n2, c2, A3, m3, c3, rfl, hs2, hp2, hb2, hne2⟩
  obtain rfl : n = n2 := by have h1 := hs2.len; have h2 := HNL.out; omega
  obtain rfl : m = m3 := by have h1 := hp2.ps.len; have h2 := HL.out; omega
  have HD2 := Lib.hid (HD1.out.call hb2)
  have HS2 := Lib.hid hs2
  have HP2 := Lib.hid hp2
  have HNE := Lib.hid hne2
  have HB2 := Lib.hid hb2
  have HW1 : Hid (w.heap.size + 1 + 1 < w1.heap.size) := HD1.out.size
  clear hs2 hp2 hb2 hne2 k0 k1 l0 l1 l2 d0 d1 d2 e0 e1 e2 e3
  obtain ⟨k0, k1, l0, l1, l2⟩ := HD2.out.desk
  obtain ⟨d0, d1, d2, e0, e1, e2, e3⟩ := HD2.out.deed
  obtain ⟨gg, hgg, hmc, hcm, hgB, hgl⟩ := HP2.out.some hmp
  subst hgg
  obtain ⟨b, o, x, A7, n7, c7, hbo, hbl, hx, hc, hsx⟩ := HP2.out.ps.at_ (k := p) (by omega)
  injection hbo with hbo
  injection hbo with hb1 hb2
  subst hb1; subst hb2
  rw [Nat.zero_add] at hc
  have HXE := Lib.hid hx
  have HSX := Lib.hid hsx
  have hpc : (p : Int) ≤ (c3 : Int) := by omega
  have hpc2 : p ≤ c3 := by omega
  obtain ⟨w3, hw3⟩ : ∃ w3, w3 = w2.alloc (.cells #[.slice A2 n c2, .slice (some ⟨gg, 0, none⟩) m c3] 26) := ⟨_, rfl⟩
  have HG3 := Lib.hid (KAt.new w2 (.slice A2 n c2) (.slice (some ⟨gg, 0, none⟩) m c3) 26)
  rw [← hw3] at HG3
  have HB3 : Hid (Below w2.heap.size w2 w3) := by rw [hw3]; exact below_alloc _ _
  have hc3 : w3.cell? ⟨gg, p, none⟩ = some (.slice A7 n7 c7) := (HB3.out.cell (p := ⟨gg, p, none⟩) hbl).trans hc
  have HD3 := Lib.hid (HD2.out.call HB3.out)
  have hg2 : w.heap.size + 1 + 1 < w2.heap.size := Nat.lt_of_lt_of_le HW1.out HB2.out.size
  clear hx hc hsx
  go_upto_region 5 with fail
  rw [← hw3]
  clear hw3 k0 k1 l0 l1 l2 d0 d1 d2 e0 e1 e2 e3
  obtain ⟨r0, r1, s0, s1, s2⟩ := HD3.out.res
  obtain ⟨g0, g1, q0, q1, q2⟩ := HG3.out
  have hgr : ¬ w2.heap.size = w.heap.size + 1 + 1 := by omega
  have hgr2 : ¬ w.heap.size + 1 + 1 = w2.heap.size := by omega
  have hgr3 : ¬ w2.heap.size = gg := by omega
  have hgr4 : ¬ gg = w2.heap.size := by omega
  have HR : Hid (RetKB w (⟨(d.past.getLast?).getD [], d.past.take (d.past.length - 1)⟩, true) (.returned (.tuple #[.agg #[.slice A7 n7 c7, .slice (some ⟨gg, 0, none⟩) p c3], .bool true])) ((((w3.setCell ⟨w2.heap.size, 0, none⟩ (.slice A7 n7 c7)).setCell ⟨w2.heap.size, 1, none⟩ (.slice (some ⟨gg, 0, none⟩) p c3)).setCell ⟨w.heap.size + 1 + 1, 0, none⟩ (.slice A7 n7 c7)).setCell ⟨w.heap.size + 1 + 1, 1, none⟩ (.slice (some ⟨gg, 0, none⟩) p c3))) := by
    have hX : ∀ b, w1.heap.size ≤ b → b < w2.heap.size → ¬ (b = w2.heap.size ∨ b = w.heap.size + 1 + 1) := fun b h1 h2 hx => by have := HW1.out; rcases hx with hx | hx <;> omega
    have hkf := ((((Kx.of (X := fun b => b = w2.heap.size ∨ b = w.heap.size + 1 + 1) HB3.out).trans (Kx.set w3 (p := ⟨w2.heap.size, 0, none⟩) (.inl rfl) (.slice A7 n7 c7))).trans (Kx.set _ (p := ⟨w2.heap.size, 1, none⟩) (.inl rfl) (.slice (some ⟨gg, 0, none⟩) p c3))).trans (Kx.set _ (p := ⟨w.heap.size + 1 + 1, 0, none⟩) (.inr rfl) (.slice A7 n7 c7))).trans (Kx.set _ (p := ⟨w.heap.size + 1 + 1, 1, none⟩) (.inr rfl) (.slice (some ⟨gg, 0, none⟩) p c3))
    have hs := HSX.out.kx hX hkf
    have h2 := HP2.out
    rw [HP.out] at h2
    have hq := h2.pop.kx hX hkf
    have e1 : (d.past.getLast?).getD [] = x := by rw [List.getLast?_eq_getElem?, HL.out, HP.out, Nat.add_sub_cancel, HXE.out]; rfl
    have e2 : d.past.take (d.past.length - 1) = d.past.take p := by rw [HL.out, HP.out, Nat.add_sub_cancel]
    rw [e1, e2]
    exact ⟨_, _, _, _, _, _, rfl, hs.mono HD1.out.below.size, hq.ps.mono HD1.out.below.size, fun _ => hq.mono HD1.out.below.size, (((HD3.out.below.setCell (p := ⟨w2.heap.size, 0, none⟩) (by show w.heap.size ≤ w2.heap.size; omega) _).setCell (p := ⟨w2.heap.size, 1, none⟩) (by show w.heap.size ≤ w2.heap.size; omega) _).setCell (p := ⟨w.heap.size + 1 + 1, 0, none⟩) (by show w.heap.size ≤ w.heap.size + 1 + 1; omega) _).setCell (p := ⟨w.heap.size + 1 + 1, 1, none⟩) (by show w.heap.size ≤ w.heap.size + 1 + 1; omega) _⟩
  go_wp2_with fail
  refine bodyPost_ret (v := .tuple #[.agg #[.slice A7 n7 c7, .slice (some ⟨gg, 0, none⟩) p c3], .bool true]) (by simp [results, Tryz.results10, go_sem, r0, r1]) rfl ?_
  rw [HDO.out]
  exact HR.out
theorem sDeskDo (A A' : Option Addr) (n c m c' : Nat) (d : Dk) (a : Dd) (w : World) (hd : DkV w 0 A n c A' m d) (hz : DkS d) (hg : dkB d = true → LvOk d.now) (ht : a.text.length ≤ 1073741824) :
    Calls Tryz.prog 10 #[.agg #[.slice A n c, .slice A' m c'], dv a] w (RetKB w (doF d a)) := by
  obtain ⟨k, i, t⟩ := a
  cases hk : dkB d
  · exact sDeskDo_bad A A' n c m c' d k i t w hd hz hk
  · cases hu : undB d ⟨k, i, t⟩
    · exact sDeskDo_made A A' n c m c' d k i t w hd hk hu (hg hk) ht
    · have h := hu
      unfold undB at h
      simp only [Bool.and_eq_true, decide_eq_true_eq] at h
      obtain ⟨⟨⟨rfl, rfl⟩, rfl⟩, _⟩ := h
      exact sDeskDo_undo A A' n c m c' d w hd hk hu
end Go.Proofs.YtnomlkkhkacajaaGreatDoor
