/- Texts on the way to a law (H5), each with its own remark. -/
import Derived.Test.YtnomlkkhkacajaaGreatDoorPC28
import Derived.Test.YtnomlkkhkacajaaGreatDoorPC29
import Derived.Test.YtnomlkkhkacajaaGreatDoorPC15
import Derived.Deep.RegionHeld3
namespace Go.Proofs.YtnomlkkhkacajaaGreatDoor
open Go.RowKit
open Go.Lib hiding intOf

theorem lookP : Tryz.prog.underlying 65 = some (.map 9 64) := Tryz.underlying65
theorem below_d {w w' : World} (h : Below w.drew.heap.size w.drew w') : Below w.heap.size w w' := (Below.refl _ w).drew.trans h
set_option maxHeartbeats 4000000 in
set_option maxRecDepth 100000 in
theorem iDeskDo_bad (A A' : Option Addr) (n c m c' : Nat) (d : Dk) (k i : Int) (t : Txt) (w : World) (hd : DkV w 0 A n c A' m d) (hz : DkS d) (hk : dkB d = false) :
    Calls Tryz.prog 9 #[.agg #[.slice A n c, .slice A' m c'], dv ⟨k, i, t⟩] w (RetKB w (doF d ⟨k, i, t⟩)) := by
  obtain ⟨w0, hw0⟩ : ∃ w0, w0 = ((w.alloc (.cells #[.slice A n c, .slice A' m c'] 26)).alloc (.cells #[.int .i64 k, .int .i64 i, .string (bs t)] 28)).alloc (.cells #[.slice none 0 0, .slice none 0 0] 26) := ⟨_, rfl⟩
  have HD0 : Hid (Do3 w A n c A' m c' k i t w0) := by rw [hw0]; exact Do3.of w A n c A' m c' k i t _ _ _
  have HV0 : Hid (DkV w0 0 A n c A' m d) := hd.below HD0.out.below
  have HOK : Hid (∀ w, DkV w 0 A n c A' m d → Calls Tryz.prog 12 #[.agg #[.slice A n c, .slice A' m c']] w fun e w' => e = .returned (.bool false) ∧ Below w.heap.size w w') := fun w h => by rw [← hk]; exact iDeskOk A A' n c m c' d w h hz
  have HDO := Lib.hid (doF_bad ⟨k, i, t⟩ hk)
  obtain ⟨k0, k1, l0, l1, l2⟩ := HD0.out.desk
  clear hd hz hk
  unfold dv
  go_enter Tryz.func9, Tryz.ntmps9
  go_wp2_with fail
  rw [← hw0]
  clear hw0
  refine (HOK.out _ HV0.out).mono ?_
  rintro e w1 ⟨rfl, hb1⟩
  have HD1 := Lib.hid (HD0.out.call hb1)
  clear hb1 k0 k1 l0 l1 l2
  obtain ⟨r0, r1, s0, s1, s2⟩ := HD1.out.res
  have HB : Hid (Below w.heap.size w ((w1.setCell ⟨w.heap.size + 1 + 1, 0, none⟩ (.slice none 0 0)).setCell ⟨w.heap.size + 1 + 1, 1, none⟩ (.slice none 0 0))) := (HD1.out.below.setCell (p := ⟨w.heap.size + 1 + 1, 0, none⟩) (by show w.heap.size ≤ w.heap.size + 1 + 1; omega) _).setCell (p := ⟨w.heap.size + 1 + 1, 1, none⟩) (by show w.heap.size ≤ w.heap.size + 1 + 1; omega) _
  go_wp2_with fail
  refine bodyPost_ret (v := .tuple #[.agg #[.slice none 0 0, .slice none 0 0], .bool false]) (by simp [results, Tryz.results9, go_sem, r0, r1]) rfl ?_
  rw [HDO.out]
  exact ⟨_, _, _, _, _, _, rfl, Sg.nil_ _ _, Ps.nil _ _, fun _ => Po.nil _ _, HB.out⟩

set_option maxHeartbeats 4000000 in
set_option maxRecDepth 100000 in
theorem iDeskDo_not (A A' : Option Addr) (n c m c' : Nat) (d : Dk) (k i : Int) (t : Txt) (w : World) (hd : DkV w 0 A n c A' m d) (hk : dkB d = true) (hok : okD ⟨k, i, t⟩ = false) :
    Calls Tryz.prog 9 #[.agg #[.slice A n c, .slice A' m c'], dv ⟨k, i, t⟩] w (RetKB w (d, false)) := by
  have hl := hd.past.len
  have hnl := hd.now.len
  have hm8 : m ≤ 8 := by have := (dkB_iff.1 hk).2.1; omega
  have hn16 : n ≤ 16 := by have := sig_len (dkB_iff.1 hk).1; omega
  obtain ⟨w0, hw0⟩ : ∃ w0, w0 = ((w.alloc (.cells #[.slice A n c, .slice A' m c'] 26)).alloc (.cells #[.int .i64 k, .int .i64 i, .string (bs t)] 28)).alloc (.cells #[.slice none 0 0, .slice none 0 0] 26) := ⟨_, rfl⟩
  have HD0 : Hid (Do3 w A n c A' m c' k i t w0) := by rw [hw0]; exact Do3.of w A n c A' m c' k i t _ _ _
  have HV0 : Hid (DkV w0 0 A n c A' m d) := hd.below HD0.out.below
  have hz := DkS.ok hk
  have HOK : Hid (∀ w, DkV w 0 A n c A' m d → Calls Tryz.prog 12 #[.agg #[.slice A n c, .slice A' m c']] w fun e w' => e = .returned (.bool true) ∧ Below w.heap.size w w') := fun w h => by rw [← hk]; exact iDeskOk A A' n c m c' d w h hz
  have HCP : Hid (∀ w, DkV w 0 A n c A' m d → Calls Tryz.prog 35 #[.agg #[.slice A n c, .slice A' m c']] w (RetK w d)) := fun w h => iCopied A A' n c m c' d w h hz
  have HNL := Lib.hid hnl
  have HL := Lib.hid hl
  obtain ⟨k0, k1, l0, l1, l2⟩ := HD0.out.desk
  obtain ⟨d0, d1, d2, e0, e1, e2, e3⟩ := HD0.out.deed
  have HDK : Hid (∀ w, Calls Tryz.prog 36 #[.agg #[.int .i64 k, .int .i64 i, .string (bs t)]] w fun e w' => e = .returned (.bool false) ∧ Below w.heap.size w w') := fun w => by have h := iDeedOk ⟨k, i, t⟩ w; rw [hok] at h; exact h
  clear hok hz hk hd hl hnl
  unfold dv
  go_enter Tryz.func9, Tryz.ntmps9
  go_wp2_with fail
  rw [← hw0]
  clear hw0
  refine (HOK.out _ HV0.out).mono ?_
  rintro e w1 ⟨rfl, hb1⟩
  have HD1 := Lib.hid (HD0.out.call hb1)
  have HV1 := Lib.hid (HV0.out.below hb1)
  clear hb1 k0 k1 l0 l1 l2 d0 d1 d2 e0 e1 e2 e3
  obtain ⟨k0, k1, l0, l1, l2⟩ := HD1.out.desk
  obtain ⟨d0, d1, d2, e0, e1, e2, e3⟩ := HD1.out.deed
  go_wp2_with fail
  refine (HCP.out _ HV1.out).mono ?_
  rintro e w2 ⟨A2, n2, c2, A3, m3, c3, rfl, hs2, hp2, hb2, hne2⟩
  obtain rfl : n = n2 := by have h1 := hs2.len; have h2 := HNL.out; omega
  obtain rfl : m = m3 := by have h1 := hp2.ps.len; have h2 := HL.out; omega
  have HD2 := Lib.hid (HD1.out.call hb2)
  have HV2 := Lib.hid (HV1.out.below hb2)
  have HS2 := Lib.hid hs2
  have HP2 := Lib.hid hp2
  have HNE := Lib.hid hne2
  have HB2 := Lib.hid hb2
  have HW1 : Hid (w.heap.size + 1 + 1 < w1.heap.size) := HD1.out.size
  have hg2 : w.heap.size + 1 + 1 < w2.heap.size := Nat.lt_of_lt_of_le HW1.out HB2.out.size
  clear hs2 hp2 hb2 hne2 k0 k1 l0 l1 l2 d0 d1 d2 e0 e1 e2 e3
  obtain ⟨w3, hw3⟩ : ∃ w3, w3 = w2.alloc (.cells #[.slice A2 n c2, .slice A3 m c3] 26) := ⟨_, rfl⟩
  have HG3 := Lib.hid (KAt.new w2 (.slice A2 n c2) (.slice A3 m c3) 26)
  have HB3 : Hid (Below w2.heap.size w2 w3) := by rw [hw3]; exact below_alloc _ _
  rw [← hw3] at HG3
  have HD3 := Lib.hid (HD2.out.call HB3.out)
  have HV3 := Lib.hid (HV2.out.below HB3.out)
  obtain ⟨k0, k1, l0, l1, l2⟩ := HD2.out.desk
  obtain ⟨d0, d1, d2, e0, e1, e2, e3⟩ := HD2.out.deed
  go_wp2_with fail
  rw [← hw3]
  clear hw3 k0 k1 l0 l1 l2 d0 d1 d2 e0 e1 e2 e3
  refine (HDK.out _).mono ?_
  rintro e w4 ⟨rfl, hb4⟩
  have HD4 := Lib.hid (HD3.out.call hb4)
  have HV4 := Lib.hid (HV3.out.below hb4)
  have HG4 := Lib.hid (HG3.out.below hb4 HG3.out.lt)
  have HB4 : Hid (Below w2.heap.size w2 w4) := HB3.out.trans (hb4.mono HB3.out.size)
  clear hb4
  obtain ⟨g0, g1, q0, q1, q2⟩ := HG4.out
  obtain ⟨r0, r1, s0, s1, s2⟩ := HD4.out.res
  have HB8 : Hid (Below w2.heap.size w2 w4) := HB4.out
  have HPK : Hid (Pk (w.heap.size + 1 + 1) w4 ((w4.setCell ⟨w.heap.size + 1 + 1, 0, none⟩ (.slice A2 n c2)).setCell ⟨w.heap.size + 1 + 1, 1, none⟩ (.slice A3 m c3))) := ((Pk.refl _ w4).setCell 0 _).setCell 1 _
  have HR : Hid (RetKB w (d, false) (.returned (.tuple #[.agg #[.slice A2 n c2, .slice A3 m c3], .bool false])) ((w4.setCell ⟨w.heap.size + 1 + 1, 0, none⟩ (.slice A2 n c2)).setCell ⟨w.heap.size + 1 + 1, 1, none⟩ (.slice A3 m c3))) := ⟨_, _, _, _, _, _, rfl, ((HS2.out.below HB8.out).pk HPK.out HW1.out).mono HD1.out.below.size, ((HP2.out.below HB8.out).pk HPK.out HW1.out).ps.mono HD1.out.below.size, fun _ => ((HP2.out.below HB8.out).pk HPK.out HW1.out).mono HD1.out.below.size, (HD4.out.below.setCell (p := ⟨w.heap.size + 1 + 1, 0, none⟩) (by show w.heap.size ≤ w.heap.size + 1 + 1; omega) _).setCell (p := ⟨w.heap.size + 1 + 1, 1, none⟩) (by show w.heap.size ≤ w.heap.size + 1 + 1; omega) _⟩
  go_wp2_with fail
  refine bodyPost_ret (v := .tuple #[.agg #[.slice A2 n c2, .slice A3 m c3], .bool false]) (by simp [results, Tryz.results9, go_sem, r0, r1]) rfl ?_
  exact HR.out
set_option maxHeartbeats 4000000 in
set_option maxRecDepth 100000 in
theorem iDeskDo_none (A A' : Option Addr) (n c m c' : Nat) (d : Dk) (k i : Int) (t : Txt) (w : World) (hd : DkV w 0 A n c A' m d) (hk : dkB d = true) (F j : Nat) (y : List C) (hok : okD ⟨k, i, t⟩ = true) (hF : Instr.findNow .string (.string (bs (wordOf k))) waysL 0 = some (some (j, .func (.func F) #[] #[]))) (hcf : ∀ args w, (callFunc F args).run Tryz.prog w = .ok (.enter F args) w) (hE : EnvA w) (hW : ∀ w', DkV w' 0 A n c A' m d → EnvA w' → Calls Tryz.prog F #[.agg #[.slice A n c, .slice A' m c'], .agg #[.int .i64 k, .int .i64 i, .string (bs t)]] w' (RetC w' y false)) :
    Calls Tryz.prog 9 #[.agg #[.slice A n c, .slice A' m c'], dv ⟨k, i, t⟩] w (RetKB w (d, false)) := by
  have hl := hd.past.len
  have hnl := hd.now.len
  have hm8 : m ≤ 8 := by have := (dkB_iff.1 hk).2.1; omega
  have hn16 : n ≤ 16 := by have := sig_len (dkB_iff.1 hk).1; omega
  obtain ⟨w0, hw0⟩ : ∃ w0, w0 = ((w.alloc (.cells #[.slice A n c, .slice A' m c'] 26)).alloc (.cells #[.int .i64 k, .int .i64 i, .string (bs t)] 28)).alloc (.cells #[.slice none 0 0, .slice none 0 0] 26) := ⟨_, rfl⟩
  have HD0 : Hid (Do3 w A n c A' m c' k i t w0) := by rw [hw0]; exact Do3.of w A n c A' m c' k i t _ _ _
  have HV0 : Hid (DkV w0 0 A n c A' m d) := hd.below HD0.out.below
  have hz := DkS.ok hk
  have HOK : Hid (∀ w, DkV w 0 A n c A' m d → Calls Tryz.prog 12 #[.agg #[.slice A n c, .slice A' m c']] w fun e w' => e = .returned (.bool true) ∧ Below w.heap.size w w') := fun w h => by rw [← hk]; exact iDeskOk A A' n c m c' d w h hz
  have HCP : Hid (∀ w, DkV w 0 A n c A' m d → Calls Tryz.prog 35 #[.agg #[.slice A n c, .slice A' m c']] w (RetK w d)) := fun w h => iCopied A A' n c m c' d w h hz
  have HNL := Lib.hid hnl
  have HL := Lib.hid hl
  obtain ⟨k0, k1, l0, l1, l2⟩ := HD0.out.desk
  obtain ⟨d0, d1, d2, e0, e1, e2, e3⟩ := HD0.out.deed
  have HDK : Hid (∀ w, Calls Tryz.prog 36 #[.agg #[.int .i64 k, .int .i64 i, .string (bs t)]] w fun e w' => e = .returned (.bool true) ∧ Below w.heap.size w w') := fun w => by have h := iDeedOk ⟨k, i, t⟩ w; rw [hok] at h; exact h
  have HWY := Lib.hid iWays
  have HWD := Lib.hid (fun w => iWord k w)
  have HLK : Hid (∀ w b, w.heap[b]? = some (.map waysL.toArray 7) → (Instr.lookup 65 (.map (some b)) (.string (bs (wordOf k))) false).run Tryz.prog w = .ok (.func (.func F) #[] #[]) w) := fun w b h => lk_run lookP Tryz.underlying9 h hF
  have HW := Lib.hid hW
  have HE := Lib.hid hE
  clear hW hF hok hE hz hk hd hl hnl
  unfold dv
  go_enter Tryz.func9, Tryz.ntmps9
  go_wp2_with fail
  rw [← hw0]
  clear hw0
  refine (HOK.out _ HV0.out).mono ?_
  rintro e w1 ⟨rfl, hb1⟩
  have HD1 := Lib.hid (HD0.out.call hb1)
  have HV1 := Lib.hid (HV0.out.below hb1)
  clear hb1 k0 k1 l0 l1 l2 d0 d1 d2 e0 e1 e2 e3
  obtain ⟨k0, k1, l0, l1, l2⟩ := HD1.out.desk
  obtain ⟨d0, d1, d2, e0, e1, e2, e3⟩ := HD1.out.deed
  go_wp2_with fail
  refine (HCP.out _ HV1.out).mono ?_
  rintro e w2 ⟨A2, n2, c2, A3, m3, c3, rfl, hs2, hp2, hb2, hne2⟩
  obtain rfl : n = n2 := by have h1 := hs2.len; have h2 := HNL.out; omega
  obtain rfl : m = m3 := by have h1 := hp2.ps.len; have h2 := HL.out; omega
  have HD2 := Lib.hid (HD1.out.call hb2)
  have HV2 := Lib.hid (HV1.out.below hb2)
  have HS2 := Lib.hid hs2
  have HP2 := Lib.hid hp2
  have HNE := Lib.hid hne2
  have HB2 := Lib.hid hb2
  have HW1 : Hid (w.heap.size + 1 + 1 < w1.heap.size) := HD1.out.size
  have hg2 : w.heap.size + 1 + 1 < w2.heap.size := Nat.lt_of_lt_of_le HW1.out HB2.out.size
  clear hs2 hp2 hb2 hne2 k0 k1 l0 l1 l2 d0 d1 d2 e0 e1 e2 e3
  obtain ⟨w3, hw3⟩ : ∃ w3, w3 = w2.alloc (.cells #[.slice A2 n c2, .slice A3 m c3] 26) := ⟨_, rfl⟩
  have HG3 := Lib.hid (KAt.new w2 (.slice A2 n c2) (.slice A3 m c3) 26)
  have HB3 : Hid (Below w2.heap.size w2 w3) := by rw [hw3]; exact below_alloc _ _
  rw [← hw3] at HG3
  have HD3 := Lib.hid (HD2.out.call HB3.out)
  have HV3 := Lib.hid (HV2.out.below HB3.out)
  obtain ⟨k0, k1, l0, l1, l2⟩ := HD2.out.desk
  obtain ⟨d0, d1, d2, e0, e1, e2, e3⟩ := HD2.out.deed
  go_wp2_with fail
  rw [← hw3]
  clear hw3 k0 k1 l0 l1 l2 d0 d1 d2 e0 e1 e2 e3
  refine (HDK.out _).mono ?_
  rintro e w4 ⟨rfl, hb4⟩
  have HD4 := Lib.hid (HD3.out.call hb4)
  have HV4 := Lib.hid (HV3.out.below hb4)
  have HG4 := Lib.hid (HG3.out.below hb4 HG3.out.lt)
  have HB4 : Hid (Below w2.heap.size w2 w4) := HB3.out.trans (hb4.mono HB3.out.size)
  clear hb4
  obtain ⟨k0, k1, l0, l1, l2⟩ := HD4.out.desk
  obtain ⟨d0, d1, d2, e0, e1, e2, e3⟩ := HD4.out.deed
  go_wp2_with fail
  go_region_held3 (fun w' => w'.cell? ⟨w.heap.size, 0, none⟩ = some (.slice A n c) ∧ w'.cell? ⟨w.heap.size, 1, none⟩ = some (.slice A' m c') ∧ w'.cell? ⟨w.heap.size + 1, 0, none⟩ = some (.int .i64 k) ∧ w'.cell? ⟨w.heap.size + 1, 1, none⟩ = some (.int .i64 i) ∧ w'.cell? ⟨w.heap.size + 1, 2, none⟩ = some (.string (bs t)))
    (first | exact ⟨k8, k9, d8, d9, d10⟩ | exact ⟨k5, k6, d5, d6, d7⟩ | exact ⟨k0, k1, d0, d1, d2⟩)
    ((first
      | (go_at_call 37; refine (HWY.out _).mono ?_; rintro e w5 ⟨bm, rfl, hm5, hb5⟩; have hlk := HLK.out w5 bm hm5; have HB5 := Lib.hid (below_d hb5); have HD5 := Lib.hid (HD4.out.call HB5.out); have HV5 := Lib.hid (HV4.out.below HB5.out); have HE5 : Hid (EnvA w5) := HE.out.kp (Kp.below HD5.out.below); clear hm5 hb5; obtain ⟨k5, k6, l5, l6, l7⟩ := HD5.out.desk; obtain ⟨d5, d6, d7, e5, e6, e7, e8⟩ := HD5.out.deed)
      | (go_at_call 38; refine (HWD.out _).mono ?_; rintro e w6 ⟨rfl, hw6⟩; obtain rfl := hw6.symm)
      | ((with_reducible refine Calls.mono (HW.out _ HV5.out HE5.out) ?_); rintro e w7 ⟨A5, m5, c5, rfl, ho5, hb7⟩; have HB7 : Hid (Below w4.heap.size w4 w7) := HB5.out.trans (hb7.mono HB5.out.size); have HY7 : Hid (Sg w7 w4.heap.size A5 m5 c5 y) := (Sg.of (by have h1 := ho5.len; rw [List.length_map] at h1; exact ho5)).mono HB5.out.size; have HD7 := Lib.hid (HD4.out.call HB7.out); have HG7 := Lib.hid (HG4.out.below HB7.out HG4.out.lt); clear ho5 hb7 hlk; obtain ⟨k8, k9, l8, l9, l10⟩ := HD7.out.desk; obtain ⟨d8, d9, d10, e8, e9, e10, e11⟩ := HD7.out.deed)))
  clear k0 k1 l0 l1 l2 d0 d1 d2 e0 e1 e2 e3
  obtain ⟨k0, k1, l0, l1, l2⟩ := HD7.out.desk
  obtain ⟨g0, g1, q0, q1, q2⟩ := HG7.out
  obtain ⟨r0, r1, s0, s1, s2⟩ := HD7.out.res
  obtain ⟨d0, d1, d2, e0, e1, e2, e3⟩ := HD7.out.deed
  have HB8 : Hid (Below w2.heap.size w2 w7) := HB4.out.trans (HB7.out.mono HB4.out.size)
  have HPK : Hid (Pk (w.heap.size + 1 + 1) w7 ((w7.setCell ⟨w.heap.size + 1 + 1, 0, none⟩ (.slice A2 n c2)).setCell ⟨w.heap.size + 1 + 1, 1, none⟩ (.slice A3 m c3))) := ((Pk.refl _ w7).setCell 0 _).setCell 1 _
  have HR : Hid (RetKB w (d, false) (.returned (.tuple #[.agg #[.slice A2 n c2, .slice A3 m c3], .bool false])) ((w7.setCell ⟨w.heap.size + 1 + 1, 0, none⟩ (.slice A2 n c2)).setCell ⟨w.heap.size + 1 + 1, 1, none⟩ (.slice A3 m c3))) := ⟨_, _, _, _, _, _, rfl, ((HS2.out.below HB8.out).pk HPK.out HW1.out).mono HD1.out.below.size, ((HP2.out.below HB8.out).pk HPK.out HW1.out).ps.mono HD1.out.below.size, fun _ => ((HP2.out.below HB8.out).pk HPK.out HW1.out).mono HD1.out.below.size, (HD7.out.below.setCell (p := ⟨w.heap.size + 1 + 1, 0, none⟩) (by show w.heap.size ≤ w.heap.size + 1 + 1; omega) _).setCell (p := ⟨w.heap.size + 1 + 1, 1, none⟩) (by show w.heap.size ≤ w.heap.size + 1 + 1; omega) _⟩
  go_wp2_with fail
  refine bodyPost_ret (v := .tuple #[.agg #[.slice A2 n c2, .slice A3 m c3], .bool false]) (by simp [results, Tryz.results9, go_sem, r0, r1]) rfl ?_
  exact HR.out
set_option maxHeartbeats 4000000 in
set_option maxRecDepth 100000 in
theorem iDeskDo_undo (A A' : Option Addr) (n c m c' : Nat) (d : Dk) (k i : Int) (t : Txt) (w : World) (hd : DkV w 0 A n c A' m d) (hk : dkB d = true) (F j : Nat) (y : List C) (hk6 : k = 6) (hm0 : 0 < m) (hok : okD ⟨k, i, t⟩ = true) (hF : Instr.findNow .string (.string (bs (wordOf k))) waysL 0 = some (some (j, .func (.func F) #[] #[]))) (hcf : ∀ args w, (callFunc F args).run Tryz.prog w = .ok (.enter F args) w) (hE : EnvA w) (hW : ∀ w', DkV w' 0 A n c A' m d → EnvA w' → Calls Tryz.prog F #[.agg #[.slice A n c, .slice A' m c'], .agg #[.int .i64 k, .int .i64 i, .string (bs t)]] w' (RetC w' y true)) :
    Calls Tryz.prog 9 #[.agg #[.slice A n c, .slice A' m c'], dv ⟨k, i, t⟩] w (RetKB w (⟨y, d.past.take (d.past.length - 1)⟩, true)) := by
  subst hk6
  have hl := hd.past.len
  have hnl := hd.now.len
  have hm8 : m ≤ 8 := by have := (dkB_iff.1 hk).2.1; omega
  have hn16 : n ≤ 16 := by have := sig_len (dkB_iff.1 hk).1; omega
  obtain ⟨w0, hw0⟩ : ∃ w0, w0 = ((w.alloc (.cells #[.slice A n c, .slice A' m c'] 26)).alloc (.cells #[.int .i64 6, .int .i64 i, .string (bs t)] 28)).alloc (.cells #[.slice none 0 0, .slice none 0 0] 26) := ⟨_, rfl⟩
  have HD0 : Hid (Do3 w A n c A' m c' 6 i t w0) := by rw [hw0]; exact Do3.of w A n c A' m c' 6 i t _ _ _
  have HV0 : Hid (DkV w0 0 A n c A' m d) := hd.below HD0.out.below
  have hz := DkS.ok hk
  have HOK : Hid (∀ w, DkV w 0 A n c A' m d → Calls Tryz.prog 12 #[.agg #[.slice A n c, .slice A' m c']] w fun e w' => e = .returned (.bool true) ∧ Below w.heap.size w w') := fun w h => by rw [← hk]; exact iDeskOk A A' n c m c' d w h hz
  have HCP : Hid (∀ w, DkV w 0 A n c A' m d → Calls Tryz.prog 35 #[.agg #[.slice A n c, .slice A' m c']] w (RetK w d)) := fun w h => iCopied A A' n c m c' d w h hz
  have HNL := Lib.hid hnl
  have HL := Lib.hid hl
  obtain ⟨k0, k1, l0, l1, l2⟩ := HD0.out.desk
  obtain ⟨d0, d1, d2, e0, e1, e2, e3⟩ := HD0.out.deed
  obtain ⟨p, hp⟩ : ∃ p, m = p + 1 := ⟨m - 1, by omega⟩
  have HP := Lib.hid hp
  have e9 : IntKind.i64.wrap ((m : Int) - 1) = (p : Int) := by rw [IntWalk.i64_in _ (by omega)]; omega
  have hpm : (p : Int) < (m : Int) := by omega
  have HDK : Hid (∀ w, Calls Tryz.prog 36 #[.agg #[.int .i64 6, .int .i64 i, .string (bs t)]] w fun e w' => e = .returned (.bool true) ∧ Below w.heap.size w w') := fun w => by have h := iDeedOk ⟨6, i, t⟩ w; rw [hok] at h; exact h
  have HWY := Lib.hid iWays
  have HWD := Lib.hid (fun w => iWord 6 w)
  have HLK : Hid (∀ w b, w.heap[b]? = some (.map waysL.toArray 7) → (Instr.lookup 65 (.map (some b)) (.string (bs (wordOf 6))) false).run Tryz.prog w = .ok (.func (.func F) #[] #[]) w) := fun w b h => lk_run lookP Tryz.underlying9 h hF
  have HW := Lib.hid hW
  have HE := Lib.hid hE
  clear hW hF hok hE hz hk hd hl hnl hp
  unfold dv
  go_enter Tryz.func9, Tryz.ntmps9
  go_wp2_with fail
  rw [← hw0]
  clear hw0
  refine (HOK.out _ HV0.out).mono ?_
  rintro e w1 ⟨rfl, hb1⟩
  have HD1 := Lib.hid (HD0.out.call hb1)
  have HV1 := Lib.hid (HV0.out.below hb1)
  clear hb1 k0 k1 l0 l1 l2 d0 d1 d2 e0 e1 e2 e3
  obtain ⟨k0, k1, l0, l1, l2⟩ := HD1.out.desk
  obtain ⟨d0, d1, d2, e0, e1, e2, e3⟩ := HD1.out.deed
  go_wp2_with fail
  refine (HCP.out _ HV1.out).mono ?_
  rintro e w2 ⟨A2, n2, c2, A3, m3, c3, rfl, hs2, hp2, hb2, hne2⟩
  obtain rfl : n = n2 := by have h1 := hs2.len; have h2 := HNL.out; omega
  obtain rfl : m = m3 := by have h1 := hp2.ps.len; have h2 := HL.out; omega
  have HD2 := Lib.hid (HD1.out.call hb2)
  have HV2 := Lib.hid (HV1.out.below hb2)
  have HS2 := Lib.hid hs2
  have HP2 := Lib.hid hp2
  have HNE := Lib.hid hne2
  have HB2 := Lib.hid hb2
  have HW1 : Hid (w.heap.size + 1 + 1 < w1.heap.size) := HD1.out.size
  have hg2 : w.heap.size + 1 + 1 < w2.heap.size := Nat.lt_of_lt_of_le HW1.out HB2.out.size
  clear hs2 hp2 hb2 hne2 k0 k1 l0 l1 l2 d0 d1 d2 e0 e1 e2 e3
  obtain ⟨w3, hw3⟩ : ∃ w3, w3 = w2.alloc (.cells #[.slice A2 n c2, .slice A3 m c3] 26) := ⟨_, rfl⟩
  have HG3 := Lib.hid (KAt.new w2 (.slice A2 n c2) (.slice A3 m c3) 26)
  have HB3 : Hid (Below w2.heap.size w2 w3) := by rw [hw3]; exact below_alloc _ _
  rw [← hw3] at HG3
  have HD3 := Lib.hid (HD2.out.call HB3.out)
  have HV3 := Lib.hid (HV2.out.below HB3.out)
  obtain ⟨k0, k1, l0, l1, l2⟩ := HD2.out.desk
  obtain ⟨d0, d1, d2, e0, e1, e2, e3⟩ := HD2.out.deed
  go_wp2_with fail
  rw [← hw3]
  clear hw3 k0 k1 l0 l1 l2 d0 d1 d2 e0 e1 e2 e3
  refine (HDK.out _).mono ?_
  rintro e w4 ⟨rfl, hb4⟩
  have HD4 := Lib.hid (HD3.out.call hb4)
  have HV4 := Lib.hid (HV3.out.below hb4)
  have HG4 := Lib.hid (HG3.out.below hb4 HG3.out.lt)
  have HB4 : Hid (Below w2.heap.size w2 w4) := HB3.out.trans (hb4.mono HB3.out.size)
  clear hb4
  obtain ⟨gg, hgg, hmc, hcm, hgB, hgl⟩ := HP2.out.some hm0
  subst hgg
  have hpc : (p : Int) ≤ (c3 : Int) := by have := HP.out; omega
  have hpc2 : p ≤ c3 := by omega
  obtain ⟨k0, k1, l0, l1, l2⟩ := HD4.out.desk
  obtain ⟨d0, d1, d2, e0, e1, e2, e3⟩ := HD4.out.deed
  go_wp2_with fail
  go_region_held3 (fun w' => w'.cell? ⟨w.heap.size, 0, none⟩ = some (.slice A n c) ∧ w'.cell? ⟨w.heap.size, 1, none⟩ = some (.slice A' m c') ∧ w'.cell? ⟨w.heap.size + 1, 0, none⟩ = some (.int .i64 6) ∧ w'.cell? ⟨w.heap.size + 1, 1, none⟩ = some (.int .i64 i) ∧ w'.cell? ⟨w.heap.size + 1, 2, none⟩ = some (.string (bs t)))
    (first | exact ⟨k8, k9, d8, d9, d10⟩ | exact ⟨k5, k6, d5, d6, d7⟩ | exact ⟨k0, k1, d0, d1, d2⟩)
    ((first
      | (go_at_call 37; refine (HWY.out _).mono ?_; rintro e w5 ⟨bm, rfl, hm5, hb5⟩; have hlk := HLK.out w5 bm hm5; have HB5 := Lib.hid (below_d hb5); have HD5 := Lib.hid (HD4.out.call HB5.out); have HV5 := Lib.hid (HV4.out.below HB5.out); have HE5 : Hid (EnvA w5) := HE.out.kp (Kp.below HD5.out.below); clear hm5 hb5; obtain ⟨k5, k6, l5, l6, l7⟩ := HD5.out.desk; obtain ⟨d5, d6, d7, e5, e6, e7, e8⟩ := HD5.out.deed)
      | (go_at_call 38; refine (HWD.out _).mono ?_; rintro e w6 ⟨rfl, hw6⟩; obtain rfl := hw6.symm)
      | ((with_reducible refine Calls.mono (HW.out _ HV5.out HE5.out) ?_); rintro e w7 ⟨A5, m5, c5, rfl, ho5, hb7⟩; have HB7 : Hid (Below w4.heap.size w4 w7) := HB5.out.trans (hb7.mono HB5.out.size); have HY7 : Hid (Sg w7 w4.heap.size A5 m5 c5 y) := (Sg.of (by have h1 := ho5.len; rw [List.length_map] at h1; exact ho5)).mono HB5.out.size; have HD7 := Lib.hid (HD4.out.call HB7.out); have HG7 := Lib.hid (HG4.out.below HB7.out HG4.out.lt); clear ho5 hb7 hlk; obtain ⟨k8, k9, l8, l9, l10⟩ := HD7.out.desk; obtain ⟨d8, d9, d10, e8, e9, e10, e11⟩ := HD7.out.deed)))
  clear k0 k1 l0 l1 l2 d0 d1 d2 e0 e1 e2 e3
  obtain ⟨k0, k1, l0, l1, l2⟩ := HD7.out.desk
  obtain ⟨g0, g1, q0, q1, q2⟩ := HG7.out
  obtain ⟨r0, r1, s0, s1, s2⟩ := HD7.out.res
  obtain ⟨d0, d1, d2, e0, e1, e2, e3⟩ := HD7.out.deed
  have hgr : ¬ w2.heap.size = w.heap.size + 1 + 1 := by omega
  have hgr2 : ¬ w.heap.size + 1 + 1 = w2.heap.size := by omega
  have HR : Hid (RetKB w (⟨y, d.past.take (d.past.length - 1)⟩, true) (.returned (.tuple #[.agg #[.slice A5 m5 c5, .slice (some ⟨gg, 0, none⟩) p c3], .bool true])) ((((w7.setCell ⟨w2.heap.size, 1, none⟩ (.slice (some ⟨gg, 0, none⟩) p c3)).setCell ⟨w2.heap.size, 0, none⟩ (.slice A5 m5 c5)).setCell ⟨w.heap.size + 1 + 1, 0, none⟩ (.slice A5 m5 c5)).setCell ⟨w.heap.size + 1 + 1, 1, none⟩ (.slice (some ⟨gg, 0, none⟩) p c3))) := by
    have hX : ∀ b, w1.heap.size ≤ b → b < w2.heap.size → ¬ (b = w2.heap.size ∨ b = w.heap.size + 1 + 1) := fun b h1 h2 hx => by have := HW1.out; rcases hx with hx | hx <;> omega
    have hX7 : ∀ b, w4.heap.size ≤ b → b < w7.heap.size → ¬ (b = w2.heap.size ∨ b = w.heap.size + 1 + 1) := fun b h1 h2 hx => by have := HG4.out.lt; rcases hx with hx | hx <;> omega
    have hk7 : Kx (fun b => b = w2.heap.size ∨ b = w.heap.size + 1 + 1) w2 w7 := Kx.of (HB4.out.trans (HB7.out.mono HB4.out.size))
    have hks := (((Kx.set w7 (X := fun b => b = w2.heap.size ∨ b = w.heap.size + 1 + 1) (p := ⟨w2.heap.size, 1, none⟩) (.inl rfl) (.slice (some ⟨gg, 0, none⟩) p c3)).trans (Kx.set _ (p := ⟨w2.heap.size, 0, none⟩) (.inl rfl) (.slice A5 m5 c5))).trans (Kx.set _ (p := ⟨w.heap.size + 1 + 1, 0, none⟩) (.inr rfl) (.slice A5 m5 c5))).trans (Kx.set _ (p := ⟨w.heap.size + 1 + 1, 1, none⟩) (.inr rfl) (.slice (some ⟨gg, 0, none⟩) p c3))
    have hs := HY7.out.kx hX7 hks
    have h2 := HP2.out
    rw [HP.out] at h2
    have hq := h2.pop.kx hX (hk7.trans hks)
    have e2 : d.past.take (d.past.length - 1) = d.past.take p := by rw [HL.out, HP.out, Nat.add_sub_cancel]
    rw [e2]
    exact ⟨_, _, _, _, _, _, rfl, hs.mono (Nat.le_trans HD4.out.below.size (Nat.le_refl _)), hq.ps.mono HD1.out.below.size, fun _ => hq.mono HD1.out.below.size, (((HD7.out.below.setCell (p := ⟨w2.heap.size, 1, none⟩) (by show w.heap.size ≤ w2.heap.size; omega) _).setCell (p := ⟨w2.heap.size, 0, none⟩) (by show w.heap.size ≤ w2.heap.size; omega) _).setCell (p := ⟨w.heap.size + 1 + 1, 0, none⟩) (by show w.heap.size ≤ w.heap.size + 1 + 1; omega) _).setCell (p := ⟨w.heap.size + 1 + 1, 1, none⟩) (by show w.heap.size ≤ w.heap.size + 1 + 1; omega) _⟩
  go_wp2_with fail
  refine bodyPost_ret (v := .tuple #[.agg #[.slice A5 m5 c5, .slice (some ⟨gg, 0, none⟩) p c3], .bool true]) (by simp [results, Tryz.results9, go_sem, r0, r1]) rfl ?_
  exact HR.out
end Go.Proofs.YtnomlkkhkacajaaGreatDoor
