/- Texts on the way to a law (H6, H7), each with its own remark. -/
import Derived.Test.YtnomlkkhkacajaaGreatDoorPB33
import Derived.Test.YtnomlkkhkacajaaGreatDoorPB27
import Derived.Test.YtnomlkkhkacajaaGreatDoorPB08
import Derived.Test.YtnomlkkhkacajaaGreatDoorPB29
import Derived.Test.YtnomlkkhkacajaaGreatDoorPB11
namespace Go.Proofs.YtnomlkkhkacajaaGreatDoor
open Go.RowKit
open Go.Lib hiding intOf

set_option maxHeartbeats 4000000 in
set_option maxRecDepth 100000 in
theorem iDeskDo_made (A A' : Option Addr) (n c m c' : Nat) (d : Dk) (k i : Int) (t : Txt) (w : World) (hd : DkV w 0 A n c A' m d) (hk : dkB d = true) (F j : Nat) (y : List C) (hk6 : (k == 6) = false) (hok : okD ⟨k, i, t⟩ = true) (hF : Instr.findNow .string (.string (bs (wordOf k))) waysL 0 = some (some (j, .func (.func F) #[] #[]))) (hcf : ∀ args w, (callFunc F args).run Tryz.prog w = .ok (.enter F args) w) (hE : EnvA w) (hW : ∀ w', DkV w' 0 A n c A' m d → EnvA w' → Calls Tryz.prog F #[.agg #[.slice A n c, .slice A' m c'], .agg #[.int .i64 k, .int .i64 i, .string (bs t)]] w' (RetC w' y true)) :
    Calls Tryz.prog 9 #[.agg #[.slice A n c, .slice A' m c'], dv ⟨k, i, t⟩] w (RetKB w (⟨y, (d.past ++ [d.now]).drop (d.past.length - 7)⟩, true)) := by
  have hl := hd.past.len
  have hnl := hd.now.len
  have hm8 : m ≤ 8 := by have := (dkB_iff.1 hk).2.1; omega
  have hn16 : n ≤ 16 := by have := sig_len (dkB_iff.1 hk).1; omega
  obtain ⟨w0, hw0⟩ : ∃ w0, w0 = ((w.alloc (.cells #[.slice A n c, .slice A' m c'] 26)).alloc (.cells #[.int .i64 k, .int .i64 i, .string (bs t)] 28)).alloc (.cells #[.slice none 0 0, .slice none 0 0] 26) := ⟨_, rfl⟩
  have HD0 : Hid (Do3 w A n c A' m c' k i t w0) := by rw [hw0]; exact Do3.of w A n c A' m c' k i t _ _ _
  have HV0 : Hid (DkV w0 0 A n c A' m d) := hd.below HD0.out.below
  have hz := DkS.ok hk
  have HOK : Hid (∀ w, DkV w 0 A n c A' m d → Calls Tryz.prog 12 #[.agg #[.slice A n c, .slice A' m c']] w fun e w' => e = .returned (.bool true) ∧ Below w.heap.size w w') := fun w h => by rw [← hk]; exact iDeskOk A A' n c m c' d w h hz
  have HCP : Hid (∀ w, DkV w 0 A n c A' m d → Calls Tryz.prog 35 #[.agg #[.slice A n c, .slice A' m c']] w (RetK w d)) := fun w h => iCopied A A' n c m c' d w h hz
  have HNL := Lib.hid hnl
  have HL := Lib.hid hl
  obtain ⟨k0, k1, l0, l1, l2⟩ := HD0.out.desk
  obtain ⟨d0, d1, d2, e0, e1, e2, e3⟩ := HD0.out.deed
  have hw8 : IntKind.i64.wrap ((m : Int) + 1 - 8) = (m : Int) - 7 := by rw [IntWalk.i64_in _ (by omega)]; omega
  have HDK : Hid (∀ w, Calls Tryz.prog 36 #[.agg #[.int .i64 k, .int .i64 i, .string (bs t)]] w fun e w' => e = .returned (.bool true) ∧ Below w.heap.size w w') := fun w => by have h := iDeedOk ⟨k, i, t⟩ w; rw [hok] at h; exact h
  have HWY := Lib.hid iWays
  have HWD := Lib.hid (fun w => iWord k w)
  have HLK : Hid (∀ w b, w.heap[b]? = some (.map waysL.toArray 7) → (Instr.lookup 65 (.map (some b)) (.string (bs (wordOf k))) false).run Tryz.prog w = .ok (.func (.func F) #[] #[]) w) := fun w b h => lk_run lookP Tryz.underlying9 h hF
  have HW := Lib.hid hW
  have HE := Lib.hid hE
  clear hW hF hok hE hz hk hd hl hnl
  unfold dv
  go_enter Tryz.func9, Tryz.ntmps9
  go_wp2_with fail
  rw [← hw0]
  clear hw0
  refine (HOK.out _ HV0.out).mono ?_
  rintro e w1 ⟨rfl, hb1⟩
  have HD1 := Lib.hid (HD0.out.call hb1)
  have HV1 := Lib.hid (HV0.out.below hb1)
  clear hb1 k0 k1 l0 l1 l2 d0 d1 d2 e0 e1 e2 e3
  obtain ⟨k0, k1, l0, l1, l2⟩ := HD1.out.desk
  obtain ⟨d0, d1, d2, e0, e1, e2, e3⟩ := HD1.out.deed
  go_wp2_with fail
  refine (HCP.out _ HV1.out).mono ?_
  rintro e w2 ⟨A2, n2, c2, A3, m3, c3, rfl, hs2, hp2, hb2, hne2⟩
  obtain rfl : n = n2 := by have h1 := hs2.len; have h2 := HNL.out; omega
  obtain rfl : m = m3 := by have h1 := hp2.ps.len; have h2 := HL.out; omega
  have HD2 := Lib.hid (HD1.out.call hb2)
  have HV2 := Lib.hid (HV1.out.below hb2)
  have HS2 := Lib.hid hs2
  have HP2 := Lib.hid hp2
  have HNE := Lib.hid hne2
  have HB2 := Lib.hid hb2
  have HW1 : Hid (w.heap.size + 1 + 1 < w1.heap.size) := HD1.out.size
  have hg2 : w.heap.size + 1 + 1 < w2.heap.size := Nat.lt_of_lt_of_le HW1.out HB2.out.size
  clear hs2 hp2 hb2 hne2 k0 k1 l0 l1 l2 d0 d1 d2 e0 e1 e2 e3
  obtain ⟨w3, hw3⟩ : ∃ w3, w3 = w2.alloc (.cells #[.slice A2 n c2, .slice A3 m c3] 26) := ⟨_, rfl⟩
  have HG3 := Lib.hid (KAt.new w2 (.slice A2 n c2) (.slice A3 m c3) 26)
  have HB3 : Hid (Below w2.heap.size w2 w3) := by rw [hw3]; exact below_alloc _ _
  rw [← hw3] at HG3
  have HD3 := Lib.hid (HD2.out.call HB3.out)
  have HV3 := Lib.hid (HV2.out.below HB3.out)
  obtain ⟨k0, k1, l0, l1, l2⟩ := HD2.out.desk
  obtain ⟨d0, d1, d2, e0, e1, e2, e3⟩ := HD2.out.deed
  go_wp2_with fail
  rw [← hw3]
  clear hw3 k0 k1 l0 l1 l2 d0 d1 d2 e0 e1 e2 e3
  refine (HDK.out _).mono ?_
  rintro e w4 ⟨rfl, hb4⟩
  have HD4 := Lib.hid (HD3.out.call hb4)
  have HV4 := Lib.hid (HV3.out.below hb4)
  have HG4 := Lib.hid (HG3.out.below hb4 HG3.out.lt)
  have HB4 : Hid (Below w2.heap.size w2 w4) := HB3.out.trans (hb4.mono HB3.out.size)
  clear hb4
  obtain ⟨k0, k1, l0, l1, l2⟩ := HD4.out.desk
  obtain ⟨d0, d1, d2, e0, e1, e2, e3⟩ := HD4.out.deed
  go_wp2_with fail
  go_region_held3 (fun w' => w'.cell? ⟨w.heap.size, 0, none⟩ = some (.slice A n c) ∧ w'.cell? ⟨w.heap.size, 1, none⟩ = some (.slice A' m c') ∧ w'.cell? ⟨w.heap.size + 1, 0, none⟩ = some (.int .i64 k) ∧ w'.cell? ⟨w.heap.size + 1, 1, none⟩ = some (.int .i64 i) ∧ w'.cell? ⟨w.heap.size + 1, 2, none⟩ = some (.string (bs t)))
    (first | exact ⟨k8, k9, d8, d9, d10⟩ | exact ⟨k5, k6, d5, d6, d7⟩ | exact ⟨k0, k1, d0, d1, d2⟩)
    ((first
      | (go_at_call 37; refine (HWY.out _).mono ?_; rintro e w5 ⟨bm, rfl, hm5, hb5⟩; have hlk := HLK.out w5 bm hm5; have HB5 := Lib.hid (below_d hb5); have HD5 := Lib.hid (HD4.out.call HB5.out); have HV5 := Lib.hid (HV4.out.below HB5.out); have HE5 : Hid (EnvA w5) := HE.out.kp (Kp.below HD5.out.below); clear hm5 hb5; obtain ⟨k5, k6, l5, l6, l7⟩ := HD5.out.desk; obtain ⟨d5, d6, d7, e5, e6, e7, e8⟩ := HD5.out.deed)
      | (go_at_call 38; refine (HWD.out _).mono ?_; rintro e w6 ⟨rfl, hw6⟩; obtain rfl := hw6.symm)
      | ((with_reducible refine Calls.mono (HW.out _ HV5.out HE5.out) ?_); rintro e w7 ⟨A5, m5, c5, rfl, ho5, hb7⟩; have HB7 : Hid (Below w4.heap.size w4 w7) := HB5.out.trans (hb7.mono HB5.out.size); have HY7 : Hid (Sg w7 w4.heap.size A5 m5 c5 y) := (Sg.of (by have h1 := ho5.len; rw [List.length_map] at h1; exact ho5)).mono HB5.out.size; have HD7 := Lib.hid (HD4.out.call HB7.out); have HG7 := Lib.hid (HG4.out.below HB7.out HG4.out.lt); clear ho5 hb7 hlk; obtain ⟨k8, k9, l8, l9, l10⟩ := HD7.out.desk; obtain ⟨d8, d9, d10, e8, e9, e10, e11⟩ := HD7.out.deed)))
  clear k0 k1 l0 l1 l2 d0 d1 d2 e0 e1 e2 e3
  obtain ⟨k0, k1, l0, l1, l2⟩ := HD7.out.desk
  obtain ⟨g0, g1, q0, q1, q2⟩ := HG7.out
  obtain ⟨r0, r1, s0, s1, s2⟩ := HD7.out.res
  obtain ⟨d0, d1, d2, e0, e1, e2, e3⟩ := HD7.out.deed
  obtain ⟨vs, hov, hpv, hpn⟩ := HP2.out
  have HOV := Lib.hid hov
  have HPV := Lib.hid hpv
  have HPN := Lib.hid hpn
  have HB27 : Hid (Below w2.heap.size w2 w7) := HB4.out.trans (HB7.out.mono HB4.out.size)
  have HOV7 := Lib.hid (hov.below HB27.out)
  have hsz7 : w1.heap.size ≤ w7.heap.size := Nat.le_trans HB2.out.size HB27.out.size
  have HY27 : Hid (Sg w7 (w2.heap.size + 1) A5 m5 c5 y) := HY7.out.mono HG4.out.lt
  clear hov hpv hpn k0 k1 l0 l1 l2
  go_upto_region 12 with (at_builtin; refine wl_appW w1.heap.size (.slice A2 n c2) hsz7 rfl (.tmp 45) (.tmp 48) 24 rfl Tryz.ePs _ m vs rfl HOV7.out rfl rfl (by unfold maxLen; omega) (by omega) ?_; intro v8 w8 ho8 hb8 hf8 hl8; obtain ⟨A6, c6, rfl⟩ := ho8.shape; have HST := Lib.hid (do_step (r := w.heap.size + 1 + 1) HW1.out HS2.out HOV.out HPV.out HPN.out HNE.out HB27.out HG7.out.lt HY27.out ho8 hb8.size hf8 hl8); have HG8 := Lib.hid (HG7.out.keep hb8.size HST.out.2.1); have HD8 := Lib.hid (HD7.out.belowB hb8 HW1.out); clear ho8 hb8 hf8 hl8 r0 r1 s0 s1 s2 g0 g1 q0 q1 q2 d0 d1 d2 e0 e1 e2 e3; obtain ⟨g0, g1, q0, q1, q2⟩ := HG8.out; obtain ⟨r0, r1, s0, s1, s2⟩ := HD8.out.res; obtain ⟨gg, hgg, hc9, hcm⟩ := HST.out.1.some; subst hgg; have hgr : ¬ w2.heap.size = w.heap.size + 1 + 1 := (by omega); have hgr2 : ¬ w.heap.size + 1 + 1 = w2.heap.size := (by omega))
  go_wp2_with fail
  obtain ⟨q, hq⟩ : ∃ q, q = (max 0 ((m : Int) - 7)).toNat := ⟨_, rfl⟩
  rw [← hq]
  have hqc : (q = 0 ∧ m ≤ 7) ∨ (q = 1 ∧ m = 8) := by omega
  clear hq
  have HR : Hid (RetKB w (⟨y, (d.past ++ [d.now]).drop (d.past.length - 7)⟩, true) (.returned (.tuple #[.agg #[.slice A5 m5 c5, .slice (some ⟨gg, q, none⟩) (m + 1 - q) (c6 - q)], .bool true])) (((((w8.setCell ⟨w2.heap.size, 1, none⟩ (.slice (some ⟨gg, 0, none⟩) (m + 1) c6)).setCell ⟨w2.heap.size, 1, none⟩ (.slice (some ⟨gg, q, none⟩) (m + 1 - q) (c6 - q))).setCell ⟨w2.heap.size, 0, none⟩ (.slice A5 m5 c5)).setCell ⟨w.heap.size + 1 + 1, 0, none⟩ (.slice A5 m5 c5)).setCell ⟨w.heap.size + 1 + 1, 1, none⟩ (.slice (some ⟨gg, q, none⟩) (m + 1 - q) (c6 - q)))) := by
    have hkf := ((((Kx.set w8 (X := fun b => b = w2.heap.size ∨ b = w.heap.size + 1 + 1) (p := ⟨w2.heap.size, 1, none⟩) (.inl rfl) (.slice (some ⟨gg, 0, none⟩) (m + 1) c6)).trans (Kx.set _ (p := ⟨w2.heap.size, 1, none⟩) (.inl rfl) (.slice (some ⟨gg, q, none⟩) (m + 1 - q) (c6 - q)))).trans (Kx.set _ (p := ⟨w2.heap.size, 0, none⟩) (.inl rfl) (.slice A5 m5 c5))).trans (Kx.set _ (p := ⟨w.heap.size + 1 + 1, 0, none⟩) (.inr rfl) (.slice A5 m5 c5))).trans (Kx.set _ (p := ⟨w.heap.size + 1 + 1, 1, none⟩) (.inr rfl) (.slice (some ⟨gg, q, none⟩) (m + 1 - q) (c6 - q)))
    have hs := HST.out.2.2.kx (fun b h1 h2 hx => by rcases hx with hx | hx <;> omega) hkf
    have hpf := (HST.out.1.kx hkf).po
    have hB : Below w.heap.size w (((((w8.setCell ⟨w2.heap.size, 1, none⟩ (.slice (some ⟨gg, 0, none⟩) (m + 1) c6)).setCell ⟨w2.heap.size, 1, none⟩ (.slice (some ⟨gg, q, none⟩) (m + 1 - q) (c6 - q))).setCell ⟨w2.heap.size, 0, none⟩ (.slice A5 m5 c5)).setCell ⟨w.heap.size + 1 + 1, 0, none⟩ (.slice A5 m5 c5)).setCell ⟨w.heap.size + 1 + 1, 1, none⟩ (.slice (some ⟨gg, q, none⟩) (m + 1 - q) (c6 - q))) :=
      ((((HD8.out.below.setCell (p := ⟨w2.heap.size, 1, none⟩) (by show w.heap.size ≤ w2.heap.size; omega) _).setCell (p := ⟨w2.heap.size, 1, none⟩) (by show w.heap.size ≤ w2.heap.size; omega) _).setCell (p := ⟨w2.heap.size, 0, none⟩) (by show w.heap.size ≤ w2.heap.size; omega) _).setCell (p := ⟨w.heap.size + 1 + 1, 0, none⟩) (by show w.heap.size ≤ w.heap.size + 1 + 1; omega) _).setCell (p := ⟨w.heap.size + 1 + 1, 1, none⟩) (by show w.heap.size ≤ w.heap.size + 1 + 1; omega) _
    rcases hqc with ⟨rfl, h7⟩ | ⟨rfl, h8⟩
    · have e : d.past.length - 7 = 0 := by rw [HL.out]; omega
      rw [e, List.drop_zero]
      exact ⟨_, _, _, _, _, _, rfl, hs.mono (by omega), hpf.ps.mono HD1.out.below.size, fun _ => hpf.mono HD1.out.below.size, hB⟩
    · have e : d.past.length - 7 = 1 := by rw [HL.out]; omega
      rw [e]
      exact ⟨_, _, _, _, _, _, rfl, hs.mono (by omega), hpf.tail.mono HD1.out.below.size, fun h => absurd h (by show ¬ ((d.past ++ [d.now]).drop 1).length < 8; rw [List.length_drop, List.length_append, HL.out, List.length_singleton]; omega), hB⟩
  refine bodyPost_ret (v := .tuple #[.agg #[.slice A5 m5 c5, .slice (some ⟨gg, q, none⟩) (m + 1 - q) (c6 - q)], .bool true]) (by simp [results, Tryz.results9, go_sem, r0, r1]) rfl ?_
  exact HR.out
theorem way_cf_written (args : Array Value) (w : World) : (callFunc 74 args).run Tryz.prog w = .ok (.enter 74 args) w := by simp [callFunc, go_sem, Tryz.func74, Tryz.f74]
theorem way_cf_there (args : Array Value) (w : World) : (callFunc 75 args).run Tryz.prog w = .ok (.enter 75 args) w := by simp [callFunc, go_sem, Tryz.func75, Tryz.f75]
theorem way_cf_back (args : Array Value) (w : World) : (callFunc 76 args).run Tryz.prog w = .ok (.enter 76 args) w := by simp [callFunc, go_sem, Tryz.func76, Tryz.f76]
theorem way_cf_moved (args : Array Value) (w : World) : (callFunc 77 args).run Tryz.prog w = .ok (.enter 77 args) w := by simp [callFunc, go_sem, Tryz.func77, Tryz.f77]
theorem way_cf_shifted (args : Array Value) (w : World) : (callFunc 78 args).run Tryz.prog w = .ok (.enter 78 args) w := by simp [callFunc, go_sem, Tryz.func78, Tryz.f78]
theorem way_cf_windowed (args : Array Value) (w : World) : (callFunc 79 args).run Tryz.prog w = .ok (.enter 79 args) w := by simp [callFunc, go_sem, Tryz.func79, Tryz.f79]
theorem way_cf_undone (args : Array Value) (w : World) : (callFunc 80 args).run Tryz.prog w = .ok (.enter 80 args) w := by simp [callFunc, go_sem, Tryz.func80, Tryz.f80]
/-- What a way tells, out of an option. -/
theorem iDeskDo_opt (A A' : Option Addr) (n c m c' : Nat) (d : Dk) (k i : Int) (t : Txt) (w : World) (hd : DkV w 0 A n c A' m d) (hk : dkB d = true) (F j : Nat) (r : Option (List C)) (hok : okD ⟨k, i, t⟩ = true) (hF : Instr.findNow .string (.string (bs (wordOf k))) waysL 0 = some (some (j, .func (.func F) #[] #[]))) (hcf : ∀ args w, (callFunc F args).run Tryz.prog w = .ok (.enter F args) w) (hE : EnvA w)
    (hk6 : (k == 6) = false) (hr : madF d.now ⟨k, i, t⟩ = r) (hW : ∀ w', DkV w' 0 A n c A' m d → EnvA w' → Calls Tryz.prog F #[.agg #[.slice A n c, .slice A' m c'], .agg #[.int .i64 k, .int .i64 i, .string (bs t)]] w' (RetO w' r)) :
    Calls Tryz.prog 9 #[.agg #[.slice A n c, .slice A' m c'], dv ⟨k, i, t⟩] w (RetKB w (doF d ⟨k, i, t⟩)) := by
  have hu : undB d ⟨k, i, t⟩ = false := by
    unfold undB
    rw [decide_eq_false (by simpa using hk6 : ¬ (⟨k, i, t⟩ : Dd).kind = 6)]; rfl
  cases r with
  | none => rw [doF_none hk hu hr]; exact iDeskDo_none A A' n c m c' d k i t w hd hk F j [] hok hF hcf hE hW
  | some y => rw [doF_some hk hu hr]; exact iDeskDo_made A A' n c m c' d k i t w hd hk F j y hk6 hok hF hcf hE hW
theorem okD_cases {k i : Int} {t : Txt} (h : okD ⟨k, i, t⟩ = true) : (k = 0 ∧ i = 0) ∨ (k = 1 ∧ i = 0 ∧ t = []) ∨ (k = 2 ∧ i = 0 ∧ t = []) ∨ (k = 3 ∧ t = []) ∨ (k = 4 ∧ t = []) ∨ (k = 5 ∧ t = []) ∨ (k = 6 ∧ i = 0 ∧ t = []) := by
  unfold okD at h
  simp only at h
  split at h
  · rename_i h0; exact .inl ⟨h0, of_decide_eq_true h⟩
  split at h
  · rename_i h0 h1
    rw [Bool.and_eq_true, decide_eq_true_eq, List.isEmpty_iff] at h
    rcases h1 with h1 | h1 | h1
    · exact .inr (.inl ⟨h1, h⟩)
    · exact .inr (.inr (.inl ⟨h1, h⟩))
    · exact .inr (.inr (.inr (.inr (.inr (.inr ⟨h1, h⟩)))))
  split at h
  · rename_i h0 h1 h2
    rw [List.isEmpty_iff] at h
    have : k = 3 ∨ k = 4 ∨ k = 5 := by omega
    rcases this with h3 | h3 | h3
    · exact .inr (.inr (.inr (.inl ⟨h3, h⟩)))
    · exact .inr (.inr (.inr (.inr (.inl ⟨h3, h⟩))))
    · exact .inr (.inr (.inr (.inr (.inr (.inl ⟨h3, h⟩)))))
  · cases h
theorem okD_not {k i : Int} {t : Txt} {d : Dk} (h : okD ⟨k, i, t⟩ = false) : undB d ⟨k, i, t⟩ = false ∧ madF d.now ⟨k, i, t⟩ = none := by
  have hx : ¬ okD ⟨k, i, t⟩ = true := by rw [h]; exact Bool.false_ne_true
  have n0 : ¬ (k = 0 ∧ i = 0) := fun ⟨a, b⟩ => hx (by subst a; subst b; rfl)
  have n1 : ∀ j, (j = 1 ∨ j = 2 ∨ j = 6) → ¬ (k = j ∧ i = 0 ∧ t = []) := fun j hj ⟨a, b, e⟩ => hx (by subst a; subst b; subst e; rcases hj with rfl | rfl | rfl <;> rfl)
  have n3 : ∀ j, (j = 3 ∨ j = 4 ∨ j = 5) → ¬ (k = j ∧ t = []) := fun j hj ⟨a, e⟩ => hx (by subst a; subst e; rcases hj with rfl | rfl | rfl <;> rfl)
  refine ⟨?_, ?_⟩
  · by_cases h6 : k = 6 ∧ i = 0 ∧ t = []
    · exact absurd h6 (n1 6 (by decide))
    · unfold undB
      by_cases a : k = 6
      · by_cases b : i = 0
        · have e : ¬ t = [] := fun e => h6 ⟨a, b, e⟩
          simp [e]
        · simp [b]
      · simp [a]
  · unfold madF
    simp only
    split
    · rename_i a; rw [if_neg (fun b => n0 ⟨a, b⟩)]
    split
    · rename_i _ a; rw [if_neg (fun b => n1 1 (by decide) ⟨a, b⟩)]
    split
    · rename_i _ _ a; rw [if_neg (fun b => n1 2 (by decide) ⟨a, b⟩)]
    split
    · rename_i _ _ _ a; rw [if_neg (fun b => n3 3 (by decide) ⟨a, b.1⟩)]
    split
    · rename_i _ _ _ _ a; rw [if_neg (fun b => n3 4 (by decide) ⟨a, b⟩)]
    split
    · rename_i _ _ _ _ _ a; rw [if_neg (fun b => n3 5 (by decide) ⟨a, b⟩)]
    · rfl
theorem iDeskDo (A A' : Option Addr) (n c m c' : Nat) (d : Dk) (a : Dd) (w : World) (hd : DkV w 0 A n c A' m d) (hz : DkS d) (hg : dkB d = true → LvOk d.now) (ht : a.text.length ≤ 1073741824) (hE : EnvA w) :
    Calls Tryz.prog 9 #[.agg #[.slice A n c, .slice A' m c'], dv a] w (RetKB w (doF d a)) := by
  obtain ⟨k, i, t⟩ := a
  cases hk : dkB d
  · exact iDeskDo_bad A A' n c m c' d k i t w hd hz hk
  have hl := hd.past.len
  have hnl := hd.now.len
  have hn : n ≤ 1048576 := by have := hz.now; omega
  cases hok : okD ⟨k, i, t⟩
  · obtain ⟨hu, hm⟩ := okD_not (d := d) hok
    rw [doF_none hk hu hm]
    exact iDeskDo_not A A' n c m c' d k i t w hd hk hok
  rcases okD_cases hok with ⟨rfl, rfl⟩ | ⟨rfl, rfl, rfl⟩ | ⟨rfl, rfl, rfl⟩ | ⟨rfl, rfl⟩ | ⟨rfl, rfl⟩ | ⟨rfl, rfl⟩ | ⟨rfl, rfl, rfl⟩
  · exact iDeskDo_opt A A' n c m c' d 0 0 t w hd hk _ 0 _ hok rfl way_cf_written hE rfl rfl fun w' h he => iWay_written A A' n c m c' 0 0 t w' ht he
  · exact iDeskDo_opt A A' n c m c' d 1 0 [] w hd hk _ 1 _ hok rfl way_cf_there hE rfl rfl fun w' h he => iWay_there A A' n c m c' d.now 1 0 [] w' hn h.now.cs (hg hk)
  · exact iDeskDo_opt A A' n c m c' d 2 0 [] w hd hk _ 2 _ hok rfl way_cf_back hE rfl rfl fun w' h he => iWay_back A A' n c m c' d.now 2 0 [] w' hn h.now.cs (hg hk)
  · refine iDeskDo_opt A A' n c m c' d 3 i [] w hd hk _ 3 _ hok rfl way_cf_moved hE rfl rfl fun w' h he => ?_
    have h1 := iWay_moved A A' n c m c' d.now 3 i [] w' hn h.now.cs
    by_cases hm : movF d.now i = []
    · rw [madF3n _ _ hm]
      rw [hm] at h1
      exact h1
    · rw [madF3 _ _ hm]
      rw [decide_eq_true hm] at h1
      exact h1
  · exact iDeskDo_opt A A' n c m c' d 4 i [] w hd hk _ 4 _ hok rfl way_cf_shifted hE rfl rfl fun w' h he => iWay_shifted A A' n c m c' d.now 4 i [] w' hn h.now.cs (hg hk)
  · exact iDeskDo_opt A A' n c m c' d 5 i [] w hd hk _ 5 _ hok rfl way_cf_windowed hE rfl rfl fun w' h he => iWay_windowed A A' n c m c' d.now 5 i [] w' hn h.now.cs
  · by_cases hp : d.past = []
    · have hm0 : m = 0 := by rw [← hl, hp]; rfl
      subst hm0
      have hu : undB d ⟨6, 0, []⟩ = false := by unfold undB; rw [decide_eq_false (p := d.past ≠ []) (fun h => h hp), Bool.and_false]
      rw [doF_none hk hu rfl]
      exact iDeskDo_none A A' n c 0 c' d 6 0 [] w hd hk _ 6 [] hok rfl way_cf_undone hE fun w' h he => iWay_undone_no A A' n c c' 6 0 [] w'
    · have hu : undB d ⟨6, 0, []⟩ = true := by unfold undB; rw [decide_eq_true hp]; rfl
      obtain ⟨p, hpm⟩ : ∃ p, m = p + 1 := ⟨m - 1, by have := List.length_pos_iff.2 hp; omega⟩
      obtain ⟨x, hx⟩ : ∃ x, d.past[p]? = some x := ⟨_, List.getElem?_eq_getElem (by omega)⟩
      have e : (d.past.getLast?).getD [] = x := by rw [List.getLast?_eq_getElem?, hl, hpm, Nat.add_sub_cancel, hx]; rfl
      have hx17 := hz.at_ hx
      have hp9 := hz.len
      rw [doF_undo hk hu, e]
      subst hpm
      exact iDeskDo_undo A A' n c (p + 1) c' d 6 0 [] w hd hk _ 6 x rfl (by omega) hok rfl way_cf_undone hE fun w' h he => iWay_undone A A' n c p c' d.past x 6 0 [] w' (by omega) h.past hx hx17
end Go.Proofs.YtnomlkkhkacajaaGreatDoor
namespace Go.Proofs.YtnomlkkhkacajaaGreatDoor
open Go.RowKit

/-- All numbers of a desk are finite. -/
structure DkF (d : Dk) : Prop where
  now : ∀ i, i < d.now.length → finB (nth d.now i) = true
  past : ∀ x ∈ d.past, ∀ i, i < x.length → finB (nth x i) = true
theorem DkF.of {d : Dk} (h : dkB d = true) : DkF d := by
  obtain ⟨h1, _, h3⟩ := dkB_iff.1 h
  exact ⟨fun i hi => fin_mk h1 hi, fun x hx i hi => fin_mk (h3 x hx) hi⟩
theorem DkF.zero : DkF dk0 := ⟨fun i hi => absurd hi (by simp [dk0]), fun x hx => by cases hx⟩
theorem sameSignal_len (A A' : Option Addr) (n n' c c' : Nat) (w : World) (hn : ¬ n = n') :
    Calls Tryz.prog 41 #[.slice A n c, .slice A' n' c'] w fun e w' => e = .returned (.bool false) ∧ w' = w := by
  have h : ((n : Int) == (n' : Int)) = false := by rw [beq_eq_false_iff_ne]; omega
  have h2 : ¬ (n : Int) = (n' : Int) := by omega
  clear hn
  go_enter Tryz.func41, Tryz.ntmps41
  go_wp2_with fail
  go_ret
  exact ⟨rfl, rfl⟩
theorem samePieces_len (A A' : Option Addr) (n n' c c' : Nat) (w : World) (hn : ¬ n = n') :
    Calls Tryz.prog 42 #[.slice A n c, .slice A' n' c'] w fun e w' => e = .returned (.bool false) ∧ w' = w := by
  have h : ((n : Int) == (n' : Int)) = false := by rw [beq_eq_false_iff_ne]; omega
  have h2 : ¬ (n : Int) = (n' : Int) := by omega
  clear hn
  go_enter Tryz.func42, Tryz.ntmps42
  go_wp2_with fail
  go_ret
  exact ⟨rfl, rfl⟩

set_option maxHeartbeats 1000000 in
theorem samePieces_true (A A' : Option Addr) (m c c' : Nat) (ps : List (List C)) (w : World) (hm : m ≤ 1048576) (h1 : Ps w 0 A m ps) (h2 : Ps w 0 A' m ps) (hl : ∀ x ∈ ps, x.length ≤ 1048576) (hf : ∀ x ∈ ps, ∀ i, i < x.length → finB (nth x i) = true) :
    Calls Tryz.prog 42 #[.slice A m c, .slice A' m c'] w fun e w' => e = .returned (.bool true) ∧ Dr w w' := by
  have H1 := Lib.hid h1
  have H2 := Lib.hid h2
  have HL := Lib.hid hl
  have HF := Lib.hid hf
  clear h1 h2 hl hf
  go_enter Tryz.func42, Tryz.ntmps42
  go_wp2_with fail
  go_loopw [5] (fun i wr => ∃ k : Nat, k ≤ m ∧ i = .int .i64 k ∧ ∃ q, wr = w.drewN q) (fun i _ => m - (intOf i).toNat)
  case atStart => exact ⟨0, by omega, rfl, 0, rfl⟩
  case round =>
    obtain ⟨k, hk, rfl, q, rfl⟩ := hrel
    by_cases hlt : k < m
    · obtain ⟨b, o, x, A2, n2, c2, rfl, hb, hx, hc, hs⟩ := H1.out.at_ hlt
      obtain ⟨b', o', y, A3, n3, c3, rfl, hb', hy, hc', hs'⟩ := H2.out.at_ hlt
      obtain rfl : x = y := by rw [hx] at hy; exact Option.some.inj hy
      obtain rfl : n2 = n3 := by have e1 := hs.len; have e2 := hs'.len; omega
      have hxm := List.mem_of_getElem? hx
      have hn2 : n2 ≤ 1048576 := by have e1 := hs.len; have := HL.out x hxm; omega
      have hck : (w.drewN q).cell? ⟨b, o + k, none⟩ = some (.slice A2 n2 c2) := hc
      have hck' : (w.drewN q).cell? ⟨b', o' + k, none⟩ = some (.slice A3 n2 c3) := hc'
      have HSX : Hid (∀ r, Calls Tryz.prog 41 #[.slice A2 n2 c2, .slice A3 n2 c3] ((w.drewN q).drewN r) fun e w' => e = .returned (.bool true) ∧ Dr ((w.drewN q).drewN r) w') := fun r => sameSignal_true A2 A3 n2 c2 c3 x x _ hn2 (Cs.drewN (Cs.drewN hs.cs q) r) (Cs.drewN (Cs.drewN hs'.cs q) r) fun i hi => EqV.refl (HF.out x hxm i (by have := hs.len; omega))
      clear hc hc' hs hs' hx hy hxm
      obtain ⟨wr, hwr⟩ : ∃ wr, wr = w.drewN q := ⟨_, rfl⟩
      rw [← hwr] at hck hck' HSX ⊢
      have HW := Lib.hid hwr
      clear hwr
      go_wp2_with fail
      go_quiet ((go_at_call 41; exact Calls.quiet_of (HSX.out _)))
      go_wp2_with fail
      go_roundw
      case rel => exact ⟨k + 1, by omega, by go_num, q + nq, by rw [HW.out, World.drewN_drewN]⟩
      case measure => simp [intOf]; omega
    · go_wp2_with fail
      go_ret
      exact ⟨rfl, q, rfl⟩

set_option maxHeartbeats 1000000 in
theorem sameDesk_true (A A' B B' : Option Addr) (n c m c' n2 c2 m2 c3 : Nat) (d : Dk) (w : World) (h1 : DkV w 0 A n c A' m d) (h2 : DkV w 0 B n2 c2 B' m2 d) (hz : DkS d) (hf : DkF d) :
    Calls Tryz.prog 11 #[.agg #[.slice A n c, .slice A' m c'], .agg #[.slice B n2 c2, .slice B' m2 c3]] w fun e w' => e = .returned (.bool true) ∧ Below w.heap.size w w' := by
  obtain rfl : n = n2 := by have e1 := h1.now.len; have e2 := h2.now.len; omega
  obtain rfl : m = m2 := by have e1 := h1.past.len; have e2 := h2.past.len; omega
  have hn : n ≤ 1048576 := by have := h1.now.len; have := hz.now; omega
  have hm : m ≤ 1048576 := by have := h1.past.len; have := hz.len; omega
  obtain ⟨w0, hw0⟩ : ∃ w0, w0 = (w.alloc (.cells #[.slice A n c, .slice A' m c'] 26)).alloc (.cells #[.slice B n c2, .slice B' m c3] 26) := ⟨_, rfl⟩
  have HB0 : Hid (Below w.heap.size w w0) := by rw [hw0]; exact below2 _ _ _
  have HS : Hid (∀ q, Calls Tryz.prog 41 #[.slice A n c, .slice B n c2] (w0.drewN q) fun e w' => e = .returned (.bool true) ∧ Dr (w0.drewN q) w') := fun q => sameSignal_true A B n c c2 d.now d.now _ hn (Cs.drewN (h1.now.below HB0.out).cs q) (Cs.drewN (h2.now.below HB0.out).cs q) fun i hi => EqV.refl (hf.now i (by have := h1.now.len; omega))
  have HP : Hid (∀ q, Calls Tryz.prog 42 #[.slice A' m c', .slice B' m c3] (w0.drewN q) fun e w' => e = .returned (.bool true) ∧ Dr (w0.drewN q) w') := fun q => samePieces_true A' B' m c' c3 d.past _ hm ((h1.past.below HB0.out).below (below_drewN (Below.refl _ _) q)) ((h2.past.below HB0.out).below (below_drewN (Below.refl _ _) q)) (fun x hx => by have := hz.past x hx; omega) hf.past
  have HS0 : Hid (Calls Tryz.prog 41 #[.slice A n c, .slice B n c2] w0 fun e w' => e = .returned (.bool true) ∧ Dr w0 w') := HS.out 0
  have hk1 : w0.cell? ⟨w.heap.size, 1, none⟩ = some (.slice A' m c') := by rw [hw0]; exact ((KAt.new w (.slice A n c) (.slice A' m c') 26).below (below_alloc _ _) (by rw [size_alloc]; omega)).c1
  have hk2 : w0.cell? ⟨w.heap.size + 1, 1, none⟩ = some (.slice B' m c3) := by
    have h := (KAt.new (w.alloc (.cells #[.slice A n c, .slice A' m c'] 26)) (.slice B n c2) (.slice B' m c3) 26).c1
    rw [size_alloc] at h
    rw [hw0]; exact h
  clear h1 h2 hz hf HS
  go_enter Tryz.func11, Tryz.ntmps11
  go_wp2_with fail
  rw [← hw0]
  clear hw0
  refine HS0.out.mono ?_
  rintro e w1 ⟨rfl, q, rfl⟩
  go_wp2_with fail
  refine (HP.out q).mono ?_
  rintro e w2 ⟨rfl, q2, rfl⟩
  go_wp2_with fail
  go_ret
  exact ⟨rfl, below_drewN HB0.out (q + q2)⟩
set_option maxHeartbeats 1000000 in
/-- The desk without points beside another one: it is told whether they are the same. -/
theorem sameDesk_empty (A A' B B' : Option Addr) (c c' n2 c2 m2 c3 : Nat) (w : World) :
    Calls Tryz.prog 11 #[.agg #[.slice A 0 c, .slice A' 0 c'], .agg #[.slice B n2 c2, .slice B' m2 c3]] w fun e w' => (∃ b, e = .returned (.bool b)) ∧ Below w.heap.size w w' := by
  obtain ⟨w0, hw0⟩ : ∃ w0, w0 = (w.alloc (.cells #[.slice A 0 c, .slice A' 0 c'] 26)).alloc (.cells #[.slice B n2 c2, .slice B' m2 c3] 26) := ⟨_, rfl⟩
  have HB0 : Hid (Below w.heap.size w w0) := by rw [hw0]; exact below2 _ _ _
  have hk1 : w0.cell? ⟨w.heap.size, 1, none⟩ = some (.slice A' 0 c') := by rw [hw0]; exact ((KAt.new w (.slice A 0 c) (.slice A' 0 c') 26).below (below_alloc _ _) (by rw [size_alloc]; omega)).c1
  have hk2 : w0.cell? ⟨w.heap.size + 1, 1, none⟩ = some (.slice B' m2 c3) := by
    have h := (KAt.new (w.alloc (.cells #[.slice A 0 c, .slice A' 0 c'] 26)) (.slice B n2 c2) (.slice B' m2 c3) 26).c1
    rw [size_alloc] at h
    rw [hw0]; exact h
  by_cases hn : n2 = 0
  · subst hn
    have HS : Hid (∀ w, Calls Tryz.prog 41 #[.slice A 0 c, .slice B 0 c2] w fun e w' => e = .returned (.bool true) ∧ Dr w w') := fun w => sameSignal_true A B 0 c c2 [] [] w (by omega) (Sl.nil_ w A) (Sl.nil_ w B) fun i hi => absurd hi (by omega)
    by_cases hm : m2 = 0
    · subst hm
      have HP : Hid (∀ w, Calls Tryz.prog 42 #[.slice A' 0 c', .slice B' 0 c3] w fun e w' => e = .returned (.bool true) ∧ Dr w w') := fun w => by
        go_enter Tryz.func42, Tryz.ntmps42
        go_wp2_with fail
        go_loopw [5] (fun i wr => i = .int .i64 0 ∧ wr = w) (fun i _ => 0)
        case atStart => exact ⟨rfl, rfl⟩
        case round =>
          obtain ⟨rfl, rfl⟩ := hrel
          go_wp2_with fail
          go_ret
          exact ⟨rfl, 0, rfl⟩
      go_enter Tryz.func11, Tryz.ntmps11
      go_wp2_with fail
      rw [← hw0]
      clear hw0
      refine (HS.out _).mono ?_
      rintro e w1 ⟨rfl, q, rfl⟩
      go_wp2_with fail
      refine (HP.out _).mono ?_
      rintro e w2 ⟨rfl, q2, rfl⟩
      go_wp2_with fail
      go_ret
      exact ⟨⟨_, rfl⟩, below_drewN HB0.out (q + q2)⟩
    · have HP := Lib.hid (fun w => samePieces_len A' B' 0 m2 c' c3 w (fun e => hm e.symm))
      clear hm
      go_enter Tryz.func11, Tryz.ntmps11
      go_wp2_with fail
      rw [← hw0]
      clear hw0
      refine (HS.out _).mono ?_
      rintro e w1 ⟨rfl, q, rfl⟩
      go_wp2_with fail
      refine (HP.out _).mono ?_
      rintro e w2 ⟨rfl, rfl⟩
      go_wp2_with fail
      go_ret
      exact ⟨⟨_, rfl⟩, below_drewN HB0.out q⟩
  · have HS := Lib.hid (fun w => sameSignal_len A B 0 n2 c c2 w (fun e => hn e.symm))
    clear hn
    go_enter Tryz.func11, Tryz.ntmps11
    go_wp2_with fail
    rw [← hw0]
    clear hw0
    refine (HS.out _).mono ?_
    rintro e w1 ⟨rfl, hw1⟩
    obtain rfl := hw1.symm
    go_wp2_with fail
    go_ret
    exact ⟨⟨_, rfl⟩, HB0.out⟩
end Go.Proofs.YtnomlkkhkacajaaGreatDoor
