/- Texts on the way to a law (H6, H16), each with its own remark. -/
import Derived.Test.YtnomlkkhkacajaaGreatDoorPC30
import Derived.Test.YtnomlkkhkacajaaGreatDoorPC22
import Derived.Test.YtnomlkkhkacajaaGreatDoorPC26
import Derived.Test.YtnomlkkhkacajaaGreatDoorPC17
namespace Go.Proofs.YtnomlkkhkacajaaGreatDoor
open Go.RowKit
open Go.Lib hiding intOf

set_option maxHeartbeats 4000000 in
set_option maxRecDepth 100000 in
theorem iDeskDo_made (A A' : Option Addr) (n c m c' : Nat) (d : Dk) (k i : Int) (t : Txt) (w : World) (hd : DkV w 0 A n c A' m d) (hk : dkB d = true) (F j : Nat) (y : List C) (hk6 : (k == 6) = false) (hok : okD ⟨k, i, t⟩ = true) (hF : Instr.findNow .string (.string (bs (wordOf k))) waysL 0 = some (some (j, .func (.func F) #[] #[]))) (hcf : ∀ args w, (callFunc F args).run Tryz.prog w = .ok (.enter F args) w) (hE : EnvA w) (hW : ∀ w', DkV w' 0 A n c A' m d → EnvA w' → Calls Tryz.prog F #[.agg #[.slice A n c, .slice A' m c'], .agg #[.int .i64 k, .int .i64 i, .string (bs t)]] w' (RetC w' y true)) :
    Calls Tryz.prog 9 #[.agg #[.slice A n c, .slice A' m c'], dv ⟨k, i, t⟩] w (RetKB w (⟨y, (d.past ++ [d.now]).drop (d.past.length - 7)⟩, true)) := by
  have hl := hd.past.len
  have hnl := hd.now.len
  have hm8 : m ≤ 8 := by have := (dkB_iff.1 hk).2.1; omega
  have hn16 : n ≤ 16 := by have := sig_len (dkB_iff.1 hk).1; omega
  obtain ⟨w0, hw0⟩ : ∃ w0, w0 = ((w.alloc (.cells #[.slice A n c, .slice A' m c'] 26)).alloc (.cells #[.int .i64 k, .int .i64 i, .string (bs t)] 28)).alloc (.cells #[.slice none 0 0, .slice none 0 0] 26) := ⟨_, rfl⟩
  have HD0 : Hid (Do3 w A n c A' m c' k i t w0) := by rw [hw0]; exact Do3.of w A n c A' m c' k i t _ _ _
  have HV0 : Hid (DkV w0 0 A n c A' m d) := hd.below HD0.out.below
  have hz := DkS.ok hk
  have HOK : Hid (∀ w, DkV w 0 A n c A' m d → Calls Tryz.prog 12 #[.agg #[.slice A n c, .slice A' m c']] w fun e w' => e = .returned (.bool true) ∧ Below w.heap.size w w') := fun w h => by rw [← hk]; exact iDeskOk A A' n c m c' d w h hz
  have HCP : Hid (∀ w, DkV w 0 A n c A' m d → Calls Tryz.prog 35 #[.agg #[.slice A n c, .slice A' m c']] w (RetK w d)) := fun w h => iCopied A A' n c m c' d w h hz
  have HNL := Lib.hid hnl
  have HL := Lib.hid hl
  obtain ⟨k0, k1, l0, l1, l2⟩ := HD0.out.desk
  obtain ⟨d0, d1, d2, e0, e1, e2, e3⟩ := HD0.out.deed
  have hw8 : IntKind.i64.wrap ((m : Int) + 1 - 8) = (m : Int) - 7 := by rw [IntWalk.i64_in _ (by omega)]; omega
  have HDK : Hid (∀ w, Calls Tryz.prog 36 #[.agg #[.int .i64 k, .int .i64 i, .string (bs t)]] w fun e w' => e = .returned (.bool true) ∧ Below w.heap.size w w') := fun w => by have h := iDeedOk ⟨k, i, t⟩ w; rw [hok] at h; exact h
  have HWY := Lib.hid iWays
  have HWD := Lib.hid (fun w => iWord k w)
  have HLK : Hid (∀ w b, w.heap[b]? = some (.map waysL.toArray 7) → (Instr.lookup 65 (.map (some b)) (.string (bs (wordOf k))) false).run Tryz.prog w = .ok (.func (.func F) #[] #[]) w) := fun w b h => lk_run lookP Tryz.underlying9 h hF
  have HW := Lib.hid hW
  have HE := Lib.hid hE
  clear hW hF hok hE hz hk hd hl hnl
  unfold dv
  go_enter Tryz.func9, Tryz.ntmps9
  go_wp2_with fail
  rw [← hw0]
  clear hw0
  refine (HOK.out _ HV0.out).mono ?_
  rintro e w1 ⟨rfl, hb1⟩
  have HD1 := Lib.hid (HD0.out.call hb1)
  have HV1 := Lib.hid (HV0.out.below hb1)
  clear hb1 k0 k1 l0 l1 l2 d0 d1 d2 e0 e1 e2 e3
  obtain ⟨k0, k1, l0, l1, l2⟩ := HD1.out.desk
  obtain ⟨d0, d1, d2, e0, e1, e2, e3⟩ := HD1.out.deed
  go_wp2_with fail
  refine (HCP.out _ HV1.out).mono ?_
  rintro e w2 ⟨A2, n2, c2, A3, m3, c3, rfl, hs2, hp2, hb2, hne2⟩
  obtain rfl : n = n2 := by have h1 := hs2.len; have h2 := HNL.out; omega
  obtain rfl : m = m3 := by have h1 := hp2.ps.len; have h2 := HL.out; omega
  have HD2 := Lib.hid (HD1.out.call hb2)
  have HV2 := Lib.hid (HV1.out.below hb2)
  have HS2 := Lib.hid hs2
  have HP2 := Lib.hid hp2
  have HNE := Lib.hid hne2
  have HB2 := Lib.hid hb2
  have HW1 : Hid (w.heap.size + 1 + 1 < w1.heap.size) := HD1.out.size
  have hg2 : w.heap.size + 1 + 1 < w2.heap.size := Nat.lt_of_lt_of_le HW1.out HB2.out.size
  clear hs2 hp2 hb2 hne2 k0 k1 l0 l1 l2 d0 d1 d2 e0 e1 e2 e3
  obtain ⟨w3, hw3⟩ : ∃ w3, w3 = w2.alloc (.cells #[.slice A2 n c2, .slice A3 m c3] 26) := ⟨_, rfl⟩
  have HG3 := Lib.hid (KAt.new w2 (.slice A2 n c2) (.slice A3 m c3) 26)
  have HB3 : Hid (Below w2.heap.size w2 w3) := by rw [hw3]; exact below_alloc _ _
  rw [← hw3] at HG3
  have HD3 := Lib.hid (HD2.out.call HB3.out)
  have HV3 := Lib.hid (HV2.out.below HB3.out)
  obtain ⟨k0, k1, l0, l1, l2⟩ := HD2.out.desk
  obtain ⟨d0, d1, d2, e0, e1, e2, e3⟩ := HD2.out.deed
  go_wp2_with fail
  rw [← hw3]
  clear hw3 k0 k1 l0 l1 l2 d0 d1 d2 e0 e1 e2 e3
  refine (HDK.out _).mono ?_
  rintro e w4 ⟨rfl, hb4⟩
  have HD4 := Lib.hid (HD3.out.call hb4)
  have HV4 := Lib.hid (HV3.out.below hb4)
  have HG4 := Lib.hid (HG3.out.below hb4 HG3.out.lt)
  have HB4 : Hid (Below w2.heap.size w2 w4) := HB3.out.trans (hb4.mono HB3.out.size)
  clear hb4
  obtain ⟨k0, k1, l0, l1, l2⟩ := HD4.out.desk
  obtain ⟨d0, d1, d2, e0, e1, e2, e3⟩ := HD4.out.deed
  go_wp2_with fail
  go_region_held3 (fun w' => w'.cell? ⟨w.heap.size, 0, none⟩ = some (.slice A n c) ∧ w'.cell? ⟨w.heap.size, 1, none⟩ = some (.slice A' m c') ∧ w'.cell? ⟨w.heap.size + 1, 0, none⟩ = some (.int .i64 k) ∧ w'.cell? ⟨w.heap.size + 1, 1, none⟩ = some (.int .i64 i) ∧ w'.cell? ⟨w.heap.size + 1, 2, none⟩ = some (.string (bs t)))
    (first | exact ⟨k8, k9, d8, d9, d10⟩ | exact ⟨k5, k6, d5, d6, d7⟩ | exact ⟨k0, k1, d0, d1, d2⟩)
    ((first
      | (go_at_call 37; refine (HWY.out _).mono ?_; rintro e w5 ⟨bm, rfl, hm5, hb5⟩; have hlk := HLK.out w5 bm hm5; have HB5 := Lib.hid (below_d hb5); have HD5 := Lib.hid (HD4.out.call HB5.out); have HV5 := Lib.hid (HV4.out.below HB5.out); have HE5 : Hid (EnvA w5) := HE.out.kp (Kp.below HD5.out.below); clear hm5 hb5; obtain ⟨k5, k6, l5, l6, l7⟩ := HD5.out.desk; obtain ⟨d5, d6, d7, e5, e6, e7, e8⟩ := HD5.out.deed)
      | (go_at_call 38; refine (HWD.out _).mono ?_; rintro e w6 ⟨rfl, hw6⟩; obtain rfl := hw6.symm)
      | ((with_reducible refine Calls.mono (HW.out _ HV5.out HE5.out) ?_); rintro e w7 ⟨A5, m5, c5, rfl, ho5, hb7⟩; have HB7 : Hid (Below w4.heap.size w4 w7) := HB5.out.trans (hb7.mono HB5.out.size); have HY7 : Hid (Sg w7 w4.heap.size A5 m5 c5 y) := (Sg.of (by have h1 := ho5.len; rw [List.length_map] at h1; exact ho5)).mono HB5.out.size; have HD7 := Lib.hid (HD4.out.call HB7.out); have HG7 := Lib.hid (HG4.out.below HB7.out HG4.out.lt); clear ho5 hb7 hlk; obtain ⟨k8, k9, l8, l9, l10⟩ := HD7.out.desk; obtain ⟨d8, d9, d10, e8, e9, e10, e11⟩ := HD7.out.deed)))
  clear k0 k1 l0 l1 l2 d0 d1 d2 e0 e1 e2 e3
  obtain ⟨k0, k1, l0, l1, l2⟩ := HD7.out.desk
  obtain ⟨g0, g1, q0, q1, q2⟩ := HG7.out
  obtain ⟨r0, r1, s0, s1, s2⟩ := HD7.out.res
  obtain ⟨d0, d1, d2, e0, e1, e2, e3⟩ := HD7.out.deed
  obtain ⟨vs, hov, hpv, hpn⟩ := HP2.out
  have HOV := Lib.hid hov
  have HPV := Lib.hid hpv
  have HPN := Lib.hid hpn
  have HB27 : Hid (Below w2.heap.size w2 w7) := HB4.out.trans (HB7.out.mono HB4.out.size)
  have HOV7 := Lib.hid (hov.below HB27.out)
  have hsz7 : w1.heap.size ≤ w7.heap.size := Nat.le_trans HB2.out.size HB27.out.size
  have HY27 : Hid (Sg w7 (w2.heap.size + 1) A5 m5 c5 y) := HY7.out.mono HG4.out.lt
  clear hov hpv hpn k0 k1 l0 l1 l2
  go_upto_region 12 with (at_builtin; refine wl_appW w1.heap.size (.slice A2 n c2) hsz7 rfl (.tmp 45) (.tmp 48) 24 rfl Tryz.ePs _ m vs rfl HOV7.out rfl rfl (by unfold maxLen; omega) (by omega) ?_; intro v8 w8 ho8 hb8 hf8 hl8; obtain ⟨A6, c6, rfl⟩ := ho8.shape; have HST := Lib.hid (do_step (r := w.heap.size + 1 + 1) HW1.out HS2.out HOV.out HPV.out HPN.out HNE.out HB27.out HG7.out.lt HY27.out ho8 hb8.size hf8 hl8); have HG8 := Lib.hid (HG7.out.keep hb8.size HST.out.2.1); have HD8 := Lib.hid (HD7.out.belowB hb8 HW1.out); clear ho8 hb8 hf8 hl8 r0 r1 s0 s1 s2 g0 g1 q0 q1 q2 d0 d1 d2 e0 e1 e2 e3; obtain ⟨g0, g1, q0, q1, q2⟩ := HG8.out; obtain ⟨r0, r1, s0, s1, s2⟩ := HD8.out.res; obtain ⟨gg, hgg, hc9, hcm⟩ := HST.out.1.some; subst hgg; have hgr : ¬ w2.heap.size = w.heap.size + 1 + 1 := (by omega); have hgr2 : ¬ w.heap.size + 1 + 1 = w2.heap.size := (by omega))
  go_wp2_with fail
  obtain ⟨q, hq⟩ : ∃ q, q = (max 0 ((m : Int) - 7)).toNat := ⟨_, rfl⟩
  rw [← hq]
  have hqc : (q = 0 ∧ m ≤ 7) ∨ (q = 1 ∧ m = 8) := by omega
  clear hq
  have HR : Hid (RetKB w (⟨y, (d.past ++ [d.now]).drop (d.past.length - 7)⟩, true) (.returned (.tuple #[.agg #[.slice A5 m5 c5, .slice (some ⟨gg, q, none⟩) (m + 1 - q) (c6 - q)], .bool true])) (((((w8.setCell ⟨w2.heap.size, 1, none⟩ (.slice (some ⟨gg, 0, none⟩) (m + 1) c6)).setCell ⟨w2.heap.size, 1, none⟩ (.slice (some ⟨gg, q, none⟩) (m + 1 - q) (c6 - q))).setCell ⟨w2.heap.size, 0, none⟩ (.slice A5 m5 c5)).setCell ⟨w.heap.size + 1 + 1, 0, none⟩ (.slice A5 m5 c5)).setCell ⟨w.heap.size + 1 + 1, 1, none⟩ (.slice (some ⟨gg, q, none⟩) (m + 1 - q) (c6 - q)))) := by
    have hkf := ((((Kx.set w8 (X := fun b => b = w2.heap.size ∨ b = w.heap.size + 1 + 1) (p := ⟨w2.heap.size, 1, none⟩) (.inl rfl) (.slice (some ⟨gg, 0, none⟩) (m + 1) c6)).trans (Kx.set _ (p := ⟨w2.heap.size, 1, none⟩) (.inl rfl) (.slice (some ⟨gg, q, none⟩) (m + 1 - q) (c6 - q)))).trans (Kx.set _ (p := ⟨w2.heap.size, 0, none⟩) (.inl rfl) (.slice A5 m5 c5))).trans (Kx.set _ (p := ⟨w.heap.size + 1 + 1, 0, none⟩) (.inr rfl) (.slice A5 m5 c5))).trans (Kx.set _ (p := ⟨w.heap.size + 1 + 1, 1, none⟩) (.inr rfl) (.slice (some ⟨gg, q, none⟩) (m + 1 - q) (c6 - q)))
    have hs := HST.out.2.2.kx (fun b h1 h2 hx => by rcases hx with hx | hx <;> omega) hkf
    have hpf := (HST.out.1.kx hkf).po
    have hB : Below w.heap.size w (((((w8.setCell ⟨w2.heap.size, 1, none⟩ (.slice (some ⟨gg, 0, none⟩) (m + 1) c6)).setCell ⟨w2.heap.size, 1, none⟩ (.slice (some ⟨gg, q, none⟩) (m + 1 - q) (c6 - q))).setCell ⟨w2.heap.size, 0, none⟩ (.slice A5 m5 c5)).setCell ⟨w.heap.size + 1 + 1, 0, none⟩ (.slice A5 m5 c5)).setCell ⟨w.heap.size + 1 + 1, 1, none⟩ (.slice (some ⟨gg, q, none⟩) (m + 1 - q) (c6 - q))) :=
      ((((HD8.out.below.setCell (p := ⟨w2.heap.size, 1, none⟩) (by show w.heap.size ≤ w2.heap.size; omega) _).setCell (p := ⟨w2.heap.size, 1, none⟩) (by show w.heap.size ≤ w2.heap.size; omega) _).setCell (p := ⟨w2.heap.size, 0, none⟩) (by show w.heap.size ≤ w2.heap.size; omega) _).setCell (p := ⟨w.heap.size + 1 + 1, 0, none⟩) (by show w.heap.size ≤ w.heap.size + 1 + 1; omega) _).setCell (p := ⟨w.heap.size + 1 + 1, 1, none⟩) (by show w.heap.size ≤ w.heap.size + 1 + 1; omega) _
    rcases hqc with ⟨rfl, h7⟩ | ⟨rfl, h8⟩
    · have e : d.past.length - 7 = 0 := by rw [HL.out]; omega
      rw [e, List.drop_zero]
      exact ⟨_, _, _, _, _, _, rfl, hs.mono (by omega), hpf.ps.mono HD1.out.below.size, fun _ => hpf.mono HD1.out.below.size, hB⟩
    · have e : d.past.length - 7 = 1 := by rw [HL.out]; omega
      rw [e]
      exact ⟨_, _, _, _, _, _, rfl, hs.mono (by omega), hpf.tail.mono HD1.out.below.size, fun h => absurd h (by show ¬ ((d.past ++ [d.now]).drop 1).length < 8; rw [List.length_drop, List.length_append, HL.out, List.length_singleton]; omega), hB⟩
  refine bodyPost_ret (v := .tuple #[.agg #[.slice A5 m5 c5, .slice (some ⟨gg, q, none⟩) (m + 1 - q) (c6 - q)], .bool true]) (by simp [results, Tryz.results9, go_sem, r0, r1]) rfl ?_
  exact HR.out
theorem way_cf_written (args : Array Value) (w : World) : (callFunc 74 args).run Tryz.prog w = .ok (.enter 74 args) w := by simp [callFunc, go_sem, Tryz.func74, Tryz.f74]
theorem way_cf_there (args : Array Value) (w : World) : (callFunc 75 args).run Tryz.prog w = .ok (.enter 75 args) w := by simp [callFunc, go_sem, Tryz.func75, Tryz.f75]
theorem way_cf_back (args : Array Value) (w : World) : (callFunc 76 args).run Tryz.prog w = .ok (.enter 76 args) w := by simp [callFunc, go_sem, Tryz.func76, Tryz.f76]
theorem way_cf_moved (args : Array Value) (w : World) : (callFunc 77 args).run Tryz.prog w = .ok (.enter 77 args) w := by simp [callFunc, go_sem, Tryz.func77, Tryz.f77]
theorem way_cf_shifted (args : Array Value) (w : World) : (callFunc 78 args).run Tryz.prog w = .ok (.enter 78 args) w := by simp [callFunc, go_sem, Tryz.func78, Tryz.f78]
theorem way_cf_windowed (args : Array Value) (w : World) : (callFunc 79 args).run Tryz.prog w = .ok (.enter 79 args) w := by simp [callFunc, go_sem, Tryz.func79, Tryz.f79]
theorem way_cf_undone (args : Array Value) (w : World) : (callFunc 80 args).run Tryz.prog w = .ok (.enter 80 args) w := by simp [callFunc, go_sem, Tryz.func80, Tryz.f80]
/-- What a way tells, out of an option. -/
theorem iDeskDo_opt (A A' : Option Addr) (n c m c' : Nat) (d : Dk) (k i : Int) (t : Txt) (w : World) (hd : DkV w 0 A n c A' m d) (hk : dkB d = true) (F j : Nat) (r : Option (List C)) (hok : okD ⟨k, i, t⟩ = true) (hF : Instr.findNow .string (.string (bs (wordOf k))) waysL 0 = some (some (j, .func (.func F) #[] #[]))) (hcf : ∀ args w, (callFunc F args).run Tryz.prog w = .ok (.enter F args) w) (hE : EnvA w)
    (hk6 : (k == 6) = false) (hr : madF d.now ⟨k, i, t⟩ = r) (hW : ∀ w', DkV w' 0 A n c A' m d → EnvA w' → Calls Tryz.prog F #[.agg #[.slice A n c, .slice A' m c'], .agg #[.int .i64 k, .int .i64 i, .string (bs t)]] w' (RetO w' r)) :
    Calls Tryz.prog 9 #[.agg #[.slice A n c, .slice A' m c'], dv ⟨k, i, t⟩] w (RetKB w (doF d ⟨k, i, t⟩)) := by
  have hu : undB d ⟨k, i, t⟩ = false := by
    unfold undB
    rw [decide_eq_false (by simpa using hk6 : ¬ (⟨k, i, t⟩ : Dd).kind = 6)]; rfl
  cases r with
  | none => rw [doF_none hk hu hr]; exact iDeskDo_none A A' n c m c' d k i t w hd hk F j [] hok hF hcf hE hW
  | some y => rw [doF_some hk hu hr]; exact iDeskDo_made A A' n c m c' d k i t w hd hk F j y hk6 hok hF hcf hE hW
theorem okD_cases {k i : Int} {t : Txt} (h : okD ⟨k, i, t⟩ = true) : (k = 0 ∧ i = 0) ∨ (k = 1 ∧ i = 0 ∧ t = []) ∨ (k = 2 ∧ i = 0 ∧ t = []) ∨ (k = 3 ∧ t = []) ∨ (k = 4 ∧ t = []) ∨ (k = 5 ∧ t = []) ∨ (k = 6 ∧ i = 0 ∧ t = []) := by
  unfold okD at h
  simp only at h
  split at h
  · rename_i h0; exact .inl ⟨h0, of_decide_eq_true h⟩
  split at h
  · rename_i h0 h1
    rw [Bool.and_eq_true, decide_eq_true_eq, List.isEmpty_iff] at h
    rcases h1 with h1 | h1 | h1
    · exact .inr (.inl ⟨h1, h⟩)
    · exact .inr (.inr (.inl ⟨h1, h⟩))
    · exact .inr (.inr (.inr (.inr (.inr (.inr ⟨h1, h⟩)))))
  split at h
  · rename_i h0 h1 h2
    rw [List.isEmpty_iff] at h
    have : k = 3 ∨ k = 4 ∨ k = 5 := by omega
    rcases this with h3 | h3 | h3
    · exact .inr (.inr (.inr (.inl ⟨h3, h⟩)))
    · exact .inr (.inr (.inr (.inr (.inl ⟨h3, h⟩))))
    · exact .inr (.inr (.inr (.inr (.inr (.inl ⟨h3, h⟩)))))
  · cases h
theorem okD_not {k i : Int} {t : Txt} {d : Dk} (h : okD ⟨k, i, t⟩ = false) : undB d ⟨k, i, t⟩ = false ∧ madF d.now ⟨k, i, t⟩ = none := by
  have hx : ¬ okD ⟨k, i, t⟩ = true := by rw [h]; exact Bool.false_ne_true
  have n0 : ¬ (k = 0 ∧ i = 0) := fun ⟨a, b⟩ => hx (by subst a; subst b; rfl)
  have n1 : ∀ j, (j = 1 ∨ j = 2 ∨ j = 6) → ¬ (k = j ∧ i = 0 ∧ t = []) := fun j hj ⟨a, b, e⟩ => hx (by subst a; subst b; subst e; rcases hj with rfl | rfl | rfl <;> rfl)
  have n3 : ∀ j, (j = 3 ∨ j = 4 ∨ j = 5) → ¬ (k = j ∧ t = []) := fun j hj ⟨a, e⟩ => hx (by subst a; subst e; rcases hj with rfl | rfl | rfl <;> rfl)
  refine ⟨?_, ?_⟩
  · by_cases h6 : k = 6 ∧ i = 0 ∧ t = []
    · exact absurd h6 (n1 6 (by decide))
    · unfold undB
      by_cases a : k = 6
      · by_cases b : i = 0
        · have e : ¬ t = [] := fun e => h6 ⟨a, b, e⟩
          simp [e]
        · simp [b]
      · simp [a]
  · unfold madF
    simp only
    split
    · rename_i a; rw [if_neg (fun b => n0 ⟨a, b⟩)]
    split
    · rename_i _ a; rw [if_neg (fun b => n1 1 (by decide) ⟨a, b⟩)]
    split
    · rename_i _ _ a; rw [if_neg (fun b => n1 2 (by decide) ⟨a, b⟩)]
    split
    · rename_i _ _ _ a; rw [if_neg (fun b => n3 3 (by decide) ⟨a, b.1⟩)]
    split
    · rename_i _ _ _ _ a; rw [if_neg (fun b => n3 4 (by decide) ⟨a, b⟩)]
    split
    · rename_i _ _ _ _ _ a; rw [if_neg (fun b => n3 5 (by decide) ⟨a, b⟩)]
    · rfl
theorem iDeskDo (A A' : Option Addr) (n c m c' : Nat) (d : Dk) (a : Dd) (w : World) (hd : DkV w 0 A n c A' m d) (hz : DkS d) (hg : dkB d = true → LvOk d.now) (ht : a.text.length ≤ 1073741824) (hE : EnvA w) :
    Calls Tryz.prog 9 #[.agg #[.slice A n c, .slice A' m c'], dv a] w (RetKB w (doF d a)) := by
  obtain ⟨k, i, t⟩ := a
  cases hk : dkB d
  · exact iDeskDo_bad A A' n c m c' d k i t w hd hz hk
  have hl := hd.past.len
  have hnl := hd.now.len
  have hn : n ≤ 1048576 := by have := hz.now; omega
  cases hok : okD ⟨k, i, t⟩
  · obtain ⟨hu, hm⟩ := okD_not (d := d) hok
    rw [doF_none hk hu hm]
    exact iDeskDo_not A A' n c m c' d k i t w hd hk hok
  rcases okD_cases hok with ⟨rfl, rfl⟩ | ⟨rfl, rfl, rfl⟩ | ⟨rfl, rfl, rfl⟩ | ⟨rfl, rfl⟩ | ⟨rfl, rfl⟩ | ⟨rfl, rfl⟩ | ⟨rfl, rfl, rfl⟩
  · exact iDeskDo_opt A A' n c m c' d 0 0 t w hd hk _ 0 _ hok rfl way_cf_written hE rfl rfl fun w' h he => iWay_written A A' n c m c' 0 0 t w' ht he
  · exact iDeskDo_opt A A' n c m c' d 1 0 [] w hd hk _ 1 _ hok rfl way_cf_there hE rfl rfl fun w' h he => iWay_there A A' n c m c' d.now 1 0 [] w' hn h.now.cs (hg hk)
  · exact iDeskDo_opt A A' n c m c' d 2 0 [] w hd hk _ 2 _ hok rfl way_cf_back hE rfl rfl fun w' h he => iWay_back A A' n c m c' d.now 2 0 [] w' hn h.now.cs (hg hk)
  · refine iDeskDo_opt A A' n c m c' d 3 i [] w hd hk _ 3 _ hok rfl way_cf_moved hE rfl rfl fun w' h he => ?_
    have h1 := iWay_moved A A' n c m c' d.now 3 i [] w' hn h.now.cs
    by_cases hm : movF d.now i = []
    · rw [madF3n _ _ hm]
      rw [hm] at h1
      exact h1
    · rw [madF3 _ _ hm]
      rw [decide_eq_true hm] at h1
      exact h1
  · exact iDeskDo_opt A A' n c m c' d 4 i [] w hd hk _ 4 _ hok rfl way_cf_shifted hE rfl rfl fun w' h he => iWay_shifted A A' n c m c' d.now 4 i [] w' hn h.now.cs (hg hk)
  · exact iDeskDo_opt A A' n c m c' d 5 i [] w hd hk _ 5 _ hok rfl way_cf_windowed hE rfl rfl fun w' h he => iWay_windowed A A' n c m c' d.now 5 i [] w' hn h.now.cs
  · by_cases hp : d.past = []
    · have hm0 : m = 0 := by rw [← hl, hp]; rfl
      subst hm0
      have hu : undB d ⟨6, 0, []⟩ = false := by unfold undB; rw [decide_eq_false (p := d.past ≠ []) (fun h => h hp), Bool.and_false]
      rw [doF_none hk hu rfl]
      exact iDeskDo_none A A' n c 0 c' d 6 0 [] w hd hk _ 6 [] hok rfl way_cf_undone hE fun w' h he => iWay_undone_no A A' n c c' 6 0 [] w'
    · have hu : undB d ⟨6, 0, []⟩ = true := by unfold undB; rw [decide_eq_true hp]; rfl
      obtain ⟨p, hpm⟩ : ∃ p, m = p + 1 := ⟨m - 1, by have := List.length_pos_iff.2 hp; omega⟩
      obtain ⟨x, hx⟩ : ∃ x, d.past[p]? = some x := ⟨_, List.getElem?_eq_getElem (by omega)⟩
      have e : (d.past.getLast?).getD [] = x := by rw [List.getLast?_eq_getElem?, hl, hpm, Nat.add_sub_cancel, hx]; rfl
      have hx17 := hz.at_ hx
      have hp9 := hz.len
      rw [doF_undo hk hu, e]
      subst hpm
      exact iDeskDo_undo A A' n c (p + 1) c' d 6 0 [] w hd hk _ 6 x rfl (by omega) hok rfl way_cf_undone hE fun w' h he => iWay_undone A A' n c p c' d.past x 6 0 [] w' (by omega) h.past hx hx17
end Go.Proofs.YtnomlkkhkacajaaGreatDoor
namespace Go.Proofs.YtnomlkkhkacajaaGreatDoor
open Go.RowKit
open Go.Lib hiding intOf

def tWhat : Txt := [119, 104, 97, 116]
/-- Numbers of tones as an answer. -/
def tonT (is : List Int) : Txt := if is = [] then tNone else digT is
/-- The answer to a line that asks for a number of something. -/
noncomputable def askF (d : Dk) (word : Txt) (v : Int) : Txt :=
  if (word == [110, 117, 109, 98, 101, 114]) = true then orN ((oneF d.now v).bind zText) else if (word == [116, 111, 110, 101, 115]) = true then tonT (tonsO pwI d.now v) else tWhat
/-- The answer to a line that is no deed. -/
noncomputable def ansF (d : Dk) (l : Txt) : Txt :=
  if (l == [112, 111, 105, 110, 116, 115]) = true then itoa d.now.length
  else if (l == [112, 97, 115, 116]) = true then itoa d.past.length
  else if (l == [115, 105, 103, 110, 97, 108]) = true then orN (sigT d.now)
  else if (l == [103, 114, 101, 97, 116, 101, 115, 116]) = true then orN ((greO pwI d.now).map fun (k : Nat) => itoa (k : Int))
  else match whole? (cut1 32 l).2.1 0 9999 with
    | none => tWhat
    | some v => askF d (cut1 32 l).1 v
theorem nb {b : Bool} (h : b = false) : ¬ b = true := by rw [h]; exact Bool.false_ne_true
theorem ansF_points {d : Dk} {l : Txt} (h : (l == [112, 111, 105, 110, 116, 115]) = true) : ansF d l = itoa d.now.length := by unfold ansF; rw [if_pos h]
theorem ansF_past {d : Dk} {l : Txt} (h1 : (l == [112, 111, 105, 110, 116, 115]) = false) (h : (l == [112, 97, 115, 116]) = true) : ansF d l = itoa d.past.length := by unfold ansF; rw [if_neg (nb h1), if_pos h]
theorem ansF_signal {d : Dk} {l : Txt} (h1 : (l == [112, 111, 105, 110, 116, 115]) = false) (h2 : (l == [112, 97, 115, 116]) = false) (h : (l == [115, 105, 103, 110, 97, 108]) = true) : ansF d l = orN (sigT d.now) := by unfold ansF; rw [if_neg (nb h1), if_neg (nb h2), if_pos h]
theorem ansF_greatest {d : Dk} {l : Txt} (h1 : (l == [112, 111, 105, 110, 116, 115]) = false) (h2 : (l == [112, 97, 115, 116]) = false) (h3 : (l == [115, 105, 103, 110, 97, 108]) = false) (h : (l == [103, 114, 101, 97, 116, 101, 115, 116]) = true) : ansF d l = orN ((greO pwI d.now).map fun (k : Nat) => itoa (k : Int)) := by unfold ansF; rw [if_neg (nb h1), if_neg (nb h2), if_neg (nb h3), if_pos h]
theorem ansF_none {d : Dk} {l : Txt} (h1 : (l == [112, 111, 105, 110, 116, 115]) = false) (h2 : (l == [112, 97, 115, 116]) = false) (h3 : (l == [115, 105, 103, 110, 97, 108]) = false) (h4 : (l == [103, 114, 101, 97, 116, 101, 115, 116]) = false) (h : whole? (cut1 32 l).2.1 0 9999 = none) : ansF d l = tWhat := by unfold ansF; rw [if_neg (nb h1), if_neg (nb h2), if_neg (nb h3), if_neg (nb h4), h]
theorem ansF_some {d : Dk} {l : Txt} {v : Int} (h1 : (l == [112, 111, 105, 110, 116, 115]) = false) (h2 : (l == [112, 97, 115, 116]) = false) (h3 : (l == [115, 105, 103, 110, 97, 108]) = false) (h4 : (l == [103, 114, 101, 97, 116, 101, 115, 116]) = false) (h : whole? (cut1 32 l).2.1 0 9999 = some v) : ansF d l = askF d (cut1 32 l).1 v := by unfold ansF; rw [if_neg (nb h1), if_neg (nb h2), if_neg (nb h3), if_neg (nb h4), h]
theorem askF_number {d : Dk} {t : Txt} {v : Int} (h : (t == [110, 117, 109, 98, 101, 114]) = true) : askF d t v = orN ((oneF d.now v).bind zText) := by unfold askF; rw [if_pos h]
theorem askF_tones {d : Dk} {t : Txt} {v : Int} (h1 : (t == [110, 117, 109, 98, 101, 114]) = false) (h : (t == [116, 111, 110, 101, 115]) = true) : askF d t v = tonT (tonsO pwI d.now v) := by unfold askF; rw [if_neg (nb h1), if_pos h]
theorem askF_not {d : Dk} {t : Txt} {v : Int} (h1 : (t == [110, 117, 109, 98, 101, 114]) = false) (h : (t == [116, 111, 110, 101, 115]) = false) : askF d t v = tWhat := by unfold askF; rw [if_neg (nb h1), if_neg (nb h)]
/-- The four lines that ask for something of their own. -/
theorem line_cases (l : Txt) : (l == [112, 111, 105, 110, 116, 115]) = true ∨ ((l == [112, 111, 105, 110, 116, 115]) = false ∧ (l == [112, 97, 115, 116]) = true ∧ (l == [115, 105, 103, 110, 97, 108]) = false ∧ (l == [103, 114, 101, 97, 116, 101, 115, 116]) = false) ∨ ((l == [112, 111, 105, 110, 116, 115]) = false ∧ (l == [112, 97, 115, 116]) = false ∧ (l == [115, 105, 103, 110, 97, 108]) = true ∧ (l == [103, 114, 101, 97, 116, 101, 115, 116]) = false) ∨ ((l == [112, 111, 105, 110, 116, 115]) = false ∧ (l == [112, 97, 115, 116]) = false ∧ (l == [115, 105, 103, 110, 97, 108]) = false ∧ (l == [103, 114, 101, 97, 116, 101, 115, 116]) = true) ∨ ((l == [112, 111, 105, 110, 116, 115]) = false ∧ (l == [112, 97, 115, 116]) = false ∧ (l == [115, 105, 103, 110, 97, 108]) = false ∧ (l == [103, 114, 101, 97, 116, 101, 115, 116]) = false) := by
  by_cases h1 : l = [112, 111, 105, 110, 116, 115]
  · exact .inl (beq_iff_eq.2 h1)
  by_cases h2 : l = [112, 97, 115, 116]
  · subst h2; exact .inr (.inl (by decide))
  by_cases h3 : l = [115, 105, 103, 110, 97, 108]
  · subst h3; exact .inr (.inr (.inl (by decide)))
  by_cases h4 : l = [103, 114, 101, 97, 116, 101, 115, 116]
  · subst h4; exact .inr (.inr (.inr (.inl (by decide))))
  exact .inr (.inr (.inr (.inr ⟨beq_eq_false_iff_ne.2 h1, beq_eq_false_iff_ne.2 h2, beq_eq_false_iff_ne.2 h3, beq_eq_false_iff_ne.2 h4⟩)))
theorem word_cases (t : Txt) : ((t == [110, 117, 109, 98, 101, 114]) = true ∧ (t == [116, 111, 110, 101, 115]) = false) ∨ ((t == [110, 117, 109, 98, 101, 114]) = false ∧ (t == [116, 111, 110, 101, 115]) = true) ∨ ((t == [110, 117, 109, 98, 101, 114]) = false ∧ (t == [116, 111, 110, 101, 115]) = false) := by
  by_cases h1 : t = [110, 117, 109, 98, 101, 114]
  · subst h1; exact .inl (by decide)
  by_cases h2 : t = [116, 111, 110, 101, 115]
  · subst h2; exact .inr (.inl (by decide))
  exact .inr (.inr ⟨beq_eq_false_iff_ne.2 h1, beq_eq_false_iff_ne.2 h2⟩)
theorem LvOk.good {x : List C} (h : LvOk x) : Good x := by obtain ⟨a, h1, h2, h3⟩ := h; exact h1.good h2 (by omega)
theorem tonsO_bd (f : C → Nat) (xs : List C) (m : Int) : ∀ x ∈ tonsO f xs m, -9999999 ≤ x ∧ x ≤ 9999999 := fun x hx => by
  unfold tonsO at hx
  split at hx
  · cases hx
  · split at hx
    · unfold tonsL at hx
      obtain ⟨k, _, rfl⟩ := List.mem_map.1 hx
      cases tonI _ _ _ _ <;> decide
    · cases hx
theorem tonsO_len {f : C → Nat} {xs : List C} {m : Int} (hg : Good xs) : (tonsO f xs m).length ≤ 16 := by
  unfold tonsO
  split
  · exact Nat.zero_le _
  · rename_i l ht
    split
    · rw [tonsL_len, pwL_len]
      have hs : sizB xs = true := by
        cases h : sizB xs
        · rw [transF_no h] at ht; cases ht
        · rfl
      obtain ⟨_, l', hl', hll, _⟩ := hg hs
      rw [ht] at hl'
      injection hl' with hl'
      subst hl'
      have := (siz_parts hs).2.2.2.1
      omega
    · exact Nat.zero_le _
theorem orN_if {o : Option Txt} : (if o.isSome = true then o.getD [] else tNone) = orN o := by cases o <;> rfl
theorem tonT_if (is : List Int) : (if (decide (0 < is.length)) = true then digT is else tNone) = tonT is := by
  unfold tonT
  cases is with
  | nil => rfl
  | cons a l => rw [if_pos (by simp), if_neg (by simp)]

set_option maxHeartbeats 4000000 in
set_option maxRecDepth 100000 in
theorem iAnswer (A A' : Option Addr) (n c m c' : Nat) (d : Dk) (l : Txt) (w : World) (hd : DkV w 0 A n c A' m d) (hz : DkS d) (hg : LvOk d.now) (hl : l.length ≤ 1048576) (hE : EnvX w) :
    Calls Tryz.prog 50 #[.agg #[.slice A n c, .slice A' m c'], .string (bs l)] w fun e w' => e = .returned (.string (bs (ansF d l))) ∧ Below w.heap.size w w' := by
  have hto := bs_toList l
  have hnl := hd.now.len
  have hml := hd.past.len
  have hn17 : n ≤ 17 := by have := hz.now; omega
  have hm9 : m ≤ 9 := by have := hz.len; omega
  have HG := Lib.hid hg.good
  have HPR := Lib.hid (hg.prod (-1))
  have HNL := Lib.hid hnl
  have HML := Lib.hid hml
  obtain ⟨w0, hw0⟩ : ∃ w0, w0 = w.alloc (.cells #[.slice A n c, .slice A' m c'] 26) := ⟨_, rfl⟩
  have HB0 : Hid (Below w.heap.size w w0) := by rw [hw0]; exact below_alloc _ _
  have HK0 : Hid (KAt w0 w.heap.size (.slice A n c) (.slice A' m c')) := by rw [hw0]; exact KAt.new w _ _ _
  have HV0 : Hid (DkV w0 0 A n c A' m d) := hd.below HB0.out
  have HE := Lib.hid hE
  have HIT : Hid (∀ (x : Int) w', -9223372036854775808 ≤ x → x ≤ 9223372036854775807 → EnvT w' → Calls Tryz.prog 68 #[.int .i64 x] w' fun e w'' => e = .returned (.string (bs (itoa x))) ∧ Below w'.heap.size w' w'') := fun x w' h1 h2 h => iItoa x h1 h2 w' h
  have HE0 : Hid (EnvX w0) := hE.kp (Kp.below HB0.out)
  clear hd hz hg hnl hml hE
  rcases line_cases l with h1 | ⟨h1, h2, h3, h4⟩ | ⟨h1, h2, h3, h4⟩ | ⟨h1, h2, h3, h4⟩ | ⟨h1, h2, h3, h4⟩
  · have HA := Lib.hid (ansF_points (d := d) h1)
    go_enter Tryz.func50, Tryz.ntmps50
    go_wp2_with fail
    rw [← hw0]
    clear hw0
    refine (HIT.out _ w0 (by omega) (by omega) HE0.out.a.tab).mono ?_
    rintro e w1 ⟨rfl, hb1⟩
    have HB1 : Hid (Below w.heap.size w w1) := HB0.out.trans (hb1.mono HB0.out.size)
    clear hb1
    go_wp2_with fail
    go_ret
    exact ⟨by rw [HA.out, HNL.out]; rfl, HB1.out⟩
  · have HA := Lib.hid (ansF_past (d := d) h1 h2)
    go_enter Tryz.func50, Tryz.ntmps50
    go_wp2_with fail
    rw [← hw0]
    clear hw0
    refine (HIT.out _ w0 (by omega) (by omega) HE0.out.a.tab).mono ?_
    rintro e w1 ⟨rfl, hb1⟩
    have HB1 : Hid (Below w.heap.size w w1) := HB0.out.trans (hb1.mono HB0.out.size)
    clear hb1
    go_wp2_with fail
    go_ret
    exact ⟨by rw [HA.out, HML.out]; rfl, HB1.out⟩
  · have HA := Lib.hid (ansF_signal (d := d) h1 h2 h3)
    go_enter Tryz.func50, Tryz.ntmps50
    go_wp2_with fail
    rw [← hw0]
    clear hw0
    refine (iSignalText A n c d.now w0 (by omega) HV0.out.now.cs HE0.out.a.tab).mono ?_
    rintro e w1 ⟨rfl, hb1⟩
    have HB1 : Hid (Below w.heap.size w w1) := HB0.out.trans (hb1.mono HB0.out.size)
    obtain ⟨o, ho⟩ : ∃ o, o = sigT d.now := ⟨_, rfl⟩
    rw [← ho] at HA ⊢
    clear hb1 ho
    have HOR : Hid (∀ w', Calls Tryz.prog 94 #[.string (bs (o.getD [])), .bool o.isSome] w' fun e w'' => e = .returned (.string (bs (orN o))) ∧ w'' = w') := fun w' => by rw [← orN_if]; exact orN_any _ _ _
    go_wp2_with fail
    refine (HOR.out w1).mono ?_
    rintro e w2 ⟨rfl, hw2⟩
    obtain rfl := hw2.symm
    go_wp2_with fail
    go_ret
    exact ⟨by rw [HA.out]; rfl, HB1.out⟩
  · have HA := Lib.hid (ansF_greatest (d := d) h1 h2 h3 h4)
    go_enter Tryz.func50, Tryz.ntmps50
    go_wp2_with fail
    rw [← hw0]
    clear hw0
    refine (iGreatest A n c d.now w0 (by omega) HV0.out.now.cs HG.out).mono ?_
    rintro e w1 ⟨v, rfl, hv, hv1, hv2, hb1⟩
    have HB1 : Hid (Below w.heap.size w w1) := HB0.out.trans (hb1.mono HB0.out.size)
    have HE1 := Lib.hid (HE0.out.kp (Kp.below hb1))
    obtain ⟨o, ho⟩ : ∃ o, o = greO pwI d.now := ⟨_, rfl⟩
    rw [← ho] at HA hv ⊢
    have HV := Lib.hid hv
    clear hb1 ho hv
    go_wp2_with fail
    refine (HIT.out v w1 (by omega) (by omega) HE1.out.a.tab).mono ?_
    rintro e w2 ⟨rfl, hb2⟩
    have HB2 : Hid (Below w.heap.size w w2) := HB1.out.trans (hb2.mono HB1.out.size)
    clear hb2
    have HOR : Hid (∀ w', Calls Tryz.prog 94 #[.string (bs (itoa v)), .bool o.isSome] w' fun e w'' => e = .returned (.string (bs (orN (o.map fun (k : Nat) => itoa (k : Int))))) ∧ w'' = w') := fun w' => by
      have hq : (if o.isSome = true then itoa v else tNone) = orN (o.map fun (k : Nat) => itoa (k : Int)) := by
        cases o with
        | none => rfl
        | some k => rw [HV.out k rfl]; rfl
      rw [← hq]; exact orN_any _ _ _
    obtain ⟨y, hy⟩ : ∃ y, y = orN (o.map fun (k : Nat) => itoa (k : Int)) := ⟨_, rfl⟩
    rw [← hy] at HOR HA
    clear hy
    go_wp2_with fail
    refine (HOR.out w2).mono ?_
    rintro e w3 ⟨rfl, hw3⟩
    obtain rfl := hw3.symm
    go_wp2_with fail
    go_ret
    exact ⟨by rw [HA.out]; rfl, HB2.out⟩
  · obtain ⟨a, ha⟩ : ∃ a, a = (cut1 32 l).1 := ⟨_, rfl⟩
    obtain ⟨r, hr⟩ : ∃ r, r = (cut1 32 l).2.1 := ⟨_, rfl⟩
    have hal : a.length ≤ 1048576 := by rw [ha]; have := (cut1_len 32 l).1; omega
    have hrl : r.length ≤ 1048576 := by rw [hr]; have := (cut1_len 32 l).2; omega
    have HCU : Hid (Calls Tryz.prog 66 #[.string (bs l), .string (bs [32])] w0 fun e w' => e = .returned (.tuple #[.string (bs a), .string (bs r), .bool (cut1 32 l).2.2]) ∧ Below w0.heap.size w0 w') := by
      rw [ha, hr]
      exact iCut l 32 (by omega) w0 HE0.out
    have HWH : Hid (∀ w', EnvA w' → Calls Tryz.prog 92 #[.string (bs r), .int .i64 0, .int .i64 9999] w' fun e w'' => e = .returned (.tuple #[ov (whole? r 0 9999), .bool (whole? r 0 9999).isSome]) ∧ Below w'.heap.size w' w'') := fun w' h => iWhole r 0 9999 (by omega) (by omega) (by omega) w' h
    have hta := bs_toList a
    have HAN : Hid (whole? r 0 9999 = none → ansF d l = tWhat) := fun h => ansF_none h1 h2 h3 h4 (by rw [← hr]; exact h)
    have HAS : Hid (∀ v, whole? r 0 9999 = some v → ansF d l = askF d a v) := fun v h => by rw [ha]; exact ansF_some h1 h2 h3 h4 (by rw [← hr]; exact h)
    obtain ⟨f, hf⟩ : ∃ f, f = (cut1 32 l).2.2 := ⟨_, rfl⟩
    rw [← hf] at HCU
    clear ha hr hf
    go_enter Tryz.func50, Tryz.ntmps50
    go_wp2_with fail
    rw [← hw0]
    clear hw0
    refine HCU.out.mono ?_
    rintro e w1 ⟨rfl, hb1⟩
    have HB1 : Hid (Below w.heap.size w w1) := HB0.out.trans (hb1.mono HB0.out.size)
    have HE1 := Lib.hid (HE0.out.kp (Kp.below hb1))
    have HK1 := Lib.hid (HK0.out.below hb1 HK0.out.lt)
    have HV1 := Lib.hid (HV0.out.below hb1)
    clear hb1
    go_wp2_with fail
    refine (HWH.out w1 HE1.out.a).mono ?_
    rintro e w2 ⟨rfl, hb2⟩
    have HB2 : Hid (Below w.heap.size w w2) := HB1.out.trans (hb2.mono HB1.out.size)
    have HE2 := Lib.hid (HE1.out.kp (Kp.below hb2))
    have HK2 := Lib.hid (HK1.out.below hb2 HK1.out.lt)
    have HV2 := Lib.hid (HV1.out.below hb2)
    clear hb2
    obtain ⟨k0, k1, _, _, kl⟩ := HK2.out
    cases hwh : whole? r 0 9999 with
    | none =>
      have HA := Lib.hid (HAN.out hwh)
      clear hwh
      unfold ov
      simp only [Option.isSome_none]
      go_wp2_with fail
      go_ret
      exact ⟨by rw [HA.out]; rfl, HB2.out⟩
    | some v =>
      have HA := Lib.hid (HAS.out v hwh)
      have hv0 : 0 ≤ v ∧ v ≤ 9999 := ((whole?_iff (by omega) (by omega)).1 hwh).2
      clear hwh
      unfold ov
      simp only [Option.isSome_some, Option.getD_some]
      rcases word_cases a with ⟨g1, g2⟩ | ⟨g1, g2⟩ | ⟨g1, g2⟩
      · have HQ := Lib.hid (askF_number (d := d) (v := v) g1)
        go_wp2_with fail
        refine (iOne A n c d.now v w2 (by omega) HV2.out.now.cs (fun _ => HPR.out)).mono ?_
        rintro e w3 ⟨rfl, hb3⟩
        have HB3 : Hid (Below w.heap.size w w3) := HB2.out.trans (hb3.mono HB2.out.size)
        have HE3 := Lib.hid (HE2.out.kp (Kp.below hb3))
        obtain ⟨o, ho⟩ : ∃ o, o = oneF d.now v := ⟨_, rfl⟩
        rw [← ho] at HQ ⊢
        obtain ⟨z, hz⟩ : ∃ z, z = o.getD (0, 0) := ⟨_, rfl⟩
        rw [← hz]
        have HTX : Hid (Calls Tryz.prog 97 #[.complex .f32 z.1 z.2] w3 fun e w' => e = .returned (.tuple #[.string (bs ((zText z).getD [])), .bool (zText z).isSome]) ∧ Below w3.heap.size w3 w') := iText z w3 HE3.out.a.tab
        have HQ2 : Hid ((if (o.isSome && (zText z).isSome) = true then (zText z).getD [] else tNone) = orN (o.bind zText)) := by
          show _ = _
          rw [hz]
          cases o with
          | none => rfl
          | some y => exact orN_if
        clear ho hb3 hz
        obtain ⟨u, hu⟩ : ∃ u, u = zText z := ⟨_, rfl⟩
        rw [← hu] at HTX HQ2
        clear hu
        unfold cv
        go_wp2_with fail
        refine HTX.out.mono ?_
        rintro e w4 ⟨rfl, hb4⟩
        have HB4 : Hid (Below w.heap.size w w4) := HB3.out.trans (hb4.mono HB3.out.size)
        clear hb4
        have HOR : Hid (∀ w', Calls Tryz.prog 94 #[.string (bs (u.getD [])), .bool (o.isSome && u.isSome)] w' fun e w'' => e = .returned (.string (bs (orN (o.bind zText)))) ∧ w'' = w') := fun w' => by rw [← HQ2.out]; exact orN_any _ _ _
        obtain ⟨y, hy⟩ : ∃ y, y = orN (o.bind zText) := ⟨_, rfl⟩
        rw [← hy] at HOR HQ
        clear hy HQ2
        cases hos : o.isSome
        all_goals
          rw [hos] at HOR
          simp only [Bool.false_and, Bool.true_and] at HOR
          clear hos
          go_wp2_with fail
          refine (HOR.out _).mono ?_
          rintro e w5 ⟨rfl, hw5⟩
          obtain rfl := hw5.symm
          go_wp2_with fail
          go_ret
          exact ⟨by rw [HA.out, HQ.out]; rfl, HB4.out⟩
      · have HQ := Lib.hid (askF_tones (d := d) (v := v) g1 g2)
        go_wp2_with fail
        refine (iTones A n c d.now v w2 (by omega) HV2.out.now.cs HG.out).mono ?_
        rintro e w3 ⟨A5, n5, c5, hn5, rfl, ho5, hb3⟩
        have HB3 : Hid (Below w.heap.size w w3) := HB2.out.trans (hb3.mono HB2.out.size)
        have HE3 := Lib.hid (HE2.out.kp (Kp.below hb3))
        have HO5 := Lib.hid ho5.sl
        have hn16 : n5 ≤ 16 := by rw [hn5]; exact tonsO_len HG.out
        have HN5 := Lib.hid hn5
        clear hb3 ho5 hn5
        go_wp2_with fail
        refine (iDigitsOf A5 n5 c5 (tonsO pwI d.now v) w3 hn16 HO5.out (tonsO_bd _ _ _) HE3.out.a.tab).mono ?_
        rintro e w4 ⟨rfl, hb4⟩
        have HB4 : Hid (Below w.heap.size w w4) := HB3.out.trans (hb4.mono HB3.out.size)
        clear hb4
        have HOR : Hid (∀ w', Calls Tryz.prog 94 #[.string (bs (digT (tonsO pwI d.now v))), .bool (decide (0 < n5))] w' fun e w'' => e = .returned (.string (bs (tonT (tonsO pwI d.now v)))) ∧ w'' = w') := fun w' => by
          rw [← tonT_if, HN5.out]; exact orN_any _ _ _
        by_cases h0 : 0 < n5
        · have h0i : (0 : Int) < (n5 : Int) := by omega
          rw [decide_eq_true h0] at HOR
          go_wp2_with fail
          refine (HOR.out _).mono ?_
          rintro e w5 ⟨rfl, hw5⟩
          obtain rfl := hw5.symm
          go_wp2_with fail
          go_ret
          exact ⟨by rw [HA.out, HQ.out]; rfl, HB4.out⟩
        · have h0i : ¬ (0 : Int) < (n5 : Int) := by omega
          rw [decide_eq_false h0] at HOR
          go_wp2_with fail
          refine (HOR.out _).mono ?_
          rintro e w5 ⟨rfl, hw5⟩
          obtain rfl := hw5.symm
          go_wp2_with fail
          go_ret
          exact ⟨by rw [HA.out, HQ.out]; rfl, HB4.out⟩
      · have HQ := Lib.hid (askF_not (d := d) (v := v) g1 g2)
        go_wp2_with fail
        go_ret
        exact ⟨by rw [HA.out, HQ.out]; rfl, HB2.out⟩
end Go.Proofs.YtnomlkkhkacajaaGreatDoor
