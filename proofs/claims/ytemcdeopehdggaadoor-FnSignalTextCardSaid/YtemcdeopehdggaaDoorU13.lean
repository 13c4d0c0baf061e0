/- The law FnSignalText, walked. -/
import Derived.Test.YtemcdeopehdggaaDoorU12
namespace Go.Proofs.YtemcdeopehdggaaDoor
open Go.RowKit
open Go.Lib hiding intOf

set_option maxHeartbeats 2000000 in
set_option maxRecDepth 100000 in
theorem lawSignalText (A : Option Addr) (n c : Nat) (w : World) (hnc : n ≤ c) (h : Code8 w A n) (hE : EnvA w) :
    Calls Tryd.prog 4 #[.slice A n c] w fun e w' => e = .returned (.bool true) ∧ Below w.heap.size w w' := by
  by_cases hbig : 1048576 < n
  · clear hE
    go_enter Tryd.func4, Tryd.ntmps4
    go_wp2_with fail
    go_ret
    exact ⟨rfl, Below.refl _ _⟩
  have hn2 : n ≤ 1048576 := by omega
  have HE := Lib.hid hE
  have hto := bs_toList
  clear hE
  go_enter Tryd.func4, Tryd.ntmps4
  go_wp2_with fail
  refine (drawSignalText_any A n c w hnc hn2 h).mono ?_
  rintro e w1 ⟨A1, m, c1, xs, rfl, ho1, hm, hd, hb1⟩
  have HX := Lib.hid ho1
  have HL := Lib.hid (Cs.len (xs := xs) ho1.sl)
  have HB1 := Lib.hid hb1
  clear ho1 hb1 hd h
  go_wp2_with fail
  refine (iSignalText A1 m c1 xs w1 (by omega) HX.out.sl (HE.out.tab.kp (Kp.below HB1.out))).mono ?_
  rintro e w2 ⟨rfl, hb2⟩
  have HX2 := Lib.hid (HX.out.below hb2)
  have HB2 : Hid (Below w.heap.size w w2) := HB1.out.trans (hb2.mono HB1.out.size)
  clear hb2
  go_wp2_with fail
  refine (sSignalText A1 m c1 xs w2 (by omega) HX2.out.sl).mono ?_
  rintro e w3 ⟨rfl, hb3⟩
  have HX3 := Lib.hid (HX2.out.below hb3)
  have HB3 : Hid (Below w.heap.size w w3) := HB2.out.trans (hb3.mono HB2.out.size)
  clear hb3
  cases hs : sigT xs with
  | none =>
    clear hs
    simp only [Option.getD_none, Option.isSome_none]
    go_wp2_with fail
    refine (alive_true _).mono ?_
    rintro e w5 ⟨rfl, rfl⟩
    go_wp2_with fail
    go_ret
    exact ⟨rfl, HB3.out⟩
  | some t =>
    obtain ⟨h1, ps, h2, h3, h4, h5⟩ := sigT_some hs
    have HS := Lib.hid h1
    have HT := Lib.hid h2
    have HIN := Lib.hid h4
    have hrs := readSig_text h4 h5
    have HRS := Lib.hid hrs
    have HST := Lib.hid (sigT_mils h4 h5)
    have HTL := Lib.hid (sigText_len h4)
    have hl := thoAll_len h2
    subst h3
    clear hs h1 h2 h4 hrs
    simp only [Option.getD_some, Option.isSome_some]
    go_wp2_with fail
    refine (iReadSignal (sigText ps) (by have := HTL.out; omega) w3 (HE.out.kp (Kp.below HB3.out))).mono ?_
    rw [HRS.out]
    rintro e w4 ⟨A4, m4, c4, rfl, ho4, hb4⟩
    simp only [Option.map_some, Option.getD_some, Option.isSome_some] at ho4 ⊢
    obtain rfl : m4 = m := by have h1 := ho4.len; rw [List.length_map, mils_len] at h1; have := HL.out; omega
    have HX4 := Lib.hid (HX3.out.below hb4)
    have HY4 := Lib.hid ho4
    have HB4 : Hid (Below w.heap.size w w4) := HB3.out.trans (hb4.mono HB3.out.size)
    have HL2 : Hid (ps.length = m4) := by show _ = _; rw [hl]; exact HL.out
    clear ho4 hb4 hl
    go_wp2_with fail
    refine (iSignalText A4 m4 c4 (mils ps) w4 (by omega) HY4.out.sl (HE.out.tab.kp (Kp.below HB4.out))).mono ?_
    rw [HST.out]
    rintro e w5 ⟨rfl, hb5⟩
    simp only [Option.getD_some, Option.isSome_some]
    have HX5 := Lib.hid (HX4.out.below hb5)
    have HY5 := Lib.hid (HY4.out.below hb5)
    have HB5 : Hid (Below w.heap.size w w5) := HB4.out.trans (hb5.mono HB4.out.size)
    clear hb5
    go_wp2_with fail
    go_loopw [12, 13, 14, 15, 16] (fun ex i _ _ _ wr => ∃ (k : Nat) (b : Bool), k ≤ m4 ∧ i = .int .i64 k ∧ ex = .bool b ∧ (b = true → ∀ j, j < k → EqV (nth (mils ps) j) (nth xs j)) ∧ Below w5.heap.size w5 wr) (fun _ i _ _ _ _ => m4 - (intOf i).toNat)
    case atStart => exact ⟨0, true, by omega, rfl, rfl, fun _ j hj => absurd hj (by omega), Below.refl _ _⟩
    case round =>
      obtain ⟨k, b, hk, rfl, rfl, heq, hb⟩ := hrel
      have HQ := Lib.hid heq
      have HB := Lib.hid hb
      clear heq hb
      by_cases hlt : k < m4
      · have hx2 : Cs wr A1 m4 xs := Sl.below HX5.out.sl HB.out
        obtain ⟨b1, o, rfl, hbl, hc⟩ := hx2.at_ hlt
        have hck := hc k hlt
        have ht := thoAll_nth HT.out (k := k) (by rw [HL.out]; exact hlt)
        have hmil := mils_nth (ps := ps) (k := k) (by rw [HL2.out]; exact hlt)
        have hf1 := sigB_fin HS.out (k := k) (by rw [HL.out]; exact hlt)
        have hf2 : finB (nth (mils ps) k) = true := by rw [hmil]; exact milli_fin _ _
        have HM : Hid (∀ w, Calls Tryd.prog 22 #[cv (nth xs k)] w fun e w' => e = .returned (.tuple #[.int .i64 (pth ps k).1, .int .i64 (pth ps k).2, .bool true]) ∧ Dr w w') := fun w => by have := sMilliOf (nth xs k) w; rw [ht] at this; exact this
        have HZ : Hid (∀ w, Calls Tryd.prog 23 #[.int .i64 (pth ps k).1, .int .i64 (pth ps k).2] w fun e w' => e = .returned (cv (nth (mils ps) k)) ∧ w' = w) := fun w => by rw [hmil]; exact sMilli _ _ w
        have HEV : Hid ((FloatKind.f32.format.order (nth (mils ps) k).1 (nth xs k).1 == some .eq) = true → (FloatKind.f32.format.order (nth (mils ps) k).2 (nth xs k).2 == some .eq) = true → b = true → ∀ j, j < k + 1 → EqV (nth (mils ps) j) (nth xs j)) := fun h1 h2 h3 j hj => by
          by_cases hjk : j = k
          · subst hjk; exact eqV_of_order hf2 hf1 h1 h2
          · exact HQ.out h3 j (by omega)
        clear ht hmil hf1 hf2 hc hx2
        generalize hz1 : (nth (mils ps) k).1 = z1 at *
        generalize hz2 : (nth (mils ps) k).2 = z2 at *
        generalize hy1 : (nth xs k).1 = y1 at *
        generalize hy2 : (nth xs k).2 = y2 at *
        unfold cv at HM HZ hck
        rw [hz1, hz2] at HZ
        rw [hy1, hy2] at HM hck
        clear hz1 hz2 hy1 hy2
        generalize (pth ps k).1 = r1 at *
        generalize (pth ps k).2 = r2 at *
        cases o1 : (FloatKind.f32.format.order z1 y1 == some .eq) <;> cases o2 : (FloatKind.f32.format.order z2 y2 == some .eq) <;> cases b
        all_goals
          rw [o1, o2] at HEV
          go_wp2_with fail
          refine (HM.out _).mono ?_
          rintro e w6 ⟨rfl, q, hq⟩
          have hck6 : w6.cell? ⟨b1, o + k, none⟩ = some (.complex .f32 y1 y2) := by rw [hq]; exact hck
          have HB6 : Hid (Below w5.heap.size w5 w6) := by show Below _ _ _; rw [hq]; exact below_drewN HB.out q
          clear hq hck
          go_wp2_with fail
          go_quiet ((first | (go_at_call 23; exact Calls.quiet_of_same (HZ.out _)) | fail))
          go_wp2_with fail
          go_roundw
          case rel => exact ⟨k + 1, _, by omega, by go_num, rfl, by first | exact HEV.out rfl rfl | exact (fun _ => HEV.out trivial trivial trivial) | exact (fun h => by cases h), below_drewN HB6.out _⟩
          case measure => simp [intOf]; omega
      · obtain rfl : k = m4 := by omega
        have HB7 : Hid (Below w.heap.size w wr) := HB5.out.trans (HB.out.mono HB5.out.size)
        cases b with
        | false =>
          go_wp2_with fail
          go_ret
          exact ⟨rfl, HB7.out⟩
        | true =>
          have HX6 : Hid (Cs wr A1 k xs) := Sl.below HX5.out.sl HB.out
          have HY6 : Hid (Cs wr A4 k (mils ps)) := Sl.below HY5.out.sl HB.out
          go_wp2_with fail
          refine (sameSignal_true A4 A1 k c4 c1 (mils ps) xs wr (by omega) HY6.out HX6.out (by first | exact HQ.out rfl | exact HQ.out trivial)).mono ?_
          rintro e w7 ⟨rfl, k7, rfl⟩
          go_wp2_with fail
          go_ret
          exact ⟨rfl, below_drewN HB7.out _⟩
end Go.Proofs.YtemcdeopehdggaaDoor
