/- Texts on the way to a law (H12, H21, H22), each with its own remark. -/
import Derived.Test.YtnomlkkhkacajaaGreatDoorPC34
import Derived.Test.YtnomlkkhkacajaaGreatDoorPC35
import Derived.Test.YtnomlkkhkacajaaGreatDoorPC33
namespace Go.Proofs.YtnomlkkhkacajaaGreatDoor
open Go.RowKit
open Go.Lib hiding intOf

theorem Ds.take_ {w : World} {A : Option Addr} {l h : Nat} {ds : List Dd} (hd : Ds w A l ds) (hh : h ≤ l) : Ds w A h (ds.take h) := by
  refine ⟨by rw [List.length_take, hd.1]; omega, ?_⟩
  rcases hd.2 with h0 | ⟨b, o, hA, hb, hc⟩
  · exact .inl (by omega)
  · refine .inr ⟨b, o, hA, hb, fun k a ha => hc k a ?_⟩
    rw [List.getElem?_take] at ha
    split at ha
    · exact ha
    · cases ha
theorem Ds.drop_ {w : World} {b o l h : Nat} {ds : List Dd} (hd : Ds w (some ⟨b, o, none⟩) l ds) (hh : h < l) : Ds w (some ⟨b, o + h * 3, none⟩) (l - h) (ds.drop h) := by
  refine ⟨by rw [List.length_drop, hd.1], ?_⟩
  rcases hd.2 with h0 | ⟨b', o', hA, hb, hc⟩
  · omega
  · injection hA with hA
    injection hA with h1 h2
    subst h1; subst h2
    refine .inr ⟨b, o + h * 3, rfl, hb, fun k a ha => ?_⟩
    rw [List.getElem?_drop] at ha
    have := hc (h + k) a ha
    rwa [show o + (h + k) * 3 = o + h * 3 + k * 3 by omega] at this
theorem dz_cells : (madeCells (Value.agg #[.int .i64 0, .int .i64 0, .string ⟨#[]⟩]).cells (41 * 3)).toList = (List.replicate 41 (⟨0, 0, []⟩ : Dd)).flatMap dcs := by kernel_rfl
theorem makeD_run (w : World) :
    ∃ w', Sem.run Tryz.prog (Instr.makeSlice 37 (.int .i64 41) (.int .i64 41)) w = .ok (.slice (some ⟨w.heap.size, 0, none⟩) 41 41) w' ∧ Od w' w.heap.size (.slice (some ⟨w.heap.size, 0, none⟩) 41 41) 41 (List.replicate 41 ⟨0, 0, []⟩) ∧ Below w.heap.size w w' := by
  have hinf : (Tryz.prog.info? 28).map (fun i => (i.zero, i.size, i.bytes)) = some (some (.agg #[.int .i64 0, .int .i64 0, .string ⟨#[]⟩]), 3, 32) := by kernel_rfl
  obtain ⟨i, h2, h3, h4, h5⟩ := info_parts hinf
  obtain ⟨w', hrun, r1, r2⟩ := run_make_full (P := Tryz.prog) (w := w) w.heap.size 37 28 i (.agg #[.int .i64 0, .int .i64 0, .string ⟨#[]⟩]) 3 Tryz.underlying37 h2 h3 h4 .i64 .i64 41 (by rw [h5]; omega) (by unfold maxLen; omega) (Nat.le_refl _)
  refine ⟨w', hrun, ?_, (Below.refl _ _).grown r2 (Nat.le_refl _) (by simp)⟩
  unfold Od
  rw [← dz_cells]
  exact r1
/-- A desk and deeds, drawn. -/
def RetDR (w : World) (e : Ending) (w' : World) : Prop :=
  ∃ A n c A' m c' d L l lc ds, e = .returned (.tuple #[.agg #[.slice A n c, .slice A' m c'], .slice L l lc]) ∧ DkV w' w.heap.size A n c A' m d ∧ DkS d ∧ (dkB d = true → DkL d 39) ∧ Ds w' L l ds ∧ l ≤ lc ∧ lc ≤ maxLen ∧ (L = none ∧ l = 0 ∧ lc = 0 ∨ ∃ g, L = some ⟨g, 0, none⟩) ∧ l ≤ 41 ∧ (l ≤ 40 → l ≤ 5) ∧ (∀ a ∈ ds, a.text.length ≤ 706) ∧ Below w.heap.size w w'
theorem Od.nil0 {w : World} {B n c : Nat} {A : Option Addr} {ds : List Dd} (h : Od w B (.slice A n c) n ds) : n ≤ c ∧ c ≤ maxLen ∧ (A = none ∧ n = 0 ∧ c = 0 ∨ ∃ g, A = some ⟨g, 0, none⟩) := by
  rcases h.2 with ⟨hv, hn⟩ | ⟨g, cap, cur, hv, hg, hh, hnc, hcm, _⟩
  · injection hv with h1 h2 h3
    exact ⟨by omega, by omega, .inl ⟨h1, hn, h3⟩⟩
  · injection hv with h1 h2 h3
    subst h1
    exact ⟨by omega, by omega, .inr ⟨g, rfl⟩⟩
set_option maxHeartbeats 2000000 in
set_option maxRecDepth 100000 in
theorem drawDeskRun_any (A : Option Addr) (n c : Nat) (w : World) (hnc : n ≤ c) (hn : n ≤ 1048576) (h : Code8 w A n) :
    Calls Tryz.prog 14 #[.slice A n c] w (RetDR w) := by
  have HC := Lib.hid h
  clear h
  obtain ⟨w0, hw0⟩ : ∃ w0, w0 = w.alloc (.cells #[.slice none 0 0, .slice none 0 0] 26) := ⟨_, rfl⟩
  have HSZ : Hid (w0.heap.size = w.heap.size + 1) := by show _ = _; rw [hw0, size_alloc]
  have HB0 : Hid (Below w.heap.size w w0) := by rw [hw0]; exact below_alloc _ _
  have HK0 : Hid (KAt w0 w.heap.size (.slice none 0 0) (.slice none 0 0)) := by rw [hw0]; exact KAt.new w _ _ _
  go_enter Tryz.func14, Tryz.ntmps14
  go_wp2_with fail
  rw [← hw0]
  clear hw0
  refine (open_any A n c _ hnc hn (code8_below HC.out HB0.out)).mono ?_
  rintro e w1 ⟨g, rfl, hg, hr1, hb1⟩
  have HB1 : Hid (Below w.heap.size w w1) := HB0.out.trans (hb1.mono (by rw [HSZ.out]; omega))
  have HK1 := Lib.hid (HK0.out.below hb1 (by rw [HSZ.out]; omega))
  have HG : Hid (w.heap.size + 1 ≤ g) := by show _ ≤ _; rw [← HSZ.out]; exact hg
  clear hb1 hg
  go_wp2_with fail
  refine (desk_any g 0 12 w1 (by omega) (by omega) hr1).mono ?_
  rintro e w2 ⟨A2, n2, c2, A3, m2, c3, d, rfl, hdk, hds, hdl, hr2, hp2⟩
  have hgn : w.heap.size ≠ g := by have := HG.out; omega
  have hgl := hr1.lt
  have HP2 := Lib.hid hp2
  have HK2 := Lib.hid (HK1.out.pk hp2 hgn)
  have hg2 : g < w2.heap.size := Nat.lt_of_lt_of_le hgl hp2.size
  obtain ⟨w3, hw3⟩ : ∃ w3, w3 = w2.alloc (.cells #[.slice A2 n2 c2, .slice A3 m2 c3] 26) := ⟨_, rfl⟩
  have HB3 : Hid (Below w2.heap.size w2 w3) := by rw [hw3]; exact below_alloc _ _
  have HX3 : Hid (KAt w3 w2.heap.size (.slice A2 n2 c2) (.slice A3 m2 c3)) := by rw [hw3]; exact KAt.new w2 _ _ _
  have HK3 := Lib.hid (HK2.out.below HB3.out HK2.out.lt)
  have HV3 := Lib.hid (hdk.below HB3.out)
  have HR3 := Lib.hid (hr2.below HB3.out)
  have HP3 : Hid (Pk g w1 w3) := HP2.out.trans (Pk.of_below HB3.out)
  clear hdk hp2 hr1 hr2
  go_wp2_with fail
  rw [← hw3]
  clear hw3
  refine (odd_any g (0 + 400) 30 w3 (by omega) (by omega) HR3.out).mono ?_
  rintro e w4 ⟨b, rfl, _, hr4, hp4⟩
  have hgx : w2.heap.size ≠ g := by omega
  have HK4 := Lib.hid (HK3.out.pk hp4 hgn)
  have HX4 := Lib.hid (HX3.out.pk hp4 hgx)
  have HV4 := Lib.hid (HV3.out.pk hp4 hgl)
  have HP4 : Hid (Pk g w1 w4) := HP3.out.trans hp4
  have HR4 := Lib.hid hr4
  have hx1 : w.heap.size < w1.heap.size := HK1.out.lt
  have hx2 : w1.heap.size ≤ w2.heap.size := HP2.out.size
  have hne : ¬ w2.heap.size = w.heap.size := by omega
  have hne2 : ¬ w.heap.size = w2.heap.size := by omega
  clear hr4 hp4
  obtain ⟨x0, x1, y0, y1, y2⟩ := HX4.out
  obtain ⟨r0, r1, s0, s1, rl⟩ := HK4.out
  cases b with
  | true =>
    obtain ⟨w5, hrun, ho5, hb5⟩ := makeD_run w4.drew
    have hrun2 : Sem.run Tryz.prog (Instr.makeSlice 37 (.int .i64 41) (.int .i64 41)) w4.drew = .ok (.slice (some ⟨w4.heap.size, 0, none⟩) 41 41) w5 := hrun
    have HB5 := Lib.hid (below_d hb5)
    have HV5 := Lib.hid (HV4.out.below HB5.out)
    have HK5 := Lib.hid (HK4.out.below HB5.out HK4.out.lt)
    have HX5 := Lib.hid (HX4.out.below HB5.out HX4.out.lt)
    have HO5 := Lib.hid ho5
    have HW5 : Hid (Below w.heap.size w w5) := HB1.out.trans ((HP4.out.below (by have := HG.out; omega) HB1.out.size).trans (HB5.out.mono (Nat.le_trans HB1.out.size HP4.out.size)))
    clear hrun ho5 hb5
    obtain ⟨x5, x6, y5, y6, y7⟩ := HX5.out
    obtain ⟨r5, r6, s5, s6, r7⟩ := HK5.out
    have hpk : Hid (Pk w.heap.size w5 ((w5.setCell ⟨w.heap.size, 0, none⟩ (.slice A2 n2 c2)).setCell ⟨w.heap.size, 1, none⟩ (.slice A3 m2 c3))) := ((Pk.refl _ _).setCell 0 _).setCell 1 _
    have hpk4 : Hid (Pk w.heap.size w4 ((w4.setCell ⟨w.heap.size, 0, none⟩ (.slice A2 n2 c2)).setCell ⟨w.heap.size, 1, none⟩ (.slice A3 m2 c3))) := ((Pk.refl _ _).setCell 0 _).setCell 1 _
    obtain ⟨w6, hrun6, ho6, hb6⟩ := makeD_run ((w4.setCell ⟨w.heap.size, 0, none⟩ (.slice A2 n2 c2)).setCell ⟨w.heap.size, 1, none⟩ (.slice A3 m2 c3)).drew
    have hrun7 : Sem.run Tryz.prog (Instr.makeSlice 37 (.int .i64 41) (.int .i64 41)) ((w4.setCell ⟨w.heap.size, 0, none⟩ (.slice A2 n2 c2)).setCell ⟨w.heap.size, 1, none⟩ (.slice A3 m2 c3)).drew = .ok (.slice (some ⟨w4.heap.size, 0, none⟩) 41 41) w6 := by
      have e : ((w4.setCell ⟨w.heap.size, 0, none⟩ (.slice A2 n2 c2)).setCell ⟨w.heap.size, 1, none⟩ (.slice A3 m2 c3)).drew.heap.size = w4.heap.size := by show ((w4.setCell ⟨w.heap.size, 0, none⟩ (.slice A2 n2 c2)).setCell ⟨w.heap.size, 1, none⟩ (.slice A3 m2 c3)).heap.size = _; rw [size_set, size_set]
      rw [← e]; exact hrun6
    have HB6 := Lib.hid (below_d hb6)
    have HV6 := Lib.hid ((HV4.out.pk hpk4.out (by omega)).below HB6.out)
    have HK6 := Lib.hid (((HK4.out.set0 (.slice A2 n2 c2)).set1 (.slice A3 m2 c3)).below HB6.out ((HK4.out.set0 (.slice A2 n2 c2)).set1 (.slice A3 m2 c3)).lt)
    have HO6 : Hid (Od w6 w.heap.size (.slice (some ⟨w4.heap.size, 0, none⟩) 41 41) 41 (List.replicate 41 ⟨0, 0, []⟩)) := by
      have e : ((w4.setCell ⟨w.heap.size, 0, none⟩ (.slice A2 n2 c2)).setCell ⟨w.heap.size, 1, none⟩ (.slice A3 m2 c3)).drew.heap.size = w4.heap.size := by show ((w4.setCell ⟨w.heap.size, 0, none⟩ (.slice A2 n2 c2)).setCell ⟨w.heap.size, 1, none⟩ (.slice A3 m2 c3)).heap.size = _; rw [size_set, size_set]
      have h := ho6.mono (show w.heap.size ≤ _ from Nat.le_trans (Nat.le_of_lt HK4.out.lt) hpk4.out.size)
      rw [e] at h
      exact h
    have HW6 : Hid (Below w.heap.size w w6) := HB1.out.trans ((HP4.out.below (by have := HG.out; omega) HB1.out.size).trans (((Below.refl w.heap.size w4).setCell (p := ⟨w.heap.size, 0, none⟩) (Nat.le_refl _) _).setCell (p := ⟨w.heap.size, 1, none⟩) (Nat.le_refl _) _ |>.trans (HB6.out.mono (Nat.le_trans (Nat.le_of_lt HK4.out.lt) hpk4.out.size))))
    clear hrun6 ho6 hb6
    obtain ⟨r8, r9, s8, s9, r10⟩ := HK6.out
    go_wp2_with fail
    go_region_law fail
    all_goals
      go_wp2_with fail
      refine bodyPost_ret (v := .tuple #[.agg #[.slice A2 n2 c2, .slice A3 m2 c3], .slice (some ⟨w4.heap.size, 0, none⟩) 41 41]) (by first | (simp [results, Tryz.results14, go_sem, r5, r6]; done) | (simp [results, Tryz.results14, go_sem, r8, r9]; done)) rfl ?_
      first
      | exact ⟨_, _, _, _, _, _, d, _, _, _, _, rfl, HV6.out.mono (by omega), hds, hdl, HO6.out.toDs, by omega, by unfold maxLen; omega, (.inr ⟨_, rfl⟩), by omega, by omega, (fun a ha => by rw [(List.mem_replicate.1 ha).2]; decide), HW6.out⟩
      | exact ⟨_, _, _, _, _, _, d, _, _, _, _, rfl, (HV5.out.pk hpk.out (by omega)).mono (by omega), hds, hdl, (HO5.out.pk hpk.out (by show w.heap.size < w4.heap.size; have := HX4.out.lt; omega)).toDs, by omega, by unfold maxLen; omega, (.inr ⟨_, rfl⟩), by omega, by omega, (fun a ha => by rw [(List.mem_replicate.1 ha).2]; decide), (HW5.out.setCell (p := ⟨w.heap.size, 0, none⟩) (Nat.le_refl _) _).setCell (p := ⟨w.heap.size, 1, none⟩) (Nat.le_refl _) _⟩
  | false =>
    have KDE : Hid (∀ w', Rd w' g (0 + 400 + 1) → Calls Tryz.prog 46 #[.pointer (some ⟨g, 0, none⟩)] w' (RetDs w' g (0 + 400 + 1 + 351) fun _ => True)) := fun w' h => deeds_any g (0 + 400 + 1) w' (by omega) h
    go_wp2_with fail
    go_region_law ((go_simp; go_at_call 46; (with_reducible refine Calls.mono (KDE.out _ (Rd.drew HR4.out)) ?_); rintro e w5 ⟨A5, m5, c5, ds, rfl, ho5, hm5, hda, _, hp5⟩; have HP5 : Hid (Pk g w4 w5) := Pk.of_drewN (m := 1) hp5; have HO5 := Lib.hid ho5; have HDA := Lib.hid hda; have hm6 := hm5; clear ho5 hda hp5; obtain ⟨x5, x6, y5, y6, y7⟩ := HX4.out.pk HP5.out hgx; obtain ⟨r5, r6, s5, s6, r7⟩ := HK4.out.pk HP5.out hgn))
    all_goals
      have HV5 := Lib.hid (HV4.out.pk HP5.out hgl)
      have HW5 : Hid (Below w.heap.size w w5) := HB1.out.trans ((HP4.out.trans HP5.out).below (by have := HG.out; omega) HB1.out.size)
      have hpk : Hid (Pk w.heap.size w5 ((w5.setCell ⟨w.heap.size, 0, none⟩ (.slice A2 n2 c2)).setCell ⟨w.heap.size, 1, none⟩ (.slice A3 m2 c3))) := ((Pk.refl _ _).setCell 0 _).setCell 1 _
      obtain ⟨q1, q2, q3⟩ := HO5.out.nil0
      go_wp2_with fail
      refine bodyPost_ret (v := .tuple #[.agg #[.slice A2 n2 c2, .slice A3 m2 c3], .slice A5 m5 c5]) (by simp [results, Tryz.results14, go_sem, r5, r6]) rfl ?_
      exact ⟨_, _, _, _, _, _, d, _, _, _, _, rfl, (HV5.out.pk hpk.out (by omega)).mono (by omega), hds, hdl, (HO5.out.pk hpk.out (by show w.heap.size < w4.heap.size; have := HX4.out.lt; omega)).toDs, q1, q2, q3, by omega, fun _ => hm6, fun a ha => (HDA.out a ha).1.1, (HW5.out.setCell (p := ⟨w.heap.size, 0, none⟩) (Nat.le_refl _) _).setCell (p := ⟨w.heap.size, 1, none⟩) (Nat.le_refl _) _⟩
set_option maxHeartbeats 1000000 in
theorem noDesk_true (A A' : Option Addr) (n c m c' : Nat) (w : World) (h : DkV w 0 A n c A' m dk0) :
    Calls Tryz.prog 18 #[.agg #[.slice A n c, .slice A' m c']] w fun e w' => e = .returned (.bool true) ∧ Below w.heap.size w w' := by
  obtain ⟨w0, hw0⟩ : ∃ w0, w0 = w.alloc (.cells #[.slice A n c, .slice A' m c'] 26) := ⟨_, rfl⟩
  have HB0 : Hid (Below w.heap.size w w0) := by rw [hw0]; exact below_alloc _ _
  have HV0 := Lib.hid (h.below HB0.out)
  clear h
  go_enter Tryz.func18, Tryz.ntmps18
  go_wp2_with fail
  rw [← hw0]
  clear hw0
  refine (sameDesk_true A A' none none n c m c' 0 0 0 0 dk0 w0 HV0.out (DkV.zero _ _) DkS.zero DkF.zero).mono ?_
  rintro e w1 ⟨rfl, hb1⟩
  have HB1 : Hid (Below w.heap.size w w1) := HB0.out.trans (hb1.mono HB0.out.size)
  clear hb1
  go_wp2_with fail
  go_ret
  exact ⟨rfl, HB1.out⟩
end Go.Proofs.YtnomlkkhkacajaaGreatDoor
namespace Go.Proofs.YtnomlkkhkacajaaGreatDoor
open Go.RowKit
open Go.Lib hiding intOf

/-- A desk and a line, drawn. -/
def RetDLn (w : World) (e : Ending) (w' : World) : Prop :=
  ∃ A n c A' m c' d l, e = .returned (.tuple #[.agg #[.slice A n c, .slice A' m c'], .string (bs l)]) ∧ DkV w' w.heap.size A n c A' m d ∧ DkS d ∧ (dkB d = true → DkL d 39) ∧ l.length ≤ 1048576 ∧ Below w.heap.size w w'
set_option maxHeartbeats 2000000 in
theorem drawDeskLine_any (A : Option Addr) (n c : Nat) (w : World) (hnc : n ≤ c) (hn : n ≤ 1048576) (h : Code8 w A n) :
    Calls Tryz.prog 19 #[.slice A n c] w (RetDLn w) := by
  have HC := Lib.hid h
  clear h
  obtain ⟨w0, hw0⟩ : ∃ w0, w0 = w.alloc (.cells #[.slice none 0 0, .slice none 0 0] 26) := ⟨_, rfl⟩
  have HSZ : Hid (w0.heap.size = w.heap.size + 1) := by show _ = _; rw [hw0, size_alloc]
  have HB0 : Hid (Below w.heap.size w w0) := by rw [hw0]; exact below_alloc _ _
  have HK0 : Hid (KAt w0 w.heap.size (.slice none 0 0) (.slice none 0 0)) := by rw [hw0]; exact KAt.new w _ _ _
  go_enter Tryz.func19, Tryz.ntmps19
  go_wp2_with fail
  rw [← hw0]
  clear hw0
  refine (open_any A n c _ hnc hn (code8_below HC.out HB0.out)).mono ?_
  rintro e w1 ⟨g, rfl, hg, hr1, hb1⟩
  have HB1 : Hid (Below w0.heap.size w0 w1) := hb1
  have HK1 := Lib.hid (HK0.out.below hb1 (by rw [HSZ.out]; omega))
  have HG : Hid (w.heap.size + 1 ≤ g) := by show _ ≤ _; rw [← HSZ.out]; exact hg
  have HS1 : Hid (w.heap.size + 1 ≤ w1.heap.size) := by show _ ≤ _; rw [← HSZ.out]; exact hb1.size
  clear hb1 hg
  go_wp2_with fail
  refine (desk_any g 0 12 w1 (by omega) (by omega) hr1).mono ?_
  rintro e w2 ⟨A2, n2, c2, A3, m2, c3, d, rfl, hdk, hds, hdl, hr2, hp2⟩
  have hgn : w.heap.size ≠ g := by have := HG.out; omega
  have hgl := hr1.lt
  have HK2 := Lib.hid (HK1.out.pk hp2 hgn)
  have HDK := Lib.hid hdk
  have HP2 := Lib.hid hp2
  clear hdk hp2 hr1
  go_wp2_with fail
  refine (line_any g (0 + 400) w2 (by omega) hr2).mono ?_
  rintro e w3 ⟨l, rfl, hl, hr3, hp3⟩
  have HK3 := Lib.hid (HK2.out.pk hp3 hgn)
  have HV3 := Lib.hid (HDK.out.pk hp3 hgl)
  have HB3 : Hid (Below w.heap.size w w3) := HB0.out.trans ((HB1.out.mono (by rw [HSZ.out]; omega)).trans ((HP2.out.trans hp3).below (by have := HG.out; omega) (by have := HS1.out; omega)))
  obtain ⟨r0, r1, s0, s1, rl⟩ := HK3.out
  clear hr2 hr3 hp3 hgl
  go_wp2_with fail
  refine bodyPost_ret (v := .tuple #[.agg #[.slice A2 n2 c2, .slice A3 m2 c3], .string (bs l)]) (by simp [results, Tryz.results19, go_sem, r0, r1]) rfl ?_
  have hpk : Pk w.heap.size w3 ((w3.setCell ⟨w.heap.size, 0, none⟩ (.slice A2 n2 c2)).setCell ⟨w.heap.size, 1, none⟩ (.slice A3 m2 c3)) := ((Pk.refl _ _).setCell 0 _).setCell 1 _
  have hb := HS1.out
  exact ⟨_, _, _, _, _, _, d, l, rfl, (HV3.out.pk hpk (by omega)).mono (by omega), hds, hdl, hl, (HB3.out.setCell (p := ⟨w.heap.size, 0, none⟩) (Nat.le_refl _) _).setCell (p := ⟨w.heap.size, 1, none⟩) (Nat.le_refl _) _⟩
theorem read_space : readDd [32] = none := by rfl
theorem lineF_space {d : Dk} (h : dkB d = true) : lineF d [32] = (d, tWhat) := by
  rw [lineF_ask h read_space, ansF_none (l := [32]) (by decide) (by decide) (by decide) (by decide) (show whole? (cut1 32 [32]).2.1 0 9999 = none from whole_nil)]
theorem lineF_same {d : Dk} {l : Txt} (h : dkB d = true) (ht : ((lineF d l).2 == [111, 107]) = false) : (lineF d l).1 = d := by
  cases hr : readDd l with
  | none => rw [lineF_ask h hr]
  | some a =>
    rw [lineF_do h hr] at ht ⊢
    cases hk : (doF d a).2
    · exact doF_same h hk
    · rw [hk] at ht; exact absurd (show ((tOk : Txt) == [111, 107]) = false from ht) (by decide)
theorem lineF_ok {d : Dk} {l : Txt} (h : dkB d = true) (hd : DkL d 39) : dkB (lineF d l).1 = true := by
  cases hr : readDd l with
  | none => rw [lineF_ask h hr]; exact h
  | some a => rw [lineF_do h hr]; exact (doF_ok a h hd (by omega) (by omega)).1

set_option maxHeartbeats 4000000 in
set_option maxRecDepth 100000 in
theorem lawDeskLine (A : Option Addr) (n c : Nat) (w : World) (hnc : n ≤ c) (h : Code8 w A n) (hE : EnvX w) :
    Calls Tryz.prog 5 #[.slice A n c] w fun e w' => e = .returned (.bool true) ∧ Below w.heap.size w w' := by
  by_cases hbig : 1048576 < n
  · clear hE
    go_enter Tryz.func5, Tryz.ntmps5
    go_wp2_with fail
    go_ret
    exact ⟨rfl, Below.refl _ _⟩
  have hn2 : n ≤ 1048576 := by omega
  have HE := Lib.hid hE
  clear hE
  go_enter Tryz.func5, Tryz.ntmps5
  go_wp2_with fail
  refine (drawDeskLine_any A n c w hnc hn2 h).mono ?_
  rintro e w1 ⟨A2, n2, c2, A3, m2, c3, d, l, rfl, hdk, hds, hdl, hl, hb1⟩
  obtain ⟨w2, hw2⟩ : ∃ w2, w2 = w1.alloc (.cells #[.slice A2 n2 c2, .slice A3 m2 c3] 26) := ⟨_, rfl⟩
  have HB2 : Hid (Below w1.heap.size w1 w2) := by rw [hw2]; exact below_alloc _ _
  have HK2 : Hid (KAt w2 w1.heap.size (.slice A2 n2 c2) (.slice A3 m2 c3)) := by rw [hw2]; exact KAt.new w1 _ _ _
  have HV2 : Hid (DkV w2 0 A2 n2 c2 A3 m2 d) := (hdk.mono (Nat.zero_le _)).below HB2.out
  have HW2 : Hid (Below w.heap.size w w2) := hb1.trans (HB2.out.mono hb1.size)
  have hlv : dkB d = true → LvOk d.now := fun hk => (hdl hk).lvok (by omega) (by omega)
  have HL2 : Hid (∀ q w', q.length ≤ 1048576 → DkV w' 0 A2 n2 c2 A3 m2 d → EnvX w' → Calls Tryz.prog 20 #[.agg #[.slice A2 n2 c2, .slice A3 m2 c3], .string (bs q)] w' (RetKT w' (lineF d q))) := fun q w' hq h he => iDeskLine A2 A3 n2 c2 m2 c3 d q w' h hds hlv hq he
  have HS : Hid (∀ w', DkV w' 0 A2 n2 c2 A3 m2 d → Calls Tryz.prog 21 #[.agg #[.slice A2 n2 c2, .slice A3 m2 c3], .string (bs l)] w' (RetKT w' (lineF d l))) := fun w' h => sDeskLine A2 A3 n2 c2 m2 c3 d l w' h hds hlv hl
  have HOK : Hid (∀ w', DkV w' 0 A2 n2 c2 A3 m2 d → Calls Tryz.prog 17 #[.agg #[.slice A2 n2 c2, .slice A3 m2 c3]] w' fun e w'' => e = .returned (.bool (dkB d)) ∧ Below w'.heap.size w' w'') := fun w' h => sDeskOk A2 A3 n2 c2 m2 c3 d w' h hds
  have HOKB : Hid (dkB d = true → dkB (lineF d l).1 = true) := fun h => lineF_ok h (hdl h)
  have HSAME : Hid (dkB d = true → ((lineF d l).2 == [111, 107]) = false → (lineF d l).1 = d) := fun h => lineF_same h
  have HBAD : Hid (dkB d = false → lineF d l = (dk0, [])) := lineF_bad l
  obtain ⟨⟨x, t⟩, hr⟩ : ∃ r, lineF d l = r := ⟨_, rfl⟩
  rw [hr] at HS HOKB HSAME HBAD
  have HI : Hid (∀ w', DkV w' 0 A2 n2 c2 A3 m2 d → EnvX w' → Calls Tryz.prog 20 #[.agg #[.slice A2 n2 c2, .slice A3 m2 c3], .string (bs l)] w' (RetKT w' (x, t))) := fun w' h he => by rw [← hr]; exact HL2.out l w' hl h he
  have HZX : Hid (DkS x) := by
    cases hb : dkB d
    · have := HBAD.out hb; injection this with e1 _; rw [e1]; exact DkS.zero
    · exact DkS.ok (HOKB.out hb)
  have HFX : Hid (DkF x) := by
    cases hb : dkB d
    · have := HBAD.out hb; injection this with e1 _; rw [e1]; exact DkF.zero
    · exact DkF.of (HOKB.out hb)
  have htt := bs_toList t
  obtain ⟨k0, k1, l0, l1, l2⟩ := HK2.out
  clear hdk hb1 h hr hdl hlv
  go_wp2_with fail
  rw [← hw2]
  clear hw2
  refine (HI.out _ HV2.out (HE.out.kp (Kp.below HW2.out))).mono ?_
  rintro e w3 ⟨A4, n4, c4, A5, m5, c5, rfl, hx3, hb3⟩
  have HX3 : Hid (DkV w3 0 A4 n4 c4 A5 m5 x) := hx3.mono (Nat.zero_le _)
  have HV3 := Lib.hid (HV2.out.below hb3)
  have HW3 : Hid (Below w.heap.size w w3) := HW2.out.trans (hb3.mono HW2.out.size)
  have HK3 := Lib.hid (HK2.out.below hb3 HK2.out.lt)
  obtain ⟨w4, hw4⟩ : ∃ w4, w4 = w3.alloc (.cells #[.slice A4 n4 c4, .slice A5 m5 c5] 26) := ⟨_, rfl⟩
  have HB4 : Hid (Below w3.heap.size w3 w4) := by rw [hw4]; exact below_alloc _ _
  have HXB4 : Hid (KAt w4 w3.heap.size (.slice A4 n4 c4) (.slice A5 m5 c5)) := by rw [hw4]; exact KAt.new w3 _ _ _
  have HX4 := Lib.hid (HX3.out.below HB4.out)
  have HV4 := Lib.hid (HV3.out.below HB4.out)
  have HK4 := Lib.hid (HK3.out.below HB4.out HK3.out.lt)
  have HW4 : Hid (Below w.heap.size w w4) := HW3.out.trans (HB4.out.mono HW3.out.size)
  clear hx3 hb3 k0 k1 l0 l1 l2
  obtain ⟨k0, k1, l0, l1, l2⟩ := HK3.out
  go_wp2_with fail
  rw [← hw4]
  clear hw4
  refine (HS.out _ HV4.out).mono ?_
  rintro e w5 ⟨A6, n6, c6, A7, m7, c7, rfl, hy5, hb5⟩
  have HY5 : Hid (DkV w5 0 A6 n6 c6 A7 m7 x) := hy5.mono (Nat.zero_le _)
  have HX5 := Lib.hid (HX4.out.below hb5)
  have HV5 := Lib.hid (HV4.out.below hb5)
  have HK5 := Lib.hid (HK4.out.below hb5 HK4.out.lt)
  have HXB5 := Lib.hid (HXB4.out.below hb5 HXB4.out.lt)
  have HW5 : Hid (Below w.heap.size w w5) := HW4.out.trans (hb5.mono HW4.out.size)
  obtain ⟨w6, hw6⟩ : ∃ w6, w6 = w5.alloc (.cells #[.slice A6 n6 c6, .slice A7 m7 c7] 26) := ⟨_, rfl⟩
  have HB6 : Hid (Below w5.heap.size w5 w6) := by rw [hw6]; exact below_alloc _ _
  have HX6 := Lib.hid (HX5.out.below HB6.out)
  have HY6 := Lib.hid (HY5.out.below HB6.out)
  have HV6 := Lib.hid (HV5.out.below HB6.out)
  have HK6 := Lib.hid (HK5.out.below HB6.out HK5.out.lt)
  have HXB6 := Lib.hid (HXB5.out.below HB6.out HXB5.out.lt)
  have HW6 : Hid (Below w.heap.size w w6) := HW5.out.trans (HB6.out.mono HW5.out.size)
  clear hy5 hb5 k0 k1 l0 l1 l2
  obtain ⟨x0, x1, y0, y1, y2⟩ := HXB5.out
  go_wp2_with fail
  rw [← hw6]
  clear hw6 x0 x1 y0 y1 y2
  refine (sameDesk_true A4 A5 A6 A7 n4 c4 m5 c5 n6 c6 m7 c7 x w6 HX6.out HY6.out HZX.out HFX.out).mono ?_
  rintro e w7 ⟨rfl, hb7⟩
  have HX7 := Lib.hid (HX6.out.below hb7)
  have HV7 := Lib.hid (HV6.out.below hb7)
  have HK7 := Lib.hid (HK6.out.below hb7 HK6.out.lt)
  have HXB7 := Lib.hid (HXB6.out.below hb7 HXB6.out.lt)
  have HW7 : Hid (Below w.heap.size w w7) := HW6.out.trans (hb7.mono HW6.out.size)
  clear hb7
  obtain ⟨x0, x1, y0, y1, y2⟩ := HXB7.out
  obtain ⟨k0, k1, l0, l1, l2⟩ := HK7.out
  go_wp2_with fail
  refine (HOK.out _ HV7.out).mono ?_
  rintro e w8 ⟨rfl, hb8⟩
  have HX8 := Lib.hid (HX7.out.below hb8)
  have HV8 := Lib.hid (HV7.out.below hb8)
  have HK8 := Lib.hid (HK7.out.below hb8 HK7.out.lt)
  have HXB8 := Lib.hid (HXB7.out.below hb8 HXB7.out.lt)
  have HW8 : Hid (Below w.heap.size w w8) := HW7.out.trans (hb8.mono HW7.out.size)
  clear hb8 x0 x1 y0 y1 y2 k0 k1 l0 l1 l2
  obtain ⟨x0, x1, y0, y1, y2⟩ := HXB8.out
  obtain ⟨k0, k1, l0, l1, l2⟩ := HK8.out
  cases hb : dkB d
  · have e := HBAD.out hb
    injection e with e1 e2
    have ht0 : (t == []) = true := by rw [e2]; rfl
    have HND : Hid (∀ w, DkV w 0 A4 n4 c4 A5 m5 x → Calls Tryz.prog 18 #[.agg #[.slice A4 n4 c4, .slice A5 m5 c5]] w fun e w' => e = .returned (.bool true) ∧ Below w.heap.size w w') := fun w h => by rw [e1] at h; exact noDesk_true A4 A5 n4 c4 m5 c5 w h
    clear hb e1 e2
    go_wp2_with fail
    refine (HND.out _ HX8.out).mono ?_
    rintro e w9 ⟨rfl, hb9⟩
    have HW9 : Hid (Below w.heap.size w w9) := HW8.out.trans (hb9.mono HW8.out.size)
    clear hb9
    go_wp2_with fail
    refine (alive_true _).mono ?_
    rintro e w10 ⟨rfl, rfl⟩
    go_wp2_with fail
    go_ret
    exact ⟨rfl, HW9.out⟩
  · have HZD := Lib.hid (DkS.ok hb)
    have HFD := Lib.hid (DkF.of hb)
    have hox := HOKB.out hb
    have HOX : Hid (∀ w', DkV w' 0 A4 n4 c4 A5 m5 x → Calls Tryz.prog 12 #[.agg #[.slice A4 n4 c4, .slice A5 m5 c5]] w' fun e w'' => e = .returned (.bool true) ∧ Below w'.heap.size w' w'') := fun w' h => by rw [← hox]; exact iDeskOk A4 A5 n4 c4 m5 c5 x w' h HZX.out
    have HSP : Hid (Calls Tryz.prog 20 #[.agg #[.slice A2 n2 c2, .slice A3 m2 c3], .string ⟨#[32]⟩] w8 (RetKT w8 (d, tWhat))) := by
      have h := HL2.out [32] w8 (by decide) HV8.out (HE.out.kp (Kp.below HW8.out))
      rw [lineF_space hb] at h
      exact h
    have HSM := Lib.hid (HSAME.out hb)
    clear hb hox
    go_wp2_with fail
    refine HSP.out.mono ?_
    rintro e w9 ⟨A8, n8, c8, A9, m9, c9, rfl, hz9, hb9⟩
    have HZ9 : Hid (DkV w9 0 A8 n8 c8 A9 m9 d) := hz9.mono (Nat.zero_le _)
    obtain ⟨wa, hwa⟩ : ∃ wa, wa = w9.alloc (.cells #[.slice A8 n8 c8, .slice A9 m9 c9] 26) := ⟨_, rfl⟩
    have HBA : Hid (Below w8.heap.size w8 wa) := by rw [hwa]; exact hb9.trans ((below_alloc _ _).mono hb9.size)
    have HZBA : Hid (KAt wa w9.heap.size (.slice A8 n8 c8) (.slice A9 m9 c9)) := by rw [hwa]; exact KAt.new w9 _ _ _
    have HZA : Hid (DkV wa 0 A8 n8 c8 A9 m9 d) := by rw [hwa]; exact HZ9.out.below (below_alloc _ _)
    have HXA := Lib.hid (HX8.out.below HBA.out)
    have HVA := Lib.hid (HV8.out.below HBA.out)
    have HKA := Lib.hid (HK8.out.below HBA.out HK8.out.lt)
    have HXBA := Lib.hid (HXB8.out.below HBA.out HXB8.out.lt)
    have HWA : Hid (Below w.heap.size w wa) := HW8.out.trans (HBA.out.mono HW8.out.size)
    clear x0 x1 y0 y1 y2 k0 k1 l0 l1 l2
    obtain ⟨x0, x1, y0, y1, y2⟩ := HXB8.out.below hb9 HXB8.out.lt
    clear hz9 hb9
    unfold tWhat
    go_wp2_with fail
    rw [← hwa]
    clear hwa x0 x1 y0 y1 y2
    refine (HOX.out _ HXA.out).mono ?_
    rintro e wb ⟨rfl, hbb⟩
    have HWB : Hid (Below w.heap.size w wb) := HWA.out.trans (hbb.mono HWA.out.size)
    have HZB := Lib.hid (HZA.out.below hbb)
    have HXB := Lib.hid (HXA.out.below hbb)
    have HVB := Lib.hid (HVA.out.below hbb)
    have HKB := Lib.hid (HKA.out.below hbb HKA.out.lt)
    have HXBB := Lib.hid (HXBA.out.below hbb HXBA.out.lt)
    have HZBB := Lib.hid (HZBA.out.below hbb HZBA.out.lt)
    clear hbb
    obtain ⟨x0, x1, y0, y1, y2⟩ := HXBB.out
    obtain ⟨k0, k1, l0, l1, l2⟩ := HKB.out
    obtain ⟨z0, z1, v0, v1, v2⟩ := HZBB.out
    have htw := bs_toList [119, 104, 97, 116]
    have HSDZ : Hid (∀ w', DkV w' 0 A8 n8 c8 A9 m9 d → DkV w' 0 A2 n2 c2 A3 m2 d → Calls Tryz.prog 11 #[.agg #[.slice A8 n8 c8, .slice A9 m9 c9], .agg #[.slice A2 n2 c2, .slice A3 m2 c3]] w' fun e w'' => e = .returned (.bool true) ∧ Below w'.heap.size w' w'') := fun w' h1 h2 => sameDesk_true A8 A9 A2 A3 n8 c8 m9 c9 n2 c2 m2 c3 d w' h1 h2 HZD.out HFD.out
    cases hok : t == [111, 107]
    · have hxd := HSM.out hok
      have HSD : Hid (Calls Tryz.prog 11 #[.agg #[.slice A4 n4 c4, .slice A5 m5 c5], .agg #[.slice A2 n2 c2, .slice A3 m2 c3]] wb fun e w'' => e = .returned (.bool true) ∧ Below wb.heap.size wb w'') := by
        refine sameDesk_true A4 A5 A2 A3 n4 c4 m5 c5 n2 c2 m2 c3 d wb ?_ HVB.out HZD.out HFD.out
        have h := HXB.out
        rw [show x = d from hxd] at h
        exact h
      clear hxd
      go_wp2_with fail
      refine HSD.out.mono ?_
      rintro e wc ⟨rfl, hbc⟩
      have HWC : Hid (Below w.heap.size w wc) := HWB.out.trans (hbc.mono HWB.out.size)
      have HZC := Lib.hid (HZB.out.below hbc)
      have HVC := Lib.hid (HVB.out.below hbc)
      have HKC := Lib.hid (HKB.out.below hbc HKB.out.lt)
      have HZBC := Lib.hid (HZBB.out.below hbc HZBB.out.lt)
      clear hbc x0 x1 y0 y1 y2 k0 k1 l0 l1 l2 z0 z1 v0 v1 v2
      obtain ⟨k0, k1, l0, l1, l2⟩ := HKC.out
      obtain ⟨z0, z1, v0, v1, v2⟩ := HZBC.out
      go_wp2_with fail
      refine (HSDZ.out _ HZC.out HVC.out).mono ?_
      rintro e we ⟨rfl, hbe⟩
      have HWE : Hid (Below w.heap.size w we) := HWC.out.trans (hbe.mono HWC.out.size)
      clear hbe
      go_wp2_with fail
      go_ret
      exact ⟨rfl, HWE.out⟩
    · go_wp2_with fail
      refine (HSDZ.out _ HZB.out HVB.out).mono ?_
      rintro e we ⟨rfl, hbe⟩
      have HWE : Hid (Below w.heap.size w we) := HWB.out.trans (hbe.mono HWB.out.size)
      clear hbe
      go_wp2_with fail
      go_ret
      exact ⟨rfl, HWE.out⟩
end Go.Proofs.YtnomlkkhkacajaaGreatDoor
namespace Go.Proofs.YtnomlkkhkacajaaGreatDoor
open Go.RowKit
open Go.Lib hiding intOf

/-- One line more, and one answer more. -/
noncomputable def sayS (r : Dk × List Txt) (l : Txt) : Dk × List Txt := ((lineF r.1 l).1, r.2 ++ [(lineF r.1 l).2])
noncomputable def sayG (r : Dk × List Txt) (ls : List Txt) : Dk × List Txt := ls.foldl sayS r
theorem sayG_app (r : Dk × List Txt) (l1 l2 : List Txt) : sayG r (l1 ++ l2) = sayG (sayG r l1) l2 := List.foldl_append
theorem sayG_take {r : Dk × List Txt} {ls : List Txt} {k : Nat} {a : Txt} (h : ls[k]? = some a) : sayG r (ls.take (k + 1)) = sayS (sayG r (ls.take k)) a := by
  rw [List.take_add_one, h]; exact sayG_app _ _ [a]
/-- The answers of before stand ahead. -/
theorem sayG_acc (d : Dk) (ts : List Txt) : ∀ ls : List Txt, sayG (d, ts) ls = ((sayG (d, []) ls).1, ts ++ (sayG (d, []) ls).2) := fun ls => by
  induction ls generalizing d ts with
  | nil => show (d, ts) = (d, ts ++ []); rw [List.append_nil]
  | cons a l ih =>
    show sayG ((lineF d a).1, ts ++ [(lineF d a).2]) l = ((sayG ((lineF d a).1, [] ++ [(lineF d a).2]) l).1, ts ++ (sayG ((lineF d a).1, [] ++ [(lineF d a).2]) l).2)
    rw [ih _ (ts ++ [_]), ih _ ([] ++ [_])]
    simp
theorem sayG_len (d : Dk) : ∀ ls : List Txt, (sayG (d, []) ls).2.length = ls.length := fun ls => by
  induction ls generalizing d with
  | nil => rfl
  | cons a l ih =>
    show (sayG ((lineF d a).1, [] ++ [(lineF d a).2]) l).2.length = _
    rw [sayG_acc]
    simp [ih]
theorem lineF_lv {d : Dk} {l : Txt} {a0 : Int} (h : dkB d = true) (hd : DkL d a0) (h1 : 14 ≤ a0) (h2 : a0 ≤ 117) : dkB (lineF d l).1 = true ∧ DkL (lineF d l).1 (a0 + 5) := by
  cases hr : readDd l with
  | none => rw [lineF_ask h hr]; exact ⟨h, hd.mono (by omega)⟩
  | some a =>
    rw [lineF_do h hr]
    obtain ⟨q1, q2, _⟩ := doF_ok a h hd h1 h2
    exact ⟨q1, q2⟩
theorem sayG_ok {d : Dk} {a0 : Int} (hk : dkB d = true) (hl : DkL d a0) (h1 : 14 ≤ a0) : ∀ (ts : List Txt) (ls : List Txt), a0 + 5 * (ls.length : Int) ≤ 122 → dkB (sayG (d, ts) ls).1 = true ∧ DkL (sayG (d, ts) ls).1 (a0 + 5 * (ls.length : Int)) := fun ts ls => by
  induction ls generalizing d a0 ts with
  | nil => intro _; exact ⟨hk, hl.mono (by simp)⟩
  | cons a l ih =>
    intro h2
    have h3 : ((a :: l).length : Int) = (l.length : Int) + 1 := by rw [List.length_cons]; omega
    rw [h3] at h2 ⊢
    obtain ⟨q1, q2⟩ := lineF_lv (l := a) hk hl h1 (by omega)
    obtain ⟨p1, p2⟩ := ih q1 q2 (by omega) (ts ++ [(lineF d a).2]) (by omega)
    exact ⟨p1, p2.mono (by omega)⟩
/-- A desk after lines, and the answers. -/
noncomputable def sayF (d : Dk) (ls : List Txt) : Dk × List Txt := if dkB d && decide (ls.length ≤ 40) then sayG (d, []) ls else (dk0, [])
theorem sayF_no {d : Dk} {ls : List Txt} (h : dkB d = false ∨ 40 < ls.length) : sayF d ls = (dk0, []) := by
  unfold sayF
  rcases h with h | h
  · rw [h]; rfl
  · rw [decide_eq_false (by omega), Bool.and_false]; rfl
theorem sayF_yes {d : Dk} {ls : List Txt} (h : dkB d = true) (hl : ls.length ≤ 40) : sayF d ls = sayG (d, []) ls := by
  unfold sayF; rw [h, decide_eq_true hl]; rfl
/-- Two parts, one after the other. -/
theorem sayF_two {d : Dk} {l1 l2 : List Txt} {a0 : Int} (hk : dkB d = true) (hd : DkL d a0) (h1 : 14 ≤ a0) (h2 : a0 + 5 * (((l1 ++ l2).length : Nat) : Int) ≤ 122) (h40 : (l1 ++ l2).length ≤ 40) :
    dkB (sayF d l1).1 = true ∧ DkL (sayF d l1).1 (a0 + 5 * (l1.length : Int)) ∧ (sayF (sayF d l1).1 l2).1 = (sayF d (l1 ++ l2)).1 ∧ (sayF d l1).2 ++ (sayF (sayF d l1).1 l2).2 = (sayF d (l1 ++ l2)).2 := by
  rw [List.length_append] at h2 h40
  have e1 := sayF_yes hk (ls := l1) (by omega)
  obtain ⟨q1, q2⟩ := sayG_ok hk hd h1 [] l1 (by omega)
  rw [e1, sayF_yes q1 (by omega), sayF_yes hk (by rw [List.length_append]; omega), sayG_app]
  have := sayG_acc (sayG (d, []) l1).1 (sayG (d, []) l1).2 l2
  rw [show sayG (sayG (d, []) l1) l2 = _ from this]
  exact ⟨q1, q2, rfl, rfl⟩
/-- No answer of a desk is empty. -/
theorem pairText_ne (p : Pr) : pairText p ≠ [] := by unfold pairText; simp
theorem join_ne : ∀ (ws : List Txt) (s : Txt), ws ≠ [] → (∀ w ∈ ws, w ≠ []) → join ws s ≠ []
  | [], _, h, _ => absurd rfl h
  | [x], s, _, h => by rw [join_one]; exact h x List.mem_cons_self
  | x :: y :: r, s, _, h => by
    have := h x List.mem_cons_self
    cases x with
    | nil => exact absurd rfl this
    | cons c t => rw [show join ((c :: t) :: y :: r) s = _ from rfl]; simp [join]
theorem sigText_ne (ps : List Pr) : sigText ps ≠ [] := by
  unfold sigText
  split
  · simp
  · rename_i h
    exact join_ne _ _ (by simpa using h) fun w hw => by
      obtain ⟨p, _, rfl⟩ := List.mem_map.1 hw
      exact pairText_ne p
theorem digT_ne {is : List Int} (h : is ≠ []) : digT is ≠ [] := by
  cases is with
  | nil => exact absurd rfl h
  | cons a l =>
    intro e
    have : itoa a ++ l.flatMap itoa = [] := e
    exact itoa_ne a (List.append_eq_nil_iff.1 this).1
theorem orN_ne {o : Option Txt} (h : ∀ t, o = some t → t ≠ []) : orN o ≠ [] := by
  cases o with
  | none => exact List.cons_ne_nil _ _
  | some t => exact h t rfl
theorem askF_ne (d : Dk) (t : Txt) (v : Int) : askF d t v ≠ [] := by
  rcases word_cases t with ⟨e1, e2⟩ | ⟨e1, e2⟩ | ⟨e1, e2⟩
  · rw [askF_number e1]
    refine orN_ne fun u hu => ?_
    cases ho : oneF d.now v with
    | none => rw [ho] at hu; cases hu
    | some z =>
      rw [ho] at hu
      have hu : (tho z).map pairText = some u := hu
      cases ht : tho z with
      | none => rw [ht] at hu; cases hu
      | some p => rw [ht] at hu; cases hu; exact pairText_ne p
  · rw [askF_tones e1 e2]
    unfold tonT
    split
    · exact List.cons_ne_nil _ _
    · exact digT_ne (by assumption)
  · rw [askF_not e1 e2]; exact List.cons_ne_nil _ _
theorem ansF_ne (d : Dk) (l : Txt) : ansF d l ≠ [] := by
  rcases line_cases l with h1 | ⟨h1, h2, h3, h4⟩ | ⟨h1, h2, h3, h4⟩ | ⟨h1, h2, h3, h4⟩ | ⟨h1, h2, h3, h4⟩
  · rw [ansF_points h1]; exact itoa_ne _
  · rw [ansF_past h1 h2]; exact itoa_ne _
  · rw [ansF_signal h1 h2 h3]
    refine orN_ne fun u hu => ?_
    obtain ⟨_, ps, _, rfl, _⟩ := sigT_some hu
    exact sigText_ne ps
  · rw [ansF_greatest h1 h2 h3 h4]
    refine orN_ne fun u hu => ?_
    cases ho : greO pwI d.now with
    | none => rw [ho] at hu; cases hu
    | some k => rw [ho] at hu; cases hu; exact itoa_ne _
  · cases hw : whole? (cut1 32 l).2.1 0 9999 with
    | none => rw [ansF_none h1 h2 h3 h4 hw]; exact List.cons_ne_nil _ _
    | some v => rw [ansF_some h1 h2 h3 h4 hw]; exact askF_ne _ _ _
theorem lineF_ne {d : Dk} {l : Txt} (h : dkB d = true) : (lineF d l).2 ≠ [] := by
  cases hr : readDd l with
  | none => rw [lineF_ask h hr]; exact ansF_ne d l
  | some a =>
    rw [lineF_do h hr]
    cases (doF d a).2 <;> exact List.cons_ne_nil _ _
theorem sayG_ne {d : Dk} {a0 : Int} (hk : dkB d = true) (hl : DkL d a0) (h1 : 14 ≤ a0) : ∀ (ls : List Txt), a0 + 5 * (ls.length : Int) ≤ 122 → ∀ t ∈ (sayG (d, []) ls).2, t ≠ [] := fun ls => by
  induction ls generalizing d a0 with
  | nil => intro _ t ht; cases ht
  | cons a l ih =>
    intro h2 t ht
    have h3 : ((a :: l).length : Int) = (l.length : Int) + 1 := by rw [List.length_cons]; omega
    rw [h3] at h2
    obtain ⟨q1, q2⟩ := lineF_lv (l := a) hk hl h1 (by omega)
    have ht : t ∈ (sayG ((lineF d a).1, [] ++ [(lineF d a).2]) l).2 := ht
    rw [sayG_acc] at ht
    rcases List.mem_append.1 ht with h | h
    · rw [List.nil_append, List.mem_singleton] at h; rw [h]; exact lineF_ne hk
    · exact ih q1 q2 (by omega) (by omega) t h
theorem plain_digit {c : UInt8} (h : c.toNat = 45 ∨ (48 ≤ c.toNat ∧ c.toNat ≤ 57)) : plainB c = true := by
  unfold plainB
  rw [decide_eq_true (by omega), decide_eq_true (by omega)]; rfl
theorem plain_itoa (n : Int) : (itoa n).all plainB = true := List.all_eq_true.2 fun c hc => plain_digit (itoa_byte n c hc)
theorem plain_pair (p : Pr) : (pairText p).all plainB = true := by
  unfold pairText
  rw [List.all_append, plain_itoa, List.all_cons, plain_itoa]; rfl
theorem plain_join : ∀ (ws : List Txt), (∀ w ∈ ws, w.all plainB = true) → (join ws [59]).all plainB = true
  | [], _ => rfl
  | [x], h => by rw [join_one]; exact h x List.mem_cons_self
  | x :: y :: r, h => by
    rw [join_cons2, List.all_append, h x List.mem_cons_self, List.all_cons, plain_join (y :: r) fun w hw => h w (List.mem_cons_of_mem _ hw)]; rfl
theorem plain_sig (ps : List Pr) : plainT (sigText ps) = true := by
  unfold plainT
  rw [decide_eq_true (sigText_ne ps)]
  show (sigText ps).all plainB = true
  unfold sigText
  split
  · rfl
  · exact plain_join _ fun w hw => by
      obtain ⟨p, _, rfl⟩ := List.mem_map.1 hw
      exact plain_pair p
/-- The line that writes a signal. -/
def tWrite (t : Txt) : Txt := [119, 114, 105, 116, 101, 32] ++ t
theorem read_write {ps : List Pr} : readDd (tWrite (sigText ps)) = some ⟨0, 0, sigText ps⟩ := by
  refine readDd_iff.2 ⟨List.cons_ne_nil _ _, ?_⟩
  rw [dText_write, plain_sig, if_pos rfl]; rfl
/-- The signal is read again. -/
theorem say_again {x : Dk} {t : Txt} (h : dkB x = true) (hs : sigT x.now = some t) : (lineF x (tWrite t)).2 = tOk ∧ sigT (lineF x (tWrite t)).1.now = some t := by
  obtain ⟨_, ps, _, rfl, hin, hln⟩ := sigT_some hs
  have hm : madF x.now ⟨0, 0, sigText ps⟩ = some (mils ps) := by rw [madF0, readSig_text hin hln]; rfl
  have hu : undB x ⟨0, 0, sigText ps⟩ = false := by unfold undB; rw [decide_eq_false (show ¬ (0 : Int) = 6 by decide)]; rfl
  have e := doF_some h hu hm
  rw [lineF_do h read_write, e]
  exact ⟨rfl, sigT_mils hin hln⟩
/-- The answer to signal. -/
theorem line_signal {x : Dk} (h : dkB x = true) : lineF x [115, 105, 103, 110, 97, 108] = (x, orN (sigT x.now)) := by
  rw [lineF_ask h (by rfl), ansF_signal (by decide) (by decide) (by decide)]
end Go.Proofs.YtnomlkkhkacajaaGreatDoor
