/- Texts on the way to a law (H32), each with its own remark. -/
import Derived.Test.YtnomlkkhkacajaaGreatDoorPC40
import Derived.Deep.RegionHeld3
namespace Go.Proofs.YtnomlkkhkacajaaGreatDoor
open Go.RowKit
open Go.Lib hiding intOf

/-- What is read of a beginning of a text. -/
def RetJk (ds : List Dd) (k : Nat) (w : World) (e : Ending) (w' : World) : Prop := ∃ (X : Option Addr) (m xc f : Nat), e = .returned (.tuple #[.slice X m xc, .int .i64 f]) ∧ m ≤ ds.length ∧ f ≤ k ∧ Ds w' X m (ds.take m) ∧ Below w.heap.size w w'
theorem readPart (s : Txt) (ds : List Dd) (f : Nat) (hs : s.length ≤ 16777216) (hr : rj s = (ds, f)) (k : Nat) (w : World) (hE : EnvX w) :
    Calls Tryz.prog 27 #[.string (bs (s.take k))] w (RetJk ds k w) := by
  refine (iReadJournal (s.take k) (by rw [List.length_take]; omega) w hE).mono ?_
  rintro e w' ⟨X, m, xc, h1, h2, h3⟩
  obtain ⟨j, hj, ej⟩ := rj_take s k
  rw [hr] at hj ej
  simp only at hj ej
  rw [ej] at h2
  have hl := h2.len
  rw [List.length_take] at hl
  obtain rfl : m = j := by omega
  exact ⟨X, m, xc, _, h1, hj, rj_take_len s k, h2.toDs, h3⟩
theorem runS_ok {d : Dk} {ds : List Dd} {k q : Nat} {y : Dk} {a : Dd} (hd : dkB d = true) (hl : DkL d 39) (h6 : ds.length ≤ 6) (hr : runG (d, 0) (ds.take k) = (y, q)) (ha : ds[k]? = some a) (hrd : readDd (dText a) = some a) {y2 : Dk} {t2 : Txt} (h2 : lineF y (dText a) = (y2, t2)) :
    dkB y = true ∧ DkL y 69 ∧ (∃ q2, runG (d, 0) (ds.take (k + 1)) = (y2, q2)) ∧ (t2 = [111, 107] ∨ t2 = [110, 111]) := by
  have hlen : (ds.take k).length ≤ 6 := by rw [List.length_take]; omega
  obtain ⟨h3, h4⟩ := runG_ok hd hl (by omega) 0 (ds.take k) (by omega)
  rw [hr] at h3 h4
  obtain ⟨e1, e2⟩ := line_deed (n := q) h3 hrd
  rw [h2] at e1 e2
  refine ⟨h3, h4.mono (by omega), ⟨(runS (y, q) a).2, ?_⟩, e2⟩
  rw [runG_take ha, hr]
  show runS (y, q) a = (y2, (runS (y, q) a).2)
  rw [show y2 = (runS (y, q) a).1 from e1]

set_option maxHeartbeats 8000000 in
set_option maxRecDepth 100000 in
theorem lawReadJournal (A : Option Addr) (n c : Nat) (A' : Option Addr) (n' c' : Nat) (w : World) (hnc : n ≤ c) (hnc' : n' ≤ c') (h : Code8 w A n) (h' : Code8 w A' n') (hE : EnvX w) :
    Calls Tryz.prog 7 #[.slice A n c, .slice A' n' c'] w fun e w' => e = .returned (.bool true) ∧ Below w.heap.size w w' := by
  by_cases hbig : 1048576 < n
  · clear hE
    go_enter Tryz.func7, Tryz.ntmps7
    go_wp2_with fail
    go_ret
    exact ⟨rfl, Below.refl _ _⟩
  have hn2 : n ≤ 1048576 := by omega
  by_cases hbig2 : 1048576 < n'
  · clear hE
    go_enter Tryz.func7, Tryz.ntmps7
    go_wp2_with fail
    go_ret
    exact ⟨rfl, Below.refl _ _⟩
  have hn3 : n' ≤ 1048576 := by omega
  have HE := Lib.hid hE
  have HC2 := Lib.hid h'
  clear hE h'
  go_enter Tryz.func7, Tryz.ntmps7
  go_wp2_with fail
  refine (drawReadJournal_any A n c w hnc hn2 h).mono ?_
  rintro e w1 ⟨s, rfl, hsl, hsc, hb1⟩
  have HW1 := Lib.hid hb1
  obtain ⟨⟨ds, f⟩, hr⟩ : ∃ r, rj s = r := ⟨_, rfl⟩
  have hd6 : ds.length ≤ 6 := by have h := rj_count s; rw [hr] at h; exact Nat.le_trans h hsc
  have hfl : f ≤ s.length := by have h := (rj_back s).2.2; rw [hr] at h; exact h
  have hjt : jText ds = s.take f := by have h := rj_text_of s; rw [hr] at h; exact h
  have HDD : Hid (∀ a ∈ ds, a.text.length ≤ 4000 ∧ readDd (dText a) = some a ∧ (dText a).length ≤ 4000) := fun a ha => by
    obtain ⟨h1, h2, h3⟩ := rj_deeds s a (by rw [hr]; exact ha)
    exact ⟨by omega, h2, by omega⟩
  have HRI : Hid (∀ w', EnvX w' → Calls Tryz.prog 27 #[.string (bs s)] w' (RetJ w' (ds, f))) := fun w' he => by rw [← hr]; exact iReadJournal s (by omega) w' he
  have HRS : Hid (∀ w', Calls Tryz.prog 28 #[.string (bs s)] w' (RetJ w' (ds, f))) := fun w' => by rw [← hr]; exact sReadJournal s (by omega) w'
  have HRK : Hid (∀ k w', EnvX w' → Calls Tryz.prog 27 #[.string (bs (s.take k))] w' (RetJk ds k w')) := fun k w' he => readPart s ds f (by omega) hr k w' he
  have HJT : Hid (∀ w' L lc, Ds w' L ds.length ds → EnvX w' → Calls Tryz.prog 31 #[.slice L ds.length lc] w' fun e w'' => e = .returned (.string (bs (s.take f))) ∧ Below w'.heap.size w' w'') := fun w' L lc h he => by
    rw [← hjt]
    exact iJournalText L ds.length lc ds w' (by omega) h (fun a ha => by have := (HDD.out a ha).1; omega) he.a.tab
  clear h hb1 hr hjt hsc
  go_wp2_with fail
  refine (HRI.out _ (HE.out.kp (Kp.below HW1.out))).mono ?_
  rintro e w2 ⟨L, l, lc, rfl, ho2, hb2⟩
  obtain rfl : l = ds.length := ho2.len.symm
  obtain ⟨q1, q2, hL⟩ := ho2.nil0
  have HD2 := Lib.hid (Od.toDs ho2)
  have HW2 : Hid (Below w.heap.size w w2) := HW1.out.trans (hb2.mono HW1.out.size)
  clear ho2 hb2
  obtain ⟨l, hl⟩ : ∃ l, l = ds.length := ⟨_, rfl⟩
  have HLL := Lib.hid hl
  rw [← hl] at HD2 HJT q1 hL hd6 ⊢
  clear hl
  go_wp2_with fail
  refine (HRS.out _).mono ?_
  rintro e w3 ⟨L2, l2, lc2, rfl, ho3, hb3⟩
  obtain rfl : l = l2 := by rw [HLL.out]; exact ho3.len
  have HD3 := Lib.hid (HD2.out.below hb3)
  have HE3 := Lib.hid (Od.toDs ho3)
  have HW3 : Hid (Below w.heap.size w w3) := HW2.out.trans (hb3.mono HW2.out.size)
  clear ho3 hb3
  go_wp2_with fail
  refine (sameDeeds_true L L2 _ lc lc2 ds w3 (by omega) HD3.out HE3.out).mono ?_
  rintro e w4 ⟨rfl, hdr⟩
  have HD4 := Lib.hid (HD3.out.below hdr.below)
  have HW4 : Hid (Below w.heap.size w w4) := HW3.out.trans (hdr.below.mono HW3.out.size)
  clear hdr
  have hsz : (bs s).size = s.length := bs_size s
  have hx := bs_extract s
  go_wp2_with fail
  go_loopw [10, 11, 12] (fun i _ _ wr => ∃ k : Nat, k ≤ s.length + 1 ∧ i = .int .i64 k ∧ Below w4.heap.size w4 wr) (fun i _ _ _ => s.length + 1 - (intOf i).toNat)
  case atStart => first | exact ⟨0, by omega, rfl, Below.refl _ _⟩ | ((repeat apply Exists.intro); exact ⟨by omega, rfl, Below.refl _ _⟩)
  case round =>
    obtain ⟨k, hk, rfl, hbr⟩ := hrel
    have HBR := Lib.hid hbr
    have HWR : Hid (Below w.heap.size w wr) := HW4.out.trans (hbr.mono HW4.out.size)
    have HDR := Lib.hid (HD4.out.below hbr)
    clear hbr
    by_cases hlt : k ≤ s.length
    · have i1 : (k : Int) ≤ (s.length : Int) := by omega
      go_wp2_with fail
      refine (HRK.out k _ (HE.out.kp (Kp.below HWR.out))).mono ?_
      rintro e wx ⟨X, m, xc, f2, rfl, hm, hf2, hdx, hbx⟩
      have HDX := Lib.hid hdx
      have HBX : Hid (Below w4.heap.size w4 wx) := HBR.out.trans (hbx.mono HBR.out.size)
      have hml : m ≤ l := by rw [HLL.out]; exact hm
      have HDM := Lib.hid ((HDR.out.below hbx).take_ hml)
      have hmn : min (m : Int) (l : Int) = (m : Int) := by omega
      have hmg : ¬ (l : Int) < (m : Int) := by omega
      have hmc : (m : Int) ≤ (lc : Int) := by omega
      have hfk : ¬ (k : Int) < (f2 : Int) := by omega
      have hm6 : m ≤ 1073741824 := by omega
      clear hdx hbx hm
      rcases hL with ⟨rfl, rfl, rfl⟩ | ⟨g, rfl⟩
      · obtain rfl : m = 0 := by omega
        go_wp2_with fail
        refine (sameDeeds_true X _ _ xc _ _ wx hm6 HDX.out HDM.out).mono ?_
        rintro e wy ⟨rfl, hdr⟩
        have HBY : Hid (Below w4.heap.size w4 wy) := HBX.out.trans (hdr.below.mono HBX.out.size)
        clear hdr
        go_wp2_with fail
        go_roundw
        case rel => exact ⟨k + 1, by omega, by go_num, HBY.out⟩
        case measure => simp [intOf]; omega
      · skip
        go_wp2_with fail
        refine (sameDeeds_true X _ _ xc _ _ wx hm6 HDX.out HDM.out).mono ?_
        rintro e wy ⟨rfl, hdr⟩
        have HBY : Hid (Below w4.heap.size w4 wy) := HBX.out.trans (hdr.below.mono HBX.out.size)
        clear hdr
        go_wp2_with fail
        go_roundw
        case rel => exact ⟨k + 1, by omega, by go_num, HBY.out⟩
        case measure => simp [intOf]; omega
    · obtain rfl : k = s.length + 1 := by omega
      go_wp2_with fail
      refine (drawDeskRun_any A' n' c' wr hnc' hn3 (code8_below HC2.out HWR.out)).mono ?_
      rintro e w5 ⟨A2, n2, c2, A3, m2, c3, d, L5, l5, lc5, ds5, rfl, hdk, hds, hdl, _, _, _, _, _, _, _, hb5⟩
      obtain ⟨w6, hw6⟩ : ∃ w6, w6 = w5.alloc (.cells #[.slice A2 n2 c2, .slice A3 m2 c3] 26) := ⟨_, rfl⟩
      obtain ⟨w7, hw7⟩ : ∃ w7, w7 = w6.alloc (.cells #[.slice A2 n2 c2, .slice A3 m2 c3] 26) := ⟨_, rfl⟩
      have HS6 : Hid (w6.heap.size = w5.heap.size + 1) := by show _ = _; rw [hw6, size_alloc]
      have HB56 : Hid (Below w5.heap.size w5 w6) := by rw [hw6]; exact below_alloc _ _
      have HB67 : Hid (Below w6.heap.size w6 w7) := by rw [hw7]; exact below_alloc _ _
      have HK6 : Hid (KAt w6 w5.heap.size (.slice A2 n2 c2) (.slice A3 m2 c3)) := by rw [hw6]; exact KAt.new w5 _ _ _
      have HN7 : Hid (KAt w7 w6.heap.size (.slice A2 n2 c2) (.slice A3 m2 c3)) := by rw [hw7]; exact KAt.new w6 _ _ _
      have HV6 : Hid (DkV w6 0 A2 n2 c2 A3 m2 d) := (hdk.mono (Nat.zero_le _)).below HB56.out
      have HD6 := Lib.hid ((HDR.out.below hb5).below HB56.out)
      have HW6 : Hid (Below w.heap.size w w6) := (HWR.out.trans (hb5.mono HWR.out.size)).trans (HB56.out.mono (Nat.le_trans HWR.out.size hb5.size))
      have HX7 : Hid (DkX w7 0 (fun b => b = w6.heap.size) A2 n2 c2 A3 m2 d) := (HV6.out.dkx (X := fun b => b = w6.heap.size) fun b _ h2 hx => by omega).kx (Kx.of HB67.out)
      have HOK : Hid (∀ w', DkV w' 0 A2 n2 c2 A3 m2 d → Calls Tryz.prog 17 #[.agg #[.slice A2 n2 c2, .slice A3 m2 c3]] w' fun e w'' => e = .returned (.bool (dkB d)) ∧ Below w'.heap.size w' w'') := fun w' h => sDeskOk A2 A3 n2 c2 m2 c3 d w' h hds
      have HRN : Hid (∀ w', DkV w' 0 A2 n2 c2 A3 m2 d → Ds w' L l ds → EnvX w' → Calls Tryz.prog 15 #[.agg #[.slice A2 n2 c2, .slice A3 m2 c3], .slice L l lc] w' (RetKN w' (runF d ds))) := fun w' h hd he => iDeskRun A2 A3 n2 c2 m2 c3 d L l lc ds w' h hds hd (by omega) (fun a ha => by have := (HDD.out a ha).1; omega) (fun hb _ => ⟨39, hdl hb, by omega, by have := HLL.out; omega⟩) he.a
      clear hdk hb5
      go_upto_region 16 with fail
      rw [← hw6, ← hw7, ← HS6.out]
      obtain ⟨nb, hnb⟩ : ∃ b, b = w6.heap.size := ⟨_, rfl⟩
      rw [← hnb] at HN7 HX7 ⊢
      have HNB := Lib.hid hnb
      have HDB : Hid (w5.heap.size < nb) := by show _ < _; rw [hnb, HS6.out]; exact Nat.lt_succ_self _
      clear hw6 hw7 hnb
      cases hb : dkB d
      · have HR0 : Hid (runF d ds = (dk0, 0)) := runF_no (.inl hb)
        rw [hb] at HOK
        rw [show runF d ds = _ from HR0.out] at HRN
        clear hb hdl
        have HKL := Lib.hid (HK6.out.below HB67.out (by rw [HS6.out]; exact Nat.lt_succ_self _))
        have HVL := Lib.hid (HV6.out.below HB67.out)
        have HDL := Lib.hid (HD6.out.below HB67.out)
        have HWL : Hid (Below w.heap.size w w7) := HW6.out.trans (HB67.out.mono HW6.out.size)
        clear hsz
        go_wp2_with fail
        go_loopw [16, 17, 18] (fun i _ _ wr => i = .int .i64 0 ∧ wr = w7) (fun _ _ _ _ => 0)
        case atStart => exact ⟨rfl, rfl⟩
        case round =>
          obtain ⟨rfl, hwr⟩ := hrel
          subst hwr
          have hsz : (bs s).size = s.length := bs_size s
          have hst := bs_toList (s.take f)
          have hfi : (f : Int) ≤ (s.length : Int) := by omega
          by_cases hl0 : l = 0
          · subst hl0
            have HKZ := HKL
            have HVZ := HVL
            have HDZ := HDL
            have HWZ := HWL
            obtain ⟨k0, k1, l0, l1, l2⟩ := HKZ.out
            go_wp2_with fail
            refine (HRN.out _ HVZ.out HDZ.out (HE.out.kp (Kp.below HWZ.out))).mono ?_
            rintro e wa ⟨A6, n6, c6, A7, m7, c7, rfl, hya, hba⟩
            obtain ⟨wb, hwb⟩ : ∃ wb, wb = wa.alloc (.cells #[.slice A6 n6 c6, .slice A7 m7 c7] 26) := ⟨_, rfl⟩
            have HAB : Hid (Below wa.heap.size wa wb) := by rw [hwb]; exact below_alloc _ _
            have HBB : Hid (Below wr.heap.size wr wb) := hba.trans (HAB.out.mono hba.size)
            have HKB := Lib.hid (HKZ.out.below HBB.out HKZ.out.lt)
            have HVB := Lib.hid (HVZ.out.below HBB.out)
            have HDB2 := Lib.hid (HDZ.out.below HBB.out)
            have HWB : Hid (Below w.heap.size w wb) := HWZ.out.trans (HBB.out.mono HWZ.out.size)
            clear hya hba k0 k1 l0 l1 l2
            go_upto_region 24 with fail
            rw [← hwb]
            clear hwb
            obtain ⟨k0, k1, _, _, _⟩ := HKB.out
            refine wp_region_noPanic ?_
            refine wp_region_held_drew (S := (fun w' => w'.cell? ⟨w5.heap.size, 0, none⟩ = some (.slice A2 n2 c2) ∧ w'.cell? ⟨w5.heap.size, 1, none⟩ = some (.slice A3 m2 c3))) (by kernel_rfl) ?_ (fun hHeld => ?_)
            · exact ⟨k0, k1⟩
            refine' wpAnyH_take (i := 0) (oi := _) (v := _) ?hi1 (by kernel_rfl) (by kernel_rfl) (by kernel_rfl) (fun _ _ _ h => (h : False).elim) ?hy1 ?hS1 ?rest1
            case hi1 => (simp only [List.getElem?_toArray, List.getElem?_cons_zero]; rfl)
            case hS1 => assumption
            case hy1 => (refine Or.inl ⟨by rfl, ?_⟩; intro w9 hSw; (try dsimp only at hSw); first | (go_simp; done) | (go_simp; with_reducible rfl) | (go_simp; omega))
            try simp only [Act.put, List.setIfInBounds_toArray, List.set_cons_zero, List.set_cons_succ]
            refine' wpAnyH_take (i := 1) (oi := _) (v := _) ?hi2 (by kernel_rfl) (by kernel_rfl) (by kernel_rfl) (fun _ _ _ h => (h : False).elim) ?hy2 ?hS2 ?rest2
            case hi2 => (simp only [List.getElem?_toArray, List.getElem?_cons_zero, List.getElem?_cons_succ]; rfl)
            case hS2 => assumption
            case hy2 => (refine Or.inl ⟨by rfl, ?_⟩; intro w9 hSw; (try dsimp only at hSw); first | (go_simp; done) | (go_simp; with_reducible rfl) | (go_simp; omega))
            try simp only [Act.put, List.setIfInBounds_toArray, List.set_cons_zero, List.set_cons_succ]
            refine' wpAnyH_take (i := 2) (oi := _) (v := _) ?hi3 (by kernel_rfl) (by kernel_rfl) (by kernel_rfl) (fun _ _ _ h => (h : False).elim) ?hy3 ?hS3 ?rest3
            case hi3 => (simp only [List.getElem?_toArray, List.getElem?_cons_zero, List.getElem?_cons_succ]; rfl)
            case hS3 => assumption
            case hy3 => (refine Or.inl ⟨by rfl, ?_⟩; intro w9 hSw; (try dsimp only at hSw); first | (go_simp; done) | (go_simp; with_reducible rfl) | (go_simp; omega))
            try simp only [Act.put, List.setIfInBounds_toArray, List.set_cons_zero, List.set_cons_succ]
            refine' wpAnyH_take (i := 3) (oi := _) (v := _) ?hi4 (by kernel_rfl) (by kernel_rfl) (by kernel_rfl) (fun _ _ _ h => (h : False).elim) ?hy4 ?hS4 ?rest4
            case hi4 => (simp only [List.getElem?_toArray, List.getElem?_cons_zero, List.getElem?_cons_succ]; rfl)
            case hS4 => assumption
            case hy4 => (refine Or.inl ⟨by rfl, ?_⟩; intro w9 hSw; (try dsimp only at hSw); first | (go_simp; done) | (go_simp; with_reducible rfl) | (go_simp; omega))
            try simp only [Act.put, List.setIfInBounds_toArray, List.set_cons_zero, List.set_cons_succ]
            refine' wpAnyH_take (i := 4) (oi := _) (v := _) ?hi5 (by kernel_rfl) (by kernel_rfl) (by kernel_rfl) (fun _ _ _ h => (h : False).elim) ?hy5 ?hS5 ?rest5
            case hi5 => (simp only [List.getElem?_toArray, List.getElem?_cons_zero, List.getElem?_cons_succ]; rfl)
            case hS5 => assumption
            case hy5 => (refine Or.inl ⟨by rfl, ?_⟩; intro w9 hSw; (try dsimp only at hSw); first | (go_simp; done) | (go_simp; with_reducible rfl) | (go_simp; omega))
            try simp only [Act.put, List.setIfInBounds_toArray, List.set_cons_zero, List.set_cons_succ]
            refine' wpAnyH_take (i := 5) (oi := _) (v := _) ?hi6 (by kernel_rfl) (by kernel_rfl) (by kernel_rfl) (fun _ _ _ h => (h : False).elim) ?hy6 ?hS6 ?rest6
            case hi6 => (simp only [List.getElem?_toArray, List.getElem?_cons_zero, List.getElem?_cons_succ]; rfl)
            case hS6 => assumption
            case hy6 => (refine Or.inl ⟨by rfl, ?_⟩; intro w9 hSw; (try dsimp only at hSw); first | (go_simp; done) | (go_simp; with_reducible rfl) | (go_simp; omega))
            try simp only [Act.put, List.setIfInBounds_toArray, List.set_cons_zero, List.set_cons_succ]
            refine' wpAnyH_take (i := 7) (oi := _) (v := _) ?hi7 (by kernel_rfl) (by kernel_rfl) (by kernel_rfl) (fun _ _ _ h => (h : False).elim) ?hy7 ?hS7 ?rest7
            case hi7 => (simp only [List.getElem?_toArray, List.getElem?_cons_zero, List.getElem?_cons_succ]; rfl)
            case hS7 => assumption
            case hy7 => (refine Or.inl ⟨by rfl, ?_⟩; intro w9 hSw; (try dsimp only at hSw); first | (go_simp; done) | (go_simp; with_reducible rfl) | (go_simp; omega))
            try simp only [Act.put, List.setIfInBounds_toArray, List.set_cons_zero, List.set_cons_succ]
            refine' wpAnyH_take (i := 8) (oi := _) (v := _) ?hi8 (by kernel_rfl) (by kernel_rfl) (by kernel_rfl) (fun _ _ _ h => (h : False).elim) ?hy8 ?hS8 ?rest8
            case hi8 => (simp only [List.getElem?_toArray, List.getElem?_cons_zero, List.getElem?_cons_succ]; rfl)
            case hS8 => assumption
            case hy8 => (refine Or.inl ⟨by rfl, ?_⟩; intro w9 hSw; (try dsimp only at hSw); first | (go_simp; done) | (go_simp; with_reducible rfl) | (go_simp; omega))
            try simp only [Act.put, List.setIfInBounds_toArray, List.set_cons_zero, List.set_cons_succ]
            refine' wpAnyH_take (i := 9) (oi := _) (v := _) ?hi9 (by kernel_rfl) (by kernel_rfl) (by kernel_rfl) (fun _ _ _ h => (h : False).elim) ?hy9 ?hS9 ?rest9
            case hi9 => (simp only [List.getElem?_toArray, List.getElem?_cons_zero, List.getElem?_cons_succ]; rfl)
            case hS9 => assumption
            case hy9 => (refine Or.inl ⟨by rfl, ?_⟩; intro w9 hSw; (try dsimp only at hSw); first | (go_simp; done) | (go_simp; with_reducible rfl) | (go_simp; omega))
            try simp only [Act.put, List.setIfInBounds_toArray, List.set_cons_zero, List.set_cons_succ]
            refine wpAnyH_ready (rs := [6]) (by kernel_rfl) (by simp) ?_
            refine' AllReadyH.cons (o := _) ?hi10 (fun K hK => ?step10) AllReadyH.nil
            case hi10 => (simp only [List.getElem?_toArray, List.getElem?_cons_zero, List.getElem?_cons_succ]; rfl)
            go_simp
            go_at_call 31
            (with_reducible refine Calls.mono (HJT.out _ L lc (HDB2.out.below (Below.refl _ wb).drew) (HE.out.kp (Kp.below HWB.out.drew))) ?_)
            rintro e wj ⟨rfl, hbj⟩
            have HBJ := Lib.hid (below_d hbj)
            have HKJ := Lib.hid (HKB.out.below HBJ.out HKB.out.lt)
            have HVJ := Lib.hid (HVB.out.below HBJ.out)
            have HWJ : Hid (Below w.heap.size w wj) := HWB.out.trans (HBJ.out.mono HWB.out.size)
            clear hbj
            obtain ⟨k2, k3, _, _, _⟩ := HKJ.out
            first | done | go_wp2_with fail | skip
            refine hK.out _ _ ?_ (fun hHeld => ?_)
            · exact ⟨k2, k3⟩
            clear hK K
            try simp only [Act.put, List.setIfInBounds_toArray, List.set_cons_zero, List.set_cons_succ]
            refine' wpAnyH_take (i := 10) (oi := _) (v := _) ?hi11 (by kernel_rfl) (by kernel_rfl) (by kernel_rfl) (fun _ _ _ h => (h : False).elim) ?hy11 ?hS11 ?rest11
            case hi11 => (simp only [List.getElem?_toArray, List.getElem?_cons_zero, List.getElem?_cons_succ]; rfl)
            case hS11 => assumption
            case hy11 => (refine Or.inl ⟨by rfl, ?_⟩; intro w9 hSw; (try dsimp only at hSw); first | (go_simp; done) | (go_simp; with_reducible rfl) | (go_simp; omega))
            try simp only [Act.put, List.setIfInBounds_toArray, List.set_cons_zero, List.set_cons_succ]
            refine' wpAnyH_take (i := 11) (oi := _) (v := _) ?hi12 (by kernel_rfl) (by kernel_rfl) (by kernel_rfl) (fun _ _ _ h => (h : False).elim) ?hy12 ?hS12 ?rest12
            case hi12 => (simp only [List.getElem?_toArray, List.getElem?_cons_zero, List.getElem?_cons_succ]; rfl)
            case hS12 => assumption
            case hy12 => (refine Or.inl ⟨by rfl, ?_⟩; intro w9 hSw; (try dsimp only at hSw); first | (go_simp; done) | (go_simp; with_reducible rfl) | (go_simp; omega))
            try simp only [Act.put, List.setIfInBounds_toArray, List.set_cons_zero, List.set_cons_succ]
            refine' wpAnyH_take (i := 12) (oi := _) (v := _) ?hi13 (by kernel_rfl) (by kernel_rfl) (by kernel_rfl) (fun _ _ _ h => (h : False).elim) ?hy13 ?hS13 ?rest13
            case hi13 => (simp only [List.getElem?_toArray, List.getElem?_cons_zero, List.getElem?_cons_succ]; rfl)
            case hS13 => assumption
            case hy13 => (refine Or.inl ⟨by rfl, ?_⟩; intro w9 hSw; (try dsimp only at hSw); first | (go_simp; done) | (go_simp; with_reducible rfl) | (go_simp; omega))
            try simp only [Act.put, List.setIfInBounds_toArray, List.set_cons_zero, List.set_cons_succ]
            refine' wpAnyH_take (i := 13) (oi := _) (v := _) ?hi14 (by kernel_rfl) (by kernel_rfl) (by kernel_rfl) (fun _ _ _ h => (h : False).elim) ?hy14 ?hS14 ?rest14
            case hi14 => (simp only [List.getElem?_toArray, List.getElem?_cons_zero, List.getElem?_cons_succ]; rfl)
            case hS14 => assumption
            case hy14 => (refine Or.inl ⟨by rfl, ?_⟩; intro w9 hSw; (try dsimp only at hSw); first | (go_simp; done) | (go_simp; with_reducible rfl) | (go_simp; omega))
            try simp only [Act.put, List.setIfInBounds_toArray, List.set_cons_zero, List.set_cons_succ]
            refine wpAnyH_ready (rs := [14]) (by kernel_rfl) (by simp) ?_
            refine' AllReadyH.cons (o := _) ?hi15 (fun K hK => ?step15) AllReadyH.nil
            case hi15 => (simp only [List.getElem?_toArray, List.getElem?_cons_zero, List.getElem?_cons_succ]; rfl)
            go_simp
            go_at_call 17
            (with_reducible refine Calls.mono (HOK.out wj HVJ.out) ?_)
            rintro e wk ⟨rfl, hbk⟩
            have HBK := Lib.hid (hbk)
            have HKK := Lib.hid (HKJ.out.below HBK.out HKJ.out.lt)
            have HVK := Lib.hid (HVJ.out.below HBK.out)
            have HWK : Hid (Below w.heap.size w wk) := HWJ.out.trans (HBK.out.mono HWJ.out.size)
            clear hbk
            obtain ⟨k4, k5, _, _, _⟩ := HKK.out
            first | done | go_wp2_with fail | skip
            refine hK.out _ _ ?_ (fun hHeld => ?_)
            · exact ⟨k4, k5⟩
            clear hK K
            try simp only [Act.put, List.setIfInBounds_toArray, List.set_cons_zero, List.set_cons_succ]
            refine' wpAnyH_take (i := 15) (oi := _) (v := _) ?hi16 (by kernel_rfl) (by kernel_rfl) (by kernel_rfl) (fun _ _ _ h => (h : False).elim) ?hy16 ?hS16 ?rest16
            case hi16 => (simp only [List.getElem?_toArray, List.getElem?_cons_zero, List.getElem?_cons_succ]; rfl)
            case hS16 => assumption
            case hy16 => (refine Or.inl ⟨by rfl, ?_⟩; intro w9 hSw; (try dsimp only at hSw); first | (go_simp; done) | (go_simp; with_reducible rfl) | (go_simp; omega))
            try simp only [Act.put, List.setIfInBounds_toArray, List.set_cons_zero, List.set_cons_succ]
            refine' wpAnyH_take (i := 16) (oi := _) (v := _) ?hi17 (by kernel_rfl) (by kernel_rfl) (by kernel_rfl) (fun _ _ _ h => (h : False).elim) ?hy17 ?hS17 ?rest17
            case hi17 => (simp only [List.getElem?_toArray, List.getElem?_cons_zero, List.getElem?_cons_succ]; rfl)
            case hS17 => assumption
            case hy17 => (refine Or.inl ⟨by rfl, ?_⟩; intro w9 hSw; (try dsimp only at hSw); first | (go_simp; done) | (go_simp; with_reducible rfl) | (go_simp; omega))
            try simp only [Act.put, List.setIfInBounds_toArray, List.set_cons_zero, List.set_cons_succ]
            refine' wpAnyH_take (i := 17) (oi := _) (v := undef) ?hi18 (by kernel_rfl) (by kernel_rfl) (by kernel_rfl) (fun _ _ _ h => (h : False).elim) ?hy18 ?hS18 ?rest18
            case hi18 => (simp only [List.getElem?_toArray, List.getElem?_cons_zero, List.getElem?_cons_succ]; rfl)
            case hS18 => assumption
            case hy18 => exact Or.inr ⟨by rfl, rfl⟩
            try simp only [Act.put, List.setIfInBounds_toArray, List.set_cons_zero, List.set_cons_succ]
            refine' wpAnyH_take (i := 18) (oi := _) (v := undef) ?hi19 (by kernel_rfl) (by kernel_rfl) (by kernel_rfl) (fun _ _ _ h => (h : False).elim) ?hy19 ?hS19 ?rest19
            case hi19 => (simp only [List.getElem?_toArray, List.getElem?_cons_zero, List.getElem?_cons_succ]; rfl)
            case hS19 => assumption
            case hy19 => exact Or.inr ⟨by rfl, rfl⟩
            try simp only [Act.put, List.setIfInBounds_toArray, List.set_cons_zero, List.set_cons_succ]
            refine' wpAnyH_take (i := 19) (oi := _) (v := undef) ?hi20 (by kernel_rfl) (by kernel_rfl) (by kernel_rfl) (fun _ _ _ h => (h : False).elim) ?hy20 ?hS20 ?rest20
            case hi20 => (simp only [List.getElem?_toArray, List.getElem?_cons_zero, List.getElem?_cons_succ]; rfl)
            case hS20 => assumption
            case hy20 => exact Or.inr ⟨by rfl, rfl⟩
            try simp only [Act.put, List.setIfInBounds_toArray, List.set_cons_zero, List.set_cons_succ]
            refine' wpAnyH_take (i := 20) (oi := _) (v := _) ?hi21 (by kernel_rfl) (by kernel_rfl) (by kernel_rfl) (fun _ _ _ h => (h : False).elim) ?hy21 ?hS21 ?rest21
            case hi21 => (simp only [List.getElem?_toArray, List.getElem?_cons_zero, List.getElem?_cons_succ]; rfl)
            case hS21 => assumption
            case hy21 => (refine Or.inl ⟨by rfl, ?_⟩; intro w9 hSw; (try dsimp only at hSw); first | (go_simp; done) | (go_simp; with_reducible rfl) | (go_simp; omega))
            try simp only [Act.put, List.setIfInBounds_toArray, List.set_cons_zero, List.set_cons_succ]
            refine' wpAnyH_take (i := 21) (oi := _) (v := _) ?hi22 (by kernel_rfl) (by kernel_rfl) (by kernel_rfl) (fun _ _ _ h => (h : False).elim) ?hy22 ?hS22 ?rest22
            case hi22 => (simp only [List.getElem?_toArray, List.getElem?_cons_zero, List.getElem?_cons_succ]; rfl)
            case hS22 => assumption
            case hy22 => (refine Or.inl ⟨by rfl, ?_⟩; intro w9 hSw; (try dsimp only at hSw); first | (go_simp; done) | (go_simp; with_reducible rfl) | (go_simp; omega))
            try simp only [Act.put, List.setIfInBounds_toArray, List.set_cons_zero, List.set_cons_succ]
            refine' wpAnyH_take (i := 22) (oi := _) (v := undef) ?hi23 (by kernel_rfl) (by kernel_rfl) (by kernel_rfl) (fun _ _ _ h => (h : False).elim) ?hy23 ?hS23 ?rest23
            case hi23 => (simp only [List.getElem?_toArray, List.getElem?_cons_zero, List.getElem?_cons_succ]; rfl)
            case hS23 => assumption
            case hy23 => exact Or.inr ⟨by rfl, rfl⟩
            try simp only [Act.put, List.setIfInBounds_toArray, List.set_cons_zero, List.set_cons_succ]
            refine' wpAnyH_take (i := 23) (oi := _) (v := undef) ?hi24 (by kernel_rfl) (by kernel_rfl) (by kernel_rfl) (fun _ _ _ h => (h : False).elim) ?hy24 ?hS24 ?rest24
            case hi24 => (simp only [List.getElem?_toArray, List.getElem?_cons_zero, List.getElem?_cons_succ]; rfl)
            case hS24 => assumption
            case hy24 => exact Or.inr ⟨by rfl, rfl⟩
            try simp only [Act.put, List.setIfInBounds_toArray, List.set_cons_zero, List.set_cons_succ]
            refine' wpAnyH_take (i := 24) (oi := _) (v := undef) ?hi25 (by kernel_rfl) (by kernel_rfl) (by kernel_rfl) (fun _ _ _ h => (h : False).elim) ?hy25 ?hS25 ?rest25
            case hi25 => (simp only [List.getElem?_toArray, List.getElem?_cons_zero, List.getElem?_cons_succ]; rfl)
            case hS25 => assumption
            case hy25 => exact Or.inr ⟨by rfl, rfl⟩
            try simp only [Act.put, List.setIfInBounds_toArray, List.set_cons_zero, List.set_cons_succ]
            refine' wpAnyH_take (i := 25) (oi := _) (v := _) ?hi26 (by kernel_rfl) (by kernel_rfl) (by kernel_rfl) (fun _ _ _ h => (h : False).elim) ?hy26 ?hS26 ?rest26
            case hi26 => (simp only [List.getElem?_toArray, List.getElem?_cons_zero, List.getElem?_cons_succ]; rfl)
            case hS26 => assumption
            case hy26 => (refine Or.inl ⟨by rfl, ?_⟩; intro w9 hSw; (try dsimp only at hSw); first | (go_simp; done) | (go_simp; with_reducible rfl) | (go_simp; omega))
            try simp only [Act.put, List.setIfInBounds_toArray, List.set_cons_zero, List.set_cons_succ]
            refine' wpAnyH_take (i := 26) (oi := _) (v := _) ?hi27 (by kernel_rfl) (by kernel_rfl) (by kernel_rfl) (fun _ _ _ h => (h : False).elim) ?hy27 ?hS27 ?rest27
            case hi27 => (simp only [List.getElem?_toArray, List.getElem?_cons_zero, List.getElem?_cons_succ]; rfl)
            case hS27 => assumption
            case hy27 => (refine Or.inl ⟨by rfl, ?_⟩; intro w9 hSw; (try dsimp only at hSw); first | (go_simp; done) | (go_simp; with_reducible rfl) | (go_simp; omega))
            try simp only [Act.put, List.setIfInBounds_toArray, List.set_cons_zero, List.set_cons_succ]
            refine' wpAnyH_take (i := 27) (oi := _) (v := _) ?hi28 (by kernel_rfl) (by kernel_rfl) (by kernel_rfl) (fun _ _ _ h => (h : False).elim) ?hy28 ?hS28 ?rest28
            case hi28 => (simp only [List.getElem?_toArray, List.getElem?_cons_zero, List.getElem?_cons_succ]; rfl)
            case hS28 => assumption
            case hy28 => (refine Or.inl ⟨by rfl, ?_⟩; intro w9 hSw; (try dsimp only at hSw); first | (go_simp; done) | (go_simp; with_reducible rfl) | (go_simp; omega))
            try simp only [Act.put, List.setIfInBounds_toArray, List.set_cons_zero, List.set_cons_succ]
            refine wpAnyH_ready (rs := [28]) (by kernel_rfl) (by simp) ?_
            refine' AllReadyH.cons (o := _) ?hi29 (fun K hK => ?step29) AllReadyH.nil
            case hi29 => (simp only [List.getElem?_toArray, List.getElem?_cons_zero, List.getElem?_cons_succ]; rfl)
            go_simp
            go_at_call 13
            (with_reducible refine Calls.mono (alive_true _) ?_)
            rintro e wn ⟨rfl, rfl⟩
            first | done | go_wp2_with fail | skip
            refine hK.out _ _ ?_ (fun hHeld => ?_)
            · exact ⟨k4, k5⟩
            clear hK K
            try simp only [Act.put, List.setIfInBounds_toArray, List.set_cons_zero, List.set_cons_succ]
            refine' wpAnyH_take (i := 29) (oi := _) (v := _) ?hi30 (by kernel_rfl) (by kernel_rfl) (by kernel_rfl) (fun _ _ _ h => (h : False).elim) ?hy30 ?hS30 ?rest30
            case hi30 => (simp only [List.getElem?_toArray, List.getElem?_cons_zero, List.getElem?_cons_succ]; rfl)
            case hS30 => assumption
            case hy30 => (refine Or.inl ⟨by rfl, ?_⟩; intro w9 hSw; (try dsimp only at hSw); first | (go_simp; done) | (go_simp; with_reducible rfl) | (go_simp; omega))
            try simp only [Act.put, List.setIfInBounds_toArray, List.set_cons_zero, List.set_cons_succ]
            refine' wpAnyH_take (i := 30) (oi := _) (v := _) ?hi31 (by kernel_rfl) (by kernel_rfl) (by kernel_rfl) (fun _ _ _ h => (h : False).elim) ?hy31 ?hS31 ?rest31
            case hi31 => (simp only [List.getElem?_toArray, List.getElem?_cons_zero, List.getElem?_cons_succ]; rfl)
            case hS31 => assumption
            case hy31 => (refine Or.inl ⟨by rfl, ?_⟩; intro w9 hSw; (try dsimp only at hSw); first | (go_simp; done) | (go_simp; with_reducible rfl) | (go_simp; omega))
            try simp only [Act.put, List.setIfInBounds_toArray, List.set_cons_zero, List.set_cons_succ]
            refine wpAnyH_done (by kernel_rfl) ?_ _
            refine NoPanic.normal ?_
            all_goals
              go_wp2_with fail
              go_ret
              exact ⟨rfl, HWK.out⟩
          · have hli : (0 : Int) < (l : Int) := by omega
            obtain ⟨k0, k1, l0, l1, l2⟩ := HKL.out
            go_wp2_with fail
            refine (HOK.out _ HVL.out).mono ?_
            rintro e wr2 ⟨rfl, hbs⟩
            have HKZ := Lib.hid (HKL.out.below hbs HKL.out.lt)
            have HVZ := Lib.hid (HVL.out.below hbs)
            have HDZ := Lib.hid (HDL.out.below hbs)
            have HWZ : Hid (Below w.heap.size w wr2) := HWL.out.trans (hbs.mono HWL.out.size)
            clear hbs k0 k1 l0 l1 l2
            obtain ⟨k0, k1, l0, l1, l2⟩ := HKZ.out
            go_wp2_with fail
            refine (HRN.out _ HVZ.out HDZ.out (HE.out.kp (Kp.below HWZ.out))).mono ?_
            rintro e wa ⟨A6, n6, c6, A7, m7, c7, rfl, hya, hba⟩
            obtain ⟨wb, hwb⟩ : ∃ wb, wb = wa.alloc (.cells #[.slice A6 n6 c6, .slice A7 m7 c7] 26) := ⟨_, rfl⟩
            have HAB : Hid (Below wa.heap.size wa wb) := by rw [hwb]; exact below_alloc _ _
            have HBB : Hid (Below wr2.heap.size wr2 wb) := hba.trans (HAB.out.mono hba.size)
            have HKB := Lib.hid (HKZ.out.below HBB.out HKZ.out.lt)
            have HVB := Lib.hid (HVZ.out.below HBB.out)
            have HDB2 := Lib.hid (HDZ.out.below HBB.out)
            have HWB : Hid (Below w.heap.size w wb) := HWZ.out.trans (HBB.out.mono HWZ.out.size)
            clear hya hba k0 k1 l0 l1 l2
            go_upto_region 24 with fail
            rw [← hwb]
            clear hwb
            obtain ⟨k0, k1, _, _, _⟩ := HKB.out
            refine wp_region_noPanic ?_
            refine wp_region_held_drew (S := (fun w' => w'.cell? ⟨w5.heap.size, 0, none⟩ = some (.slice A2 n2 c2) ∧ w'.cell? ⟨w5.heap.size, 1, none⟩ = some (.slice A3 m2 c3))) (by kernel_rfl) ?_ (fun hHeld => ?_)
            · exact ⟨k0, k1⟩
            refine' wpAnyH_take (i := 0) (oi := _) (v := _) ?hi32 (by kernel_rfl) (by kernel_rfl) (by kernel_rfl) (fun _ _ _ h => (h : False).elim) ?hy32 ?hS32 ?rest32
            case hi32 => (simp only [List.getElem?_toArray, List.getElem?_cons_zero]; rfl)
            case hS32 => assumption
            case hy32 => (refine Or.inl ⟨by rfl, ?_⟩; intro w9 hSw; (try dsimp only at hSw); first | (go_simp; done) | (go_simp; with_reducible rfl) | (go_simp; omega))
            try simp only [Act.put, List.setIfInBounds_toArray, List.set_cons_zero, List.set_cons_succ]
            refine' wpAnyH_take (i := 1) (oi := _) (v := _) ?hi33 (by kernel_rfl) (by kernel_rfl) (by kernel_rfl) (fun _ _ _ h => (h : False).elim) ?hy33 ?hS33 ?rest33
            case hi33 => (simp only [List.getElem?_toArray, List.getElem?_cons_zero, List.getElem?_cons_succ]; rfl)
            case hS33 => assumption
            case hy33 => (refine Or.inl ⟨by rfl, ?_⟩; intro w9 hSw; (try dsimp only at hSw); first | (go_simp; done) | (go_simp; with_reducible rfl) | (go_simp; omega))
            try simp only [Act.put, List.setIfInBounds_toArray, List.set_cons_zero, List.set_cons_succ]
            refine' wpAnyH_take (i := 2) (oi := _) (v := _) ?hi34 (by kernel_rfl) (by kernel_rfl) (by kernel_rfl) (fun _ _ _ h => (h : False).elim) ?hy34 ?hS34 ?rest34
            case hi34 => (simp only [List.getElem?_toArray, List.getElem?_cons_zero, List.getElem?_cons_succ]; rfl)
            case hS34 => assumption
            case hy34 => (refine Or.inl ⟨by rfl, ?_⟩; intro w9 hSw; (try dsimp only at hSw); first | (go_simp; done) | (go_simp; with_reducible rfl) | (go_simp; omega))
            try simp only [Act.put, List.setIfInBounds_toArray, List.set_cons_zero, List.set_cons_succ]
            refine' wpAnyH_take (i := 3) (oi := _) (v := _) ?hi35 (by kernel_rfl) (by kernel_rfl) (by kernel_rfl) (fun _ _ _ h => (h : False).elim) ?hy35 ?hS35 ?rest35
            case hi35 => (simp only [List.getElem?_toArray, List.getElem?_cons_zero, List.getElem?_cons_succ]; rfl)
            case hS35 => assumption
            case hy35 => (refine Or.inl ⟨by rfl, ?_⟩; intro w9 hSw; (try dsimp only at hSw); first | (go_simp; done) | (go_simp; with_reducible rfl) | (go_simp; omega))
            try simp only [Act.put, List.setIfInBounds_toArray, List.set_cons_zero, List.set_cons_succ]
            refine' wpAnyH_take (i := 4) (oi := _) (v := _) ?hi36 (by kernel_rfl) (by kernel_rfl) (by kernel_rfl) (fun _ _ _ h => (h : False).elim) ?hy36 ?hS36 ?rest36
            case hi36 => (simp only [List.getElem?_toArray, List.getElem?_cons_zero, List.getElem?_cons_succ]; rfl)
            case hS36 => assumption
            case hy36 => (refine Or.inl ⟨by rfl, ?_⟩; intro w9 hSw; (try dsimp only at hSw); first | (go_simp; done) | (go_simp; with_reducible rfl) | (go_simp; omega))
            try simp only [Act.put, List.setIfInBounds_toArray, List.set_cons_zero, List.set_cons_succ]
            refine' wpAnyH_take (i := 5) (oi := _) (v := _) ?hi37 (by kernel_rfl) (by kernel_rfl) (by kernel_rfl) (fun _ _ _ h => (h : False).elim) ?hy37 ?hS37 ?rest37
            case hi37 => (simp only [List.getElem?_toArray, List.getElem?_cons_zero, List.getElem?_cons_succ]; rfl)
            case hS37 => assumption
            case hy37 => (refine Or.inl ⟨by rfl, ?_⟩; intro w9 hSw; (try dsimp only at hSw); first | (go_simp; done) | (go_simp; with_reducible rfl) | (go_simp; omega))
            try simp only [Act.put, List.setIfInBounds_toArray, List.set_cons_zero, List.set_cons_succ]
            refine' wpAnyH_take (i := 7) (oi := _) (v := _) ?hi38 (by kernel_rfl) (by kernel_rfl) (by kernel_rfl) (fun _ _ _ h => (h : False).elim) ?hy38 ?hS38 ?rest38
            case hi38 => (simp only [List.getElem?_toArray, List.getElem?_cons_zero, List.getElem?_cons_succ]; rfl)
            case hS38 => assumption
            case hy38 => (refine Or.inl ⟨by rfl, ?_⟩; intro w9 hSw; (try dsimp only at hSw); first | (go_simp; done) | (go_simp; with_reducible rfl) | (go_simp; omega))
            try simp only [Act.put, List.setIfInBounds_toArray, List.set_cons_zero, List.set_cons_succ]
            refine' wpAnyH_take (i := 8) (oi := _) (v := _) ?hi39 (by kernel_rfl) (by kernel_rfl) (by kernel_rfl) (fun _ _ _ h => (h : False).elim) ?hy39 ?hS39 ?rest39
            case hi39 => (simp only [List.getElem?_toArray, List.getElem?_cons_zero, List.getElem?_cons_succ]; rfl)
            case hS39 => assumption
            case hy39 => (refine Or.inl ⟨by rfl, ?_⟩; intro w9 hSw; (try dsimp only at hSw); first | (go_simp; done) | (go_simp; with_reducible rfl) | (go_simp; omega))
            try simp only [Act.put, List.setIfInBounds_toArray, List.set_cons_zero, List.set_cons_succ]
            refine' wpAnyH_take (i := 9) (oi := _) (v := _) ?hi40 (by kernel_rfl) (by kernel_rfl) (by kernel_rfl) (fun _ _ _ h => (h : False).elim) ?hy40 ?hS40 ?rest40
            case hi40 => (simp only [List.getElem?_toArray, List.getElem?_cons_zero, List.getElem?_cons_succ]; rfl)
            case hS40 => assumption
            case hy40 => (refine Or.inl ⟨by rfl, ?_⟩; intro w9 hSw; (try dsimp only at hSw); first | (go_simp; done) | (go_simp; with_reducible rfl) | (go_simp; omega))
            try simp only [Act.put, List.setIfInBounds_toArray, List.set_cons_zero, List.set_cons_succ]
            refine wpAnyH_ready (rs := [6]) (by kernel_rfl) (by simp) ?_
            refine' AllReadyH.cons (o := _) ?hi41 (fun K hK => ?step41) AllReadyH.nil
            case hi41 => (simp only [List.getElem?_toArray, List.getElem?_cons_zero, List.getElem?_cons_succ]; rfl)
            go_simp
            go_at_call 31
            (with_reducible refine Calls.mono (HJT.out _ L lc (HDB2.out.below (Below.refl _ wb).drew) (HE.out.kp (Kp.below HWB.out.drew))) ?_)
            rintro e wj ⟨rfl, hbj⟩
            have HBJ := Lib.hid (below_d hbj)
            have HKJ := Lib.hid (HKB.out.below HBJ.out HKB.out.lt)
            have HVJ := Lib.hid (HVB.out.below HBJ.out)
            have HWJ : Hid (Below w.heap.size w wj) := HWB.out.trans (HBJ.out.mono HWB.out.size)
            clear hbj
            obtain ⟨k2, k3, _, _, _⟩ := HKJ.out
            first | done | go_wp2_with fail | skip
            refine hK.out _ _ ?_ (fun hHeld => ?_)
            · exact ⟨k2, k3⟩
            clear hK K
            try simp only [Act.put, List.setIfInBounds_toArray, List.set_cons_zero, List.set_cons_succ]
            refine' wpAnyH_take (i := 10) (oi := _) (v := _) ?hi42 (by kernel_rfl) (by kernel_rfl) (by kernel_rfl) (fun _ _ _ h => (h : False).elim) ?hy42 ?hS42 ?rest42
            case hi42 => (simp only [List.getElem?_toArray, List.getElem?_cons_zero, List.getElem?_cons_succ]; rfl)
            case hS42 => assumption
            case hy42 => (refine Or.inl ⟨by rfl, ?_⟩; intro w9 hSw; (try dsimp only at hSw); first | (go_simp; done) | (go_simp; with_reducible rfl) | (go_simp; omega))
            try simp only [Act.put, List.setIfInBounds_toArray, List.set_cons_zero, List.set_cons_succ]
            refine' wpAnyH_take (i := 11) (oi := _) (v := _) ?hi43 (by kernel_rfl) (by kernel_rfl) (by kernel_rfl) (fun _ _ _ h => (h : False).elim) ?hy43 ?hS43 ?rest43
            case hi43 => (simp only [List.getElem?_toArray, List.getElem?_cons_zero, List.getElem?_cons_succ]; rfl)
            case hS43 => assumption
            case hy43 => (refine Or.inl ⟨by rfl, ?_⟩; intro w9 hSw; (try dsimp only at hSw); first | (go_simp; done) | (go_simp; with_reducible rfl) | (go_simp; omega))
            try simp only [Act.put, List.setIfInBounds_toArray, List.set_cons_zero, List.set_cons_succ]
            refine' wpAnyH_take (i := 12) (oi := _) (v := _) ?hi44 (by kernel_rfl) (by kernel_rfl) (by kernel_rfl) (fun _ _ _ h => (h : False).elim) ?hy44 ?hS44 ?rest44
            case hi44 => (simp only [List.getElem?_toArray, List.getElem?_cons_zero, List.getElem?_cons_succ]; rfl)
            case hS44 => assumption
            case hy44 => (refine Or.inl ⟨by rfl, ?_⟩; intro w9 hSw; (try dsimp only at hSw); first | (go_simp; done) | (go_simp; with_reducible rfl) | (go_simp; omega))
            try simp only [Act.put, List.setIfInBounds_toArray, List.set_cons_zero, List.set_cons_succ]
            refine' wpAnyH_take (i := 13) (oi := _) (v := _) ?hi45 (by kernel_rfl) (by kernel_rfl) (by kernel_rfl) (fun _ _ _ h => (h : False).elim) ?hy45 ?hS45 ?rest45
            case hi45 => (simp only [List.getElem?_toArray, List.getElem?_cons_zero, List.getElem?_cons_succ]; rfl)
            case hS45 => assumption
            case hy45 => (refine Or.inl ⟨by rfl, ?_⟩; intro w9 hSw; (try dsimp only at hSw); first | (go_simp; done) | (go_simp; with_reducible rfl) | (go_simp; omega))
            try simp only [Act.put, List.setIfInBounds_toArray, List.set_cons_zero, List.set_cons_succ]
            refine wpAnyH_ready (rs := [14]) (by kernel_rfl) (by simp) ?_
            refine' AllReadyH.cons (o := _) ?hi46 (fun K hK => ?step46) AllReadyH.nil
            case hi46 => (simp only [List.getElem?_toArray, List.getElem?_cons_zero, List.getElem?_cons_succ]; rfl)
            go_simp
            go_at_call 17
            (with_reducible refine Calls.mono (HOK.out wj HVJ.out) ?_)
            rintro e wk ⟨rfl, hbk⟩
            have HBK := Lib.hid (hbk)
            have HKK := Lib.hid (HKJ.out.below HBK.out HKJ.out.lt)
            have HVK := Lib.hid (HVJ.out.below HBK.out)
            have HWK : Hid (Below w.heap.size w wk) := HWJ.out.trans (HBK.out.mono HWJ.out.size)
            clear hbk
            obtain ⟨k4, k5, _, _, _⟩ := HKK.out
            first | done | go_wp2_with fail | skip
            refine hK.out _ _ ?_ (fun hHeld => ?_)
            · exact ⟨k4, k5⟩
            clear hK K
            try simp only [Act.put, List.setIfInBounds_toArray, List.set_cons_zero, List.set_cons_succ]
            refine' wpAnyH_take (i := 15) (oi := _) (v := _) ?hi47 (by kernel_rfl) (by kernel_rfl) (by kernel_rfl) (fun _ _ _ h => (h : False).elim) ?hy47 ?hS47 ?rest47
            case hi47 => (simp only [List.getElem?_toArray, List.getElem?_cons_zero, List.getElem?_cons_succ]; rfl)
            case hS47 => assumption
            case hy47 => (refine Or.inl ⟨by rfl, ?_⟩; intro w9 hSw; (try dsimp only at hSw); first | (go_simp; done) | (go_simp; with_reducible rfl) | (go_simp; omega))
            try simp only [Act.put, List.setIfInBounds_toArray, List.set_cons_zero, List.set_cons_succ]
            refine' wpAnyH_take (i := 16) (oi := _) (v := _) ?hi48 (by kernel_rfl) (by kernel_rfl) (by kernel_rfl) (fun _ _ _ h => (h : False).elim) ?hy48 ?hS48 ?rest48
            case hi48 => (simp only [List.getElem?_toArray, List.getElem?_cons_zero, List.getElem?_cons_succ]; rfl)
            case hS48 => assumption
            case hy48 => (refine Or.inl ⟨by rfl, ?_⟩; intro w9 hSw; (try dsimp only at hSw); first | (go_simp; done) | (go_simp; with_reducible rfl) | (go_simp; omega))
            try simp only [Act.put, List.setIfInBounds_toArray, List.set_cons_zero, List.set_cons_succ]
            refine' wpAnyH_take (i := 17) (oi := _) (v := undef) ?hi49 (by kernel_rfl) (by kernel_rfl) (by kernel_rfl) (fun _ _ _ h => (h : False).elim) ?hy49 ?hS49 ?rest49
            case hi49 => (simp only [List.getElem?_toArray, List.getElem?_cons_zero, List.getElem?_cons_succ]; rfl)
            case hS49 => assumption
            case hy49 => exact Or.inr ⟨by rfl, rfl⟩
            try simp only [Act.put, List.setIfInBounds_toArray, List.set_cons_zero, List.set_cons_succ]
            refine' wpAnyH_take (i := 18) (oi := _) (v := undef) ?hi50 (by kernel_rfl) (by kernel_rfl) (by kernel_rfl) (fun _ _ _ h => (h : False).elim) ?hy50 ?hS50 ?rest50
            case hi50 => (simp only [List.getElem?_toArray, List.getElem?_cons_zero, List.getElem?_cons_succ]; rfl)
            case hS50 => assumption
            case hy50 => exact Or.inr ⟨by rfl, rfl⟩
            try simp only [Act.put, List.setIfInBounds_toArray, List.set_cons_zero, List.set_cons_succ]
            refine' wpAnyH_take (i := 19) (oi := _) (v := undef) ?hi51 (by kernel_rfl) (by kernel_rfl) (by kernel_rfl) (fun _ _ _ h => (h : False).elim) ?hy51 ?hS51 ?rest51
            case hi51 => (simp only [List.getElem?_toArray, List.getElem?_cons_zero, List.getElem?_cons_succ]; rfl)
            case hS51 => assumption
            case hy51 => exact Or.inr ⟨by rfl, rfl⟩
            try simp only [Act.put, List.setIfInBounds_toArray, List.set_cons_zero, List.set_cons_succ]
            refine' wpAnyH_take (i := 20) (oi := _) (v := _) ?hi52 (by kernel_rfl) (by kernel_rfl) (by kernel_rfl) (fun _ _ _ h => (h : False).elim) ?hy52 ?hS52 ?rest52
            case hi52 => (simp only [List.getElem?_toArray, List.getElem?_cons_zero, List.getElem?_cons_succ]; rfl)
            case hS52 => assumption
            case hy52 => (refine Or.inl ⟨by rfl, ?_⟩; intro w9 hSw; (try dsimp only at hSw); first | (go_simp; done) | (go_simp; with_reducible rfl) | (go_simp; omega))
            try simp only [Act.put, List.setIfInBounds_toArray, List.set_cons_zero, List.set_cons_succ]
            refine' wpAnyH_take (i := 21) (oi := _) (v := _) ?hi53 (by kernel_rfl) (by kernel_rfl) (by kernel_rfl) (fun _ _ _ h => (h : False).elim) ?hy53 ?hS53 ?rest53
            case hi53 => (simp only [List.getElem?_toArray, List.getElem?_cons_zero, List.getElem?_cons_succ]; rfl)
            case hS53 => assumption
            case hy53 => (refine Or.inl ⟨by rfl, ?_⟩; intro w9 hSw; (try dsimp only at hSw); first | (go_simp; done) | (go_simp; with_reducible rfl) | (go_simp; omega))
            try simp only [Act.put, List.setIfInBounds_toArray, List.set_cons_zero, List.set_cons_succ]
            refine' wpAnyH_take (i := 22) (oi := _) (v := undef) ?hi54 (by kernel_rfl) (by kernel_rfl) (by kernel_rfl) (fun _ _ _ h => (h : False).elim) ?hy54 ?hS54 ?rest54
            case hi54 => (simp only [List.getElem?_toArray, List.getElem?_cons_zero, List.getElem?_cons_succ]; rfl)
            case hS54 => assumption
            case hy54 => exact Or.inr ⟨by rfl, rfl⟩
            try simp only [Act.put, List.setIfInBounds_toArray, List.set_cons_zero, List.set_cons_succ]
            refine' wpAnyH_take (i := 23) (oi := _) (v := undef) ?hi55 (by kernel_rfl) (by kernel_rfl) (by kernel_rfl) (fun _ _ _ h => (h : False).elim) ?hy55 ?hS55 ?rest55
            case hi55 => (simp only [List.getElem?_toArray, List.getElem?_cons_zero, List.getElem?_cons_succ]; rfl)
            case hS55 => assumption
            case hy55 => exact Or.inr ⟨by rfl, rfl⟩
            try simp only [Act.put, List.setIfInBounds_toArray, List.set_cons_zero, List.set_cons_succ]
            refine' wpAnyH_take (i := 24) (oi := _) (v := undef) ?hi56 (by kernel_rfl) (by kernel_rfl) (by kernel_rfl) (fun _ _ _ h => (h : False).elim) ?hy56 ?hS56 ?rest56
            case hi56 => (simp only [List.getElem?_toArray, List.getElem?_cons_zero, List.getElem?_cons_succ]; rfl)
            case hS56 => assumption
            case hy56 => exact Or.inr ⟨by rfl, rfl⟩
            try simp only [Act.put, List.setIfInBounds_toArray, List.set_cons_zero, List.set_cons_succ]
            refine' wpAnyH_take (i := 25) (oi := _) (v := _) ?hi57 (by kernel_rfl) (by kernel_rfl) (by kernel_rfl) (fun _ _ _ h => (h : False).elim) ?hy57 ?hS57 ?rest57
            case hi57 => (simp only [List.getElem?_toArray, List.getElem?_cons_zero, List.getElem?_cons_succ]; rfl)
            case hS57 => assumption
            case hy57 => (refine Or.inl ⟨by rfl, ?_⟩; intro w9 hSw; (try dsimp only at hSw); first | (go_simp; done) | (go_simp; with_reducible rfl) | (go_simp; omega))
            try simp only [Act.put, List.setIfInBounds_toArray, List.set_cons_zero, List.set_cons_succ]
            refine' wpAnyH_take (i := 26) (oi := _) (v := _) ?hi58 (by kernel_rfl) (by kernel_rfl) (by kernel_rfl) (fun _ _ _ h => (h : False).elim) ?hy58 ?hS58 ?rest58
            case hi58 => (simp only [List.getElem?_toArray, List.getElem?_cons_zero, List.getElem?_cons_succ]; rfl)
            case hS58 => assumption
            case hy58 => (refine Or.inl ⟨by rfl, ?_⟩; intro w9 hSw; (try dsimp only at hSw); first | (go_simp; done) | (go_simp; with_reducible rfl) | (go_simp; omega))
            try simp only [Act.put, List.setIfInBounds_toArray, List.set_cons_zero, List.set_cons_succ]
            refine' wpAnyH_take (i := 27) (oi := _) (v := _) ?hi59 (by kernel_rfl) (by kernel_rfl) (by kernel_rfl) (fun _ _ _ h => (h : False).elim) ?hy59 ?hS59 ?rest59
            case hi59 => (simp only [List.getElem?_toArray, List.getElem?_cons_zero, List.getElem?_cons_succ]; rfl)
            case hS59 => assumption
            case hy59 => (refine Or.inl ⟨by rfl, ?_⟩; intro w9 hSw; (try dsimp only at hSw); first | (go_simp; done) | (go_simp; with_reducible rfl) | (go_simp; omega))
            try simp only [Act.put, List.setIfInBounds_toArray, List.set_cons_zero, List.set_cons_succ]
            refine wpAnyH_ready (rs := [28]) (by kernel_rfl) (by simp) ?_
            refine' AllReadyH.cons (o := _) ?hi60 (fun K hK => ?step60) AllReadyH.nil
            case hi60 => (simp only [List.getElem?_toArray, List.getElem?_cons_zero, List.getElem?_cons_succ]; rfl)
            go_simp
            go_at_call 13
            (with_reducible refine Calls.mono (alive_true _) ?_)
            rintro e wn ⟨rfl, rfl⟩
            first | done | go_wp2_with fail | skip
            refine hK.out _ _ ?_ (fun hHeld => ?_)
            · exact ⟨k4, k5⟩
            clear hK K
            try simp only [Act.put, List.setIfInBounds_toArray, List.set_cons_zero, List.set_cons_succ]
            refine' wpAnyH_take (i := 29) (oi := _) (v := _) ?hi61 (by kernel_rfl) (by kernel_rfl) (by kernel_rfl) (fun _ _ _ h => (h : False).elim) ?hy61 ?hS61 ?rest61
            case hi61 => (simp only [List.getElem?_toArray, List.getElem?_cons_zero, List.getElem?_cons_succ]; rfl)
            case hS61 => assumption
            case hy61 => (refine Or.inl ⟨by rfl, ?_⟩; intro w9 hSw; (try dsimp only at hSw); first | (go_simp; done) | (go_simp; with_reducible rfl) | (go_simp; omega))
            try simp only [Act.put, List.setIfInBounds_toArray, List.set_cons_zero, List.set_cons_succ]
            refine' wpAnyH_take (i := 30) (oi := _) (v := _) ?hi62 (by kernel_rfl) (by kernel_rfl) (by kernel_rfl) (fun _ _ _ h => (h : False).elim) ?hy62 ?hS62 ?rest62
            case hi62 => (simp only [List.getElem?_toArray, List.getElem?_cons_zero, List.getElem?_cons_succ]; rfl)
            case hS62 => assumption
            case hy62 => (refine Or.inl ⟨by rfl, ?_⟩; intro w9 hSw; (try dsimp only at hSw); first | (go_simp; done) | (go_simp; with_reducible rfl) | (go_simp; omega))
            try simp only [Act.put, List.setIfInBounds_toArray, List.set_cons_zero, List.set_cons_succ]
            refine wpAnyH_done (by kernel_rfl) ?_ _
            refine NoPanic.normal ?_
            all_goals
              go_wp2_with fail
              go_ret
              exact ⟨rfl, HWK.out⟩
      · have HRF := Lib.hid (runF_yes hb (show ds.length ≤ 40 by have := HLL.out; omega))
        have HLK := Lib.hid (hdl hb)
        have HBD := Lib.hid hb
        rw [hb] at HOK
        rw [show runF d ds = _ from HRF.out] at HRN
        clear hb hdl hsz
        go_wp2_with fail
        go_loopw [16, 17, 18] (fun i _ _ wr => ∃ (k : Nat) (A4 : Option Addr) (n4 c4 : Nat) (A5 : Option Addr) (m5 c5 : Nat) (y : Dk) (q : Nat), k ≤ l ∧ i = .int .i64 k ∧ runG (d, 0) (ds.take k) = (y, q) ∧ KAt wr nb (.slice A4 n4 c4) (.slice A5 m5 c5) ∧ DkX wr 0 (fun b => b = nb) A4 n4 c4 A5 m5 y ∧ Below w6.heap.size w6 wr) (fun i _ _ _ => l - (intOf i).toNat)
        case atStart => first | exact ⟨0, A2, n2, c2, A3, m2, c3, d, 0, by omega, rfl, rfl, HN7.out, HX7.out, HB67.out⟩ | ((repeat apply Exists.intro); exact ⟨Nat.zero_le _, rfl, rfl, HN7.out, HX7.out, HB67.out⟩)
        case round =>
          obtain ⟨k, A4, n4, c4, A5, m5, c5, y, q, hk, rfl, hrun, hat, hdx, hbw⟩ := hrel
          have HRUN := Lib.hid hrun
          have HAT := Lib.hid hat
          have HDX := Lib.hid hdx
          have HBW := Lib.hid hbw
          have HWR2 : Hid (Below w.heap.size w wr) := HW6.out.trans (hbw.mono HW6.out.size)
          have HKR := Lib.hid (HK6.out.below hbw HK6.out.lt)
          have HVR := Lib.hid (HV6.out.below hbw)
          have HDR2 := Lib.hid (HD6.out.below hbw)
          clear hrun hat hdx hbw
          by_cases hlt2 : k < l
          · obtain ⟨b, o, a, rfl, hbl, ha, p0, p1, p2⟩ := HDR2.out.at_ hlt2
            obtain ⟨⟨y2, t2⟩, hy2⟩ : ∃ r, lineF y (dText a) = r := ⟨_, rfl⟩
            obtain ⟨ha1, ha2, ha3⟩ := HDD.out a (List.mem_of_getElem? ha)
            obtain ⟨r1, r2, ⟨q2, r3⟩, r4⟩ := runS_ok HBD.out HLK.out (by have := HLL.out; omega) HRUN.out ha ha2 hy2
            have HT := Lib.hid r3
            have HT2 := Lib.hid r4
            have HLN : Hid (∀ w', DkV w' 0 A4 n4 c4 A5 m5 y → EnvX w' → Calls Tryz.prog 20 #[.agg #[.slice A4 n4 c4, .slice A5 m5 c5], .string (bs (dText a))] w' (RetKT w' (y2, t2))) := fun w' h he => by
              rw [← hy2]
              exact iDeskLine A4 A5 n4 c4 m5 c5 y (dText a) w' h (DkS.ok r1) (fun _ => r2.lvok (by omega) (by omega)) (by omega) he
            have HDT : Hid (∀ w', EnvX w' → Calls Tryz.prog 30 #[.agg #[.int .i64 a.kind, .int .i64 a.num, .string (bs a.text)]] w' fun e w'' => e = .returned (.string (bs (dText a))) ∧ Below w'.heap.size w' w'') := fun w' he => iDeedText a (by omega) w' he.a.tab
            obtain ⟨k0, k1, l0, l1, l2⟩ := HKR.out
            clear ha ha1 ha2 ha3 r1 r2 r3 r4 hy2
            go_wp2_with fail
            refine (HOK.out _ HVR.out).mono ?_
            rintro e ws ⟨rfl, hbs⟩
            have HATS := Lib.hid (HAT.out.below hbs HAT.out.lt)
            have HDXS := Lib.hid (HDX.out.kx (Kx.of hbs))
            have HBWS : Hid (Below w6.heap.size w6 ws) := HBW.out.trans (hbs.mono HBW.out.size)
            have HWS : Hid (Below w.heap.size w ws) := HWR2.out.trans (hbs.mono HWR2.out.size)
            have z0 := (hbs.cell (p := ⟨b, o + k * 3, none⟩) hbl).trans p0
            have z1 := (hbs.cell (p := ⟨b, o + k * 3 + 1, none⟩) hbl).trans p1
            have z2 := (hbs.cell (p := ⟨b, o + k * 3 + 2, none⟩) hbl).trans p2
            have hbl2 : b < ws.heap.size := Nat.lt_of_lt_of_le hbl hbs.size
            have hgs : nb < ws.heap.size := HATS.out.lt
            clear hbs p0 p1 p2 hbl k0 k1 l0 l1 l2
            obtain ⟨c0, c1, f0, f1, fl⟩ := HATS.out
            go_upto_region 19 with fail
            go_cut [17, 18] (fun s17 s18 wx => ∃ (b : Nat) (A8 : Option Addr) (n8 c8 : Nat) (A9 : Option Addr) (m9 c9 : Nat), s17 = .pointer (some ⟨b, 0, none⟩) ∧ s18 = .string (bs t2) ∧ KAt wx b (.slice A8 n8 c8) (.slice A9 m9 c9) ∧ DkV wx ws.heap.size A8 n8 c8 A9 m9 y2 ∧ ws.heap.size ≤ b ∧ Below ws.heap.size ws wx)
            case first =>
              go_region_law ((go_simp; first
                | (go_at_call 30; first
                    | ((with_reducible refine Calls.mono (HDT.out _ (HE.out.kp (Kp.below HWS.out.drew))) ?_); rintro e wp ⟨rfl, hbp⟩; have HBP := Lib.hid (below_d hbp); clear hbp; have HATP := Lib.hid (HATS.out.below HBP.out HATS.out.lt); have HDXP := Lib.hid (HDXS.out.kx (Kx.of HBP.out)); have HWP : Hid (Below w.heap.size w wp) := HWS.out.trans (HBP.out.mono HWS.out.size); obtain ⟨c2, c3, f2, f3, fl2⟩ := HATP.out)
                    | ((with_reducible refine Calls.mono (HDT.out _ (HE.out.kp (Kp.below (HWS.out.trans ((below_alloc ws (.cells #[.slice none 0 0, .slice none 0 0] 26)).drew.mono HWS.out.size))))) ?_); rintro e wp ⟨rfl, hbp⟩; have HTP := Lib.hid (((KAt.new ws (.slice none 0 0) (.slice none 0 0) 26).below (Below.refl _ _).drew (KAt.new ws (.slice none 0 0) (.slice none 0 0) 26).lt).below hbp (KAt.new ws (.slice none 0 0) (.slice none 0 0) 26).lt); have HBP := Lib.hid (below_da hbp); clear hbp; have HATP := Lib.hid (HATS.out.below HBP.out HATS.out.lt); have HDXP := Lib.hid (HDXS.out.kx (Kx.of HBP.out)); have HWP : Hid (Below w.heap.size w wp) := HWS.out.trans (HBP.out.mono HWS.out.size); obtain ⟨c2, c3, f2, f3, fl2⟩ := HATP.out; obtain ⟨t0, t1, v0, v1, v2⟩ := HTP.out))
                | (go_at_call 20; first
                    | ((with_reducible refine Calls.mono (HLN.out wp HDXP.out.dkv (HE.out.kp (Kp.below HWP.out))) ?_); rintro e wq ⟨A8, n8, c8, A9, m9, c9, rfl, haq, hbq⟩; have HBQ : Hid (Below ws.heap.size ws wq) := HBP.out.trans (hbq.mono HBP.out.size); have HAQ : Hid (DkV wq wp.heap.size A8 n8 c8 A9 m9 y2) := haq; have HPS : Hid (ws.heap.size ≤ wp.heap.size) := HBP.out.size; (try (have HTQ := Lib.hid (HTP.out.below hbq HTP.out.lt); obtain ⟨e2, e3, v3, v4, v5⟩ := HTQ.out)); clear haq hbq)
                    | ((with_reducible refine Calls.mono (HLN.out _ (HDXP.out.kx (Kx.of (below_alloc wp (.cells #[.slice none 0 0, .slice none 0 0] 26)))).dkv (HE.out.kp (Kp.below (HWP.out.trans ((below_alloc wp (.cells #[.slice none 0 0, .slice none 0 0] 26)).mono HWP.out.size))))) ?_); rintro e wq ⟨A8, n8, c8, A9, m9, c9, rfl, haq, hbq⟩; have HBQ : Hid (Below ws.heap.size ws wq) := (HBP.out.trans ((below_alloc wp (.cells #[.slice none 0 0, .slice none 0 0] 26)).mono HBP.out.size)).trans (hbq.mono (Nat.le_trans HBP.out.size (below_alloc wp (.cells #[.slice none 0 0, .slice none 0 0] 26)).size)); have HAQ : Hid (DkV wq (wp.heap.size + 1) A8 n8 c8 A9 m9 y2) := haq.mono (Nat.le_of_eq (size_alloc wp (.cells #[.slice none 0 0, .slice none 0 0] 26)).symm); have HPS : Hid (ws.heap.size ≤ wp.heap.size) := HBP.out.size; have HTQ := Lib.hid ((KAt.new wp (.slice none 0 0) (.slice none 0 0) 26).below hbq (KAt.new wp (.slice none 0 0) (.slice none 0 0) 26).lt); obtain ⟨e2, e3, v3, v4, v5⟩ := HTQ.out; clear haq hbq))))
              all_goals
                go_wp2_with fail
                go_meet
                first
                  | exact ⟨_, A8, n8, c8, A9, m9, c9, rfl, rfl, KAt.new wq _ _ _, (HAQ.out.below (below_alloc _ _)).mono HPS.out, HBQ.out.size, HBQ.out.trans ((below_alloc _ _).mono HBQ.out.size)⟩
                  | exact ⟨_, A8, n8, c8, A9, m9, c9, rfl, rfl, (HTQ.out.set0 _).set1 _, (HAQ.out.pk (((Pk.refl wp.heap.size wq).setCell 0 _).setCell 1 _) (Nat.lt_succ_self _)).mono (Nat.le_succ_of_le HPS.out), HPS.out, (HBQ.out.setCell (p := ⟨wp.heap.size, 0, none⟩) HPS.out _).setCell (p := ⟨wp.heap.size, 1, none⟩) HPS.out _⟩
                  | exact ⟨_, A8, n8, c8, A9, m9, c9, rfl, rfl, (HTQ.out.set0 _).set1 _, (HAQ.out.pk (((Pk.refl ws.heap.size wq).setCell 0 _).setCell 1 _) HTP.out.lt).mono HPS.out, Nat.le_refl _, (HBQ.out.setCell (p := ⟨ws.heap.size, 0, none⟩) (Nat.le_refl _) _).setCell (p := ⟨ws.heap.size, 1, none⟩) (Nat.le_refl _) _⟩
            case rest =>
              obtain ⟨b8, A8, n8, c8, A9, m9, c9, rfl, rfl, hkb, hvb, hgb, hbc⟩ := hcut
              have HATC := Lib.hid (HATS.out.below hbc HATS.out.lt)
              have HVC := Lib.hid hvb
              have HBWC : Hid (Below w6.heap.size w6 wc) := HBWS.out.trans (hbc.mono HBWS.out.size)
              have hto := bs_toList [111, 107]
              have htn := bs_toList [110, 111]
              have hne : ¬ b8 = nb := by omega
              have hne2 : ¬ nb = b8 := by omega
              clear hvb hbc hgb c0 c1 f0 f1 fl
              obtain ⟨g0, g1, u0, u1, u2⟩ := hkb
              obtain ⟨c0, c1, f0, f1, fl⟩ := HATC.out
              have HPK : Hid (Pk nb wc ((wc.setCell ⟨nb, 0, none⟩ (.slice A8 n8 c8)).setCell ⟨nb, 1, none⟩ (.slice A9 m9 c9))) := ((Pk.refl _ _).setCell 0 _).setCell 1 _
              have HNX : Hid (DkX wc 0 (fun b => b = nb) A8 n8 c8 A9 m9 y2) := (HVC.out.dkx (X := fun b => b = nb) fun b h1 _ hx => by omega).mono (Nat.zero_le _)
              have HNBL : Hid (w6.heap.size ≤ nb) := Nat.le_of_eq HNB.out.symm
              rcases HT2.out with rfl | rfl
              all_goals
                go_wp2_with fail
                go_roundw
                case rel => exact ⟨k + 1, _, _, _, _, _, _, y2, q2, by omega, by go_num, HT.out, (HATC.out.set0 _).set1 _, HNX.out.kx (Kx.pk HPK.out rfl), (HBWC.out.setCell (p := ⟨nb, 0, none⟩) HNBL.out _).setCell (p := ⟨nb, 1, none⟩) HNBL.out _⟩
                case measure => simp [intOf]; omega
          · obtain rfl : k = l := by omega
            have HEQ : Hid (runG (d, 0) ds = (y, q)) := by
              have h := HRUN.out
              rw [HLL.out, List.take_length] at h
              exact h
            rw [HEQ.out] at HRN
            have hzy : dkB y = true := by
              have h := (runG_ok HBD.out HLK.out (by omega) 0 ds (by have := HLL.out; omega)).1
              rwa [HEQ.out] at h
            have HSD : Hid (∀ w' A n c A' m c' A2 n2 c2 A3 m2 c3, DkV w' 0 A n c A' m y → DkV w' 0 A2 n2 c2 A3 m2 y → Calls Tryz.prog 11 #[.agg #[.slice A n c, .slice A' m c'], .agg #[.slice A2 n2 c2, .slice A3 m2 c3]] w' fun e w'' => e = .returned (.bool true) ∧ Below w'.heap.size w' w'') := fun w' A n c A' m c' A2 n2 c2 A3 m2 c3 h1 h2 => sameDesk_true A A' A2 A3 n c m c' n2 c2 m2 c3 y w' h1 h2 (DkS.ok hzy) (DkF.of hzy)
            have hsz : (bs s).size = s.length := bs_size s
            have hst := bs_toList (s.take f)
            have hfi : (f : Int) ≤ (s.length : Int) := by omega
            have H40 : Hid (¬ (40 : Int) < (k : Int)) := by show ¬ _; omega
            have HKZ := HKR
            have HVZ := HVR
            have HDZ := HDR2
            have HWZ := HWR2
            have HMZ := HAT
            have HYZ := Lib.hid HDX.out.dkv
            clear hzy
            obtain ⟨k0, k1, l0, l1, l2⟩ := HKZ.out
            go_wp2_with fail
            refine (HRN.out _ HVZ.out HDZ.out (HE.out.kp (Kp.below HWZ.out))).mono ?_
            rintro e wa ⟨A6, n6, c6, A7, m7, c7, rfl, hya, hba⟩
            obtain ⟨wb, hwb⟩ : ∃ wb, wb = wa.alloc (.cells #[.slice A6 n6 c6, .slice A7 m7 c7] 26) := ⟨_, rfl⟩
            have HAB : Hid (Below wa.heap.size wa wb) := by rw [hwb]; exact below_alloc _ _
            have HBB : Hid (Below wr.heap.size wr wb) := hba.trans (HAB.out.mono hba.size)
            have HKB := Lib.hid (HKZ.out.below HBB.out HKZ.out.lt)
            have HVB := Lib.hid (HVZ.out.below HBB.out)
            have HDB2 := Lib.hid (HDZ.out.below HBB.out)
            have HWB : Hid (Below w.heap.size w wb) := HWZ.out.trans (HBB.out.mono HWZ.out.size)
            have HMB := Lib.hid (HMZ.out.below HBB.out HMZ.out.lt)
            have HYB := Lib.hid (HYZ.out.below HBB.out)
            have HQB : Hid (KAt wb wa.heap.size (.slice A6 n6 c6) (.slice A7 m7 c7)) := by rw [hwb]; exact KAt.new wa _ _ _
            have HZB : Hid (DkV wb 0 A6 n6 c6 A7 m7 y) := (hya.mono (Nat.zero_le _)).below HAB.out
            obtain ⟨eb, heb⟩ : ∃ b, b = wa.heap.size := ⟨_, rfl⟩
            clear hya hba k0 k1 l0 l1 l2
            go_upto_region 24 with fail
            rw [← hwb]
            rw [← heb] at HQB ⊢
            clear heb
            clear hwb
            obtain ⟨k0, k1, _, _, _⟩ := HKB.out
            obtain ⟨x0, x1, _, _, _⟩ := HMB.out
            obtain ⟨y0, y1, _, _, _⟩ := HQB.out
            have h40 := H40.out
            refine wp_region_noPanic ?_
            refine wp_region_held_drew (S := (fun w' => w'.cell? ⟨w5.heap.size, 0, none⟩ = some (.slice A2 n2 c2) ∧ w'.cell? ⟨w5.heap.size, 1, none⟩ = some (.slice A3 m2 c3) ∧ w'.cell? ⟨nb, 0, none⟩ = some (.slice A4 n4 c4) ∧ w'.cell? ⟨nb, 1, none⟩ = some (.slice A5 m5 c5) ∧ w'.cell? ⟨eb, 0, none⟩ = some (.slice A6 n6 c6) ∧ w'.cell? ⟨eb, 1, none⟩ = some (.slice A7 m7 c7))) (by kernel_rfl) ?_ (fun hHeld => ?_)
            · exact ⟨k0, k1, x0, x1, y0, y1⟩
            refine' wpAnyH_take (i := 0) (oi := _) (v := _) ?hi63 (by kernel_rfl) (by kernel_rfl) (by kernel_rfl) (fun _ _ _ h => (h : False).elim) ?hy63 ?hS63 ?rest63
            case hi63 => (simp only [List.getElem?_toArray, List.getElem?_cons_zero]; rfl)
            case hS63 => assumption
            case hy63 => (refine Or.inl ⟨by rfl, ?_⟩; intro w9 hSw; (try dsimp only at hSw); first | (go_simp; done) | (go_simp; with_reducible rfl) | (go_simp; omega))
            try simp only [Act.put, List.setIfInBounds_toArray, List.set_cons_zero, List.set_cons_succ]
            refine' wpAnyH_take (i := 1) (oi := _) (v := _) ?hi64 (by kernel_rfl) (by kernel_rfl) (by kernel_rfl) (fun _ _ _ h => (h : False).elim) ?hy64 ?hS64 ?rest64
            case hi64 => (simp only [List.getElem?_toArray, List.getElem?_cons_zero, List.getElem?_cons_succ]; rfl)
            case hS64 => assumption
            case hy64 => (refine Or.inl ⟨by rfl, ?_⟩; intro w9 hSw; (try dsimp only at hSw); first | (go_simp; done) | (go_simp; with_reducible rfl) | (go_simp; omega))
            try simp only [Act.put, List.setIfInBounds_toArray, List.set_cons_zero, List.set_cons_succ]
            refine' wpAnyH_take (i := 2) (oi := _) (v := _) ?hi65 (by kernel_rfl) (by kernel_rfl) (by kernel_rfl) (fun _ _ _ h => (h : False).elim) ?hy65 ?hS65 ?rest65
            case hi65 => (simp only [List.getElem?_toArray, List.getElem?_cons_zero, List.getElem?_cons_succ]; rfl)
            case hS65 => assumption
            case hy65 => (refine Or.inl ⟨by rfl, ?_⟩; intro w9 hSw; (try dsimp only at hSw); first | (go_simp; done) | (go_simp; with_reducible rfl) | (go_simp; omega))
            try simp only [Act.put, List.setIfInBounds_toArray, List.set_cons_zero, List.set_cons_succ]
            refine' wpAnyH_take (i := 3) (oi := _) (v := _) ?hi66 (by kernel_rfl) (by kernel_rfl) (by kernel_rfl) (fun _ _ _ h => (h : False).elim) ?hy66 ?hS66 ?rest66
            case hi66 => (simp only [List.getElem?_toArray, List.getElem?_cons_zero, List.getElem?_cons_succ]; rfl)
            case hS66 => assumption
            case hy66 => (refine Or.inl ⟨by rfl, ?_⟩; intro w9 hSw; (try dsimp only at hSw); first | (go_simp; done) | (go_simp; with_reducible rfl) | (go_simp; omega))
            try simp only [Act.put, List.setIfInBounds_toArray, List.set_cons_zero, List.set_cons_succ]
            refine' wpAnyH_take (i := 4) (oi := _) (v := _) ?hi67 (by kernel_rfl) (by kernel_rfl) (by kernel_rfl) (fun _ _ _ h => (h : False).elim) ?hy67 ?hS67 ?rest67
            case hi67 => (simp only [List.getElem?_toArray, List.getElem?_cons_zero, List.getElem?_cons_succ]; rfl)
            case hS67 => assumption
            case hy67 => (refine Or.inl ⟨by rfl, ?_⟩; intro w9 hSw; (try dsimp only at hSw); first | (go_simp; done) | (go_simp; with_reducible rfl) | (go_simp; omega))
            try simp only [Act.put, List.setIfInBounds_toArray, List.set_cons_zero, List.set_cons_succ]
            refine' wpAnyH_take (i := 5) (oi := _) (v := _) ?hi68 (by kernel_rfl) (by kernel_rfl) (by kernel_rfl) (fun _ _ _ h => (h : False).elim) ?hy68 ?hS68 ?rest68
            case hi68 => (simp only [List.getElem?_toArray, List.getElem?_cons_zero, List.getElem?_cons_succ]; rfl)
            case hS68 => assumption
            case hy68 => (refine Or.inl ⟨by rfl, ?_⟩; intro w9 hSw; (try dsimp only at hSw); first | (go_simp; done) | (go_simp; with_reducible rfl) | (go_simp; omega))
            try simp only [Act.put, List.setIfInBounds_toArray, List.set_cons_zero, List.set_cons_succ]
            refine' wpAnyH_take (i := 7) (oi := _) (v := _) ?hi69 (by kernel_rfl) (by kernel_rfl) (by kernel_rfl) (fun _ _ _ h => (h : False).elim) ?hy69 ?hS69 ?rest69
            case hi69 => (simp only [List.getElem?_toArray, List.getElem?_cons_zero, List.getElem?_cons_succ]; rfl)
            case hS69 => assumption
            case hy69 => (refine Or.inl ⟨by rfl, ?_⟩; intro w9 hSw; (try dsimp only at hSw); first | (go_simp; done) | (go_simp; with_reducible rfl) | (go_simp; omega))
            try simp only [Act.put, List.setIfInBounds_toArray, List.set_cons_zero, List.set_cons_succ]
            refine' wpAnyH_take (i := 8) (oi := _) (v := _) ?hi70 (by kernel_rfl) (by kernel_rfl) (by kernel_rfl) (fun _ _ _ h => (h : False).elim) ?hy70 ?hS70 ?rest70
            case hi70 => (simp only [List.getElem?_toArray, List.getElem?_cons_zero, List.getElem?_cons_succ]; rfl)
            case hS70 => assumption
            case hy70 => (refine Or.inl ⟨by rfl, ?_⟩; intro w9 hSw; (try dsimp only at hSw); first | (go_simp; done) | (go_simp; with_reducible rfl) | (go_simp; omega))
            try simp only [Act.put, List.setIfInBounds_toArray, List.set_cons_zero, List.set_cons_succ]
            refine' wpAnyH_take (i := 9) (oi := _) (v := _) ?hi71 (by kernel_rfl) (by kernel_rfl) (by kernel_rfl) (fun _ _ _ h => (h : False).elim) ?hy71 ?hS71 ?rest71
            case hi71 => (simp only [List.getElem?_toArray, List.getElem?_cons_zero, List.getElem?_cons_succ]; rfl)
            case hS71 => assumption
            case hy71 => (refine Or.inl ⟨by rfl, ?_⟩; intro w9 hSw; (try dsimp only at hSw); first | (go_simp; done) | (go_simp; with_reducible rfl) | (go_simp; omega))
            try simp only [Act.put, List.setIfInBounds_toArray, List.set_cons_zero, List.set_cons_succ]
            refine wpAnyH_ready (rs := [6]) (by kernel_rfl) (by simp) ?_
            refine' AllReadyH.cons (o := _) ?hi72 (fun K hK => ?step72) AllReadyH.nil
            case hi72 => (simp only [List.getElem?_toArray, List.getElem?_cons_zero, List.getElem?_cons_succ]; rfl)
            go_simp
            go_at_call 31
            (with_reducible refine Calls.mono (HJT.out _ L lc (HDB2.out.below (Below.refl _ wb).drew) (HE.out.kp (Kp.below HWB.out.drew))) ?_)
            rintro e wj ⟨rfl, hbj⟩
            have HBJ := Lib.hid (below_d hbj)
            have HKJ := Lib.hid (HKB.out.below HBJ.out HKB.out.lt)
            have HVJ := Lib.hid (HVB.out.below HBJ.out)
            have HWJ : Hid (Below w.heap.size w wj) := HWB.out.trans (HBJ.out.mono HWB.out.size)
            have HMJ := Lib.hid (HMB.out.below HBJ.out HMB.out.lt)
            have HQJ := Lib.hid (HQB.out.below HBJ.out HQB.out.lt)
            have HYJ := Lib.hid (HYB.out.below HBJ.out)
            have HZJ := Lib.hid (HZB.out.below HBJ.out)
            clear hbj
            obtain ⟨k2, k3, _, _, _⟩ := HKJ.out
            obtain ⟨x2, x3, _, _, _⟩ := HMJ.out
            obtain ⟨y2, y3, _, _, _⟩ := HQJ.out
            first | done | go_wp2_with fail | skip
            refine hK.out _ _ ?_ (fun hHeld => ?_)
            · exact ⟨k2, k3, x2, x3, y2, y3⟩
            clear hK K
            try simp only [Act.put, List.setIfInBounds_toArray, List.set_cons_zero, List.set_cons_succ]
            refine' wpAnyH_take (i := 10) (oi := _) (v := _) ?hi73 (by kernel_rfl) (by kernel_rfl) (by kernel_rfl) (fun _ _ _ h => (h : False).elim) ?hy73 ?hS73 ?rest73
            case hi73 => (simp only [List.getElem?_toArray, List.getElem?_cons_zero, List.getElem?_cons_succ]; rfl)
            case hS73 => assumption
            case hy73 => (refine Or.inl ⟨by rfl, ?_⟩; intro w9 hSw; (try dsimp only at hSw); first | (go_simp; done) | (go_simp; with_reducible rfl) | (go_simp; omega))
            try simp only [Act.put, List.setIfInBounds_toArray, List.set_cons_zero, List.set_cons_succ]
            refine' wpAnyH_take (i := 11) (oi := _) (v := _) ?hi74 (by kernel_rfl) (by kernel_rfl) (by kernel_rfl) (fun _ _ _ h => (h : False).elim) ?hy74 ?hS74 ?rest74
            case hi74 => (simp only [List.getElem?_toArray, List.getElem?_cons_zero, List.getElem?_cons_succ]; rfl)
            case hS74 => assumption
            case hy74 => (refine Or.inl ⟨by rfl, ?_⟩; intro w9 hSw; (try dsimp only at hSw); first | (go_simp; done) | (go_simp; with_reducible rfl) | (go_simp; omega))
            try simp only [Act.put, List.setIfInBounds_toArray, List.set_cons_zero, List.set_cons_succ]
            refine' wpAnyH_take (i := 12) (oi := _) (v := _) ?hi75 (by kernel_rfl) (by kernel_rfl) (by kernel_rfl) (fun _ _ _ h => (h : False).elim) ?hy75 ?hS75 ?rest75
            case hi75 => (simp only [List.getElem?_toArray, List.getElem?_cons_zero, List.getElem?_cons_succ]; rfl)
            case hS75 => assumption
            case hy75 => (refine Or.inl ⟨by rfl, ?_⟩; intro w9 hSw; (try dsimp only at hSw); first | (go_simp; done) | (go_simp; with_reducible rfl) | (go_simp; omega))
            try simp only [Act.put, List.setIfInBounds_toArray, List.set_cons_zero, List.set_cons_succ]
            refine' wpAnyH_take (i := 13) (oi := _) (v := _) ?hi76 (by kernel_rfl) (by kernel_rfl) (by kernel_rfl) (fun _ _ _ h => (h : False).elim) ?hy76 ?hS76 ?rest76
            case hi76 => (simp only [List.getElem?_toArray, List.getElem?_cons_zero, List.getElem?_cons_succ]; rfl)
            case hS76 => assumption
            case hy76 => (refine Or.inl ⟨by rfl, ?_⟩; intro w9 hSw; (try dsimp only at hSw); first | (go_simp; done) | (go_simp; with_reducible rfl) | (go_simp; omega))
            try simp only [Act.put, List.setIfInBounds_toArray, List.set_cons_zero, List.set_cons_succ]
            refine wpAnyH_ready (rs := [14]) (by kernel_rfl) (by simp) ?_
            refine' AllReadyH.cons (o := _) ?hi77 (fun K hK => ?step77) AllReadyH.nil
            case hi77 => (simp only [List.getElem?_toArray, List.getElem?_cons_zero, List.getElem?_cons_succ]; rfl)
            go_simp
            go_at_call 17
            (with_reducible refine Calls.mono (HOK.out wj HVJ.out) ?_)
            rintro e wk ⟨rfl, hbk⟩
            have HBK := Lib.hid (hbk)
            have HKK := Lib.hid (HKJ.out.below HBK.out HKJ.out.lt)
            have HVK := Lib.hid (HVJ.out.below HBK.out)
            have HWK : Hid (Below w.heap.size w wk) := HWJ.out.trans (HBK.out.mono HWJ.out.size)
            have HMK := Lib.hid (HMJ.out.below HBK.out HMJ.out.lt)
            have HQK := Lib.hid (HQJ.out.below HBK.out HQJ.out.lt)
            have HYK := Lib.hid (HYJ.out.below HBK.out)
            have HZK := Lib.hid (HZJ.out.below HBK.out)
            clear hbk
            obtain ⟨k4, k5, _, _, _⟩ := HKK.out
            obtain ⟨x4, x5, _, _, _⟩ := HMK.out
            obtain ⟨y4, y5, _, _, _⟩ := HQK.out
            first | done | go_wp2_with fail | skip
            refine hK.out _ _ ?_ (fun hHeld => ?_)
            · exact ⟨k4, k5, x4, x5, y4, y5⟩
            clear hK K
            try simp only [Act.put, List.setIfInBounds_toArray, List.set_cons_zero, List.set_cons_succ]
            refine' wpAnyH_take (i := 15) (oi := _) (v := _) ?hi78 (by kernel_rfl) (by kernel_rfl) (by kernel_rfl) (fun _ _ _ h => (h : False).elim) ?hy78 ?hS78 ?rest78
            case hi78 => (simp only [List.getElem?_toArray, List.getElem?_cons_zero, List.getElem?_cons_succ]; rfl)
            case hS78 => assumption
            case hy78 => (refine Or.inl ⟨by rfl, ?_⟩; intro w9 hSw; (try dsimp only at hSw); first | (go_simp; done) | (go_simp; with_reducible rfl) | (go_simp; omega))
            try simp only [Act.put, List.setIfInBounds_toArray, List.set_cons_zero, List.set_cons_succ]
            refine' wpAnyH_take (i := 16) (oi := _) (v := _) ?hi79 (by kernel_rfl) (by kernel_rfl) (by kernel_rfl) (fun _ _ _ h => (h : False).elim) ?hy79 ?hS79 ?rest79
            case hi79 => (simp only [List.getElem?_toArray, List.getElem?_cons_zero, List.getElem?_cons_succ]; rfl)
            case hS79 => assumption
            case hy79 => (refine Or.inl ⟨by rfl, ?_⟩; intro w9 hSw; (try dsimp only at hSw); first | (go_simp; done) | (go_simp; with_reducible rfl) | (go_simp; omega))
            try simp only [Act.put, List.setIfInBounds_toArray, List.set_cons_zero, List.set_cons_succ]
            refine' wpAnyH_take (i := 17) (oi := _) (v := _) ?hi80 (by kernel_rfl) (by kernel_rfl) (by kernel_rfl) (fun _ _ _ h => (h : False).elim) ?hy80 ?hS80 ?rest80
            case hi80 => (simp only [List.getElem?_toArray, List.getElem?_cons_zero, List.getElem?_cons_succ]; rfl)
            case hS80 => assumption
            case hy80 => (refine Or.inl ⟨by rfl, ?_⟩; intro w9 hSw; (try dsimp only at hSw); first | (go_simp; done) | (go_simp; with_reducible rfl) | (go_simp; omega))
            try simp only [Act.put, List.setIfInBounds_toArray, List.set_cons_zero, List.set_cons_succ]
            refine' wpAnyH_take (i := 18) (oi := _) (v := _) ?hi81 (by kernel_rfl) (by kernel_rfl) (by kernel_rfl) (fun _ _ _ h => (h : False).elim) ?hy81 ?hS81 ?rest81
            case hi81 => (simp only [List.getElem?_toArray, List.getElem?_cons_zero, List.getElem?_cons_succ]; rfl)
            case hS81 => assumption
            case hy81 => (refine Or.inl ⟨by rfl, ?_⟩; intro w9 hSw; (try dsimp only at hSw); first | (go_simp; done) | (go_simp; with_reducible rfl) | (go_simp; omega))
            try simp only [Act.put, List.setIfInBounds_toArray, List.set_cons_zero, List.set_cons_succ]
            refine' wpAnyH_take (i := 19) (oi := _) (v := .bool false) ?hi82 (by kernel_rfl) (by kernel_rfl) (by kernel_rfl) (fun _ _ _ h => (h : False).elim) ?hy82 ?hS82 ?rest82
            case hi82 => (simp only [List.getElem?_toArray, List.getElem?_cons_zero, List.getElem?_cons_succ]; rfl)
            case hS82 => assumption
            case hy82 => (refine Or.inl ⟨by rfl, ?_⟩; intro w9 hSw; (try dsimp only at hSw); first | (go_simp; done) | (go_simp; with_reducible rfl) | (go_simp; omega))
            try simp only [Act.put, List.setIfInBounds_toArray, List.set_cons_zero, List.set_cons_succ]
            refine' wpAnyH_take (i := 20) (oi := _) (v := _) ?hi83 (by kernel_rfl) (by kernel_rfl) (by kernel_rfl) (fun _ _ _ h => (h : False).elim) ?hy83 ?hS83 ?rest83
            case hi83 => (simp only [List.getElem?_toArray, List.getElem?_cons_zero, List.getElem?_cons_succ]; rfl)
            case hS83 => assumption
            case hy83 => (refine Or.inl ⟨by rfl, ?_⟩; intro w9 hSw; (try dsimp only at hSw); first | (go_simp; done) | (go_simp; with_reducible rfl) | (go_simp; omega))
            try simp only [Act.put, List.setIfInBounds_toArray, List.set_cons_zero, List.set_cons_succ]
            refine' wpAnyH_take (i := 21) (oi := _) (v := _) ?hi84 (by kernel_rfl) (by kernel_rfl) (by kernel_rfl) (fun _ _ _ h => (h : False).elim) ?hy84 ?hS84 ?rest84
            case hi84 => (simp only [List.getElem?_toArray, List.getElem?_cons_zero, List.getElem?_cons_succ]; rfl)
            case hS84 => assumption
            case hy84 => (refine Or.inl ⟨by rfl, ?_⟩; intro w9 hSw; (try dsimp only at hSw); first | (go_simp; done) | (go_simp; with_reducible rfl) | (go_simp; omega))
            try simp only [Act.put, List.setIfInBounds_toArray, List.set_cons_zero, List.set_cons_succ]
            refine' wpAnyH_take (i := 22) (oi := _) (v := _) ?hi85 (by kernel_rfl) (by kernel_rfl) (by kernel_rfl) (fun _ _ _ h => (h : False).elim) ?hy85 ?hS85 ?rest85
            case hi85 => (simp only [List.getElem?_toArray, List.getElem?_cons_zero, List.getElem?_cons_succ]; rfl)
            case hS85 => assumption
            case hy85 => (refine Or.inl ⟨by rfl, ?_⟩; intro w9 hSw; (try dsimp only at hSw); first | (go_simp; done) | (go_simp; with_reducible rfl) | (go_simp; omega))
            try simp only [Act.put, List.setIfInBounds_toArray, List.set_cons_zero, List.set_cons_succ]
            refine' wpAnyH_take (i := 23) (oi := _) (v := _) ?hi86 (by kernel_rfl) (by kernel_rfl) (by kernel_rfl) (fun _ _ _ h => (h : False).elim) ?hy86 ?hS86 ?rest86
            case hi86 => (simp only [List.getElem?_toArray, List.getElem?_cons_zero, List.getElem?_cons_succ]; rfl)
            case hS86 => assumption
            case hy86 => (refine Or.inl ⟨by rfl, ?_⟩; intro w9 hSw; (try dsimp only at hSw); first | (go_simp; done) | (go_simp; with_reducible rfl) | (go_simp; omega))
            try simp only [Act.put, List.setIfInBounds_toArray, List.set_cons_zero, List.set_cons_succ]
            refine wpAnyH_ready (rs := [24]) (by kernel_rfl) (by simp) ?_
            refine' AllReadyH.cons (o := _) ?hi87 (fun K hK => ?step87) AllReadyH.nil
            case hi87 => (simp only [List.getElem?_toArray, List.getElem?_cons_zero, List.getElem?_cons_succ]; rfl)
            go_simp
            go_at_call 11
            (with_reducible refine Calls.mono (HSD.out wk _ _ _ _ _ _ _ _ _ _ _ _ HYK.out HZK.out) ?_)
            rintro e wm ⟨rfl, hbm⟩
            have HBM := Lib.hid (hbm)
            have HKM := Lib.hid (HKK.out.below HBM.out HKK.out.lt)
            have HVM := Lib.hid (HVK.out.below HBM.out)
            have HWM : Hid (Below w.heap.size w wm) := HWK.out.trans (HBM.out.mono HWK.out.size)
            have HMM := Lib.hid (HMK.out.below HBM.out HMK.out.lt)
            have HQM := Lib.hid (HQK.out.below HBM.out HQK.out.lt)
            have HYM := Lib.hid (HYK.out.below HBM.out)
            have HZM := Lib.hid (HZK.out.below HBM.out)
            clear hbm
            obtain ⟨k6, k7, _, _, _⟩ := HKM.out
            obtain ⟨x6, x7, _, _, _⟩ := HMM.out
            obtain ⟨y6, y7, _, _, _⟩ := HQM.out
            first | done | go_wp2_with fail | skip
            refine hK.out _ _ ?_ (fun hHeld => ?_)
            · exact ⟨k6, k7, x6, x7, y6, y7⟩
            clear hK K
            try simp only [Act.put, List.setIfInBounds_toArray, List.set_cons_zero, List.set_cons_succ]
            refine' wpAnyH_take (i := 25) (oi := _) (v := _) ?hi88 (by kernel_rfl) (by kernel_rfl) (by kernel_rfl) (fun _ _ _ h => (h : False).elim) ?hy88 ?hS88 ?rest88
            case hi88 => (simp only [List.getElem?_toArray, List.getElem?_cons_zero, List.getElem?_cons_succ]; rfl)
            case hS88 => assumption
            case hy88 => (refine Or.inl ⟨by rfl, ?_⟩; intro w9 hSw; (try dsimp only at hSw); first | (go_simp; done) | (go_simp; with_reducible rfl) | (go_simp; omega))
            try simp only [Act.put, List.setIfInBounds_toArray, List.set_cons_zero, List.set_cons_succ]
            refine' wpAnyH_take (i := 26) (oi := _) (v := _) ?hi89 (by kernel_rfl) (by kernel_rfl) (by kernel_rfl) (fun _ _ _ h => (h : False).elim) ?hy89 ?hS89 ?rest89
            case hi89 => (simp only [List.getElem?_toArray, List.getElem?_cons_zero, List.getElem?_cons_succ]; rfl)
            case hS89 => assumption
            case hy89 => (refine Or.inl ⟨by rfl, ?_⟩; intro w9 hSw; (try dsimp only at hSw); first | (go_simp; done) | (go_simp; with_reducible rfl) | (go_simp; omega))
            try simp only [Act.put, List.setIfInBounds_toArray, List.set_cons_zero, List.set_cons_succ]
            refine' wpAnyH_take (i := 27) (oi := _) (v := _) ?hi90 (by kernel_rfl) (by kernel_rfl) (by kernel_rfl) (fun _ _ _ h => (h : False).elim) ?hy90 ?hS90 ?rest90
            case hi90 => (simp only [List.getElem?_toArray, List.getElem?_cons_zero, List.getElem?_cons_succ]; rfl)
            case hS90 => assumption
            case hy90 => (refine Or.inl ⟨by rfl, ?_⟩; intro w9 hSw; (try dsimp only at hSw); first | (go_simp; done) | (go_simp; with_reducible rfl) | (go_simp; omega))
            try simp only [Act.put, List.setIfInBounds_toArray, List.set_cons_zero, List.set_cons_succ]
            refine wpAnyH_ready (rs := [28]) (by kernel_rfl) (by simp) ?_
            refine' AllReadyH.cons (o := _) ?hi91 (fun K hK => ?step91) AllReadyH.nil
            case hi91 => (simp only [List.getElem?_toArray, List.getElem?_cons_zero, List.getElem?_cons_succ]; rfl)
            go_simp
            go_at_call 13
            (with_reducible refine Calls.mono (alive_true _) ?_)
            rintro e wn ⟨rfl, rfl⟩
            first | done | go_wp2_with fail | skip
            refine hK.out _ _ ?_ (fun hHeld => ?_)
            · exact ⟨k6, k7, x6, x7, y6, y7⟩
            clear hK K
            try simp only [Act.put, List.setIfInBounds_toArray, List.set_cons_zero, List.set_cons_succ]
            refine' wpAnyH_take (i := 29) (oi := _) (v := _) ?hi92 (by kernel_rfl) (by kernel_rfl) (by kernel_rfl) (fun _ _ _ h => (h : False).elim) ?hy92 ?hS92 ?rest92
            case hi92 => (simp only [List.getElem?_toArray, List.getElem?_cons_zero, List.getElem?_cons_succ]; rfl)
            case hS92 => assumption
            case hy92 => (refine Or.inl ⟨by rfl, ?_⟩; intro w9 hSw; (try dsimp only at hSw); first | (go_simp; done) | (go_simp; with_reducible rfl) | (go_simp; omega))
            try simp only [Act.put, List.setIfInBounds_toArray, List.set_cons_zero, List.set_cons_succ]
            refine' wpAnyH_take (i := 30) (oi := _) (v := _) ?hi93 (by kernel_rfl) (by kernel_rfl) (by kernel_rfl) (fun _ _ _ h => (h : False).elim) ?hy93 ?hS93 ?rest93
            case hi93 => (simp only [List.getElem?_toArray, List.getElem?_cons_zero, List.getElem?_cons_succ]; rfl)
            case hS93 => assumption
            case hy93 => (refine Or.inl ⟨by rfl, ?_⟩; intro w9 hSw; (try dsimp only at hSw); first | (go_simp; done) | (go_simp; with_reducible rfl) | (go_simp; omega))
            try simp only [Act.put, List.setIfInBounds_toArray, List.set_cons_zero, List.set_cons_succ]
            refine wpAnyH_done (by kernel_rfl) ?_ _
            refine NoPanic.normal ?_
            all_goals
              go_wp2_with fail
              go_ret
              exact ⟨rfl, HWM.out⟩
end Go.Proofs.YtnomlkkhkacajaaGreatDoor
