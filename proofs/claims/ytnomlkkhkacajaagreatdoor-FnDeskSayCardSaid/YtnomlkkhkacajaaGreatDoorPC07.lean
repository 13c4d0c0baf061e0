/- Texts on the way to a law (D5, T3, T4, T5, M2), each with its own remark. -/
import Derived.Test.YtnomlkkhkacajaaGreatDoorPC06
import Derived.Deep.RegionLaw
import Derived.Test.YtnomlkkhkacajaaGreatDoorPC03
import Derived.Test.YtnomlkkhkacajaaGreatDoorPC04
import Derived.Test.YtnomlkkhkacajaaGreatDoorPC05
namespace Go.Proofs.YtnomlkkhkacajaaGreatDoor
open Go.RowKit

/-- A signal that may be anything at one place, or is too long. -/
def DrawnL (xs : List C) : Prop := xs.length = 17 ∨ ∃ j, (∀ i, i < xs.length → i ≠ j → Ord (nth xs i)) ∧ (j < xs.length → Spc (nth xs j))
def RetL (w : World) (g p : Nat) (n : Int) (e : Ending) (w' : World) : Prop :=
  ∃ A m c xs, e = .returned (.slice A m c) ∧ Ow w' w.heap.size 73 (.slice A m c) m (xs.map cv) ∧ xs.length ≤ 17 ∧ DrawnL xs ∧ (n ≤ 0 → ∀ z ∈ xs, Ord z) ∧ Rd w' g p ∧ Pk g w w'
theorem ord_one {xs : List C} {z : C} (h : ∀ u ∈ xs, Ord u) (hz : Ord z) : ∀ u ∈ xs ++ [z], Ord u := by
  intro u hu
  rcases List.mem_append.1 hu with h1 | h1
  · exact h u h1
  · rw [List.mem_singleton.1 h1]; exact hz
theorem drawn_ord {xs : List C} (h : ∀ u ∈ xs, Ord u) : DrawnL xs :=
  .inr ⟨xs.length, fun i hi _ => by rw [nth_eq hi]; exact h _ (List.getElem_mem hi), fun h => absurd h (Nat.lt_irrefl _)⟩
theorem drawn_set {xs : List C} (h : ∀ u ∈ xs, Ord u) (j : Nat) {z : C} (hz : Spc z) : DrawnL (xs.set j z) := by
  refine .inr ⟨j, fun i hi hij => ?_, fun hj => ?_⟩
  · rw [nth_eq hi, List.getElem_set_ne (by omega)]; exact h _ (List.getElem_mem _)
  · rw [nth_eq hj, List.getElem_set_self]; exact hz

set_option maxHeartbeats 2000000 in
set_option maxRecDepth 100000 in
theorem signal_any (g p pts : Nat) (n : Int) (w : World) (hp : p ≤ 800000) (hn : n ≤ 1000000) (hpt : pts ≤ 17) (hr : Rd w g p) :
    Calls Tryz.prog 72 #[.pointer (some ⟨g, 0, none⟩), .int .i64 pts, .int .i64 n] w (RetL w g (p + 6 * pts + 10) n) := by
  have hlt := hr.lt
  have he := Ow.empty w 73
  have hb0 := below_alloc w (.cells #[] 73)
  go_enter Tryz.func72, Tryz.ntmps72
  go_wp2_with fail
  refine (pick_any g p 3 _ (by omega) (by omega) (hr.below hb0)).mono ?_
  rintro e w1 ⟨kind, rfl, hv, hr1, hp1⟩
  obtain ⟨v1, v2, _⟩ := hv
  have v3 := v2 (by omega)
  have h3 : kind = 0 ∨ kind = 1 ∨ kind = 2 := by omega
  clear v1 v2 v3
  have ho1 := he.pk hp1 hlt
  have HP1 : Hid (Pk g w w1) := (Pk.of_below hb0).trans hp1
  have HO1 := Lib.hid ho1
  have HR1 := Lib.hid hr1
  have HK := Lib.hid h3
  clear he hb0 hr1 hp1 hr ho1 h3
  go_wp2_with fail
  go_loopw [7, 9] (fun v i wr => ∃ (k : Nat) (xs : List C), k ≤ pts ∧ i = .int .i64 k ∧ xs.length = k ∧ (∀ z ∈ xs, Ord z) ∧ Ow wr w.heap.size 73 v k (xs.map cv) ∧ Rd wr g (p + 1 + 6 * k) ∧ Pk g w wr) (fun _ i _ => pts - (intOf i).toNat)
  case atStart => exact ⟨0, [], by omega, rfl, rfl, by simp, HO1.out, HR1.out.mono (by omega), HP1.out⟩
  case round =>
    obtain ⟨k, xs, hk, rfl, hlen, hord, ho, hrd, hpk⟩ := hrel
    have HX := Lib.hid hord
    have HL := Lib.hid hlen
    clear hord hlen
    by_cases hlt2 : k < pts
    · have h3 := HK.out
      rcases h3 with rfl | rfl | rfl
      · have HO := Lib.hid ho
        have HP := Lib.hid hpk
        have HR := Lib.hid hrd
        clear ho hpk hrd
        go_wp2_with fail
        refine (pick_any g (p + 1 + 6 * k) 21 wr (by omega) (by omega) HR.out).mono ?_
        rintro e w2 ⟨a, rfl, hv, hr2, hp2⟩
        obtain ⟨a1, a2, _⟩ := hv
        have a3 := a2 (by omega)
        have e1 : IntKind.i64.wrap (a - 10) = a - 10 := IntWalk.i64_in _ (by omega)
        have e2 : IntKind.i64.wrap ((a - 10) * 1000) = (a - 10) * 1000 := IntWalk.i64_in _ (by omega)
        clear a2
        go_wp2_with fail
        refine (pick_any g (p + 1 + 6 * k + 1) 21 w2 (by omega) (by omega) hr2).mono ?_
        rintro e w3 ⟨b, rfl, hv, hr3, hp3⟩
        obtain ⟨b1, b2, _⟩ := hv
        have b3 := b2 (by omega)
        have e3 : IntKind.i64.wrap (b - 10) = b - 10 := IntWalk.i64_in _ (by omega)
        have e4 : IntKind.i64.wrap ((b - 10) * 1000) = (b - 10) * 1000 := IntWalk.i64_in _ (by omega)
        clear b2
        have hz : Ord (milli ((a - 10) * 1000) ((b - 10) * 1000)) := ⟨_, _, by omega, by omega, by omega, by omega, rfl⟩
        have hm : ∀ w, Calls Tryz.prog 107 #[.int .i64 ((a - 10) * 1000), .int .i64 ((b - 10) * 1000)] w fun e w' => e = .returned (.complex .f32 (milli ((a - 10) * 1000) ((b - 10) * 1000)).1 (milli ((a - 10) * 1000) ((b - 10) * 1000)).2) ∧ w' = w := fun w => sMilli _ _ w
        generalize milli ((a - 10) * 1000) ((b - 10) * 1000) = z at *
        have HM := Lib.hid hm
        have HZ := Lib.hid hz
        have HP3 : Hid (Pk g w w3) := (HP.out.trans hp2).trans hp3
        have HO3 : Hid _ := (HO.out.pk hp2 hlt).pk hp3 hlt
        have HR3 := Lib.hid hr3
        clear hm hz hp2 hp3 hr2 hr3
        go_wp2_with fail
        refine (HM.out _).mono ?_
        rintro e w' ⟨rfl, rfl⟩
        have hsz := HP3.out.size
        go_wp2_with (at_builtin; refine wl_appB w.heap.size [.complex .f32 z.1 z.2] hsz rfl (.tmp 26) (.tmp 36) 23 rfl Tryz.eC _ k _ rfl HO3.out rfl (by simp [Value.oneCell']) (by simp [maxLen]; omega) (by simp; omega) ?_; intro v' w4 ho4 hb4)
        go_roundw
        case rel => exact ⟨k + 1, xs ++ [z], by omega, by go_num, by rw [List.length_append, HL.out]; rfl, ord_one HX.out HZ.out, by rw [List.map_append]; exact ho4, (HR3.out.belowB hb4 hlt).mono (by omega), HP3.out.belowB hb4 (Nat.le_refl _)⟩
        case measure => simp [intOf]; omega
      · have HO := Lib.hid ho
        have HP := Lib.hid hpk
        have HR := Lib.hid hrd
        clear ho hpk hrd
        go_wp2_with fail
        refine (pick_any g (p + 1 + 6 * k) 9 wr (by omega) (by omega) HR.out).mono ?_
        rintro e w2 ⟨a, rfl, hv, hr2, hp2⟩
        obtain ⟨a1, a2, _⟩ := hv
        have a3 := a2 (by omega)
        have e1 : IntKind.i64.wrap (a - 4) = a - 4 := IntWalk.i64_in _ (by omega)
        have e2 : IntKind.i64.wrap ((a - 4) * 250) = (a - 4) * 250 := IntWalk.i64_in _ (by omega)
        clear a2
        have hz : Ord (milli ((a - 4) * 250) 0) := ⟨_, _, by omega, by omega, by omega, by omega, rfl⟩
        have hm : ∀ w, Calls Tryz.prog 107 #[.int .i64 ((a - 4) * 250), .int .i64 0] w fun e w' => e = .returned (.complex .f32 (milli ((a - 4) * 250) 0).1 (milli ((a - 4) * 250) 0).2) ∧ w' = w := fun w => sMilli _ _ w
        generalize milli ((a - 4) * 250) 0 = z at *
        have HM := Lib.hid hm
        have HZ := Lib.hid hz
        have HP3 : Hid (Pk g w w2) := HP.out.trans hp2
        have HO3 : Hid _ := HO.out.pk hp2 hlt
        have HR3 := Lib.hid hr2
        clear hm hz hp2 hr2
        go_wp2_with fail
        refine (HM.out _).mono ?_
        rintro e w' ⟨rfl, rfl⟩
        have hsz := HP3.out.size
        go_wp2_with (at_builtin; refine wl_appB w.heap.size [.complex .f32 z.1 z.2] hsz rfl (.tmp 40) (.tmp 46) 23 rfl Tryz.eC _ k _ rfl HO3.out rfl (by simp [Value.oneCell']) (by simp [maxLen]; omega) (by simp; omega) ?_; intro v' w4 ho4 hb4)
        go_roundw
        case rel => exact ⟨k + 1, xs ++ [z], by omega, by go_num, by rw [List.length_append, HL.out]; rfl, ord_one HX.out HZ.out, by rw [List.map_append]; exact ho4, (HR3.out.belowB hb4 hlt).mono (by omega), HP3.out.belowB hb4 (Nat.le_refl _)⟩
        case measure => simp [intOf]; omega
      · have HO := Lib.hid ho
        have HP := Lib.hid hpk
        have HR := Lib.hid hrd
        clear ho hpk hrd
        go_wp2_with fail
        refine (num_any g (p + 1 + 6 * k) 0 wr (by omega) (by omega) HR.out).mono ?_
        rintro e w2 ⟨z, rfl, hz, _, hr2, hp2⟩
        unfold cv
        have HZ := Lib.hid (hz (by omega))
        have HP3 : Hid (Pk g w w2) := HP.out.trans hp2
        have HO3 : Hid _ := HO.out.pk hp2 hlt
        have HR3 := Lib.hid hr2
        have hsz := HP3.out.size
        clear hz hp2 hr2
        go_wp2_with (at_builtin; refine wl_appB w.heap.size [.complex .f32 z.1 z.2] hsz rfl (.tmp 19) (.tmp 22) 23 rfl Tryz.eC _ k _ rfl HO3.out rfl (by simp [Value.oneCell']) (by simp [maxLen]; omega) (by simp; omega) ?_; intro v' w4 ho4 hb4)
        go_roundw
        case rel => exact ⟨k + 1, xs ++ [z], by omega, by go_num, by rw [List.length_append, HL.out]; rfl, ord_one HX.out HZ.out, by rw [List.map_append]; exact ho4, (HR3.out.belowB hb4 hlt).mono (by omega), HP3.out.belowB hb4 (Nat.le_refl _)⟩
        case measure => simp [intOf]; omega
    · obtain rfl : k = pts := by omega
      have HO := Lib.hid ho
      have HP := Lib.hid hpk
      obtain ⟨A, c, rfl⟩ := ho.shape
      have hn17 : (k : Int) ≤ 1000000 := by omega
      clear ho hpk
      go_wp2_with fail
      refine (odd_any g (p + 1 + 6 * k) n wr (by omega) hn hrd).mono ?_
      rintro e w2 ⟨v, rfl, hv, hr2, hp2⟩
      have HO2 : Hid (Ow w2 w.heap.size 73 (.slice A k c) k (xs.map cv)) := Ow.pk HO.out hp2 hlt
      have HP2 : Hid (Pk g w w2) := HP.out.trans hp2
      have hsz := HP2.out.size
      have HV := Lib.hid hv
      clear hp2 hrd hv
      cases v with
      | false =>
        have HR2 := Lib.hid hr2
        clear hr2
        go_wp2_with fail
        go_ret
        exact ⟨_, _, _, xs, rfl, HO2.out, by rw [HL.out]; omega, drawn_ord HX.out, fun _ => HX.out, HR2.out.mono (by omega), HP2.out⟩
      | true =>
        have hn0 : ¬ n ≤ 0 := fun h => absurd (HV.out h) (by decide)
        have mk : ∀ w3, Pk g w w3 → Rd w3 g (p + 1 + 6 * k + 1 + 1) → ∀ w4, Ow w4 w.heap.size 73 (.slice (some ⟨w3.heap.size, 0, none⟩) 17 17) 17 (List.replicate 17 (.complex .f32 0 0)) → Below w3.heap.size w3 w4 →
            RetL w g (p + 6 * k + 10) n (.returned (.slice (some ⟨w3.heap.size, 0, none⟩) 17 17)) w4 := fun w3 h1 h2 w4 h3 h4 =>
          ⟨_, _, _, List.replicate 17 (0, 0), rfl, h3, by simp, .inl (by simp), fun h => absurd h hn0, (h2.below h4).mono (by omega), h1.belowB h4 h1.size⟩
        have MK := Lib.hid mk
        clear mk
        by_cases hk0 : k = 0
        · subst hk0
          have HR2 := Lib.hid hr2
          clear hr2
          go_wp2_with (at_make; refine wl_make (w0 := w2) rfl (.const (.int .i64 17)) (.const (.int .i64 17)) 23 rfl Tryz.eC .i64 .i64 17 _ _ rfl rfl rfl rfl (by omega) (by unfold maxLen; omega) (Below.refl _ _) ?_; intro w4 hown _ hb4)
          go_ret
          exact MK.out w2 HP2.out (HR2.out.mono (by omega)) w4 (hown.mono hsz) hb4
        · have hk1 : ((k : Int) == 0) = false := by rw [beq_eq_false_iff_ne]; omega
          go_wp2_with fail
          refine (pick_any g (p + 1 + 6 * k + 1) 4 w2 (by omega) (by omega) hr2).mono ?_
          rintro e w3 ⟨a, rfl, hv, hr3, hp3⟩
          obtain ⟨a1, a2, _⟩ := hv
          have HP3 : Hid (Pk g w w3) := HP2.out.trans hp3
          have HO3 : Hid (Ow w3 w.heap.size 73 (.slice A k c) k (xs.map cv)) := Ow.pk HO2.out hp3 hlt
          have hsz3 := HP3.out.size
          clear hp3 hr2 a2
          by_cases ha0 : a = 0
          · subst ha0
            have HR3 := Lib.hid hr3
            clear hr3
            go_wp2_with (at_make; refine wl_make (w0 := w3) rfl (.const (.int .i64 17)) (.const (.int .i64 17)) 23 rfl Tryz.eC .i64 .i64 17 _ _ rfl rfl rfl rfl (by omega) (by unfold maxLen; omega) (Below.refl _ _) ?_; intro w4 hown _ hb4)
            go_ret
            exact MK.out w3 HP3.out HR3.out w4 (hown.mono hsz3) hb4
          · have ha1 : (a == 0) = false := by rw [beq_eq_false_iff_ne]; exact ha0
            clear ha0
            go_wp2_with fail
            refine (pick_any g (p + 1 + 6 * k + 2) k w3 (by omega) hn17 hr3).mono ?_
            rintro e w4 ⟨q, rfl, hv, hr4, hp4⟩
            obtain ⟨q1, q2, _⟩ := hv
            have q3 := q2 (by omega)
            obtain ⟨j, rfl⟩ := Int.eq_ofNat_of_zero_le q1
            have HP4 : Hid (Pk g w w4) := HP3.out.trans hp4
            have HO4 : Hid (Ow w4 w.heap.size 73 (.slice A k c) k (xs.map cv)) := Ow.pk HO3.out hp4 hlt
            clear hp4 q2 hr3
            go_wp2_with fail
            refine (num_any g (p + 1 + 6 * k + 3) 1 w4 (by omega) (by omega) hr4).mono ?_
            rintro e w5 ⟨z, rfl, _, hz, hr5, hp5⟩
            have hj : j < k := by omega
            have ho5 : Ow w5 w.heap.size 73 (.slice A k c) k (xs.map cv) := Ow.pk HO4.out hp5 hlt
            have HP5 : Hid (Pk g w w5) := HP4.out.trans hp5
            have HZ := Lib.hid hz
            have HR5 := Lib.hid hr5
            clear hp5 hz hr4 hr5
            obtain ⟨g2, hg2, hge, hgl, hcell, hfr, hst⟩ := ho5.at_ hj
            subst hg2
            obtain ⟨u, hu⟩ : ∃ u, (xs.map cv)[j]? = some u := ⟨_, List.getElem?_eq_getElem (by rw [List.length_map, HL.out]; exact hj)⟩
            have hck := (hcell j hj).trans hu
            have hfr2 := hfr j
            have HS := Lib.hid (hst j (cv z))
            have HB : Hid (Below w.heap.size w5 (w5.setCell ⟨g2, j, none⟩ (cv z))) := (Below.refl _ _).setCell hge _
            unfold cv at HS HB ⊢
            clear hcell hfr hst ho5 hu
            go_wp2_with fail
            go_ret
            refine ⟨_, _, _, xs.set j z, rfl, ?_, by rw [List.length_set, HL.out]; omega, drawn_set HX.out j HZ.out, fun h => absurd h (by omega), (HR5.out.belowB HB.out hlt).mono (by omega), HP5.out.belowB HB.out (Nat.le_refl _)⟩
            rw [List.map_set]
            exact HS.out
end Go.Proofs.YtnomlkkhkacajaaGreatDoor
namespace Go.Proofs.YtnomlkkhkacajaaGreatDoor
open Go.RowKit

set_option maxHeartbeats 2000000 in
set_option maxRecDepth 100000 in
theorem sSum (A : Option Addr) (n c : Nat) (xs : List C) (b : Int) (w : World) (hn2 : n ≤ 16) (hx : Cs w A n xs) (hf : xs.all finB = true) (hb1 : -256 ≤ b) (hb2 : b ≤ 256)
    (hp : ∀ i, i < n → finB (prodT xs b i) = true) :
    Calls Tryz.prog 102 #[.slice A n c, .int .i64 b] w (RetQ2 w (sumT xs b n)) := by
  have HL := Lib.hid hx.len
  have HF := Lib.hid hf
  have HPR := Lib.hid hp
  clear hf hp
  go_enter Tryz.func102, Tryz.ntmps102
  go_wp2_with fail
  go_loopw [6, 7] (fun v i wr => ∃ (j : Nat) (s : C), j ≤ n ∧ i = .int .i64 j ∧ v = .complex .f32 s.1 s.2 ∧ sumT xs b j = some s ∧ Below w.heap.size w wr) (fun _ i _ => n - (intOf i).toNat)
  case atStart => exact ⟨0, (0, 0), by omega, rfl, rfl, rfl, Below.refl _ _⟩
  case round =>
    obtain ⟨j, s, hj, rfl, rfl, hs, hbw⟩ := hrel
    have HS := Lib.hid hs
    have HB := Lib.hid hbw
    clear hs
    by_cases hlt : j < n
    · obtain ⟨bl, o, rfl, hbl, hc⟩ := hx.at_ hlt
      have hck : wr.drew.cell? ⟨bl, o + j, none⟩ = some (cv (nth xs j)) := (hbw.cell (p := ⟨bl, o + j, none⟩) hbl).trans (hc j hlt)
      have HBL : Hid (bl < w.heap.size) := hbl
      have hz := all_fin_nth HF.out (by rw [HL.out]; exact hlt : j < xs.length)
      have hz' := finB_iff.2 hz
      have hm : finB (mulC (nth xs j) (turnC (b * j))) = true := HPR.out j hlt
      have HNX : Hid (sumT xs b (j + 1) = sumStep (some s) (mulC (nth xs j) (turnC (b * j)))) := by show sumStep (sumT xs b j) _ = _; rw [HS.out]; rfl
      obtain ⟨d1, d2⟩ := mul_bd (i := j) hb1 hb2 (by omega)
      have e2 : IntKind.i64.wrap (b * (j : Int)) = b * (j : Int) := IntWalk.i64_in _ (by omega)
      clear hc hx hz hbw d1 d2 hbl
      generalize nth xs j = z at *
      obtain ⟨t, ht⟩ : ∃ t, t = turnC (b * (j : Int)) := ⟨_, rfl⟩
      have hT := turnC_fin (b * (j : Int))
      have HTC : Hid (∀ w, Calls Tryz.prog 130 #[.int .i64 (b * (j : Int))] w (RetQ w t)) := fun w => by rw [ht]; exact sTurn _ w
      rw [← ht] at hm HNX hT
      clear ht
      have q1 := mulC_run Tryz.prog 73 hz' hT hm
      have q2 := addC_run Tryz.prog 73 (a := s) (b := mulC z t) (sumT_fin HS.out) hm
      have C1 : Hid (∀ w, Calls Tryz.prog 115 #[.complex .f32 (mulC z t).1 (mulC z t).2] w fun e w' => e = .returned (.bool true) ∧ Dr w w') := fun w => by have := sFinite (mulC z t) w; rw [hm] at this; exact this
      have C2 : Hid (∀ w, Calls Tryz.prog 115 #[.complex .f32 (addC s (mulC z t)).1 (addC s (mulC z t)).2] w fun e w' => e = .returned (.bool (finB (addC s (mulC z t)))) ∧ Dr w w') := fun w => sFinite (addC s (mulC z t)) w
      have HN : Hid (sumT xs b (j + 1) = if finB (addC s (mulC z t)) then some (addC s (mulC z t)) else none) := by
        show _ = _
        rw [HNX.out]
        unfold sumStep; rw [hm]; simp
      clear hz' hT hm HNX
      generalize addC s (mulC z t) = u at *
      generalize mulC z t = p at *
      obtain ⟨z1, z2⟩ := z
      obtain ⟨t1, t2⟩ := t
      unfold cv at hck
      go_wp2_with fail
      go_region_law ((go_simp; go_at_call 130; (with_reducible refine Calls.mono (HTC.out _) ?_); rintro e w1 ⟨rfl, hb1w⟩; have hck1 : w1.cell? ⟨bl, o + j, none⟩ = some (.complex .f32 z1 z2) := ((hb1w.cell (p := ⟨bl, o + j, none⟩) (Nat.lt_of_lt_of_le HBL.out HB.out.size)).trans hck); have HB1 : Hid (Below w.heap.size w w1) := (HB.out.drew.trans (hb1w.mono HB.out.size)); clear hb1w; unfold cv))
      all_goals
        go_wp2_with fail
        refine (C1.out _).mono ?_
        rintro e w' ⟨rfl, m, rfl⟩
        go_wp2_with fail
        refine (C2.out _).mono ?_
        rintro e w' ⟨rfl, m2, rfl⟩
        cases hu : finB u
        · have HNN := Lib.hid (sumT_none (by rw [HN.out, hu]; rfl : sumT xs b (j + 1) = none) n (by omega))
          clear hu
          go_wp2_with fail
          go_ret2
          rw [HNN.out]
          exact ⟨rfl, below_drewN HB1.out _⟩
        · have HN2 : Hid (sumT xs b (j + 1) = some u) := by show _ = _; rw [HN.out, hu]; rfl
          clear hu
          go_wp2_with fail
          go_roundw
          case rel => exact ⟨j + 1, u, by omega, by go_num, rfl, HN2.out, below_drewN HB1.out _⟩
          case measure => simp [intOf]; omega
    · obtain rfl : j = n := by omega
      clear hx hbw
      go_wp2_with fail
      go_ret2
      rw [HS.out]
      exact ⟨rfl, HB.out⟩
end Go.Proofs.YtnomlkkhkacajaaGreatDoor
namespace Go.Proofs.YtnomlkkhkacajaaGreatDoor
open Go.RowKit

def p2B (n : Nat) : Bool := n == 1 || n == 2 || n == 4 || n == 8 || n == 16
theorem p2B_iff {n : Nat} : p2B n = true ↔ n = 1 ∨ n = 2 ∨ n = 4 ∨ n = 8 ∨ n = 16 := by simp [p2B]; omega
def sizB (xs : List C) : Bool := p2B xs.length && sigB xs
set_option maxHeartbeats 400000 in
theorem pow_any (n : Nat) (w : World) : Calls Tryz.prog 146 #[.int .i64 n] w fun e w' => e = .returned (.bool (p2B n)) ∧ w' = w := by
  by_cases hb : p2B n = true
  · rw [hb]
    rcases p2B_iff.1 hb with rfl | rfl | rfl | rfl | rfl
    all_goals
      go_enter Tryz.func146, Tryz.ntmps146
      go_wp2_with fail
      go_ret
      exact ⟨rfl, rfl⟩
  · have hb' : p2B n = false := by simpa using hb
    rw [hb']
    have hn : ¬ (n = 1 ∨ n = 2 ∨ n = 4 ∨ n = 8 ∨ n = 16) := fun h => hb (p2B_iff.2 h)
    have c1 : ((n : Int) == 1) = false := by rw [beq_eq_false_iff_ne]; omega
    have c2 : ((n : Int) == 2) = false := by rw [beq_eq_false_iff_ne]; omega
    have c3 : ((n : Int) == 4) = false := by rw [beq_eq_false_iff_ne]; omega
    have c4 : ((n : Int) == 8) = false := by rw [beq_eq_false_iff_ne]; omega
    have c5 : ((n : Int) == 16) = false := by rw [beq_eq_false_iff_ne]; omega
    clear hb hb' hn
    go_enter Tryz.func146, Tryz.ntmps146
    go_wp2_with fail
    go_ret
    exact ⟨rfl, rfl⟩
set_option maxHeartbeats 400000 in
theorem iSizeOk (A : Option Addr) (n c : Nat) (xs : List C) (w : World) (hn : n ≤ 1048576) (hx : Cs w A n xs) :
    Calls Tryz.prog 125 #[.slice A n c] w fun e w' => e = .returned (.bool (sizB xs)) ∧ Dr w w' := by
  have hl := hx.len
  have HS : Hid (sizB xs = (p2B n && sigB xs)) := by show _ = _; unfold sizB; rw [hl]
  rw [HS.out]
  clear hl
  cases hb : p2B n
  · have HP : Hid (∀ w, Calls Tryz.prog 146 #[.int .i64 n] w fun e w' => e = .returned (.bool false) ∧ w' = w) := fun w => by rw [← hb]; exact pow_any n w
    go_enter Tryz.func125, Tryz.ntmps125
    go_wp2_with fail
    refine (HP.out _).mono ?_
    rintro e w' ⟨rfl, rfl⟩
    go_wp2_with fail
    go_ret
    exact ⟨rfl, Dr.refl _⟩
  · have HP : Hid (∀ w, Calls Tryz.prog 146 #[.int .i64 n] w fun e w' => e = .returned (.bool true) ∧ w' = w) := fun w => by rw [← hb]; exact pow_any n w
    go_enter Tryz.func125, Tryz.ntmps125
    go_wp2_with fail
    refine (HP.out _).mono ?_
    rintro e w' ⟨rfl, hw⟩
    rw [hw]
    go_wp2_with fail
    refine (iSignalOk A n c xs w (by omega) hx).mono ?_
    rintro e w' ⟨rfl, m, rfl⟩
    go_wp2_with fail
    go_ret
    exact ⟨by simp, m, rfl⟩
set_option maxHeartbeats 400000 in
theorem sSizeOk (A : Option Addr) (n c : Nat) (xs : List C) (w : World) (hn : n ≤ 1048576) (hx : Cs w A n xs) :
    Calls Tryz.prog 101 #[.slice A n c] w fun e w' => e = .returned (.bool (sizB xs)) ∧ Dr w w' := by
  have hl := hx.len
  have HS : Hid (sizB xs = (p2B n && sigB xs)) := by show _ = _; unfold sizB; rw [hl]
  rw [HS.out]
  clear hl
  cases hs : sigB xs
  · have HC : Hid (∀ w, Cs w A n xs → Calls Tryz.prog 47 #[.slice A n c] w fun e w' => e = .returned (.bool false) ∧ Dr w w') := fun w h => by rw [← hs]; exact sSignalOk A n c xs w (by omega) h
    go_enter Tryz.func101, Tryz.ntmps101
    go_wp2_with fail
    refine (HC.out _ hx).mono ?_
    rintro e w' ⟨rfl, m, rfl⟩
    go_wp2_with fail
    go_ret
    exact ⟨by simp, m, rfl⟩
  · have HC : Hid (∀ w, Cs w A n xs → Calls Tryz.prog 47 #[.slice A n c] w fun e w' => e = .returned (.bool true) ∧ Dr w w') := fun w h => by rw [← hs]; exact sSignalOk A n c xs w (by omega) h
    by_cases hb : p2B n = true
    · rw [hb]
      rcases p2B_iff.1 hb with rfl | rfl | rfl | rfl | rfl
      all_goals
        go_enter Tryz.func101, Tryz.ntmps101
        go_wp2_with fail
        refine (HC.out _ hx).mono ?_
        rintro e w' ⟨rfl, m, rfl⟩
        go_wp2_with fail
        go_ret
        exact ⟨by simp, m, rfl⟩
    · have hb' : p2B n = false := by simpa using hb
      rw [hb']
      have hn : ¬ (n = 1 ∨ n = 2 ∨ n = 4 ∨ n = 8 ∨ n = 16) := fun h => hb (p2B_iff.2 h)
      have c1 : ((n : Int) == 1) = false := by rw [beq_eq_false_iff_ne]; omega
      have c2 : ((n : Int) == 2) = false := by rw [beq_eq_false_iff_ne]; omega
      have c3 : ((n : Int) == 4) = false := by rw [beq_eq_false_iff_ne]; omega
      have c4 : ((n : Int) == 8) = false := by rw [beq_eq_false_iff_ne]; omega
      have c5 : ((n : Int) == 16) = false := by rw [beq_eq_false_iff_ne]; omega
      clear hb hb' hn
      go_enter Tryz.func101, Tryz.ntmps101
      go_wp2_with fail
      refine (HC.out _ hx).mono ?_
      rintro e w' ⟨rfl, m, rfl⟩
      go_wp2_with fail
      go_ret
      exact ⟨by simp, m, rfl⟩

/-- All numbers, or none. -/
def allT (f : Nat → Option C) : Nat → Option (List C)
  | 0 => some []
  | k + 1 => (allT f k).bind fun l => (f k).bind fun z => some (l ++ [z])
theorem allT_len {f : Nat → Option C} : ∀ {k : Nat} {l : List C}, allT f k = some l → l.length = k
  | 0, l, h => by injection h with h; rw [← h]; rfl
  | k + 1, l, h => by
    unfold allT at h
    cases h1 : allT f k with
    | none => rw [h1] at h; cases h
    | some m =>
      cases h2 : f k with
      | none => rw [h1, h2] at h; cases h
      | some z =>
        rw [h1, h2] at h
        injection h with h
        rw [← h, List.length_append, allT_len h1]; rfl
theorem allT_none {f : Nat → Option C} {k : Nat} (h : allT f k = none) : ∀ j, k ≤ j → allT f j = none := by
  intro j hj
  obtain ⟨d, rfl⟩ : ∃ d, j = k + d := ⟨j - k, by omega⟩
  clear hj
  induction d with
  | zero => exact h
  | succ d ih => show (allT f (k + d)).bind _ = none; rw [ih]; rfl
theorem allT_step {f : Nat → Option C} {k : Nat} {l : List C} (h : allT f k = some l) {z : C} (hz : f k = some z) : allT f (k + 1) = some (l ++ [z]) := by
  show (allT f k).bind _ = _; rw [h]; show (f k).bind _ = _; rw [hz]; rfl
theorem allT_stop {f : Nat → Option C} {k : Nat} {l : List C} (h : allT f k = some l) (hz : f k = none) : allT f (k + 1) = none := by
  show (allT f k).bind _ = _; rw [h]; show (f k).bind _ = _; rw [hz]; rfl
theorem fil_set (l : List Value) {n k : Nat} (hl : l.length = k) (hk : k < n) (z u : Value) : (l ++ List.replicate (n - k) z).set k u = (l ++ [u]) ++ List.replicate (n - (k + 1)) z := by
  obtain ⟨d, hd⟩ : ∃ d, n - k = d + 1 := ⟨n - k - 1, by omega⟩
  have hd2 : n - (k + 1) = d := by omega
  rw [List.set_append_right _ _ (by omega), hl, Nat.sub_self, hd, hd2, List.replicate_succ, List.set_cons_zero, List.append_assoc]
  rfl
theorem fil_get (l : List Value) {n k : Nat} (hl : l.length = k) (hk : k < n) (z : Value) : (l ++ List.replicate (n - k) z)[k]? = some z := by
  rw [List.getElem?_append_right (by omega), hl, Nat.sub_self, List.getElem?_replicate, if_pos (by omega)]
/-- The turn of a number for each point. -/
def bk (n : Nat) (k : Int) : Int := 16 / (n : Int) * k
theorem bk_bd {n : Nat} (hn : p2B n = true) {k : Int} (h1 : -16 ≤ k) (h2 : k ≤ 16) : -256 ≤ bk n k ∧ bk n k ≤ 256 := by
  unfold bk
  rcases p2B_iff.1 hn with rfl | rfl | rfl | rfl | rfl <;> constructor <;> omega
/-- The spectrum. -/
def transF (xs : List C) : Option (List C) := if sizB xs then allT (fun k => sumT xs (bk xs.length (-(k : Int))) xs.length) xs.length else none
/-- No product passes single precision. -/
def ProdOk (xs : List C) (s : Int) : Prop := ∀ k i, k < xs.length → i < xs.length → finB (prodT xs (bk xs.length (s * (k : Int))) i) = true
theorem transF_no {xs : List C} (h : sizB xs = false) : transF xs = none := by unfold transF; rw [h]; rfl
theorem transF_yes {xs : List C} {n : Nat} (h : sizB xs = true) (hl : xs.length = n) : transF xs = allT (fun k => sumT xs (bk n (-(k : Int))) n) n := by unfold transF; rw [h, hl]; rfl
theorem siz_parts {xs : List C} (h : sizB xs = true) : p2B xs.length = true ∧ sigB xs = true ∧ xs.all finB = true ∧ xs.length ≤ 16 ∧ 1 ≤ xs.length := by
  unfold sizB at h
  rw [Bool.and_eq_true] at h
  have h3 := h.2
  unfold sigB at h3
  rw [Bool.and_eq_true, decide_eq_true_eq] at h3
  have := p2B_iff.1 h.1
  exact ⟨h.1, h.2, h3.2, h3.1, by omega⟩

set_option maxHeartbeats 2000000 in
set_option maxRecDepth 100000 in
theorem iTransform (A : Option Addr) (n c : Nat) (xs : List C) (w : World) (hn : n ≤ 1048576) (hx : Cs w A n xs) (hp : sizB xs = true → ProdOk xs (-1)) :
    Calls Tryz.prog 110 #[.slice A n c] w (RetO w (transF xs)) := by
  have hl := hx.len
  cases hs : sizB xs
  · have HN := Lib.hid (transF_no hs)
    have HC : Hid (∀ w, Cs w A n xs → Calls Tryz.prog 125 #[.slice A n c] w fun e w' => e = .returned (.bool false) ∧ Dr w w') := fun w h => by rw [← hs]; exact iSizeOk A n c xs w hn h
    clear hl hs hp
    go_enter Tryz.func110, Tryz.ntmps110
    go_wp2_with fail
    refine (HC.out _ hx).mono ?_
    rintro e w' ⟨rfl, m, rfl⟩
    go_wp2_with fail
    go_ret2
    rw [HN.out]
    exact RetC.nil_ (below_drewN (Below.refl _ _) m)
  · have HC : Hid (∀ w, Cs w A n xs → Calls Tryz.prog 125 #[.slice A n c] w fun e w' => e = .returned (.bool true) ∧ Dr w w') := fun w h => by rw [← hs]; exact iSizeOk A n c xs w hn h
    obtain ⟨s1, s2, s3, s4, s5⟩ := siz_parts hs
    rw [hl] at s1 s4 s5
    have HY := Lib.hid (transF_yes hs hl)
    have HPO := Lib.hid (hp hs)
    have HL := Lib.hid hl
    have H1 := Lib.hid s1
    have H3 := Lib.hid s3
    have HT : Hid (∀ (k : Nat) w', k < n → Cs w' A n xs → Calls Tryz.prog 126 #[.slice A n c, .int .i64 (-(k : Int))] w' (RetQ2 w' (sumT xs (bk n (-(k : Int))) n))) := fun k w' hk h => by
      obtain ⟨b1, b2⟩ := bk_bd s1 (k := -(k : Int)) (by omega) (by omega)
      refine iTurned A n c xs (-(k : Int)) (bk n (-(k : Int))) w' s5 s4 h s3 rfl b1 b2 fun i hi => ?_
      have := hp hs k i (by omega) (by omega)
      rw [hl, show (-1 : Int) * (k : Int) = -(k : Int) by omega] at this
      exact this
    clear hl hs hp s1 s2 s3
    go_enter Tryz.func110, Tryz.ntmps110
    go_wp2_with fail
    refine (HC.out _ hx).mono ?_
    rintro e w' ⟨rfl, m, rfl⟩
    go_wp2_with (at_make; refine wl_make (w0 := w.drewN m) rfl (.tmp 12) (.tmp 12) 23 rfl Tryz.eC .i64 .i64 n _ _ rfl rfl rfl rfl (by omega) (by unfold maxLen; omega) (Below.refl _ _) ?_; intro w1 hown hb1 _)
    have HO1 : Hid (Ow w1 w.heap.size 73 (.slice (some ⟨w.heap.size, 0, none⟩) n n) n (List.replicate n (.complex .f32 0 0))) := hown
    have HB1 : Hid (Below w.heap.size w w1) := ⟨hb1.os, hb1.tape, hb1.output, hb1.size, hb1.block⟩
    clear hown hb1
    go_loopw [16] (fun i wr => ∃ (k : Nat) (l : List C), k ≤ n ∧ i = .int .i64 k ∧ allT (fun k => sumT xs (bk n (-(k : Int))) n) k = some l ∧ Ow wr w.heap.size 73 (.slice (some ⟨w.heap.size, 0, none⟩) n n) n (l.map cv ++ List.replicate (n - k) (.complex .f32 0 0)) ∧ Below w.heap.size w wr) (fun i _ => n - (intOf i).toNat)
    case atStart => exact ⟨0, [], by omega, rfl, rfl, HO1.out, HB1.out⟩
    case round =>
      obtain ⟨k, l, hk, rfl, hal, ho, hb⟩ := hrel
      have HA := Lib.hid hal
      have HO := Lib.hid ho
      have HB := Lib.hid hb
      clear hal ho hb
      by_cases hlt : k < n
      · have e1 : IntKind.i64.wrap (-(k : Int)) = -(k : Int) := IntWalk.i64_in _ (by omega)
        go_wp2_with fail
        refine (HT.out k wr hlt (hx.below HB.out)).mono ?_
        rintro e w2 ⟨rfl, hb2⟩
        have HB2 : Hid (Below w.heap.size w w2) := HB.out.trans (hb2.mono HB.out.size)
        have HO2 := Lib.hid (HO.out.below hb2)
        clear hb2
        cases hz : sumT xs (bk n (-(k : Int))) n with
        | none =>
          have HN : Hid (transF xs = none) := by show _ = _; rw [HY.out]; exact allT_none (allT_stop HA.out hz) n (by omega)
          clear hz
          simp only [Option.getD_none, Option.isSome_none]
          go_wp2_with fail
          go_ret2
          rw [HN.out]
          exact RetC.nil_ HB2.out
        | some z =>
          have HNX := Lib.hid (allT_step HA.out hz)
          have HLL : Hid ((l.map cv).length = k) := by show _ = _; rw [List.length_map]; exact allT_len HA.out
          clear hz
          simp only [Option.getD_some, Option.isSome_some]
          obtain ⟨g, hg, hge, hgl, hcell, hfr, hst⟩ := Ow.at_ HO2.out hlt
          injection hg with hg
          injection hg with hg
          subst hg
          have hck2 : w2.cell? ⟨w.heap.size, k, none⟩ = some (.complex .f32 0 0) := (hcell k hlt).trans (fil_get _ HLL.out hlt _)
          have hfr2 := hfr k
          have hst2 := hst k (cv z)
          rw [fil_set _ HLL.out hlt] at hst2
          have HS := Lib.hid hst2
          clear hst2 hcell hfr hst
          unfold cv at HS
          unfold cv
          go_wp2_with fail
          go_roundw
          case rel => exact ⟨k + 1, l ++ [z], by omega, by go_num, HNX.out, by rw [List.map_append]; exact HS.out, HB2.out.setCell (Nat.le_refl _) _⟩
          case measure => simp [intOf]; omega
      · obtain rfl : k = n := by omega
        have HR : Hid (transF xs = some l) := by show _ = _; rw [HY.out]; exact HA.out
        go_wp2_with fail
        go_ret2
        rw [HR.out]
        refine ⟨_, _, _, rfl, ?_, HB.out⟩
        have := HO.out
        rw [Nat.sub_self, List.replicate_zero, List.append_nil] at this
        exact this
end Go.Proofs.YtnomlkkhkacajaaGreatDoor
namespace Go.Proofs.YtnomlkkhkacajaaGreatDoor
open Go.RowKit

set_option maxHeartbeats 2000000 in
set_option maxRecDepth 100000 in
theorem sTransform (A : Option Addr) (n c : Nat) (xs : List C) (w : World) (hn : n ≤ 1048576) (hx : Cs w A n xs) (hp : sizB xs = true → ProdOk xs (-1)) :
    Calls Tryz.prog 82 #[.slice A n c] w (RetO w (transF xs)) := by
  have hl := hx.len
  have he := Ow.empty w 73
  have hb0 := below_alloc w (.cells #[] 73)
  have hx0 : Cs (w.alloc (.cells #[] 73)) A n xs := hx.below hb0
  cases hs : sizB xs
  · have HN := Lib.hid (transF_no hs)
    have HC : Hid (∀ w, Cs w A n xs → Calls Tryz.prog 101 #[.slice A n c] w fun e w' => e = .returned (.bool false) ∧ Dr w w') := fun w h => by rw [← hs]; exact sSizeOk A n c xs w hn h
    clear hl hs hp
    go_enter Tryz.func82, Tryz.ntmps82
    go_wp2_with fail
    refine (HC.out _ hx0).mono ?_
    rintro e w' ⟨rfl, m, rfl⟩
    go_wp2_with fail
    go_ret2
    rw [HN.out]
    exact RetC.empty he (below_drewN hb0 m)
  · have HC : Hid (∀ w, Cs w A n xs → Calls Tryz.prog 101 #[.slice A n c] w fun e w' => e = .returned (.bool true) ∧ Dr w w') := fun w h => by rw [← hs]; exact sSizeOk A n c xs w hn h
    obtain ⟨s1, s2, s3, s4, s5⟩ := siz_parts hs
    rw [hl] at s1 s4 s5
    have HY := Lib.hid (transF_yes hs hl)
    have HT : Hid (∀ (k : Nat) w', k < n → Cs w' A n xs → Calls Tryz.prog 102 #[.slice A n c, .int .i64 (bk n (-(k : Int)))] w' (RetQ2 w' (sumT xs (bk n (-(k : Int))) n))) := fun k w' hk h => by
      obtain ⟨b1, b2⟩ := bk_bd s1 (k := -(k : Int)) (by omega) (by omega)
      refine sSum A n c xs (bk n (-(k : Int))) w' s4 h s3 b1 b2 fun i hi => ?_
      have := hp hs k i (by omega) (by omega)
      rw [hl, show (-1 : Int) * (k : Int) = -(k : Int) by omega] at this
      exact this
    have HBK : Hid (∀ k : Nat, k < n → IntKind.i64.wrap (-(k : Int) * (16 / (n : Int))) = bk n (-(k : Int))) := fun k hk => by
      obtain ⟨b1, b2⟩ := bk_bd s1 (k := -(k : Int)) (by omega) (by omega)
      have : -(k : Int) * (16 / (n : Int)) = bk n (-(k : Int)) := by unfold bk; exact Int.mul_comm _ _
      rw [this]; exact IntWalk.i64_in _ (by omega)
    have HE := Lib.hid he
    have HB0 := Lib.hid hb0
    clear hl hs hp s1 s2 s3 he hb0
    go_enter Tryz.func82, Tryz.ntmps82
    go_wp2_with fail
    refine (HC.out _ hx0).mono ?_
    rintro e w' ⟨rfl, m, rfl⟩
    have HO1 : Hid (Ow ((w.alloc (.cells #[] 73)).drewN m) w.heap.size 73 (.slice (some ⟨w.heap.size, 0, none⟩) 0 0) 0 []) := HE.out.drewN m
    have HB1 : Hid (Below w.heap.size w ((w.alloc (.cells #[] 73)).drewN m)) := below_drewN HB0.out m
    clear hx0
    go_wp2_with fail
    go_loopw [4, 5] (fun v i wr => ∃ (k : Nat) (l : List C), k ≤ n ∧ i = .int .i64 k ∧ allT (fun k => sumT xs (bk n (-(k : Int))) n) k = some l ∧ Ow wr w.heap.size 73 v k (l.map cv) ∧ Below w.heap.size w wr) (fun _ i _ => n - (intOf i).toNat)
    case atStart => exact ⟨0, [], by omega, rfl, rfl, HO1.out, HB1.out⟩
    case round =>
      obtain ⟨k, l, hk, rfl, hal, ho, hb⟩ := hrel
      have HA := Lib.hid hal
      have HO := Lib.hid ho
      have HB := Lib.hid hb
      clear hal ho hb
      by_cases hlt : k < n
      · have e1 : IntKind.i64.wrap (-(k : Int)) = -(k : Int) := IntWalk.i64_in _ (by omega)
        have e2 := HBK.out k hlt
        go_wp2_with fail
        refine (HT.out k wr hlt (hx.below HB.out)).mono ?_
        rintro e w2 ⟨rfl, hb2⟩
        have HB2 : Hid (Below w.heap.size w w2) := HB.out.trans (hb2.mono HB.out.size)
        have HO2 := Lib.hid (HO.out.below hb2)
        clear hb2
        cases hz : sumT xs (bk n (-(k : Int))) n with
        | none =>
          have HN : Hid (transF xs = none) := by show _ = _; rw [HY.out]; exact allT_none (allT_stop HA.out hz) n (by omega)
          clear hz
          simp only [Option.getD_none, Option.isSome_none]
          go_wp2_with fail
          go_ret2
          rw [HN.out]
          exact RetC.empty ((Ow.empty w2 73).mono HB2.out.size) (HB2.out.alloc HB2.out.size _)
        | some z =>
          have HNX := Lib.hid (allT_step HA.out hz)
          clear hz
          simp only [Option.getD_some, Option.isSome_some]
          unfold cv
          have hsz := HB2.out.size
          go_wp2_with (at_builtin; refine wl_appB w.heap.size [.complex .f32 z.1 z.2] hsz rfl (.tmp 33) (.tmp 35) 23 rfl Tryz.eC _ k _ rfl HO2.out rfl (by simp [Value.oneCell']) (by simp [maxLen]; omega) (by simp; omega) ?_; intro v' w4 ho4 hb4)
          go_roundw
          case rel => exact ⟨k + 1, l ++ [z], by omega, by go_num, HNX.out, by rw [List.map_append]; exact ho4, HB2.out.trans hb4⟩
          case measure => simp [intOf]; omega
      · obtain rfl : k = n := by omega
        have HR : Hid (transF xs = some l) := by show _ = _; rw [HY.out]; exact HA.out
        obtain ⟨A2, c2, rfl⟩ := HO.out.shape
        go_wp2_with fail
        go_ret2
        rw [HR.out]
        exact ⟨_, _, _, rfl, HO.out, HB.out⟩
end Go.Proofs.YtnomlkkhkacajaaGreatDoor
namespace Go.Proofs.YtnomlkkhkacajaaGreatDoor
open Ieee

/-- Where the digits come out even, the quotient is exact ahead of its rounding. -/
theorem quot_even {f : Format} {x y : Nat} (hx : Fin f x) (hy : Fin f y) (h0 : val f y ≠ 0)
    (hev : ∀ s m i t n j, f.read x = .number s m i → f.read y = .number t n j → (m <<< (f.fractionBits + 2 + n.log2 - m.log2)) % n = 0) :
    ∃ r, f.div x y = some r ∧ Rnd f (val f x / val f y) r := by
  obtain ⟨m, i, e1, e2⟩ := read_fin f hx
  obtain ⟨n, j, e3, e4⟩ := read_fin f hy
  have hz := hev _ m i _ n j e1 e3
  have hn0 : n ≠ 0 := by
    rintro rfl
    apply h0; unfold val; rw [← e4]; simp [sr_zero]
  let more := f.fractionBits + 2 + n.log2 - m.log2
  let dividend := m <<< more
  let k := 2 * (dividend / n) + (dividend % n != 0).toNat
  refine ⟨f.write (.number (sg f x ^^ sg f y) k (i - j - more - 1)), ?_, ⟨sg f x ^^ sg f y, k, i - j - more - 1, rfl, ?_⟩⟩
  · unfold Format.div
    rw [e1, e3]
    show Option.map f.write (if n = 0 then _ else _) = _
    rw [if_neg hn0]; rfl
  have hnp : (0 : Rat) < (n : Rat) := Rat.natCast_pos.2 (by omega)
  have hpj := p2_pos j
  have hden : (0 : Rat) < (n : Rat) * p2 j := Rat.mul_pos hnp hpj
  obtain ⟨Q, hQ⟩ : ∃ Q, Q = ((m : Rat) * p2 i) / ((n : Rat) * p2 j) := ⟨_, rfl⟩
  have hQm : Q * ((n : Rat) * p2 j) = (m : Rat) * p2 i := by rw [hQ]; exact Rat.div_mul_cancel (by grind)
  have hval : val f x / val f y = sr (sg f x ^^ sg f y) Q := by
    unfold val
    rw [← e2, ← e4]
    have hne : sr (sg f y) ((n : Rat) * p2 j) ≠ 0 := by cases sg f y <;> simp only [sr_true, sr_false] <;> grind
    have h1 : sr (sg f x ^^ sg f y) Q * sr (sg f y) ((n : Rat) * p2 j) = sr (sg f x) ((m : Rat) * p2 i) := by
      rw [← hQm]
      cases sg f x <;> cases sg f y <;> simp only [sr_true, sr_false, Bool.bne_false, Bool.bne_true, Bool.not_true, Bool.not_false] <;> grind
    rw [← h1, Rat.mul_div_cancel hne]
  rw [hval]
  congr 1
  obtain ⟨T, hT⟩ : ∃ T, T = ((dividend : Nat) : Rat) / (n : Rat) := ⟨_, rfl⟩
  have hTn : T * (n : Rat) = (dividend : Rat) := by rw [hT]; exact Rat.div_mul_cancel (by grind)
  have hQT : Q = (2 * T) * p2 (i - j - more - 1) := by
    have h1 : ((2 * T) * p2 (i - j - more - 1)) * ((n : Rat) * p2 j) = Q * ((n : Rat) * p2 j) := by
      rw [hQm]
      have h2 : (dividend : Rat) = (m : Rat) * p2 more := by
        show ((m <<< more : Nat) : Rat) = _
        rw [Nat.shiftLeft_eq, Rat.natCast_mul, p2_nat]
      have h3 : p2 i = p2 more * (2 * p2 (i - j - more - 1)) * p2 j := by
        rw [← p2_succ, ← p2_add, ← p2_add]; congr 1; omega
      rw [h3]
      calc ((2 * T) * p2 (i - j - more - 1)) * ((n : Rat) * p2 j) = (T * (n : Rat)) * (2 * p2 (i - j - more - 1)) * p2 j := by grind
        _ = (m : Rat) * p2 more * (2 * p2 (i - j - more - 1)) * p2 j := by rw [hTn, h2]
        _ = _ := by grind
    refine Rat.le_antisymm ?_ ?_
    · exact Rat.le_of_mul_le_mul_right (by rw [h1]; exact Rat.le_refl) hden
    · exact Rat.le_of_mul_le_mul_right (by rw [h1]; exact Rat.le_refl) hden
  have hdm := Nat.div_add_mod dividend n
  have hz' : dividend % n = 0 := hz
  have hdmR : (n : Rat) * ((dividend / n : Nat) : Rat) + ((dividend % n : Nat) : Rat) = (dividend : Rat) := by
    rw [← Rat.natCast_mul, ← Rat.natCast_add, hdm]
  have hTe : T = ((dividend / n : Nat) : Rat) := by
    rw [hz'] at hdmR
    simp at hdmR
    refine Rat.le_antisymm (Rat.le_of_mul_le_mul_right (by rw [hTn]; grind) hnp) (Rat.le_of_mul_le_mul_right (by rw [hTn]; grind) hnp)
  have hkc : (k : Rat) = 2 * T := by
    have h1 : k = 2 * (dividend / n) := by
      show 2 * (dividend / n) + (dividend % n != 0).toNat = _
      rw [hz']; rfl
    rw [h1, Rat.natCast_mul, hTe]; rfl
  rw [hQT, hkc]
theorem read_small {x : Nat} {s : Bool} {m : Nat} {i : Int} (h : double.read x = .number s m i) : m < 2 ^ 53 := by
  have e : double.read x = if rg double x < double.binade then .number (sg double x) (rg double x) double.leastPlace
      else if rg double x < double.infRung then .number (sg double x) (double.binade + rg double x % double.binade) (double.leastPlace + (rg double x / double.binade - 1 : Nat))
      else if rg double x = double.infRung then .infinity (sg double x) else .nan (sg double x) (rg double x - double.infRung) := rfl
  have hbn : double.binade = 4503599627370496 := rfl
  have h53 : (2 : Nat) ^ 53 = 9007199254740992 := by decide
  rw [h] at e
  split at e
  · injection e with _ h1 _
    omega
  · split at e
    · injection e with _ h1 _
      have := Nat.mod_lt (rg double x) (show 0 < double.binade by rw [hbn]; decide)
      omega
    · split at e <;> cases e
/-- By a power of two, in double precision. -/
theorem quot_pow {x y : Nat} (hx : Fin double x) (hfy : Fin double y) (t : Bool) (j : Int) (hy : double.read y = .number t 4503599627370496 j) :
    ∃ r, double.div x y = some r ∧ Rnd double (val double x / val double y) r := by
  obtain ⟨n, j', e3, e4⟩ := read_fin double hfy
  rw [hy] at e3
  injection e3 with e5 e6 e7
  have hv0 : val double y ≠ 0 := by
    unfold val
    rw [← e4, ← e6]
    have := p2_pos j'
    have c : ((4503599627370496 : Nat) : Rat) = 4503599627370496 := rfl
    rw [c]
    cases sg double y <;> simp only [sr_true, sr_false] <;> grind
  refine quot_even hx hfy hv0 ?_
  intro s m i t' n' j'' h1 h2
  rw [hy] at h2
  injection h2 with _ h3 _
  subst h3
  have hm : m < 2 ^ 53 := read_small h1
  have hl : m.log2 ≤ 52 := by
    rcases Nat.eq_zero_or_pos m with rfl | h
    · decide
    · have := Nat.log2_self_le (n := m) (by omega)
      have h53 : 2 ^ m.log2 < 2 ^ 53 := by omega
      have := (Nat.pow_lt_pow_iff_right (a := 2) (by decide)).1 h53
      omega
  have h52 : (4503599627370496 : Nat).log2 = 52 := by decide
  rw [h52, Nat.shiftLeft_eq]
  show m * 2 ^ (52 + 2 + 52 - m.log2) % 4503599627370496 = 0
  obtain ⟨d, hd⟩ : ∃ d, 52 + 2 + 52 - m.log2 = 52 + d := ⟨54 - m.log2, by omega⟩
  rw [hd, Nat.pow_add, show (2 : Nat) ^ 52 = 4503599627370496 by decide, ← Nat.mul_assoc, Nat.mul_comm m, Nat.mul_assoc]
  exact Nat.mul_mod_right _ _
end Go.Proofs.YtnomlkkhkacajaaGreatDoor
