/- Texts on the way to a law (D5, E2, G1, G2), each with its own remark. -/
import Derived.Test.YtnomlkkhkacajaaGreatDoorPB13
import Derived.Test.YtnomlkkhkacajaaGreatDoorPB11
namespace Go.Proofs.YtnomlkkhkacajaaGreatDoor
open Go.RowKit

/-- A signal that may be anything at one place, or is too long. -/
def DrawnL (xs : List C) : Prop := xs.length = 17 ∨ ∃ j, (∀ i, i < xs.length → i ≠ j → Ord (nth xs i)) ∧ (j < xs.length → Spc (nth xs j))
def RetL (w : World) (g p : Nat) (n : Int) (e : Ending) (w' : World) : Prop :=
  ∃ A m c xs, e = .returned (.slice A m c) ∧ Ow w' w.heap.size 73 (.slice A m c) m (xs.map cv) ∧ xs.length ≤ 17 ∧ DrawnL xs ∧ (n ≤ 0 → ∀ z ∈ xs, Ord z) ∧ Rd w' g p ∧ Pk g w w'
theorem ord_one {xs : List C} {z : C} (h : ∀ u ∈ xs, Ord u) (hz : Ord z) : ∀ u ∈ xs ++ [z], Ord u := by
  intro u hu
  rcases List.mem_append.1 hu with h1 | h1
  · exact h u h1
  · rw [List.mem_singleton.1 h1]; exact hz
theorem drawn_ord {xs : List C} (h : ∀ u ∈ xs, Ord u) : DrawnL xs :=
  .inr ⟨xs.length, fun i hi _ => by rw [nth_eq hi]; exact h _ (List.getElem_mem hi), fun h => absurd h (Nat.lt_irrefl _)⟩
theorem drawn_set {xs : List C} (h : ∀ u ∈ xs, Ord u) (j : Nat) {z : C} (hz : Spc z) : DrawnL (xs.set j z) := by
  refine .inr ⟨j, fun i hi hij => ?_, fun hj => ?_⟩
  · rw [nth_eq hi, List.getElem_set_ne (by omega)]; exact h _ (List.getElem_mem _)
  · rw [nth_eq hj, List.getElem_set_self]; exact hz

set_option maxHeartbeats 2000000 in
set_option maxRecDepth 100000 in
theorem signal_any (g p pts : Nat) (n : Int) (w : World) (hp : p ≤ 800000) (hn : n ≤ 1000000) (hpt : pts ≤ 17) (hr : Rd w g p) :
    Calls Tryz.prog 72 #[.pointer (some ⟨g, 0, none⟩), .int .i64 pts, .int .i64 n] w (RetL w g (p + 6 * pts + 10) n) := by
  have hlt := hr.lt
  have he := Ow.empty w 73
  have hb0 := below_alloc w (.cells #[] 73)
  go_enter Tryz.func72, Tryz.ntmps72
  go_wp2_with fail
  refine (pick_any g p 3 _ (by omega) (by omega) (hr.below hb0)).mono ?_
  rintro e w1 ⟨kind, rfl, hv, hr1, hp1⟩
  obtain ⟨v1, v2, _⟩ := hv
  have v3 := v2 (by omega)
  have h3 : kind = 0 ∨ kind = 1 ∨ kind = 2 := by omega
  clear v1 v2 v3
  have ho1 := he.pk hp1 hlt
  have HP1 : Hid (Pk g w w1) := (Pk.of_below hb0).trans hp1
  have HO1 := Lib.hid ho1
  have HR1 := Lib.hid hr1
  have HK := Lib.hid h3
  clear he hb0 hr1 hp1 hr ho1 h3
  go_wp2_with fail
  go_loopw [7, 9] (fun v i wr => ∃ (k : Nat) (xs : List C), k ≤ pts ∧ i = .int .i64 k ∧ xs.length = k ∧ (∀ z ∈ xs, Ord z) ∧ Ow wr w.heap.size 73 v k (xs.map cv) ∧ Rd wr g (p + 1 + 6 * k) ∧ Pk g w wr) (fun _ i _ => pts - (intOf i).toNat)
  case atStart => exact ⟨0, [], by omega, rfl, rfl, by simp, HO1.out, HR1.out.mono (by omega), HP1.out⟩
  case round =>
    obtain ⟨k, xs, hk, rfl, hlen, hord, ho, hrd, hpk⟩ := hrel
    have HX := Lib.hid hord
    have HL := Lib.hid hlen
    clear hord hlen
    by_cases hlt2 : k < pts
    · have h3 := HK.out
      rcases h3 with rfl | rfl | rfl
      · have HO := Lib.hid ho
        have HP := Lib.hid hpk
        have HR := Lib.hid hrd
        clear ho hpk hrd
        go_wp2_with fail
        refine (pick_any g (p + 1 + 6 * k) 21 wr (by omega) (by omega) HR.out).mono ?_
        rintro e w2 ⟨a, rfl, hv, hr2, hp2⟩
        obtain ⟨a1, a2, _⟩ := hv
        have a3 := a2 (by omega)
        have e1 : IntKind.i64.wrap (a - 10) = a - 10 := IntWalk.i64_in _ (by omega)
        have e2 : IntKind.i64.wrap ((a - 10) * 1000) = (a - 10) * 1000 := IntWalk.i64_in _ (by omega)
        clear a2
        go_wp2_with fail
        refine (pick_any g (p + 1 + 6 * k + 1) 21 w2 (by omega) (by omega) hr2).mono ?_
        rintro e w3 ⟨b, rfl, hv, hr3, hp3⟩
        obtain ⟨b1, b2, _⟩ := hv
        have b3 := b2 (by omega)
        have e3 : IntKind.i64.wrap (b - 10) = b - 10 := IntWalk.i64_in _ (by omega)
        have e4 : IntKind.i64.wrap ((b - 10) * 1000) = (b - 10) * 1000 := IntWalk.i64_in _ (by omega)
        clear b2
        have hz : Ord (milli ((a - 10) * 1000) ((b - 10) * 1000)) := ⟨_, _, by omega, by omega, by omega, by omega, rfl⟩
        have hm : ∀ w, Calls Tryz.prog 107 #[.int .i64 ((a - 10) * 1000), .int .i64 ((b - 10) * 1000)] w fun e w' => e = .returned (.complex .f32 (milli ((a - 10) * 1000) ((b - 10) * 1000)).1 (milli ((a - 10) * 1000) ((b - 10) * 1000)).2) ∧ w' = w := fun w => sMilli _ _ w
        generalize milli ((a - 10) * 1000) ((b - 10) * 1000) = z at *
        have HM := Lib.hid hm
        have HZ := Lib.hid hz
        have HP3 : Hid (Pk g w w3) := (HP.out.trans hp2).trans hp3
        have HO3 : Hid _ := (HO.out.pk hp2 hlt).pk hp3 hlt
        have HR3 := Lib.hid hr3
        clear hm hz hp2 hp3 hr2 hr3
        go_wp2_with fail
        refine (HM.out _).mono ?_
        rintro e w' ⟨rfl, rfl⟩
        have hsz := HP3.out.size
        go_wp2_with (at_builtin; refine wl_appB w.heap.size [.complex .f32 z.1 z.2] hsz rfl (.tmp 26) (.tmp 36) 23 rfl Tryz.eC _ k _ rfl HO3.out rfl (by simp [Value.oneCell']) (by simp [maxLen]; omega) (by simp; omega) ?_; intro v' w4 ho4 hb4)
        go_roundw
        case rel => exact ⟨k + 1, xs ++ [z], by omega, by go_num, by rw [List.length_append, HL.out]; rfl, ord_one HX.out HZ.out, by rw [List.map_append]; exact ho4, (HR3.out.belowB hb4 hlt).mono (by omega), HP3.out.belowB hb4 (Nat.le_refl _)⟩
        case measure => simp [intOf]; omega
      · have HO := Lib.hid ho
        have HP := Lib.hid hpk
        have HR := Lib.hid hrd
        clear ho hpk hrd
        go_wp2_with fail
        refine (pick_any g (p + 1 + 6 * k) 9 wr (by omega) (by omega) HR.out).mono ?_
        rintro e w2 ⟨a, rfl, hv, hr2, hp2⟩
        obtain ⟨a1, a2, _⟩ := hv
        have a3 := a2 (by omega)
        have e1 : IntKind.i64.wrap (a - 4) = a - 4 := IntWalk.i64_in _ (by omega)
        have e2 : IntKind.i64.wrap ((a - 4) * 250) = (a - 4) * 250 := IntWalk.i64_in _ (by omega)
        clear a2
        have hz : Ord (milli ((a - 4) * 250) 0) := ⟨_, _, by omega, by omega, by omega, by omega, rfl⟩
        have hm : ∀ w, Calls Tryz.prog 107 #[.int .i64 ((a - 4) * 250), .int .i64 0] w fun e w' => e = .returned (.complex .f32 (milli ((a - 4) * 250) 0).1 (milli ((a - 4) * 250) 0).2) ∧ w' = w := fun w => sMilli _ _ w
        generalize milli ((a - 4) * 250) 0 = z at *
        have HM := Lib.hid hm
        have HZ := Lib.hid hz
        have HP3 : Hid (Pk g w w2) := HP.out.trans hp2
        have HO3 : Hid _ := HO.out.pk hp2 hlt
        have HR3 := Lib.hid hr2
        clear hm hz hp2 hr2
        go_wp2_with fail
        refine (HM.out _).mono ?_
        rintro e w' ⟨rfl, rfl⟩
        have hsz := HP3.out.size
        go_wp2_with (at_builtin; refine wl_appB w.heap.size [.complex .f32 z.1 z.2] hsz rfl (.tmp 40) (.tmp 46) 23 rfl Tryz.eC _ k _ rfl HO3.out rfl (by simp [Value.oneCell']) (by simp [maxLen]; omega) (by simp; omega) ?_; intro v' w4 ho4 hb4)
        go_roundw
        case rel => exact ⟨k + 1, xs ++ [z], by omega, by go_num, by rw [List.length_append, HL.out]; rfl, ord_one HX.out HZ.out, by rw [List.map_append]; exact ho4, (HR3.out.belowB hb4 hlt).mono (by omega), HP3.out.belowB hb4 (Nat.le_refl _)⟩
        case measure => simp [intOf]; omega
      · have HO := Lib.hid ho
        have HP := Lib.hid hpk
        have HR := Lib.hid hrd
        clear ho hpk hrd
        go_wp2_with fail
        refine (num_any g (p + 1 + 6 * k) 0 wr (by omega) (by omega) HR.out).mono ?_
        rintro e w2 ⟨z, rfl, hz, _, hr2, hp2⟩
        unfold cv
        have HZ := Lib.hid (hz (by omega))
        have HP3 : Hid (Pk g w w2) := HP.out.trans hp2
        have HO3 : Hid _ := HO.out.pk hp2 hlt
        have HR3 := Lib.hid hr2
        have hsz := HP3.out.size
        clear hz hp2 hr2
        go_wp2_with (at_builtin; refine wl_appB w.heap.size [.complex .f32 z.1 z.2] hsz rfl (.tmp 19) (.tmp 22) 23 rfl Tryz.eC _ k _ rfl HO3.out rfl (by simp [Value.oneCell']) (by simp [maxLen]; omega) (by simp; omega) ?_; intro v' w4 ho4 hb4)
        go_roundw
        case rel => exact ⟨k + 1, xs ++ [z], by omega, by go_num, by rw [List.length_append, HL.out]; rfl, ord_one HX.out HZ.out, by rw [List.map_append]; exact ho4, (HR3.out.belowB hb4 hlt).mono (by omega), HP3.out.belowB hb4 (Nat.le_refl _)⟩
        case measure => simp [intOf]; omega
    · obtain rfl : k = pts := by omega
      have HO := Lib.hid ho
      have HP := Lib.hid hpk
      obtain ⟨A, c, rfl⟩ := ho.shape
      have hn17 : (k : Int) ≤ 1000000 := by omega
      clear ho hpk
      go_wp2_with fail
      refine (odd_any g (p + 1 + 6 * k) n wr (by omega) hn hrd).mono ?_
      rintro e w2 ⟨v, rfl, hv, hr2, hp2⟩
      have HO2 : Hid (Ow w2 w.heap.size 73 (.slice A k c) k (xs.map cv)) := Ow.pk HO.out hp2 hlt
      have HP2 : Hid (Pk g w w2) := HP.out.trans hp2
      have hsz := HP2.out.size
      have HV := Lib.hid hv
      clear hp2 hrd hv
      cases v with
      | false =>
        have HR2 := Lib.hid hr2
        clear hr2
        go_wp2_with fail
        go_ret
        exact ⟨_, _, _, xs, rfl, HO2.out, by rw [HL.out]; omega, drawn_ord HX.out, fun _ => HX.out, HR2.out.mono (by omega), HP2.out⟩
      | true =>
        have hn0 : ¬ n ≤ 0 := fun h => absurd (HV.out h) (by decide)
        have mk : ∀ w3, Pk g w w3 → Rd w3 g (p + 1 + 6 * k + 1 + 1) → ∀ w4, Ow w4 w.heap.size 73 (.slice (some ⟨w3.heap.size, 0, none⟩) 17 17) 17 (List.replicate 17 (.complex .f32 0 0)) → Below w3.heap.size w3 w4 →
            RetL w g (p + 6 * k + 10) n (.returned (.slice (some ⟨w3.heap.size, 0, none⟩) 17 17)) w4 := fun w3 h1 h2 w4 h3 h4 =>
          ⟨_, _, _, List.replicate 17 (0, 0), rfl, h3, by simp, .inl (by simp), fun h => absurd h hn0, (h2.below h4).mono (by omega), h1.belowB h4 h1.size⟩
        have MK := Lib.hid mk
        clear mk
        by_cases hk0 : k = 0
        · subst hk0
          have HR2 := Lib.hid hr2
          clear hr2
          go_wp2_with (at_make; refine wl_make (w0 := w2) rfl (.const (.int .i64 17)) (.const (.int .i64 17)) 23 rfl Tryz.eC .i64 .i64 17 _ _ rfl rfl rfl rfl (by omega) (by unfold maxLen; omega) (Below.refl _ _) ?_; intro w4 hown _ hb4)
          go_ret
          exact MK.out w2 HP2.out (HR2.out.mono (by omega)) w4 (hown.mono hsz) hb4
        · have hk1 : ((k : Int) == 0) = false := by rw [beq_eq_false_iff_ne]; omega
          go_wp2_with fail
          refine (pick_any g (p + 1 + 6 * k + 1) 4 w2 (by omega) (by omega) hr2).mono ?_
          rintro e w3 ⟨a, rfl, hv, hr3, hp3⟩
          obtain ⟨a1, a2, _⟩ := hv
          have HP3 : Hid (Pk g w w3) := HP2.out.trans hp3
          have HO3 : Hid (Ow w3 w.heap.size 73 (.slice A k c) k (xs.map cv)) := Ow.pk HO2.out hp3 hlt
          have hsz3 := HP3.out.size
          clear hp3 hr2 a2
          by_cases ha0 : a = 0
          · subst ha0
            have HR3 := Lib.hid hr3
            clear hr3
            go_wp2_with (at_make; refine wl_make (w0 := w3) rfl (.const (.int .i64 17)) (.const (.int .i64 17)) 23 rfl Tryz.eC .i64 .i64 17 _ _ rfl rfl rfl rfl (by omega) (by unfold maxLen; omega) (Below.refl _ _) ?_; intro w4 hown _ hb4)
            go_ret
            exact MK.out w3 HP3.out HR3.out w4 (hown.mono hsz3) hb4
          · have ha1 : (a == 0) = false := by rw [beq_eq_false_iff_ne]; exact ha0
            clear ha0
            go_wp2_with fail
            refine (pick_any g (p + 1 + 6 * k + 2) k w3 (by omega) hn17 hr3).mono ?_
            rintro e w4 ⟨q, rfl, hv, hr4, hp4⟩
            obtain ⟨q1, q2, _⟩ := hv
            have q3 := q2 (by omega)
            obtain ⟨j, rfl⟩ := Int.eq_ofNat_of_zero_le q1
            have HP4 : Hid (Pk g w w4) := HP3.out.trans hp4
            have HO4 : Hid (Ow w4 w.heap.size 73 (.slice A k c) k (xs.map cv)) := Ow.pk HO3.out hp4 hlt
            clear hp4 q2 hr3
            go_wp2_with fail
            refine (num_any g (p + 1 + 6 * k + 3) 1 w4 (by omega) (by omega) hr4).mono ?_
            rintro e w5 ⟨z, rfl, _, hz, hr5, hp5⟩
            have hj : j < k := by omega
            have ho5 : Ow w5 w.heap.size 73 (.slice A k c) k (xs.map cv) := Ow.pk HO4.out hp5 hlt
            have HP5 : Hid (Pk g w w5) := HP4.out.trans hp5
            have HZ := Lib.hid hz
            have HR5 := Lib.hid hr5
            clear hp5 hz hr4 hr5
            obtain ⟨g2, hg2, hge, hgl, hcell, hfr, hst⟩ := ho5.at_ hj
            subst hg2
            obtain ⟨u, hu⟩ : ∃ u, (xs.map cv)[j]? = some u := ⟨_, List.getElem?_eq_getElem (by rw [List.length_map, HL.out]; exact hj)⟩
            have hck := (hcell j hj).trans hu
            have hfr2 := hfr j
            have HS := Lib.hid (hst j (cv z))
            have HB : Hid (Below w.heap.size w5 (w5.setCell ⟨g2, j, none⟩ (cv z))) := (Below.refl _ _).setCell hge _
            unfold cv at HS HB ⊢
            clear hcell hfr hst ho5 hu
            go_wp2_with fail
            go_ret
            refine ⟨_, _, _, xs.set j z, rfl, ?_, by rw [List.length_set, HL.out]; omega, drawn_set HX.out j HZ.out, fun h => absurd h (by omega), (HR5.out.belowB HB.out hlt).mono (by omega), HP5.out.belowB HB.out (Nat.le_refl _)⟩
            rw [List.map_set]
            exact HS.out
end Go.Proofs.YtnomlkkhkacajaaGreatDoor
namespace Go.Proofs.YtnomlkkhkacajaaGreatDoor
open Go.RowKit

def wzT (xs : List C) (j : Nat) : List C := (List.range j).flatMap fun i => [nth xs i, (0, 0)]
theorem wzT_succ (xs : List C) (j : Nat) : wzT xs (j + 1) = wzT xs j ++ [nth xs j, (0, 0)] := by unfold wzT; rw [List.range_succ, List.flatMap_append]; simp
theorem wzT_len (xs : List C) : ∀ j, (wzT xs j).length = 2 * j
  | 0 => rfl
  | j + 1 => by rw [wzT_succ, List.length_append, wzT_len xs j]; rfl
/-- With noughts between. -/
def wzs (xs : List C) : List C := if sigB xs && decide (xs.length ≤ 8) then wzT xs xs.length else []
theorem wzs_no {xs : List C} (h : sigB xs = false ∨ 8 < xs.length) : wzs xs = [] := by
  unfold wzs
  rcases h with h | h
  · rw [h]; rfl
  · rw [decide_eq_false (by omega), Bool.and_false]; rfl
theorem wzs_yes {xs : List C} {n : Nat} (h : sigB xs = true) (hl : xs.length = n) (h8 : n ≤ 8) : wzs xs = wzT xs n := by unfold wzs; rw [h, hl, decide_eq_true h8]; rfl
theorem wz_set (l : List Value) {n k : Nat} (hl : l.length = 2 * k) (hk : k < n) (u : Value) : (l ++ List.replicate (2 * n - 2 * k) (Value.complex .f32 0 0)).set (2 * k) u = (l ++ [u, Value.complex .f32 0 0]) ++ List.replicate (2 * n - 2 * (k + 1)) (Value.complex .f32 0 0) := by
  obtain ⟨d, hd⟩ : ∃ d, 2 * n - 2 * k = d + 1 + 1 := ⟨2 * n - 2 * k - 2, by omega⟩
  have hd2 : 2 * n - 2 * (k + 1) = d := by omega
  rw [List.set_append_right _ _ (by omega), hl, Nat.sub_self, hd, hd2, List.replicate_succ, List.replicate_succ, List.set_cons_zero, List.append_assoc]
  rfl
theorem wz_get (l : List Value) {n k : Nat} (hl : l.length = 2 * k) (hk : k < n) : (l ++ List.replicate (2 * n - 2 * k) (Value.complex .f32 0 0))[2 * k]? = some (.complex .f32 0 0) := by
  rw [List.getElem?_append_right (by omega), hl, Nat.sub_self, List.getElem?_replicate, if_pos (by omega)]

end Go.Proofs.YtnomlkkhkacajaaGreatDoor
namespace Go.Proofs.YtnomlkkhkacajaaGreatDoor
open Go.RowKit

theorem whl1 : Whl Ieee.single 1065353216 1 := by
  have h := narrow_whl (int_whl (n := 1) (by decide)) (by decide)
  rwa [show narrow (floatOfInt .f64 1) = 1065353216 by decide] at h
theorem whlm1 : Whl Ieee.single 3212836864 (-1) := by
  have h := narrow_whl (int_whl (n := -1) (by decide)) (by decide)
  rwa [show narrow (floatOfInt .f64 (-1)) = 3212836864 by decide] at h
theorem whl0 : Whl Ieee.single 0 0 := ⟨zero32.1, by rw [zero32.2]; rfl⟩
/-- A quarter turn, so many times. -/
def rot (t : Int) : Int × Int := if t % 4 = 0 then (1, 0) else if t % 4 = 1 then (0, 1) else if t % 4 = 2 then (-1, 0) else (0, -1)
theorem rot_bd (t : Int) : (rot t = (1, 0) ∨ rot t = (0, 1) ∨ rot t = (-1, 0) ∨ rot t = (0, -1)) := by
  unfold rot; split
  · simp
  · split
    · simp
    · split <;> simp
theorem turn_whl {t : Int} (h1 : -2000 ≤ t) (h2 : t ≤ 2000) : WhlC (turnC (4 * t)) (rot t).1 (rot t).2 := by
  have hb : inB (4 * t) (-9999) 9999 = true := inB_true (by omega) (by omega)
  have e : turnC (4 * t) = nth turnL ((4 * t) % 16).toNat := by unfold turnC; rw [hb]; rfl
  rw [e]
  have m : t % 4 = 0 ∨ t % 4 = 1 ∨ t % 4 = 2 ∨ t % 4 = 3 := by omega
  unfold rot
  rcases m with h | h | h | h
  · rw [show (4 * t % 16).toNat = 0 by omega, h]; exact ⟨whl1, whl0⟩
  · rw [show (4 * t % 16).toNat = 4 by omega, h]; exact ⟨whl0, whl1⟩
  · rw [show (4 * t % 16).toNat = 8 by omega, h]; exact ⟨whlm1, whl0⟩
  · rw [show (4 * t % 16).toNat = 12 by omega, h]; exact ⟨whl0, whlm1⟩
theorem whlC_fin {z : C} {p q : Int} (h : WhlC z p q) : finB z = true := finB_iff.2 ⟨h.1.1, h.2.1⟩
theorem addC_whl {a b : C} {p q r s : Int} (ha : WhlC a p q) (hb : WhlC b r s) (h1 : (p + r).natAbs < 16777216) (h2 : (q + s).natAbs < 16777216) : WhlC (addC a b) (p + r) (q + s) := by
  obtain ⟨_, e1, e2⟩ := addC_spec (whlC_fin ha) (whlC_fin hb)
  rw [ha.1.2, hb.1.2, ← Rat.intCast_add] at e1
  rw [ha.2.2, hb.2.2, ← Rat.intCast_add] at e2
  exact ⟨rnd_int32 e1 h1, rnd_int32 e2 h2⟩
theorem m64_whl {x y : Nat} {p r : Int} (hx : Whl Ieee.single x p) (hy : Whl Ieee.single y r) (h : (p * r).natAbs < 9007199254740992) : Whl Ieee.double (m64 x y) (p * r) := by
  have := (m64_spec hx.1 hy.1).2.1
  rw [hx.2, hy.2, ← Rat.intCast_mul] at this
  exact rnd_int64 this h
theorem mulC_whl {a b : C} {p q r s : Int} (ha : WhlC a p q) (hb : WhlC b r s) (h1 : (p * r).natAbs < 4000000) (h2 : (q * s).natAbs < 4000000) (h3 : (p * s).natAbs < 4000000) (h4 : (q * r).natAbs < 4000000) :
    WhlC (mulC a b) (p * r - q * s) (p * s + q * r) := by
  have fa := whlC_fin ha
  have fb := whlC_fin hb
  have n1 := m64_whl ha.1 hb.1 (by omega)
  have n2 := m64_whl ha.2 hb.2 (by omega)
  have n3 := m64_whl ha.1 hb.2 (by omega)
  have n4 := m64_whl ha.2 hb.1 (by omega)
  have r1 := (re64_spec fa fb).2.1
  have r2 := (im64_spec fa fb).2.1
  rw [n1.2, n2.2, ← Rat.intCast_sub] at r1
  rw [n3.2, n4.2, ← Rat.intCast_add] at r2
  have w1 := rnd_int64 r1 (by omega)
  have w2 := rnd_int64 r2 (by omega)
  obtain ⟨s1, s2⟩ := mulC_rnd fa fb
  rw [w1.2] at s1
  rw [w2.2] at s2
  exact ⟨rnd_int32 s1 (by omega), rnd_int32 s2 (by omega)⟩
/-- A whole number, turned. -/
def gmul (p : Int × Int) (t : Int) : Int × Int := (p.1 * (rot t).1 - p.2 * (rot t).2, p.1 * (rot t).2 + p.2 * (rot t).1)
theorem gmul_bd {p : Int × Int} {M t : Int} (h1 : -M ≤ p.1) (h2 : p.1 ≤ M) (h3 : -M ≤ p.2) (h4 : p.2 ≤ M) : -M ≤ (gmul p t).1 ∧ (gmul p t).1 ≤ M ∧ -M ≤ (gmul p t).2 ∧ (gmul p t).2 ≤ M := by
  unfold gmul
  rcases rot_bd t with h | h | h | h <;> rw [h] <;> simp <;> omega
theorem mul_turn {z : C} {p : Int × Int} {t : Int} (hz : WhlC z p.1 p.2) (h1 : -1000000 ≤ p.1) (h2 : p.1 ≤ 1000000) (h3 : -1000000 ≤ p.2) (h4 : p.2 ≤ 1000000) (t1 : -2000 ≤ t) (t2 : t ≤ 2000) : WhlC (mulC z (turnC (4 * t))) (gmul p t).1 (gmul p t).2 := by
  refine mulC_whl hz (turn_whl t1 t2) ?_ ?_ ?_ ?_ <;> rcases rot_bd t with h | h | h | h <;> rw [h] <;> simp <;> omega
/-- The sum of the first whole numbers, turned. -/
def gs (p : Nat → Int × Int) (t : Int) : Nat → Int × Int
  | 0 => (0, 0)
  | i + 1 => ((gs p t i).1 + (gmul (p i) (t * i)).1, (gs p t i).2 + (gmul (p i) (t * i)).2)
theorem gs_bd {p : Nat → Int × Int} {t M : Int} {n : Nat} (hp : ∀ i, i < n → -M ≤ (p i).1 ∧ (p i).1 ≤ M ∧ -M ≤ (p i).2 ∧ (p i).2 ≤ M) :
    ∀ i, i ≤ n → -(M * i) ≤ (gs p t i).1 ∧ (gs p t i).1 ≤ M * i ∧ -(M * i) ≤ (gs p t i).2 ∧ (gs p t i).2 ≤ M * i
  | 0, _ => by simp [gs]
  | i + 1, h => by
    obtain ⟨a1, a2, a3, a4⟩ := gs_bd (t := t) hp i (by omega)
    obtain ⟨b1, b2, b3, b4⟩ := hp i (by omega)
    obtain ⟨c1, c2, c3, c4⟩ := gmul_bd (t := t * i) b1 b2 b3 b4
    have e : M * ((i + 1 : Nat) : Int) = M * i + M := by push_cast; rw [Int.mul_add, Int.mul_one]
    rw [e]
    unfold gs
    generalize M * (i : Int) = MI at *
    simp only
    omega
theorem sum_whl {xs : List C} {p : Nat → Int × Int} {t : Int} {n : Nat} (hn : n ≤ 4) (t1 : -16 ≤ t) (t2 : t ≤ 16) (hx : ∀ i, i < n → WhlC (nth xs i) (p i).1 (p i).2)
    (hp : ∀ i, i < n → -8000 ≤ (p i).1 ∧ (p i).1 ≤ 8000 ∧ -8000 ≤ (p i).2 ∧ (p i).2 ≤ 8000) :
    ∀ i, i ≤ n → ∃ s, sumT xs (4 * t) i = some s ∧ WhlC s (gs p t i).1 (gs p t i).2
  | 0, _ => ⟨(0, 0), rfl, whl0, whl0⟩
  | i + 1, h => by
    obtain ⟨s, e, hs⟩ := sum_whl hn t1 t2 hx hp i (by omega)
    obtain ⟨b1, b2, b3, b4⟩ := hp i (by omega)
    have hti : -64 ≤ t * (i : Int) ∧ t * (i : Int) ≤ 64 := by
      have : i = 0 ∨ i = 1 ∨ i = 2 ∨ i = 3 := by omega
      rcases this with rfl | rfl | rfl | rfl <;> constructor <;> omega
    have hm : WhlC (prodT xs (4 * t) i) (gmul (p i) (t * i)).1 (gmul (p i) (t * i)).2 := by
      unfold prodT
      rw [Int.mul_assoc]
      exact mul_turn (hx i (by omega)) (by omega) (by omega) (by omega) (by omega) (by omega) (by omega)
    obtain ⟨a1, a2, a3, a4⟩ := gs_bd (t := t) hp i (by omega)
    obtain ⟨c1, c2, c3, c4⟩ := gmul_bd (t := t * i) b1 b2 b3 b4
    have hi : (i : Int) ≤ 3 := by omega
    have hadd := addC_whl hs hm (by omega) (by omega)
    refine ⟨addC s (prodT xs (4 * t) i), ?_, hadd⟩
    show sumStep (sumT xs (4 * t) i) _ = _
    rw [e]
    unfold sumStep
    rw [Option.bind_some, whlC_fin hm, whlC_fin hadd]; rfl
end Go.Proofs.YtnomlkkhkacajaaGreatDoor
namespace Go.Proofs.YtnomlkkhkacajaaGreatDoor
open Go.RowKit

theorem allT_all {f : Nat → Option C} {Q : Nat → C → Prop} : ∀ n, (∀ k, k < n → ∃ z, f k = some z ∧ Q k z) → ∃ l, allT f n = some l ∧ l.length = n ∧ ∀ k, k < n → Q k (nth l k)
  | 0, _ => ⟨[], rfl, rfl, fun k hk => absurd hk (Nat.not_lt_zero _)⟩
  | n + 1, h => by
    obtain ⟨l, e, hl, hq⟩ := allT_all n fun k hk => h k (by omega)
    obtain ⟨z, ez, hz⟩ := h n (by omega)
    refine ⟨l ++ [z], allT_step e ez, by rw [List.length_append, hl]; rfl, fun k hk => ?_⟩
    by_cases hkn : k < n
    · have : nth (l ++ [z]) k = nth l k := by rw [nth_eq (by rw [List.length_append]; simp; omega), nth_eq (by omega), List.getElem_append_left (by omega)]
      rw [this]; exact hq k hkn
    · have hke : k = n := by omega
      subst hke
      have : nth (l ++ [z]) k = z := by rw [nth_eq (by rw [List.length_append]; simp; omega), List.getElem_append_right (by omega)]; simp [hl]
      rw [this]; exact hz
/-- Quarter turns for each point. -/
def tk (n : Nat) (k : Int) : Int := 4 / (n : Int) * k
theorem bk_tk {n : Nat} (h : n = 1 ∨ n = 2 ∨ n = 4) (k : Int) : bk n k = 4 * tk n k := by
  unfold bk tk
  rcases h with rfl | rfl | rfl <;> omega
theorem tk_bd {n : Nat} (h : n = 1 ∨ n = 2 ∨ n = 4) {k : Int} (h1 : -(n : Int) ≤ k) (h2 : k ≤ n) : -16 ≤ tk n k ∧ tk n k ≤ 16 := by
  unfold tk
  rcases h with rfl | rfl | rfl <;> constructor <;> omega
/-- A whole signal, with its numbers. -/
structure WSig (xs : List C) (n : Nat) (p : Nat → Int × Int) (M : Int) : Prop where
  len : xs.length = n
  whl : ∀ i, i < n → WhlC (nth xs i) (p i).1 (p i).2
  bd : ∀ i, i < n → -M ≤ (p i).1 ∧ (p i).1 ≤ M ∧ -M ≤ (p i).2 ∧ (p i).2 ≤ M
theorem WSig.fin {xs : List C} {n : Nat} {p : Nat → Int × Int} {M : Int} (h : WSig xs n p M) : xs.all finB = true := List.all_eq_true.2 fun z hz => by
  obtain ⟨i, hi, rfl⟩ := List.getElem_of_mem hz
  have := h.whl i (by rw [← h.len]; exact hi)
  rw [nth_eq hi] at this
  exact whlC_fin this
theorem WSig.siz {xs : List C} {n : Nat} {p : Nat → Int × Int} {M : Int} (h : WSig xs n p M) (hn : n = 1 ∨ n = 2 ∨ n = 4) : sizB xs = true := by
  unfold sizB sigB
  rw [h.fin, h.len]
  rcases hn with rfl | rfl | rfl <;> rfl
theorem WSig.of {xs : List C} {M : Int} (h : ∀ i, i < xs.length → Wh (nth xs i) M) : ∃ p, WSig xs xs.length p M := by
  have : ∀ i, ∃ q : Int × Int, i < xs.length → WhlC (nth xs i) q.1 q.2 ∧ -M ≤ q.1 ∧ q.1 ≤ M ∧ -M ≤ q.2 ∧ q.2 ≤ M := fun i => by
    by_cases hi : i < xs.length
    · obtain ⟨a, b, h1, h2⟩ := h i hi
      exact ⟨(a, b), fun _ => ⟨h1, h2⟩⟩
    · exact ⟨(0, 0), fun h => absurd h hi⟩
  exact ⟨fun i => (this i).choose, rfl, fun i hi => ((this i).choose_spec hi).1, fun i hi => ((this i).choose_spec hi).2⟩
theorem WSig.prod {xs : List C} {n : Nat} {p : Nat → Int × Int} {M : Int} (h : WSig xs n p M) (hn : n = 1 ∨ n = 2 ∨ n = 4) (hM : M ≤ 8000) {s : Int} (hs : s = 1 ∨ s = -1) : ProdOk xs s := by
  intro k i hk hi
  rw [h.len] at hk hi ⊢
  have hsk : -(n : Int) ≤ s * (k : Int) ∧ s * (k : Int) ≤ n := by rcases hs with rfl | rfl <;> constructor <;> omega
  obtain ⟨t1, t2⟩ := tk_bd hn hsk.1 hsk.2
  rw [bk_tk hn]
  obtain ⟨b1, b2, b3, b4⟩ := h.bd i hi
  have hti : -64 ≤ tk n (s * (k : Int)) * (i : Int) ∧ tk n (s * (k : Int)) * (i : Int) ≤ 64 := by
    have : i = 0 ∨ i = 1 ∨ i = 2 ∨ i = 3 := by omega
    rcases this with rfl | rfl | rfl | rfl <;> constructor <;> omega
  unfold prodT
  rw [Int.mul_assoc]
  exact whlC_fin (mul_turn (h.whl i hi) (by omega) (by omega) (by omega) (by omega) (by omega) (by omega))
/-- The spectrum of a whole signal is whole. -/
theorem WSig.trans {xs : List C} {n : Nat} {p : Nat → Int × Int} {M : Int} (h : WSig xs n p M) (hn : n = 1 ∨ n = 2 ∨ n = 4) (hM : M ≤ 8000) :
    ∃ l, transF xs = some l ∧ WSig l n (fun k => gs p (tk n (-(k : Int))) n) (4 * M) := by
  have hM0 : 0 ≤ M := by obtain ⟨b1, b2, _⟩ := h.bd 0 (by omega); omega
  have hp : ∀ i, i < n → -8000 ≤ (p i).1 ∧ (p i).1 ≤ 8000 ∧ -8000 ≤ (p i).2 ∧ (p i).2 ≤ 8000 := fun i hi => by
    obtain ⟨b1, b2, b3, b4⟩ := h.bd i hi
    omega
  obtain ⟨l, e, hl, hq⟩ := allT_all (f := fun k => sumT xs (bk n (-(k : Int))) n) (Q := fun k z => WhlC z (gs p (tk n (-(k : Int))) n).1 (gs p (tk n (-(k : Int))) n).2) n fun k hk => by
    obtain ⟨t1, t2⟩ := tk_bd hn (k := -(k : Int)) (by omega) (by omega)
    obtain ⟨s, e, hs⟩ := sum_whl (xs := xs) (p := p) (t := tk n (-(k : Int))) (n := n) (by omega) t1 t2 h.whl hp n (Nat.le_refl _)
    exact ⟨s, by show sumT xs (bk n _) n = _; rw [bk_tk hn]; exact e, hs⟩
  refine ⟨l, by rw [transF_yes (h.siz hn) h.len]; exact e, hl, hq, fun k hk => ?_⟩
  obtain ⟨a1, a2, a3, a4⟩ := gs_bd (p := p) (t := tk n (-(k : Int))) (M := M) (n := n) h.bd n (Nat.le_refl _)
  have e4 : M * (n : Int) ≤ 4 * M := by rcases hn with rfl | rfl | rfl <;> omega
  show -(4 * M) ≤ (gs p (tk n (-(k : Int))) n).1 ∧ _
  generalize M * (n : Int) = Mn at *
  omega
end Go.Proofs.YtnomlkkhkacajaaGreatDoor
