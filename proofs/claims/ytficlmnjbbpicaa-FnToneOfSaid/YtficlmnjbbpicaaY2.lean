/- The law FnToneOf, walked. -/
import Derived.Test.YtficlmnjbbpicaaY4
import Derived.Test.YtficlmnjbbpicaaV5
namespace Go.Proofs.Ytficlmnjbbpicaa
open Go.RowKit

theorem tonL_siz {n : Nat} {b : Int} (hn : p2B n = true) : sizB (tonL n b) = true := by
  have := p2B_iff.1 hn
  unfold sizB sigB
  rw [tonL_len, tonL_fin, hn]
  simp
  omega
theorem tonOk_parts {n k : Nat} {l : List C} (h : tonOk n k = true) (ht : transF (tonL n (16 / (n : Int) * (k : Int))) = some l) : (∀ i, i < n → NearV 4562254508917369340 (nth l i) (wantZ n k i)) ∧ (n ≤ 4 → ∀ i, i < n → EqV (nth l i) (wantZ n k i)) := by
  unfold tonOk at h
  rw [ht] at h
  simp only at h
  have h1 := fun i (hi : i < n) => List.all_eq_true.1 h i (List.mem_range.2 hi)
  refine ⟨fun i hi => ?_, fun h4 i hi => ?_⟩
  · have := h1 i hi
    simp only [Bool.and_eq_true, decide_eq_true_eq] at this
    exact this.1
  · have := h1 i hi
    simp only [Bool.and_eq_true, Bool.or_eq_true, decide_eq_true_eq] at this
    rcases this.2 with h5 | h5
    · omega
    · exact h5
theorem tonOk_small {n k : Nat} (hn : p2B n = true) (h16 : n ≠ 16) (hk : k < n) : tonOk n k = true := by
  have h4 := tonOk_4
  simp only [Bool.and_eq_true] at h4
  obtain ⟨⟨a1, a2⟩, a3⟩ := h4
  rcases p2B_iff.1 hn with rfl | rfl | rfl | rfl | rfl
  · rw [show k = 0 by omega]; exact a1
  · exact List.all_eq_true.1 a2 k (List.mem_range.2 hk)
  · exact List.all_eq_true.1 a3 k (List.mem_range.2 hk)
  · exact List.all_eq_true.1 tonOk_8 k (List.mem_range.2 hk)
  · omega
def wantL (n k : Nat) : List C := (List.range n).map (wantZ n k)
theorem wantL_nth {n k i : Nat} (h : i < n) : nth (wantL n k) i = wantZ n k i := by
  rw [nth_eq (by simp [wantL]; exact h)]
  simp [wantL]
theorem want_set (n k : Nat) : (List.replicate n (Value.complex .f32 0 0)).set k (.complex .f32 (floatOfInt .f32 n) 0) = (wantL n k).map cv := by
  refine List.ext_getElem (by simp [wantL]) fun i h1 h2 => ?_
  simp only [wantL, List.getElem_set, List.getElem_map, List.getElem_range, List.getElem_replicate, wantZ]
  by_cases h : k = i
  · rw [if_pos h, if_pos h.symm]; rfl
  · rw [if_neg h, if_neg (fun e => h e.symm)]; rfl
theorem tonB_parts {p k : Int} (h : tonB p k = true) : ∃ n kk : Nat, p = (n : Int) ∧ k = (kk : Int) ∧ kk < n ∧ p2B n = true ∧ n ≤ 16 ∧ 1 ≤ n := by
  unfold tonB at h
  simp only [Bool.and_eq_true, decide_eq_true_eq] at h
  obtain ⟨⟨h1, h2⟩, h3⟩ := h
  obtain ⟨kk, rfl⟩ := Int.eq_ofNat_of_zero_le h2
  have hp := p2I_iff.1 h1
  obtain ⟨n, rfl⟩ := Int.eq_ofNat_of_zero_le (show 0 ≤ p by omega)
  exact ⟨n, kk, rfl, rfl, by omega, by rw [← p2I_nat]; exact h1, by omega, by omega⟩

set_option maxHeartbeats 4000000 in
set_option maxRecDepth 100000 in
theorem lawToneOf0 (hok : ∀ k, k < 16 → tonOk 16 k = true) (hlay : ∀ {n k j : Nat}, p2B n = true → n ≤ 4 → k < n → j < n → layOk n k j = true) (A : Option Addr) (n c : Nat) (w : World) (hnc : n ≤ c) (h : Code8 w A n) :
    Calls Try.prog 6 #[.slice A n c] w fun e w' => e = .returned (.bool true) ∧ Below w.heap.size w w' := by
  by_cases hbig : 1048576 < n
  · go_enter Try.func6, Try.ntmps6
    go_wp2_with fail
    go_ret
    exact ⟨rfl, Below.refl _ _⟩
  have hn2 : n ≤ 1048576 := by omega
  go_enter Try.func6, Try.ntmps6
  go_wp2_with fail
  refine (drawToneOf_any A n c w hnc hn2 h).mono ?_
  rintro e w1 ⟨p, k, rfl, p1, p2, k1, k2, hb1⟩
  go_wp2_with fail
  refine (iTone p k w1).mono ?_
  rintro e w2 ⟨A2, m2, c2, rfl, ho2, hb2⟩
  have HB2 : Hid (Below w.heap.size w w2) := hb1.trans (hb2.mono hb1.size)
  have H2 := Lib.hid ho2.sl
  have HL2 := ho2.len
  rw [List.length_map] at HL2
  have hm16 : m2 ≤ 16 := by have := (tonF_fin p k).2; omega
  clear ho2 hb1 hb2 h hnc
  go_wp2_with fail
  refine (sTone p k w2).mono ?_
  rintro e w3 ⟨A3, m3, c3, rfl, ho3, hb3⟩
  obtain rfl : m3 = m2 := by have h1 := ho3.len; rw [List.length_map] at h1; omega
  have H2b : Hid (Cs w3 A2 m3 (tonF p k)) := H2.out.below hb3
  have HB3 : Hid (Below w.heap.size w w3) := HB2.out.trans (hb3.mono HB2.out.size)
  have H3 : Hid (Cs w3 A3 m3 (tonF p k)) := ho3.sl
  have HEQ : Hid (∀ i, i < m3 → EqV (nth (tonF p k) i) (nth (tonF p k) i)) := fun i hi => EqV.refl (finB_iff.2 (all_fin_nth (tonF_fin p k).1 (by omega)))
  clear ho3 hb3
  go_wp2_with fail
  refine (sameSignal_true A2 A3 m3 c2 c3 _ _ w3 (by omega) H2b.out H3.out HEQ.out).mono ?_
  rintro e w4 ⟨rfl, k4, hw4⟩
  have H4 : Hid (Cs w4 A2 m3 (tonF p k)) := by rw [hw4]; exact H2b.out.drewN k4
  have HB4 : Hid (Below w.heap.size w w4) := by rw [hw4]; exact below_drewN HB3.out k4
  clear hw4
  cases hb : tonB p k
  · have hz : m3 = 0 := by rw [← HL2]; unfold tonF; rw [hb]; rfl
    subst hz
    go_wp2_with fail
    refine (alive_true _).mono ?_
    rintro e w5 ⟨rfl, rfl⟩
    go_wp2_with fail
    go_ret
    exact ⟨rfl, HB4.out⟩
  obtain ⟨N, kk, rfl, rfl, hkn, hpn, h16, h1N⟩ := tonB_parts hb
  have hxs : tonF (N : Int) (kk : Int) = tonL N (16 / (N : Int) * (kk : Int)) := tonF_yes hpn (by omega) (by omega)
  have hgd := good_ton (N : Int) (kk : Int)
  rw [hxs] at HL2 H4 hgd
  rw [tonL_len] at HL2
  obtain rfl : N = m3 := HL2
  have hsz : sizB (tonL N (16 / (N : Int) * (kk : Int))) = true := tonL_siz hpn
  obtain ⟨_, l, htr, hll, _⟩ := hgd hsz
  rw [tonL_len] at hll
  obtain ⟨hnear, heq⟩ := tonOk_parts (show tonOk N kk = true by
    by_cases h16 : N = 16
    · subst h16
      exact hok kk hkn
    · exact tonOk_small hpn h16 hkn) htr
  have HT : Hid (∀ w, Cs w A2 N (tonL N (16 / (N : Int) * (kk : Int))) → Calls Try.prog 32 #[.slice A2 N c2] w (RetC w l true)) := fun w h => by
    have := iTransform A2 N c2 _ w (by omega) h fun hs => (hgd hs).1
    rw [htr] at this
    exact this
  have HLL := Lib.hid hll
  have HNEAR : Hid (∀ i, i < N → NearV 4562254508917369340 (nth l i) (nth (wantL N kk) i)) := fun i hi => by rw [wantL_nth hi]; exact hnear i hi
  have HEQV : Hid (N ≤ 4 → ∀ i, i < N → EqV (nth l i) (nth (wantL N kk) i)) := fun h4 i hi => by rw [wantL_nth hi]; exact heq h4 i hi
  have HSG : Hid (∀ j : Nat, j < N → sigB (tonL N (16 / (N : Int) * (j : Int))) = true) := fun j hj => (siz_parts (tonL_siz hpn)).2.1
  have HLAY : Hid (∀ j : Nat, N ≤ 4 → j < N → layOk N kk j = true) := fun j h4 hj => hlay hpn h4 hkn hj
  have HPN := Lib.hid hpn
  have n0 : ((N : Int) == 0) = false := by rw [beq_eq_false_iff_ne]; omega
  have n0' : (N == 0) = false := by rw [beq_eq_false_iff_ne]; omega
  clear htr hll hnear heq hsz hb hxs hgd H2 H3 HEQ H2b p1 p2 k1 k2 hpn
  generalize hxx : tonL N (16 / (N : Int) * (kk : Int)) = xs at *
  have HXX := Lib.hid hxx
  clear hxx
  go_wp2_with fail
  refine (HT.out w4 H4.out).mono ?_
  rintro e w5 ⟨A5, m5, c5, rfl, ho5, hb5⟩
  obtain rfl : m5 = N := by have h1 := ho5.len; rw [List.length_map, HLL.out] at h1; exact h1.symm
  have H5 : Hid (Cs w5 A2 m5 xs) := H4.out.below hb5
  have HY : Hid (Cs w5 A5 m5 l) := ho5.sl
  have HB5 : Hid (Below w.heap.size w w5) := HB4.out.trans (hb5.mono HB4.out.size)
  clear ho5 hb5
  go_wp2_with (at_make; refine wl_make (w0 := w5) rfl (.tmp 38) (.tmp 38) 23 rfl Try.eC .i64 .i64 m5 _ _ rfl rfl rfl rfl (by omega) (by unfold maxLen; omega) (Below.refl _ _) ?_; intro w6 hown hb6 _; have HO6 : Hid (Ow w6 w5.heap.size 45 (.slice (some ⟨w5.heap.size, 0, none⟩) m5 m5) m5 (List.replicate m5 (.complex .f32 0 0))) := hown; have HB6 := Lib.hid hb6; obtain ⟨g, hg, hge, hgl, hcell, hfr, hst⟩ := Ow.at_ HO6.out hkn; injection hg with hg; injection hg with hg; subst hg; have hfr2 := hfr kk; have hck2 : w6.cell? ⟨w5.heap.size, kk, none⟩ = some (.complex .f32 0 0) := (hcell kk hkn).trans (by rw [List.getElem?_replicate, if_pos hkn]); have hst2 := hst kk (.complex .f32 (floatOfInt .f32 m5) 0); rw [want_set] at hst2; have HS6 := Lib.hid hst2; have HBS : Hid (Below w5.heap.size w5 (w6.setCell ⟨w5.heap.size, kk, none⟩ (.complex .f32 (floatOfInt .f32 m5) 0))) := hb6.setCell (Nat.le_refl _) _; clear hst2 hst hfr hcell hown hb6)
  all_goals
    obtain ⟨w7, hw7⟩ : ∃ w7, w7 = w6.setCell ⟨w5.heap.size, kk, none⟩ (.complex .f32 (floatOfInt .f32 m5) 0) := ⟨_, rfl⟩
    rw [← hw7] at HS6 HBS ⊢
    clear hw7 hck2 hfr2
    have H7 : Hid (Cs w7 A2 m5 xs) := H5.out.below HBS.out
    have HY7 : Hid (Cs w7 A5 m5 l) := HY.out.below HBS.out
    have HW7 : Hid (Cs w7 (some ⟨w5.heap.size, 0, none⟩) m5 (wantL m5 kk)) := HS6.out.sl
    have HB7 : Hid (Below w.heap.size w w7) := HB5.out.trans (HBS.out.mono HB5.out.size)
  · have h4 : m5 ≤ 4 := by omega
    have h4i : (m5 : Int) ≤ 4 := by omega
    go_wp2_with fail
    refine (sameSignal_true A5 _ m5 c5 m5 l _ w7 (by omega) HY7.out HW7.out (HEQV.out h4)).mono ?_
    rintro e w8 ⟨rfl, k8, hw8⟩
    have H8 : Hid (Cs w8 A2 m5 xs) := by rw [hw8]; exact H7.out.drewN k8
    have HY8 : Hid (Cs w8 A5 m5 l) := by rw [hw8]; exact HY7.out.drewN k8
    have HW8 : Hid (Cs w8 (some ⟨w5.heap.size, 0, none⟩) m5 (wantL m5 kk)) := by rw [hw8]; exact HW7.out.drewN k8
    have HB8 : Hid (Below w.heap.size w w8) := by rw [hw8]; exact below_drewN HB7.out k8
    clear hw8
    go_wp2_with fail
    refine (nearSignal_true A5 _ m5 c5 m5 l _ 4562254508917369340 w8 (by omega) (by decide +kernel) HY8.out HW8.out HNEAR.out).mono ?_
    rintro e w9 ⟨rfl, k9, hw9⟩
    have H9 : Hid (Cs w9 A2 m5 xs) := by rw [hw9]; exact H8.out.drewN k9
    have HW9 : Hid (Cs w9 (some ⟨w5.heap.size, 0, none⟩) m5 (wantL m5 kk)) := by rw [hw9]; exact HW8.out.drewN k9
    have HB9 : Hid (Below w.heap.size w w9) := by rw [hw9]; exact below_drewN HB8.out k9
    clear hw9
    go_wp2_with fail
    go_loopw [9] (fun i wr => ∃ j : Nat, j ≤ m5 ∧ i = .int .i64 j ∧ Below w9.heap.size w9 wr) (fun i _ => m5 - (intOf i).toNat)
    case atStart => exact ⟨0, by omega, rfl, Below.refl _ _⟩
    case round =>
      obtain ⟨j, hj, rfl, hbr⟩ := hrel
      have HBR := Lib.hid hbr
      clear hbr
      by_cases hlt : j < m5
      · have hji : (j : Int) < (m5 : Int) := by omega
        have hlay := HLAY.out j h4 hlt
        unfold layOk at hlay
        rw [HXX.out] at hlay
        simp only [Bool.and_eq_true, decide_eq_true_eq] at hlay
        obtain ⟨⟨l1, l2⟩, l3⟩ := hlay
        have HTON : Hid (∀ w, Calls Try.prog 24 #[.int .i64 (m5 : Int), .int .i64 (j : Int)] w (RetS w (tonL m5 (16 / (m5 : Int) * (j : Int))))) := fun w => by
          have := iTone (m5 : Int) (j : Int) w
          rw [tonF_yes HPN.out (by omega) (by omega)] at this
          exact this
        have HLD : Hid (∀ A' c' w', Cs w' A2 m5 xs → Cs w' A' m5 (tonL m5 (16 / (m5 : Int) * (j : Int))) → Calls Try.prog 34 #[.slice A2 m5 c2, .slice A' m5 c'] w' fun e w'' => e = .returned (.tuple #[cv ((layT xs (tonL m5 (16 / (m5 : Int) * (j : Int))) m5).getD (0, 0)), .bool true]) ∧ Dr w' w'') := fun A' c' w' h1 h2 =>
          iLaid A2 A' m5 c2 c' xs _ w' h1 h2 (by have := HSG.out kk hkn; rw [HXX.out] at this; exact this) (HSG.out j hlt)
            (fun i hi => by have := List.all_eq_true.1 l1 i (List.mem_range.2 hi); rw [Bool.and_eq_true] at this; exact this)
            (fun i hi => by
              have := List.all_eq_true.1 l2 i (List.mem_range.2 (by omega))
              cases hs : layT xs (tonL m5 (16 / (m5 : Int) * (j : Int))) i with
              | none => rw [hs] at this; cases this
              | some s => rw [hs] at this; exact ⟨s, rfl, this⟩)
        obtain ⟨v1, v2, v3, v4, v5, v6⟩ := l3
        have HTL : Hid ((tonL m5 (16 / (m5 : Int) * (j : Int))).length = m5) := tonL_len _ _
        generalize (layT xs (tonL m5 (16 / (m5 : Int) * (j : Int))) m5).getD (0, 0) = z at *
        generalize tonL m5 (16 / (m5 : Int) * (j : Int)) = ys at *
        obtain ⟨b, o, hbo, hbl, hc⟩ := HW9.out.at_ hlt
        injection hbo with hbo
        injection hbo with hbo1 hbo2
        subst hbo1
        subst hbo2
        have hcj := hc j hlt
        rw [wantL_nth hlt, Nat.zero_add] at hcj
        have o1 : (FloatKind.f32.format.order z.1 (wantZ m5 kk j).1 == some .eq) = true := by show (Ieee.single.order _ _ == _) = true; rw [eq_iff v1 v3, decide_eq_true_eq, v5]
        have o2 : (FloatKind.f32.format.order z.2 (wantZ m5 kk j).2 == some .eq) = true := by show (Ieee.single.order _ _ == _) = true; rw [eq_iff v2 v4, decide_eq_true_eq, v6]
        have HCJ := Lib.hid hcj
        clear hc hcj v1 v2 v3 v4 v5 v6 l1 l2
        go_wp2_with fail
        refine (HTON.out wr).mono ?_
        rintro e w10 ⟨A10, m10, c10, rfl, ho10, hb10⟩
        obtain rfl : m10 = m5 := by have h1 := ho10.len; rw [List.length_map, HTL.out] at h1; exact h1.symm
        have HB10 : Hid (Below w9.heap.size w9 w10) := HBR.out.trans (hb10.mono HBR.out.size)
        have H10 : Hid (Cs w10 A10 m10 ys) := ho10.sl
        have H2x : Hid (Cs w10 A2 m10 xs) := H9.out.below HB10.out
        clear ho10 hb10
        go_wp2_with fail
        refine (HLD.out A10 c10 w10 H2x.out H10.out).mono ?_
        rintro e w11 ⟨rfl, k11, hw11⟩
        have HB11 : Hid (Below w9.heap.size w9 w11) := by rw [hw11]; exact below_drewN HB10.out k11
        have hcell := (HB11.out.cell (p := ⟨w5.heap.size, j, none⟩) hbl).trans HCJ.out
        clear hw11 HCJ
        generalize wantZ m10 kk j = q at *
        unfold cv at hcell
        unfold cv
        go_wp2_with fail
        go_roundw
        case rel => exact ⟨j + 1, by omega, by go_num, HB11.out⟩
        case measure => simp [intOf]; omega
      · obtain rfl : j = m5 := by omega
        go_wp2_with fail
        go_ret
        exact ⟨rfl, HB9.out.trans (HBR.out.mono HB9.out.size)⟩
  · have h4 : ¬ m5 ≤ 4 := by omega
    have h4i : ¬ (m5 : Int) ≤ 4 := by omega
    have h5 : 4 < m5 := by omega
    have h4d : decide (m5 ≤ 4) = false := by simpa using h4
    have h4e : decide ((m5 : Int) ≤ 4) = false := by simpa using h4i
    go_wp2_with fail
    all_goals first | (exfalso; omega) | skip
    refine (nearSignal_true A5 _ m5 c5 m5 l _ 4562254508917369340 w7 (by omega) (by decide +kernel) HY7.out HW7.out HNEAR.out).mono ?_
    rintro e w9 ⟨rfl, k9, hw9⟩
    have HB9 : Hid (Below w.heap.size w w9) := by rw [hw9]; exact below_drewN HB7.out k9
    clear hw9
    go_wp2_with fail
    go_loopw [9] (fun i wr => i = .int .i64 0 ∧ w9 = wr) (fun _ _ => 0)
    case atStart => exact ⟨rfl, rfl⟩
    case round =>
      obtain ⟨rfl, rfl⟩ := hrel
      go_wp2_with fail
      all_goals first | (exfalso; omega) | skip
      all_goals first | (go_ret; exact ⟨rfl, HB9.out⟩) | (go_wp2_with fail; go_ret; exact ⟨rfl, HB9.out⟩)
end Go.Proofs.Ytficlmnjbbpicaa
