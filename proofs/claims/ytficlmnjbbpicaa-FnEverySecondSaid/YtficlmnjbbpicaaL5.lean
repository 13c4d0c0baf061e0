/- The law FnEverySecond, walked. -/
import Derived.Test.YtficlmnjbbpicaaL4
import Derived.Test.YtficlmnjbbpicaaD10
namespace Go.Proofs.Ytficlmnjbbpicaa
open Go.RowKit

theorem evT_nth (xs : List C) {j i : Nat} (h : i < j) : nth (evT xs j) i = nth xs (2 * i) := by
  rw [nth_eq (by rw [evT_len]; exact h)]
  unfold evT
  rw [List.getElem_map, List.getElem_range]
theorem sigB_parts {xs : List C} (h : sigB xs = true) : xs.length ≤ 16 ∧ xs.all finB = true := by
  unfold sigB at h
  rw [Bool.and_eq_true, decide_eq_true_eq] at h
  exact h
theorem nth_fin {xs : List C} (h : xs.all finB = true) (i : Nat) : finB (nth xs i) = true := by
  by_cases hi : i < xs.length
  · exact finB_iff.2 (all_fin_nth h hi)
  · unfold nth; rw [List.getD_eq_getElem?_getD, List.getElem?_eq_none (by omega)]; decide
theorem evT_fin {xs : List C} (h : xs.all finB = true) (j : Nat) : (evT xs j).all finB = true := List.all_eq_true.2 fun z hz => by
  unfold evT at hz
  obtain ⟨i, _, rfl⟩ := List.mem_map.1 hz
  exact nth_fin h _
theorem evs_fin (xs : List C) : (evs xs).all finB = true ∧ (evs xs).length ≤ 16 := by
  unfold evs
  split
  · rename_i h
    obtain ⟨h1, h2⟩ := sigB_parts h
    exact ⟨evT_fin h2 _, by rw [evT_len]; omega⟩
  · exact ⟨rfl, by simp⟩
theorem evs_wzs {xs : List C} {n : Nat} (hs : sigB xs = true) (hl : xs.length = n) (h8 : n ≤ 8) : (evs (wzs xs)).length = n ∧ ∀ i, i < n → EqV (nth (evs (wzs xs)) i) (nth xs i) := by
  have e1 := wzs_yes hs hl h8
  have h1 := wzs_fin xs
  have hs2 : sigB (wzs xs) = true := by unfold sigB; rw [h1.1, decide_eq_true h1.2]; rfl
  have hl2 : (wzs xs).length = 2 * n := by rw [e1, wzT_len]
  have e2 := evs_yes hs2 hl2
  rw [show (2 * n + 1) / 2 = n by omega] at e2
  rw [e2]
  refine ⟨evT_len _ _, fun i hi => ?_⟩
  rw [evT_nth _ hi, e1, (wzT_nth xs n i hi).1]
  exact EqV.refl (nth_fin (sigB_parts hs).2 i)
theorem ev_sig {xs : List C} {n half : Nat} {p : Nat → Int × Int} {M : Int} (h : WSig xs n p M) (hh : 2 * half = n) : WSig (evT xs half) half (fun i => p (2 * i)) M :=
  ⟨evT_len _ _, fun i hi => by rw [evT_nth _ hi]; exact h.whl _ (by omega), fun i hi => h.bd _ (by omega)⟩
theorem ev_gs {p : Nat → Int × Int} {n half : Nat} (hn : n = 2 ∨ n = 4) (hh : 2 * half = n) (k : Nat) (hk : k < half) :
    (gs p (tk n (-(k : Int))) n).1 + (gs p (tk n (-((k + half : Nat) : Int))) n).1 = 2 * (gs (fun i => p (2 * i)) (tk half (-(k : Int))) half).1 ∧
    (gs p (tk n (-(k : Int))) n).2 + (gs p (tk n (-((k + half : Nat) : Int))) n).2 = 2 * (gs (fun i => p (2 * i)) (tk half (-(k : Int))) half).2 := by
  rcases hn with rfl | rfl
  · obtain rfl : half = 1 := by omega
    have : k = 0 := by omega
    subst this
    constructor <;> simp [gs, gmul, tk, rot] <;> omega
  · obtain rfl : half = 2 := by omega
    have : k = 0 ∨ k = 1 := by omega
    rcases this with rfl | rfl <;> constructor <;> simp [gs, gmul, tk, rot] <;> omega
/-- Halves of the spectrum are the spectrum of the numbers at even places. -/
theorem ev_law {xs : List C} {n half : Nat} {p : Nat → Int × Int} (h : WSig xs n p 1000) (hn : n = 2 ∨ n = 4) (hh : 2 * half = n) :
    ∃ la lb lc, transF xs = some la ∧ transF (evT xs half) = some lb ∧ halF la = some lc ∧ la.length = n ∧ lb.length = half ∧ lc.length = half ∧ ∀ k, k < half → EqV (nth lb k) (nth lc k) := by
  obtain ⟨la, ea, sa⟩ := h.trans (by omega) (by omega)
  have he := ev_sig h hh
  obtain ⟨lb, eb, sb⟩ := he.trans (by omega) (by omega)
  obtain ⟨lc, ec, hlc, hq⟩ := sa.halves (sa.siz (by omega)) (by omega) (half := half) (q := fun k => gs (fun i => p (2 * i)) (tk half (-(k : Int))) half) (by omega) (by omega) (by omega) fun k hk => ev_gs hn hh k hk
  exact ⟨la, lb, lc, ea, eb, ec, sa.len, sb.len, hlc, fun k hk => eqV_whl (sb.whl k hk) (hq k hk)⟩

set_option maxHeartbeats 4000000 in
set_option maxRecDepth 100000 in
theorem lawEverySecond (A : Option Addr) (n c : Nat) (w : World) (hnc : n ≤ c) (h : Code8 w A n) :
    Calls Try.prog 10 #[.slice A n c] w fun e w' => e = .returned (.bool true) ∧ Below w.heap.size w w' := by
  by_cases hbig : 1048576 < n
  · go_enter Try.func10, Try.ntmps10
    go_wp2_with fail
    go_ret
    exact ⟨rfl, Below.refl _ _⟩
  have hn2 : n ≤ 1048576 := by omega
  go_enter Try.func10, Try.ntmps10
  go_wp2_with fail
  refine (drawEverySecond_any A n c w hnc hn2 h).mono ?_
  rintro e w1 ⟨A1, m, c1, xs, rfl, ho1, hm, _, hb1⟩
  have hl : xs.length = m := by have := ho1.len; rw [List.length_map] at this; exact this
  have HL := Lib.hid hl
  clear hl
  go_wp2_with fail
  refine (iEvery A1 m c1 xs w1 (by omega) ho1.sl).mono ?_
  rintro e w2 ⟨A2, m2, c2, rfl, ho2, hb2⟩
  have bw2 : Below w.heap.size w w2 := hb1.trans (hb2.mono hb1.size)
  have ho1' := ho1.below hb2
  go_wp2_with fail
  refine (sEvery A1 m c1 xs w2 (by omega) ho1'.sl).mono ?_
  rintro e w3 ⟨A3, m3, c3, rfl, ho3, hb3⟩
  have bw3 : Below w.heap.size w w3 := bw2.trans (hb3.mono bw2.size)
  have ho1'' := ho1'.below hb3
  have ho2' := ho2.below hb3
  obtain rfl : m3 = m2 := by have h1 := ho2.len; have h2 := ho3.len; omega
  have hly : (evs xs).length = m3 := by have := ho3.len; rw [List.length_map] at this; exact this
  have hm3 : m3 ≤ 16 := by rw [← hly]; exact (evs_fin xs).2
  have HLY := Lib.hid hly
  have EQ := Lib.hid (eqV_all (evs_fin xs).1 hly)
  clear hly
  go_wp2_with fail
  refine (sameSignal_true A2 A3 m3 c2 c3 _ _ w3 (by omega) ho2'.sl ho3.sl EQ.out).mono ?_
  rintro e w4 ⟨rfl, k4, hw4⟩
  have H1 : Hid (Ow w4 w.heap.size 45 (.slice A1 m c1) m (xs.map cv)) := by rw [hw4]; exact ho1''.drewN k4
  have H2 : Hid (Ow w4 w1.heap.size 45 (.slice A2 m3 c2) m3 ((evs xs).map cv)) := by rw [hw4]; exact ho2'.drewN k4
  have HB : Hid (Below w.heap.size w w4) := by rw [hw4]; exact below_drewN bw3 k4
  clear ho1 ho2 ho3 hb1 hb2 hb3 ho1' ho1'' ho2' bw2 bw3 hw4
  have HSG : Hid (∀ w, Cs w A1 m xs → Calls Try.prog 30 #[.slice A1 m c1] w fun e w' => e = .returned (.bool (sigB xs)) ∧ Dr w w') := fun w h => iSignalOk A1 m c1 xs w (by omega) h
  cases hs : sigB xs
  · have h0 : m3 = 0 := by rw [← HLY.out, evs_no hs]; rfl
    rw [hs] at HSG
    subst h0
    clear hs
    go_wp2_with fail
    refine (HSG.out w4 H1.out.sl).mono ?_
    rintro e w5 ⟨rfl, k5, hw5⟩
    have HB5 : Hid (Below w.heap.size w w5) := by rw [hw5]; exact below_drewN HB.out k5
    clear hw5
    go_wp2_with fail
    refine (alive_true _).mono ?_
    rintro e w6 ⟨rfl, rfl⟩
    go_wp2_with fail
    go_ret
    exact ⟨rfl, HB5.out⟩
  rw [hs] at HSG
  have hev := evs_yes hs HL.out
  have hm16 : m ≤ 16 := by have := (sigB_parts hs).1; rw [HL.out] at this; exact this
  have hm3e : m3 = (m + 1) / 2 := by rw [← HLY.out, hev, evT_len]
  have HM3 := Lib.hid hm3e
  have HEV := Lib.hid hev
  have HS := Lib.hid hs
  have e0 : IntKind.i64.wrap ((m : Int) + 1) = (m : Int) + 1 := IntWalk.i64_in _ (by omega)
  have e1 : ((m3 : Int) == ((m : Int) + 1) / 2) = true := by rw [beq_iff_eq, hm3e]; omega
  clear hev hm3e hs
  -- what stands behind the first two looks
  have rest : ∀ w6, Ow w6 w.heap.size 45 (.slice A1 m c1) m (xs.map cv) → Ow w6 w1.heap.size 45 (.slice A2 m3 c2) m3 ((evs xs).map cv) → Below w.heap.size w w6 → (m = 2 ∨ m = 4) → (∃ p, WSig xs m p 1000) →
      ∃ la lb lc : List C, la.length = m ∧ lb.length = m3 ∧ lc.length = m3 ∧ (∀ w', Cs w' A1 m xs → Calls Try.prog 32 #[.slice A1 m c1] w' (RetC w' la true)) ∧ (∀ w', Cs w' A2 m3 (evs xs) → Calls Try.prog 32 #[.slice A2 m3 c2] w' (RetC w' lb true)) ∧
        (∀ A n c w', n = m → Cs w' A n la → Calls Try.prog 36 #[.slice A n c] w' (RetC w' lc true)) ∧ ∀ k, k < m3 → EqV (nth lb k) (nth lc k) := fun w6 h1 h2 h3 hn hp => by
    obtain ⟨p, hp⟩ := hp
    have hh : 2 * m3 = m := by have := HM3.out; omega
    obtain ⟨la, lb, lc, ea, eb, ec, na, nb, nc, q⟩ := ev_law hp hn hh
    refine ⟨la, lb, lc, na, nb, nc, fun w' h' => ?_, fun w' h' => ?_, fun A n c w' hn' h' => ?_, q⟩
    · have := iTransform A1 m c1 xs w' (by omega) h' (fun _ => hp.prod (by omega) (by omega) (.inr rfl))
      unfold RetO at this
      rw [ea] at this; exact this
    · have he := ev_sig hp hh
      rw [HEV.out, ← HM3.out] at h'
      have := iTransform A2 m3 c2 (evT xs m3) w' (by omega) h' (fun _ => he.prod (by omega) (by omega) (.inr rfl))
      unfold RetO at this
      rw [eb] at this; exact this
    · have := iHalves A n c la w' (by omega) h'
      unfold RetO at this
      rw [ec] at this; exact this
  have REST := Lib.hid rest
  clear rest
  by_cases h8 : m ≤ 8
  · obtain ⟨f1, f2⟩ := evs_wzs HS.out HL.out h8
    have F1 := Lib.hid f1
    have F2 := Lib.hid f2
    clear f1 f2
    go_wp2_with fail
    refine (HSG.out w4 H1.out.sl).mono ?_
    rintro e w5 ⟨rfl, k5, hw5⟩
    have H1b : Hid (Ow w5 w.heap.size 45 (.slice A1 m c1) m (xs.map cv)) := by rw [hw5]; exact H1.out.drewN k5
    have H2b : Hid (Ow w5 w1.heap.size 45 (.slice A2 m3 c2) m3 ((evs xs).map cv)) := by rw [hw5]; exact H2.out.drewN k5
    have HB5 : Hid (Below w.heap.size w w5) := by rw [hw5]; exact below_drewN HB.out k5
    clear hw5
    go_wp2_with fail
    refine (iZeros A1 m c1 xs w5 (by omega) H1b.out.sl).mono ?_
    rintro e w6 ⟨A6, m6, c6, rfl, ho6, hb6⟩
    have hm6 : m6 ≤ 16 := by have h1 := ho6.len; rw [List.length_map] at h1; rw [← h1]; exact (wzs_fin xs).2
    have H6 := Lib.hid ho6
    have HB6 := Lib.hid hb6
    clear ho6 hb6
    go_wp2_with fail
    refine (iEvery A6 m6 c6 (wzs xs) w6 (by omega) H6.out.sl).mono ?_
    rintro e w7 ⟨A7, m7, c7, rfl, ho7, hb7⟩
    obtain rfl : m7 = m := by have h1 := ho7.len; rw [List.length_map] at h1; rw [← h1]; exact F1.out
    have H1c := Lib.hid ((H1b.out.below HB6.out).below hb7)
    have H2c := Lib.hid ((H2b.out.below HB6.out).below hb7)
    have HB7 : Hid (Below w.heap.size w w7) := HB5.out.trans ((HB6.out.trans (hb7.mono HB6.out.size)).mono HB5.out.size)
    have H7 := Lib.hid ho7
    clear ho7 hb7
    go_wp2_with fail
    refine (sameSignal_true A7 A1 m7 c7 c1 _ _ w7 (by omega) H7.out.sl H1c.out.sl F2.out).mono ?_
    rintro e w8 ⟨rfl, k8, hw8⟩
    have H1d : Hid (Ow w8 w.heap.size 45 (.slice A1 m7 c1) m7 (xs.map cv)) := by rw [hw8]; exact H1c.out.drewN k8
    have H2d : Hid (Ow w8 w1.heap.size 45 (.slice A2 m3 c2) m3 ((evs xs).map cv)) := by rw [hw8]; exact H2c.out.drewN k8
    have HB8 : Hid (Below w.heap.size w w8) := by rw [hw8]; exact below_drewN HB7.out k8
    clear hw8
    by_cases hn : m7 = 2 ∨ m7 = 4
    case neg =>
      have n2 : ((m7 : Int) != 2) = true := by rw [bne_iff_ne]; omega
      have n4 : ((m7 : Int) != 4) = true := by rw [bne_iff_ne]; omega
      clear hn
      go_wp2_with fail
      go_ret
      exact ⟨rfl, HB8.out⟩
    have RE := fun hp => REST.out w8 H1d.out H2d.out HB8.out hn hp
    have HRE := Lib.hid RE
    clear RE
    have HX : Hid ((∀ i, i < xs.length → Wh (nth xs i) 1000) → ∃ p, WSig xs m7 p 1000) := fun hw => by
      obtain ⟨p, hp⟩ := WSig.of hw
      rw [HL.out] at hp
      exact ⟨p, hp⟩
    have key : ((m7 : Int) != 2) = false ∨ (((m7 : Int) != 2) = true ∧ ((m7 : Int) != 4) = false) := by
      rcases hn with rfl | rfl
      · exact .inl rfl
      · exact .inr ⟨rfl, rfl⟩
    clear hn
    rcases key with n2 | ⟨n2, n4⟩
    all_goals
      go_wp2_with fail
      refine (wholeSignal_any A1 m7 c1 xs 1000 w8 (by omega) H1d.out.sl (by omega) (by omega)).mono ?_
      rintro e w9 ⟨v, rfl, hv, k9, hw9⟩
      have H1e : Hid (Cs w9 A1 m7 xs) := by rw [hw9]; exact H1d.out.sl.drewN k9
      have H2e : Hid (Cs w9 A2 m3 (evs xs)) := by rw [hw9]; exact H2d.out.sl.drewN k9
      have HB9 : Hid (Below w.heap.size w w9) := by rw [hw9]; exact below_drewN HB8.out k9
      have HV := Lib.hid hv
      clear hv hw9
      cases v with
      | false =>
        go_wp2_with fail
        go_ret
        exact ⟨rfl, HB9.out⟩
      | true =>
        obtain ⟨la, lb, lc, na, nb, nc, TA, TB, TC, Q⟩ := HRE.out (HX.out (HV.out rfl))
        have NA := Lib.hid na
        have NB := Lib.hid nb
        have NC := Lib.hid nc
        have HTA := Lib.hid TA
        have HTB := Lib.hid TB
        have HTC := Lib.hid TC
        have HQ := Lib.hid Q
        clear na nb nc TA TB TC Q
        go_wp2_with fail
        refine (HTA.out w9 H1e.out).mono ?_
        rintro e w10 ⟨A10, m10, c10, rfl, ho10, hb10⟩
        have hm10 : m10 = m7 := by have := ho10.len; rw [List.length_map, NA.out] at this; omega
        subst hm10
        have H2f := Lib.hid (H2e.out.below hb10)
        have HB10 : Hid (Below w.heap.size w w10) := HB9.out.trans (hb10.mono HB9.out.size)
        have H10 := Lib.hid ho10
        clear ho10 hb10
        go_wp2_with fail
        refine (HTB.out w10 H2f.out).mono ?_
        rintro e w11 ⟨A11, m11, c11, rfl, ho11, hb11⟩
        have hm11 : m11 = m3 := by have := ho11.len; rw [List.length_map, NB.out] at this; omega
        subst hm11
        have H10b := Lib.hid (H10.out.below hb11)
        have HB11 : Hid (Below w.heap.size w w11) := HB10.out.trans (hb11.mono HB10.out.size)
        have H11 := Lib.hid ho11
        clear ho11 hb11
        go_wp2_with fail
        refine (HTC.out A10 m10 c10 w11 rfl H10b.out.sl).mono ?_
        rintro e w12 ⟨A12, m12, c12, rfl, ho12, hb12⟩
        have hm12 : m12 = m11 := by have := ho12.len; rw [List.length_map, NC.out] at this; omega
        subst hm12
        have H11b := Lib.hid (H11.out.below hb12)
        have HB12 : Hid (Below w.heap.size w w12) := HB11.out.trans (hb12.mono HB11.out.size)
        have H12 := Lib.hid ho12
        clear ho12 hb12
        go_wp2_with fail
        refine (sameSignal_true A11 A12 m12 c11 c12 lb lc w12 (by omega) H11b.out.sl H12.out.sl HQ.out).mono ?_
        rintro e w13 ⟨rfl, k13, rfl⟩
        go_wp2_with fail
        go_ret
        exact ⟨rfl, below_drewN HB12.out k13⟩
  · have n2 : ((m : Int) != 2) = true := by rw [bne_iff_ne]; omega
    have n4 : ((m : Int) != 4) = true := by rw [bne_iff_ne]; omega
    go_wp2_with fail
    refine (HSG.out w4 H1.out.sl).mono ?_
    rintro e w5 ⟨rfl, k5, hw5⟩
    have HB5 : Hid (Below w.heap.size w w5) := by rw [hw5]; exact below_drewN HB.out k5
    clear hw5
    go_wp2_with fail
    go_ret
    exact ⟨rfl, HB5.out⟩
end Go.Proofs.Ytficlmnjbbpicaa
