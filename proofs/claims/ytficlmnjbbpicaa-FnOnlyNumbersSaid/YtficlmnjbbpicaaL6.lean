/- The law FnWithoutTone, walked. -/
import Derived.Test.YtficlmnjbbpicaaG4
import Derived.Test.YtficlmnjbbpicaaD11
import Derived.Test.YtficlmnjbbpicaaL4
import Derived.Test.YtficlmnjbbpicaaK5
namespace Go.Proofs.Ytficlmnjbbpicaa
open Go.RowKit

/-- Four times a signal. -/
def fur (xs : List C) (n : Nat) : List C := rngL (fun i => mulC (nth xs i) four) n
theorem WSig.fur {xs : List C} {n : Nat} {p : Nat → Int × Int} (h : WSig xs n p 250) : WSig (fur xs n) n (sm 4 p) 1000 := by
  have h4 := h.four
  refine ⟨rngL_len _ _, fun i hi => ?_, h4.bd⟩
  have h1 := h4.whl i hi
  rw [fouL_nth (by rw [h.len]; exact hi)] at h1
  unfold Go.Proofs.Ytficlmnjbbpicaa.fur
  rw [rngL_nth hi]
  exact h1
def RT (p : Nat → Int × Int) (n j i : Nat) : Int × Int := if i = j then (0, 0) else gs p (tk n (-(i : Int))) n
theorem zero_whl : WhlC (0, 0) 0 0 := ⟨whl0, whl0⟩
theorem div4 {n : Nat} (hn : n = 1 ∨ n = 2 ∨ n = 4) (x : Int) : (n : Int) * (4 / (n : Int) * x) = 4 * x := by
  rcases hn with rfl | rfl | rfl <;> simp <;> omega
theorem wit_law {xs : List C} {n : Nat} {p : Nat → Int × Int} (h : WSig xs n p 250) (hn : n = 1 ∨ n = 2 ∨ n = 4) {j : Nat} (hj : j < n) :
    ∃ la lz lb, transF (fur xs n) = some la ∧ witF (fur xs n) j = some lz ∧ transF lz = some lb ∧ la.length = n ∧ lz.length = n ∧ lb.length = n ∧ Good (fur xs n) ∧ Good lz ∧
      ∀ k, k < n → (k = j → WhlC (nth lb k) 0 0) ∧ (k ≠ j → EqV (nth lb k) (nth la k)) := by
  have hF := h.fur
  obtain ⟨la, ea, sa⟩ := hF.trans hn (by omega)
  have hP : ∀ i, gs (sm 4 p) (tk n (-(i : Int))) n = (4 * (gs p (tk n (-(i : Int))) n).1, 4 * (gs p (tk n (-(i : Int))) n).2) := fun i => gs_sm 4 p _ n
  have hS : WSig (la.set j (0, 0)) n (sm 4 (RT p n j)) 4000 := by
    refine ⟨by rw [List.length_set]; exact sa.len, fun i hi => ?_, fun i hi => ?_⟩
    · rw [nth_eq (by rw [List.length_set, sa.len]; exact hi), List.getElem_set]
      unfold sm RT
      by_cases hij : j = i
      · rw [if_pos hij, if_pos hij.symm]; exact zero_whl
      · rw [if_neg hij, if_neg (fun h => hij h.symm), ← nth_eq (by rw [sa.len]; exact hi)]
        have := sa.whl i hi
        rw [hP i] at this
        exact this
    · unfold sm RT
      by_cases hij : i = j
      · rw [if_pos hij]; simp
      · rw [if_neg hij]
        have := sa.bd i hi
        rw [hP i] at this
        exact this
  have hq : ∀ k, k < n → ((n : Int) * (sm (4 / (n : Int)) (fun k => gs (RT p n j) (tk n (k : Int)) n) k).1, (n : Int) * (sm (4 / (n : Int)) (fun k => gs (RT p n j) (tk n (k : Int)) n) k).2) = gs (sm 4 (RT p n j)) (tk n (k : Int)) n := fun k hk => by
    rw [gs_sm]
    unfold sm
    simp only
    rw [div4 hn, div4 hn]
  obtain ⟨lz, ez, sz⟩ := hS.back hn (by omega) hq
  obtain ⟨lb, eb, sb⟩ := sz.trans hn (by omega)
  refine ⟨la, lz, lb, ea, by rw [witF_in ea (by rw [hF.len]; exact hj)]; exact ez, eb, sa.len, sz.len, sb.len, hF.good (by omega), sz.good (by omega), fun k hk => ?_⟩
  have hb := sb.whl k hk
  have hinv := gs_inv2 hn hq k hk
  rw [hinv] at hb
  unfold sm RT at hb
  refine ⟨fun hkj => ?_, fun hkj => ?_⟩
  · rw [if_pos hkj] at hb; exact hb
  · rw [if_neg hkj] at hb
    have := sa.whl k hk
    rw [hP k] at this
    exact eqV_whl hb this
theorem witF_some {xs l : List C} {k : Int} (h : witF xs k = some l) : sizB xs = true ∧ 0 ≤ k ∧ k < xs.length ∧ l.all finB = true ∧ l.length = xs.length := by
  unfold witF at h
  cases ht : transF xs with
  | none => rw [ht] at h; cases h
  | some m =>
    rw [ht] at h
    have hs : sizB xs = true := by
      cases hs : sizB xs
      · rw [transF_no hs] at ht; cases ht
      · rfl
    simp only at h
    split at h
    · rename_i hk
      have hlm : m.length = xs.length := by rw [transF_yes hs rfl] at ht; exact allT_len ht
      have hb : backF (m.set k.toNat (0, 0)) = some l := h
      have hs2 : sizB (m.set k.toNat (0, 0)) = true := by
        cases hs : sizB (m.set k.toNat (0, 0))
        · rw [backF_no hs] at hb; cases hb
        · rfl
      rw [backF_yes hs2 rfl] at hb
      obtain ⟨c32, hp⟩ : ∃ c32, P2W c32 (c64 (m.set k.toNat (0, 0)).length) ((m.set k.toNat (0, 0)).length : Nat) := ⟨_, p2w_of (siz_parts hs2).1⟩
      refine ⟨hs, hk.1, hk.2, ?_, ?_⟩
      · refine allT_fin (f := bakZ (m.set k.toNat (0, 0)) (m.set k.toNat (0, 0)).length) (fun i z hz => ?_) hb
        unfold bakZ at hz
        cases hsm : sumT (m.set k.toNat (0, 0)) (bk (m.set k.toNat (0, 0)).length (i : Int)) (m.set k.toNat (0, 0)).length with
        | none => rw [hsm] at hz; cases hz
        | some s =>
          rw [hsm] at hz
          injection hz with hz
          rw [← hz]
          exact (quoC_rnd hp (sumT_fin hsm)).1
      · rw [allT_len hb, List.length_set, hlm]
    · cases h

set_option maxHeartbeats 4000000 in
set_option maxRecDepth 100000 in
theorem lawWithoutTone (A : Option Addr) (n c : Nat) (w : World) (hnc : n ≤ c) (h : Code8 w A n) :
    Calls Try.prog 11 #[.slice A n c] w fun e w' => e = .returned (.bool true) ∧ Below w.heap.size w w' := by
  by_cases hbig : 1048576 < n
  · go_enter Try.func11, Try.ntmps11
    go_wp2_with fail
    go_ret
    exact ⟨rfl, Below.refl _ _⟩
  have hn2 : n ≤ 1048576 := by omega
  go_enter Try.func11, Try.ntmps11
  go_wp2_with fail
  refine (drawWithoutTone_any A n c w hnc hn2 h).mono ?_
  rintro e w1 ⟨A1, m, c1, xs, k, rfl, ho1, hm, hd, hb1⟩
  have hl : xs.length = m := by have := ho1.len; rw [List.length_map] at this; exact this
  have HL := Lib.hid hl
  have HG := Lib.hid (good_drawn hd)
  clear hl hd
  go_wp2_with fail
  refine (iWithout A1 m c1 xs k w1 (by omega) ho1.sl HG.out).mono ?_
  rintro e w2 ⟨A2, m2, c2, rfl, ho2, hb2⟩
  have bw2 : Below w.heap.size w w2 := hb1.trans (hb2.mono hb1.size)
  have ho1' := ho1.below hb2
  go_wp2_with fail
  refine (sWithout A1 m c1 xs k w2 (by omega) ho1'.sl HG.out).mono ?_
  rintro e w3 ⟨A3, m3, c3, rfl, ho3, hb3⟩
  have bw3 : Below w.heap.size w w3 := bw2.trans (hb3.mono bw2.size)
  have ho1'' := ho1'.below hb3
  have ho2' := ho2.below hb3
  obtain rfl : m3 = m2 := by have h1 := ho2.len; have h2 := ho3.len; omega
  cases hh : witF xs k with
  | none =>
    rw [hh] at ho2' ho3
    simp only [Option.getD_none, Option.isSome_none] at ho2' ho3 ⊢
    have h0 : m3 = 0 := by have := ho3.len; simpa using this.symm
    subst h0
    clear hh
    go_wp2_with fail
    refine (sameSignal_true A2 A3 0 c2 c3 [] [] w3 (by omega) ho2'.sl ho3.sl (fun i hi => absurd hi (Nat.not_lt_zero _))).mono ?_
    rintro e w4 ⟨rfl, k4, hw4⟩
    have HB : Hid (Below w.heap.size w w4) := by rw [hw4]; exact below_drewN bw3 k4
    clear hw4
    go_wp2_with fail
    refine (alive_true _).mono ?_
    rintro e w5 ⟨rfl, rfl⟩
    go_wp2_with fail
    go_ret
    exact ⟨rfl, HB.out⟩
  | some ys =>
    obtain ⟨p1, p2, p3, p4, p5⟩ := witF_some hh
    rw [hh] at ho2' ho3
    simp only [Option.getD_some, Option.isSome_some] at ho2' ho3 ⊢
    have hly : ys.length = m3 := by have := ho3.len; rw [List.length_map] at this; exact this
    have EQ := Lib.hid (eqV_all p4 hly)
    obtain ⟨s1, s2, s3, s4, s5⟩ := siz_parts p1
    rw [HL.out] at s1 s4 s5 p3 p5
    have hm3 : m3 = m := by omega
    subst hm3
    obtain ⟨j, rfl⟩ := Int.eq_ofNat_of_zero_le p2
    have hj : j < m3 := by omega
    have HS1 := Lib.hid s1
    have HS2 := Lib.hid s2
    have HYF : Hid (sigB ys = true) := by show _ = _; unfold sigB; rw [p4, hly, decide_eq_true s4]; rfl
    clear hh p1 p2 p3 p4 p5 hly s1 s2 s3
    go_wp2_with fail
    refine (sameSignal_true A2 A3 m3 c2 c3 ys ys w3 (by omega) ho2'.sl ho3.sl EQ.out).mono ?_
    rintro e w4 ⟨rfl, k4, hw4⟩
    have H1 : Hid (Ow w4 w.heap.size 45 (.slice A1 m3 c1) m3 (xs.map cv)) := by rw [hw4]; exact ho1''.drewN k4
    have H2 : Hid (Ow w4 w1.heap.size 45 (.slice A2 m3 c2) m3 (ys.map cv)) := by rw [hw4]; exact ho2'.drewN k4
    have HB : Hid (Below w.heap.size w w4) := by rw [hw4]; exact below_drewN bw3 k4
    have HSI : Hid (∀ w, Cs w A2 m3 ys → Calls Try.prog 30 #[.slice A2 m3 c2] w fun e w' => e = .returned (.bool true) ∧ Dr w w') := fun w h => by rw [← HYF.out]; exact iSignalOk A2 m3 c2 ys w (by omega) h
    clear ho1 ho2 ho3 hb1 hb2 hb3 ho1' ho1'' ho2' bw2 bw3 hw4 hnc h
    go_wp2_with fail
    refine (wholeSignal_any A1 m3 c1 xs 250 w4 (by omega) H1.out.sl (by omega) (by omega)).mono ?_
    rintro e w5 ⟨v, rfl, hv, k5, hw5⟩
    have H1b : Hid (Ow w5 w.heap.size 45 (.slice A1 m3 c1) m3 (xs.map cv)) := by rw [hw5]; exact H1.out.drewN k5
    have H2b : Hid (Ow w5 w1.heap.size 45 (.slice A2 m3 c2) m3 (ys.map cv)) := by rw [hw5]; exact H2.out.drewN k5
    have HB5 : Hid (Below w.heap.size w w5) := by rw [hw5]; exact below_drewN HB.out k5
    have HV := Lib.hid hv
    clear hv hw5
    cases v with
    | false =>
      go_wp2_with fail
      refine (HSI.out w5 H2b.out.sl).mono ?_
      rintro e w6 ⟨rfl, k6, rfl⟩
      go_wp2_with fail
      go_ret
      exact ⟨rfl, below_drewN HB5.out k6⟩
    | true =>
      by_cases h4 : 4 < m3
      · go_wp2_with fail
        refine (HSI.out w5 H2b.out.sl).mono ?_
        rintro e w6 ⟨rfl, k6, rfl⟩
        go_wp2_with fail
        go_ret
        exact ⟨rfl, below_drewN HB5.out k6⟩
      obtain ⟨p, hp⟩ := WSig.of (HV.out rfl)
      rw [HL.out] at hp
      have hmn : m3 = 1 ∨ m3 = 2 ∨ m3 = 4 := by have := p2B_iff.1 HS1.out; omega
      obtain ⟨la, lz, lb, ea, ez, eb, na, nz, nb, g1, g2, hk⟩ := wit_law hp hmn hj
      have HT : Hid (∀ w', Cs w' A1 m3 xs → Calls Try.prog 50 #[.slice A1 m3 c1, .complex .f32 1082130432 0] w' (RetC w' (fur xs m3) true)) := fun w' h' =>
        iTimes A1 m3 c1 xs four w' h' HS2.out (by decide) fun i hi => by
          have := hp.fur.fin
          have h2 := all_fin_nth this (show i < (fur xs m3).length by rw [hp.fur.len]; exact hi)
          unfold fur at h2
          rw [rngL_nth hi] at h2
          exact finB_iff.2 h2
      have HW : Hid (∀ A c w', Cs w' A m3 (fur xs m3) → Calls Try.prog 48 #[.slice A m3 c, .int .i64 j] w' (RetC w' lz true)) := fun A c w' h' => by
        have := iWithout A m3 c (fur xs m3) j w' (by omega) h' g1
        unfold RetO at this
        rw [ez] at this
        exact this
      have HTA : Hid (∀ A c w', Cs w' A m3 (fur xs m3) → Calls Try.prog 32 #[.slice A m3 c] w' (RetC w' la true)) := fun A c w' h' => by
        have := iTransform A m3 c (fur xs m3) w' (by omega) h' g1.prod
        unfold RetO at this
        rw [ea] at this
        exact this
      have HTB : Hid (∀ A c w', Cs w' A m3 lz → Calls Try.prog 32 #[.slice A m3 c] w' (RetC w' lb true)) := fun A c w' h' => by
        have := iTransform A m3 c lz w' (by omega) h' g2.prod
        unfold RetO at this
        rw [eb] at this
        exact this
      have NF : Hid ((fur xs m3).length = m3) := hp.fur.len
      have NA := Lib.hid na
      have NZ := Lib.hid nz
      have NB := Lib.hid nb
      have HK := Lib.hid hk
      clear hp ea ez eb na nz nb g1 g2 hk hmn
      go_wp2_with fail
      refine (HT.out w5 H1b.out.sl).mono ?_
      rintro e w6 ⟨A6, m6, c6, rfl, ho6, hb6⟩
      obtain rfl : m6 = m3 := by have h1 := ho6.len; rw [List.length_map] at h1; exact h1.symm.trans NF.out
      have HB6 : Hid (Below w.heap.size w w6) := HB5.out.trans (hb6.mono HB5.out.size)
      have H6 := Lib.hid ho6
      clear ho6 hb6
      go_wp2_with fail
      refine (HW.out A6 c6 w6 H6.out.sl).mono ?_
      rintro e w7 ⟨A7, m7, c7, rfl, ho7, hb7⟩
      obtain rfl : m7 = m6 := by have h1 := ho7.len; rw [List.length_map] at h1; exact h1.symm.trans NZ.out
      have HB7 : Hid (Below w.heap.size w w7) := HB6.out.trans (hb7.mono HB6.out.size)
      have H6b := Lib.hid (H6.out.below hb7)
      have H7 := Lib.hid ho7
      clear ho7 hb7
      go_wp2_with fail
      refine (HTA.out A6 c6 w7 H6b.out.sl).mono ?_
      rintro e w8 ⟨A8, m8, c8, rfl, ho8, hb8⟩
      obtain rfl : m8 = m7 := by have h1 := ho8.len; rw [List.length_map] at h1; exact h1.symm.trans NA.out
      have HB8 : Hid (Below w.heap.size w w8) := HB7.out.trans (hb8.mono HB7.out.size)
      have H7b := Lib.hid (H7.out.below hb8)
      have H8 := Lib.hid ho8
      clear ho8 hb8
      go_wp2_with fail
      refine (HTB.out A7 c7 w8 H7b.out.sl).mono ?_
      rintro e w9 ⟨A9, m9, c9, rfl, ho9, hb9⟩
      obtain rfl : m9 = m8 := by have h1 := ho9.len; rw [List.length_map] at h1; exact h1.symm.trans NB.out
      have HB9 : Hid (Below w.heap.size w w9) := HB8.out.trans (hb9.mono HB8.out.size)
      have H8b : Hid (Cs w9 A8 m9 la) := (H8.out.below hb9).sl
      have H9 : Hid (Cs w9 A9 m9 lb) := ho9.sl
      clear ho9 hb9
      go_wp2_with fail
      go_loopw [17] (fun i wr => ∃ k : Nat, k ≤ m9 ∧ i = .int .i64 k ∧ Dr w9 wr) (fun i _ => m9 - (intOf i).toNat)
      case atStart => exact ⟨0, by omega, rfl, Dr.refl _⟩
      case round =>
        obtain ⟨i, hi, rfl, hdr⟩ := hrel
        have HD := Lib.hid hdr
        by_cases hlt : i < m9
        · obtain ⟨b8, o8, rfl, hb8l, hc8⟩ := H8b.out.at_ hlt
          obtain ⟨b9, o9, rfl, hb9l, hc9⟩ := H9.out.at_ hlt
          have c8c := (hdr.cell _).trans (hc8 i hlt)
          have c9c := (hdr.cell _).trans (hc9 i hlt)
          obtain ⟨e1, e2⟩ := HK.out i hlt
          have hlt' : (i : Int) < (m9 : Int) := by omega
          have hge : decide (m9 ≤ i) = false := by simp; omega
          clear hc8 hc9 hdr
          by_cases hij : i = j
          · have ez := e1 hij
            have o1 : (FloatKind.f32.format.order (nth lb i).1 0 == some .eq) = true := by show (Ieee.single.order _ _ == _) = true; rw [eq_iff ez.1.1 whl0.1, decide_eq_true_eq, ez.1.2, whl0.2]
            have o2 : (FloatKind.f32.format.order (nth lb i).2 0 == some .eq) = true := by show (Ieee.single.order _ _ == _) = true; rw [eq_iff ez.2.1 whl0.1, decide_eq_true_eq, ez.2.2, whl0.2]
            have k1 : ((i : Int) == (j : Int)) = true := by rw [hij]; exact beq_self_eq_true _
            have k2 : ((i : Int) != (j : Int)) = false := by rw [hij]; simp
            have k3 : (i == j) = true := by rw [hij]; exact beq_self_eq_true _
            have k4 : (i != j) = false := by rw [hij]; simp
            generalize nth lb i = x at *
            generalize nth la i = y at *
            unfold cv at c8c c9c
            clear e1 e2 ez hij
            go_wp2_with fail
            go_quiet (fail)
            go_wp2_with fail
            go_roundw
            case rel => exact ⟨i + 1, by omega, by go_num, HD.out.drewN _⟩
            case measure => simp [intOf]; omega
          · obtain ⟨v1, v2, v3, v4, v5, v6⟩ := e2 hij
            have o1 : (FloatKind.f32.format.order (nth lb i).1 (nth la i).1 == some .eq) = true := by show (Ieee.single.order _ _ == _) = true; rw [eq_iff v1 v3, decide_eq_true_eq, v5]
            have o2 : (FloatKind.f32.format.order (nth lb i).2 (nth la i).2 == some .eq) = true := by show (Ieee.single.order _ _ == _) = true; rw [eq_iff v2 v4, decide_eq_true_eq, v6]
            have k1 : ((i : Int) == (j : Int)) = false := by rw [beq_eq_false_iff_ne]; omega
            have k2 : ((i : Int) != (j : Int)) = true := by rw [bne_iff_ne]; omega
            have k3 : (i == j) = false := by rw [beq_eq_false_iff_ne]; exact hij
            have k4 : (i != j) = true := by rw [bne_iff_ne]; exact hij
            generalize nth lb i = x at *
            generalize nth la i = y at *
            unfold cv at c8c c9c
            clear e1 e2 v1 v2 v3 v4 v5 v6 hij
            go_wp2_with fail
            go_quiet (fail)
            go_wp2_with fail
            go_roundw
            case rel => exact ⟨i + 1, by omega, by go_num, HD.out.drewN _⟩
            case measure => simp [intOf]; omega
        · have HBE : Hid (Below w.heap.size w wr) := by obtain ⟨q, rfl⟩ := HD.out; exact below_drewN HB9.out q
          clear hdr
          go_wp2_with fail
          go_ret
          exact ⟨rfl, HBE.out⟩

/-! The law FnOnlyNumbers. -/
theorem onlF_some {xs l : List C} {a b : Int} (h : onlF xs a b = some l) : sizB xs = true ∧ 0 ≤ a ∧ a < xs.length ∧ 0 ≤ b ∧ b < xs.length ∧ l.all finB = true ∧ l.length = xs.length := by
  unfold onlF at h
  cases ht : transF xs with
  | none => rw [ht] at h; cases h
  | some m =>
    rw [ht] at h
    have hs : sizB xs = true := by
      cases hs : sizB xs
      · rw [transF_no hs] at ht; cases ht
      · rfl
    simp only at h
    split at h
    · rename_i hk
      have hlm : m.length = xs.length := by rw [transF_yes hs rfl] at ht; exact allT_len ht
      obtain ⟨d, hd⟩ : ∃ d, d = mskL m a b := ⟨_, rfl⟩
      have hb : backF d = some l := by rw [hd]; exact h
      have hdl : d.length = xs.length := by rw [hd, mskL_len, hlm]
      have hs2 : sizB d = true := by
        cases hs : sizB d
        · rw [backF_no hs] at hb; cases hb
        · rfl
      rw [backF_yes hs2 rfl] at hb
      obtain ⟨c32, hp⟩ : ∃ c32, P2W c32 (c64 d.length) (d.length : Nat) := ⟨_, p2w_of (siz_parts hs2).1⟩
      refine ⟨hs, hk.1, hk.2.1, hk.2.2.1, hk.2.2.2, ?_, by rw [allT_len hb, hdl]⟩
      refine allT_fin (f := bakZ d d.length) (fun i z hz => ?_) hb
      unfold bakZ at hz
      cases hsm : sumT d (bk d.length (i : Int)) d.length with
      | none => rw [hsm] at hz; cases hz
      | some s =>
        rw [hsm] at hz
        injection hz with hz
        rw [← hz]
        exact (quoC_rnd hp (sumT_fin hsm)).1
    · cases h
theorem only_all {xs : List C} {n : Nat} {p : Nat → Int × Int} (h : WSig xs n p 250) (hn : n = 1 ∨ n = 2 ∨ n = 4) :
    ∃ l, onlF xs 0 ((n : Int) - 1) = some l ∧ l.length = n ∧ Good xs ∧ ∀ k, k < n → EqV (nth l k) (nth xs k) := by
  obtain ⟨la, ea, sa⟩ := h.trans hn (by omega)
  have hM : WSig (mskL la 0 ((n : Int) - 1)) n (fun k => gs p (tk n (-(k : Int))) n) 1000 := by
    refine ⟨by rw [mskL_len]; exact sa.len, fun i hi => ?_, sa.bd⟩
    rw [mskL_nth (by rw [sa.len]; exact hi), if_neg (by omega)]
    exact sa.whl i hi
  obtain ⟨l, e, sl⟩ := hM.back hn (by omega) (q := p) fun k hk => (gs_inv hn (fun _ _ => rfl) k hk).symm
  exact ⟨l, by rw [onlF_in ea (by rw [h.len]; omega)]; exact e, sl.len, h.good (by omega), fun k hk => eqV_whl (sl.whl k hk) (h.whl k hk)⟩
def RR (p : Nat → Int × Int) (n : Nat) (a b : Int) (i : Nat) : Int × Int := if (i : Int) < a ∨ b < (i : Int) then (0, 0) else gs p (tk n (-(i : Int))) n
theorem only_some {xs : List C} {n : Nat} {p : Nat → Int × Int} (h : WSig xs n p 250) (hn : n = 1 ∨ n = 2 ∨ n = 4) {a b : Int} (ha : 0 ≤ a) (ha2 : a < n) (hb : 0 ≤ b) (hb2 : b < n) :
    ∃ l, onlF (fur xs n) a b = some l ∧ WSig l n (sm (4 / (n : Int)) (fun k => gs (RR p n a b) (tk n (k : Int)) n)) 4000 := by
  have hF := h.fur
  obtain ⟨la, ea, sa⟩ := hF.trans hn (by omega)
  have hP : ∀ i, gs (sm 4 p) (tk n (-(i : Int))) n = (4 * (gs p (tk n (-(i : Int))) n).1, 4 * (gs p (tk n (-(i : Int))) n).2) := fun i => gs_sm 4 p _ n
  have hS : WSig (mskL la a b) n (sm 4 (RR p n a b)) 4000 := by
    refine ⟨by rw [mskL_len]; exact sa.len, fun i hi => ?_, fun i hi => ?_⟩
    · rw [mskL_nth (by rw [sa.len]; exact hi)]
      unfold sm RR
      by_cases hij : (i : Int) < a ∨ b < (i : Int)
      · rw [if_pos hij, if_pos hij]; exact zero_whl
      · rw [if_neg hij, if_neg hij]
        have := sa.whl i hi
        rw [hP i] at this
        exact this
    · unfold sm RR
      by_cases hij : (i : Int) < a ∨ b < (i : Int)
      · rw [if_pos hij]; simp
      · rw [if_neg hij]
        have := sa.bd i hi
        rw [hP i] at this
        exact this
  have hq : ∀ k, k < n → ((n : Int) * (sm (4 / (n : Int)) (fun k => gs (RR p n a b) (tk n (k : Int)) n) k).1, (n : Int) * (sm (4 / (n : Int)) (fun k => gs (RR p n a b) (tk n (k : Int)) n) k).2) = gs (sm 4 (RR p n a b)) (tk n (k : Int)) n := fun k hk => by
    rw [gs_sm]
    unfold sm
    simp only
    rw [div4 hn, div4 hn]
  obtain ⟨lz, ez, sz⟩ := hS.back hn (by omega) hq
  exact ⟨lz, by rw [onlF_in ea (by rw [hF.len]; exact ⟨ha, ha2, hb, hb2⟩)]; exact ez, sz⟩
theorem div4' {n : Nat} (hn : n = 1 ∨ n = 2 ∨ n = 4) (x : Int) : 4 / (n : Int) * ((n : Int) * x) = 4 * x := by
  rcases hn with rfl | rfl | rfl <;> simp <;> omega
theorem only_sum {xs : List C} {n : Nat} {p : Nat → Int × Int} (h : WSig xs n p 250) (hn : n = 1 ∨ n = 2 ∨ n = 4) {t : Int} (h0 : 0 ≤ t) (h1 : t < (n : Int) - 1) :
    ∃ la lb, onlF (fur xs n) 0 t = some la ∧ onlF (fur xs n) (t + 1) ((n : Int) - 1) = some lb ∧ la.length = n ∧ lb.length = n ∧ sigB la = true ∧ sigB lb = true ∧
      ∀ k, k < n → finB (addC (nth la k) (nth lb k)) = true ∧ EqV (addC (nth la k) (nth lb k)) (nth (fur xs n) k) := by
  obtain ⟨la, ea, sa⟩ := only_some h hn (a := 0) (b := t) (by omega) (by omega) h0 (by omega)
  obtain ⟨lb, eb, sb⟩ := only_some h hn (a := t + 1) (b := (n : Int) - 1) (by omega) (by omega) (by omega) (by omega)
  have hn16 : n ≤ 16 := by omega
  refine ⟨la, lb, ea, eb, sa.len, sb.len, by unfold sigB; rw [sa.fin, sa.len, decide_eq_true hn16]; rfl, by unfold sigB; rw [sb.fin, sb.len, decide_eq_true hn16]; rfl, fun k hk => ?_⟩
  obtain ⟨b1, b2, b3, b4⟩ := sa.bd k hk
  obtain ⟨c1, c2, c3, c4⟩ := sb.bd k hk
  have hadd := addC_whl (sa.whl k hk) (sb.whl k hk) (by omega) (by omega)
  have hsum : gs (fun i => ((RR p n 0 t i).1 + (RR p n (t + 1) ((n : Int) - 1) i).1, (RR p n 0 t i).2 + (RR p n (t + 1) ((n : Int) - 1) i).2)) (tk n (k : Int)) n = ((n : Int) * (p k).1, (n : Int) * (p k).2) := by
    rw [gs_congr (q := fun i => gs p (tk n (-(i : Int))) n) fun i hi => ?_]
    · exact gs_inv hn (fun _ _ => rfl) k hk
    · unfold RR
      by_cases hit : (i : Int) ≤ t
      · rw [if_neg (by omega), if_pos (by omega)]; simp
      · rw [if_pos (by omega), if_neg (by omega)]; simp
  rw [gs_add] at hsum
  injection hsum with s1 s2
  unfold sm at hadd
  simp only at hadd
  rw [← Int.mul_add, ← Int.mul_add, s1, s2, div4' hn, div4' hn] at hadd
  exact ⟨whlC_fin hadd, eqV_whl hadd (h.fur.whl k hk)⟩

set_option maxHeartbeats 4000000 in
set_option maxRecDepth 100000 in
theorem lawOnlyNumbers (A : Option Addr) (n c : Nat) (w : World) (hnc : n ≤ c) (h : Code8 w A n) :
    Calls Try.prog 14 #[.slice A n c] w fun e w' => e = .returned (.bool true) ∧ Below w.heap.size w w' := by
  by_cases hbig : 1048576 < n
  · go_enter Try.func14, Try.ntmps14
    go_wp2_with fail
    go_ret
    exact ⟨rfl, Below.refl _ _⟩
  have hn2 : n ≤ 1048576 := by omega
  go_enter Try.func14, Try.ntmps14
  go_wp2_with fail
  refine (drawOnlyNumbers_any A n c w hnc hn2 h).mono ?_
  rintro e w1 ⟨A1, m, c1, xs, fi, la, rfl, ho1, hm, hd, hb1⟩
  have hl : xs.length = m := by have := ho1.len; rw [List.length_map] at this; exact this
  have HL := Lib.hid hl
  have HG := Lib.hid (good_drawn hd)
  clear hl hd
  go_wp2_with fail
  refine (iOnly A1 m c1 xs fi la w1 (by omega) ho1.sl HG.out).mono ?_
  rintro e w2 ⟨A2, m2, c2, rfl, ho2, hb2⟩
  have bw2 : Below w.heap.size w w2 := hb1.trans (hb2.mono hb1.size)
  have ho1' := ho1.below hb2
  go_wp2_with fail
  refine (sOnly A1 m c1 xs fi la w2 (by omega) ho1'.sl HG.out).mono ?_
  rintro e w3 ⟨A3, m3, c3, rfl, ho3, hb3⟩
  have bw3 : Below w.heap.size w w3 := bw2.trans (hb3.mono bw2.size)
  have ho1'' := ho1'.below hb3
  have ho2' := ho2.below hb3
  obtain rfl : m3 = m2 := by have h1 := ho2.len; have h2 := ho3.len; omega
  cases hh : onlF xs fi la with
  | none =>
    rw [hh] at ho2' ho3
    simp only [Option.getD_none, Option.isSome_none] at ho2' ho3 ⊢
    have h0 : m3 = 0 := by have := ho3.len; simpa using this.symm
    subst h0
    clear hh
    go_wp2_with fail
    refine (sameSignal_true A2 A3 0 c2 c3 [] [] w3 (by omega) ho2'.sl ho3.sl (fun i hi => absurd hi (Nat.not_lt_zero _))).mono ?_
    rintro e w4 ⟨rfl, k4, hw4⟩
    have HB : Hid (Below w.heap.size w w4) := by rw [hw4]; exact below_drewN bw3 k4
    clear hw4
    go_wp2_with fail
    refine (alive_true _).mono ?_
    rintro e w5 ⟨rfl, rfl⟩
    go_wp2_with fail
    go_ret
    exact ⟨rfl, HB.out⟩
  | some ys =>
    obtain ⟨p1, p2, p3, p6, p7, p4, p5⟩ := onlF_some hh
    rw [hh] at ho2' ho3
    simp only [Option.getD_some, Option.isSome_some] at ho2' ho3 ⊢
    have hly : ys.length = m3 := by have := ho3.len; rw [List.length_map] at this; exact this
    have EQ := Lib.hid (eqV_all p4 hly)
    obtain ⟨s1, s2, s3, s4, s5⟩ := siz_parts p1
    rw [HL.out] at s1 s4 s5 p3 p5 p7
    have hm3 : m3 = m := by omega
    subst hm3
    have HS1 := Lib.hid s1
    have HS2 := Lib.hid s2
    have HYF : Hid (sigB ys = true) := by show _ = _; unfold sigB; rw [p4, hly, decide_eq_true s4]; rfl
    clear hh p1 p4 p5 hly s1 s2 s3
    go_wp2_with fail
    refine (sameSignal_true A2 A3 m3 c2 c3 ys ys w3 (by omega) ho2'.sl ho3.sl EQ.out).mono ?_
    rintro e w4 ⟨rfl, k4, hw4⟩
    have H1 : Hid (Ow w4 w.heap.size 45 (.slice A1 m3 c1) m3 (xs.map cv)) := by rw [hw4]; exact ho1''.drewN k4
    have H2 : Hid (Ow w4 w1.heap.size 45 (.slice A2 m3 c2) m3 (ys.map cv)) := by rw [hw4]; exact ho2'.drewN k4
    have HB : Hid (Below w.heap.size w w4) := by rw [hw4]; exact below_drewN bw3 k4
    have HSI : Hid (∀ w, Cs w A2 m3 ys → Calls Try.prog 30 #[.slice A2 m3 c2] w fun e w' => e = .returned (.bool true) ∧ Dr w w') := fun w h => by rw [← HYF.out]; exact iSignalOk A2 m3 c2 ys w (by omega) h
    clear ho1 ho2 ho3 hb1 hb2 hb3 ho1' ho1'' ho2' bw2 bw3 hw4 hnc h
    go_wp2_with fail
    refine (wholeSignal_any A1 m3 c1 xs 250 w4 (by omega) H1.out.sl (by omega) (by omega)).mono ?_
    rintro e w5 ⟨v, rfl, hv, k5, hw5⟩
    have H1b : Hid (Ow w5 w.heap.size 45 (.slice A1 m3 c1) m3 (xs.map cv)) := by rw [hw5]; exact H1.out.drewN k5
    have H2b : Hid (Ow w5 w1.heap.size 45 (.slice A2 m3 c2) m3 (ys.map cv)) := by rw [hw5]; exact H2.out.drewN k5
    have HB5 : Hid (Below w.heap.size w w5) := by rw [hw5]; exact below_drewN HB.out k5
    have HV := Lib.hid hv
    clear hv hw5
    cases v with
    | false =>
      go_wp2_with fail
      refine (HSI.out w5 H2b.out.sl).mono ?_
      rintro e w6 ⟨rfl, k6, rfl⟩
      go_wp2_with fail
      go_ret
      exact ⟨rfl, below_drewN HB5.out k6⟩
    | true =>
      by_cases h4 : 4 < m3
      · go_wp2_with fail
        refine (HSI.out w5 H2b.out.sl).mono ?_
        rintro e w6 ⟨rfl, k6, rfl⟩
        go_wp2_with fail
        go_ret
        exact ⟨rfl, below_drewN HB5.out k6⟩
      obtain ⟨p, hp⟩ := WSig.of (HV.out rfl)
      rw [HL.out] at hp
      have hmn : m3 = 1 ∨ m3 = 2 ∨ m3 = 4 := by have := p2B_iff.1 HS1.out; omega
      obtain ⟨l0, e0, n0, g0, q0⟩ := only_all hp hmn
      have gF : Good (fur xs m3) := hp.fur.good (by omega)
      have HT : Hid (∀ w', Cs w' A1 m3 xs → Calls Try.prog 50 #[.slice A1 m3 c1, .complex .f32 1082130432 0] w' (RetC w' (fur xs m3) true)) := fun w' h' =>
        iTimes A1 m3 c1 xs four w' h' HS2.out (by decide) fun i hi => by
          have := hp.fur.fin
          have h2 := all_fin_nth this (show i < (fur xs m3).length by rw [hp.fur.len]; exact hi)
          unfold fur at h2
          rw [rngL_nth hi] at h2
          exact finB_iff.2 h2
      have HA : Hid (∀ w', Cs w' A1 m3 xs → Calls Try.prog 59 #[.slice A1 m3 c1, .int .i64 0, .int .i64 ((m3 : Int) - 1)] w' (RetC w' l0 true)) := fun w' h' => by
        have := iOnly A1 m3 c1 xs 0 ((m3 : Int) - 1) w' (by omega) h' g0
        unfold RetO at this
        rw [e0] at this
        exact this
      have NF : Hid ((fur xs m3).length = m3) := hp.fur.len
      have NFS : Hid (sigB (fur xs m3) = true) := by show _ = _; unfold sigB; rw [hp.fur.fin, NF.out, decide_eq_true s4]; rfl
      have N0 := Lib.hid n0
      have Q0 := Lib.hid q0
      have w1e : IntKind.i64.wrap ((m3 : Int) - 1) = (m3 : Int) - 1 := IntWalk.i64_in _ (by omega)
      have HSUM : Hid (fi = 0 → la < (m3 : Int) - 1 → ∃ xa xb, (∀ A c w', Cs w' A m3 (fur xs m3) → Calls Try.prog 59 #[.slice A m3 c, .int .i64 0, .int .i64 la] w' (RetC w' xa true)) ∧
          (∀ A c w', Cs w' A m3 (fur xs m3) → Calls Try.prog 59 #[.slice A m3 c, .int .i64 (la + 1), .int .i64 ((m3 : Int) - 1)] w' (RetC w' xb true)) ∧ xa.length = m3 ∧ xb.length = m3 ∧
          (∀ A A' c c' w', Cs w' A m3 xa → Cs w' A' m3 xb → Calls Try.prog 61 #[.slice A m3 c, .slice A' m3 c'] w' (RetC w' (rngL (fun i => addC (nth xa i) (nth xb i)) m3) true)) ∧
          ∀ k, k < m3 → EqV (nth (rngL (fun i => addC (nth xa i) (nth xb i)) m3) k) (nth (fur xs m3) k)) := fun hf hl => by
        obtain ⟨xa, xb, ea, eb, na, nb, sa, sb, hk⟩ := only_sum hp hmn (t := la) p6 hl
        refine ⟨xa, xb, fun A c w' h' => ?_, fun A c w' h' => ?_, na, nb, fun A A' c c' w' h' h2' => ?_, fun k hk2 => ?_⟩
        · have := iOnly A m3 c (fur xs m3) 0 la w' (by omega) h' gF
          unfold RetO at this
          rw [ea] at this
          exact this
        · have := iOnly A m3 c (fur xs m3) (la + 1) ((m3 : Int) - 1) w' (by omega) h' gF
          unfold RetO at this
          rw [eb] at this
          exact this
        · exact iSum2 A A' m3 c c' xa xb w' h' h2' sa sb fun i hi => (hk i hi).1
        · rw [rngL_nth hk2]; exact (hk k hk2).2
      clear hp e0 n0 g0 q0 gF hmn
      go_wp2_with fail
      refine (HA.out w5 H1b.out.sl).mono ?_
      rintro e w6 ⟨A6, m6, c6, rfl, ho6, hb6⟩
      obtain rfl : m6 = m3 := by have h1 := ho6.len; rw [List.length_map] at h1; exact h1.symm.trans N0.out
      have HB6 : Hid (Below w.heap.size w w6) := HB5.out.trans (hb6.mono HB5.out.size)
      have H1c := Lib.hid (H1b.out.below hb6)
      have H6 := Lib.hid ho6
      clear ho6 hb6
      go_wp2_with fail
      refine (sameSignal_true A6 A1 m6 c6 c1 l0 xs w6 (by omega) H6.out.sl H1c.out.sl Q0.out).mono ?_
      rintro e w7 ⟨rfl, k7, hw7⟩
      have H1d : Hid (Cs w7 A1 m6 xs) := by rw [hw7]; exact H1c.out.sl.drewN k7
      have HB7 : Hid (Below w.heap.size w w7) := by rw [hw7]; exact below_drewN HB6.out k7
      clear hw7
      go_wp2_with fail
      refine (HT.out w7 H1d.out).mono ?_
      rintro e w8 ⟨A8, m8, c8, rfl, ho8, hb8⟩
      obtain rfl : m8 = m6 := by have h1 := ho8.len; rw [List.length_map] at h1; exact h1.symm.trans NF.out
      have HB8 : Hid (Below w.heap.size w w8) := HB7.out.trans (hb8.mono HB7.out.size)
      have H8 := Lib.hid ho8
      clear ho8 hb8
      by_cases hf0 : fi = 0
      case neg =>
        have hfe : (fi != 0) = true := by rw [bne_iff_ne]; exact hf0
        clear hf0
        go_wp2_with fail
        go_ret
        exact ⟨rfl, HB8.out⟩
      by_cases hl0 : (m8 : Int) - 1 ≤ la
      · have hfe : (fi != 0) = false := by rw [bne_eq_false_iff_eq]; exact hf0
        clear hf0
        go_wp2_with fail
        go_ret
        exact ⟨rfl, HB8.out⟩
      obtain ⟨xa, xb, ca, cb, na, nb, cs, hq⟩ := HSUM.out hf0 (by omega)
      have CA := Lib.hid ca
      have CB := Lib.hid cb
      have CSM := Lib.hid cs
      have NA := Lib.hid na
      have NB := Lib.hid nb
      have HQ := Lib.hid hq
      have hfe : (fi != 0) = false := by rw [bne_eq_false_iff_eq]; exact hf0
      have w2e : IntKind.i64.wrap (la + 1) = la + 1 := IntWalk.i64_in _ (by omega)
      clear hf0 ca cb cs na nb hq
      go_wp2_with fail
      refine (CA.out A8 c8 w8 H8.out.sl).mono ?_
      rintro e w9 ⟨A9, m9, c9, rfl, ho9, hb9⟩
      obtain rfl : m9 = m8 := by have h1 := ho9.len; rw [List.length_map] at h1; exact h1.symm.trans NA.out
      have HB9 : Hid (Below w.heap.size w w9) := HB8.out.trans (hb9.mono HB8.out.size)
      have H8b := Lib.hid (H8.out.below hb9)
      have H9 := Lib.hid ho9
      clear ho9 hb9
      go_wp2_with fail
      refine (CB.out A8 c8 w9 H8b.out.sl).mono ?_
      rintro e w10 ⟨A10, m10, c10, rfl, ho10, hb10⟩
      obtain rfl : m10 = m9 := by have h1 := ho10.len; rw [List.length_map] at h1; exact h1.symm.trans NB.out
      have HB10 : Hid (Below w.heap.size w w10) := HB9.out.trans (hb10.mono HB9.out.size)
      have H8c := Lib.hid (H8b.out.below hb10)
      have H9b := Lib.hid (H9.out.below hb10)
      have H10 := Lib.hid ho10
      clear ho10 hb10
      go_wp2_with fail
      refine (CSM.out A9 A10 c9 c10 w10 H9b.out.sl H10.out.sl).mono ?_
      rintro e w11 ⟨A11, m11, c11, rfl, ho11, hb11⟩
      obtain rfl : m11 = m10 := by have h1 := ho11.len; rw [List.length_map, rngL_len] at h1; omega
      have HB11 : Hid (Below w.heap.size w w11) := HB10.out.trans (hb11.mono HB10.out.size)
      have H8d := Lib.hid (H8c.out.below hb11)
      have H11 := Lib.hid ho11
      clear ho11 hb11
      go_wp2_with fail
      refine (sameSignal_true A11 A8 m11 c11 c8 _ _ w11 (by omega) H11.out.sl H8d.out.sl HQ.out).mono ?_
      rintro e w12 ⟨rfl, k12, rfl⟩
      go_wp2_with fail
      go_ret
      exact ⟨rfl, below_drewN HB11.out k12⟩
end Go.Proofs.Ytficlmnjbbpicaa
