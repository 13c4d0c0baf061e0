/- The law FnShiftedBy, walked. -/
import Derived.Test.YtficlmnjbbpicaaK8
import Derived.Test.YtficlmnjbbpicaaD11
import Derived.Test.YtficlmnjbbpicaaL4
namespace Go.Proofs.Ytficlmnjbbpicaa
open Go.RowKit

theorem shiF_some {xs l : List C} {k : Int} (hm : sigB xs = true → Small xs) (h : shiF xs k = some l) : sizB xs = true ∧ 0 ≤ k ∧ k < xs.length ∧ l.all finB = true ∧ l.length = xs.length ∧ l = shiL xs xs.length (16 / (xs.length : Int) * k) := by
  unfold shiF at h
  split at h
  · rename_i hc
    rw [Bool.and_eq_true, Bool.and_eq_true, decide_eq_true_eq, decide_eq_true_eq] at hc
    injection h with h
    obtain ⟨s1, s2, s3, s4, s5⟩ := siz_parts hc.1.1
    refine ⟨hc.1.1, hc.1.2, hc.2, ?_, by rw [← h]; exact rngL_len _ _, h.symm⟩
    rw [← h]
    exact rngL_fin fun i hi => by rw [tonL_nth _ hi]; exact (hm s2).turn hi _
  · cases h
/-- Whole numbers, shifted. -/
theorem shi_sig {xs : List C} {n : Nat} {p : Nat → Int × Int} (h : WSig xs n p 1000) (hn : n = 1 ∨ n = 2 ∨ n = 4) {k : Nat} (hk : k < n) : WSig (shiL xs n (16 / (n : Int) * k)) n (fun i => gmul (p i) (tk n (k : Int) * i)) 1000 := by
  refine ⟨rngL_len _ _, fun i hi => ?_, fun i hi => ?_⟩
  · unfold shiL
    rw [rngL_nth hi, tonL_nth _ hi]
    have e : 16 / (n : Int) * (k : Int) * (i : Int) = 4 * (tk n (k : Int) * i) := by
      have := bk_tk hn (k : Int)
      unfold bk at this
      rw [this, Int.mul_assoc]
    rw [e]
    obtain ⟨b1, b2, b3, b4⟩ := h.bd i hi
    obtain ⟨t1, t2⟩ := tk_bd hn (k := (k : Int)) (by omega) (by omega)
    have hti : -64 ≤ tk n (k : Int) * (i : Int) ∧ tk n (k : Int) * (i : Int) ≤ 64 := by
      have : i = 0 ∨ i = 1 ∨ i = 2 ∨ i = 3 := by omega
      rcases this with rfl | rfl | rfl | rfl <;> constructor <;> omega
    exact mul_turn (h.whl i hi) (by omega) (by omega) (by omega) (by omega) (by omega) (by omega)
  · obtain ⟨b1, b2, b3, b4⟩ := h.bd i hi
    exact gmul_bd b1 b2 b3 b4
theorem shi_gs {p : Nat → Int × Int} {n k j : Nat} (hn : n = 1 ∨ n = 2 ∨ n = 4) (hk : k < n) (hj : j < n) :
    gs (fun i => gmul (p i) (tk n (k : Int) * i)) (tk n (-(j : Int))) n = gs p (tk n (-((((j : Int) - k) % (n : Int)).toNat : Int))) n := by
  rcases hn with rfl | rfl | rfl
  · have h1 : k = 0 := by omega
    have h2 : j = 0 := by omega
    subst h1
    subst h2
    simp [gs, gmul, tk, rot]
  · have h1 : k = 0 ∨ k = 1 := by omega
    have h2 : j = 0 ∨ j = 1 := by omega
    rcases h1 with rfl | rfl <;> rcases h2 with rfl | rfl <;> simp [gs, gmul, tk, rot]
  · have h1 : k = 0 ∨ k = 1 ∨ k = 2 ∨ k = 3 := by omega
    have h2 : j = 0 ∨ j = 1 ∨ j = 2 ∨ j = 3 := by omega
    rcases h1 with rfl | rfl | rfl | rfl <;> rcases h2 with rfl | rfl | rfl | rfl <;> simp [gs, gmul, tk, rot] <;> omega
theorem shi_law {xs : List C} {n : Nat} {p : Nat → Int × Int} (h : WSig xs n p 1000) (hn : n = 1 ∨ n = 2 ∨ n = 4) {k : Nat} (hk : k < n) :
    ∃ la lb, transF xs = some la ∧ transF (shiL xs n (16 / (n : Int) * k)) = some lb ∧ la.length = n ∧ lb.length = n ∧ la.all finB = true ∧ ProdOk xs (-1) ∧ ProdOk (shiL xs n (16 / (n : Int) * k)) (-1) ∧
      ∀ j, j < n → EqV (nth lb j) (nth (movL la n k) j) := by
  have hs := shi_sig h hn hk
  obtain ⟨la, ea, sa⟩ := h.trans hn (by omega)
  obtain ⟨lb, eb, sb⟩ := hs.trans hn (by omega)
  refine ⟨la, lb, ea, eb, sa.len, sb.len, sa.fin, h.prod hn (by omega) (.inr rfl), hs.prod hn (by omega) (.inr rfl), fun j hj => ?_⟩
  have p1 := Int.emod_nonneg ((j : Int) - k) (show (n : Int) ≠ 0 by omega)
  have p2 := Int.emod_lt_of_pos ((j : Int) - k) (show 0 < (n : Int) by omega)
  unfold movL
  rw [rngL_nth hj]
  have h1 := sb.whl j hj
  rw [shi_gs hn hk hj] at h1
  exact eqV_whl h1 (sa.whl _ (by omega))

set_option maxHeartbeats 4000000 in
set_option maxRecDepth 100000 in
theorem lawShiftedBy (A : Option Addr) (n c : Nat) (w : World) (hnc : n ≤ c) (h : Code8 w A n) :
    Calls Try.prog 12 #[.slice A n c] w fun e w' => e = .returned (.bool true) ∧ Below w.heap.size w w' := by
  by_cases hbig : 1048576 < n
  · go_enter Try.func12, Try.ntmps12
    go_wp2_with fail
    go_ret
    exact ⟨rfl, Below.refl _ _⟩
  have hn2 : n ≤ 1048576 := by omega
  go_enter Try.func12, Try.ntmps12
  go_wp2_with fail
  refine (drawShiftedBy_any A n c w hnc hn2 h).mono ?_
  rintro e w1 ⟨A1, m, c1, xs, k, rfl, ho1, hm, hd, hb1⟩
  have hl : xs.length = m := by have := ho1.len; rw [List.length_map] at this; exact this
  have HL := Lib.hid hl
  have HSM : Hid (sigB xs = true → Small xs) := small_drawn hd
  clear hl hd
  go_wp2_with fail
  refine (iShifted A1 m c1 xs k w1 (by omega) ho1.sl HSM.out).mono ?_
  rintro e w2 ⟨A2, m2, c2, rfl, ho2, hb2⟩
  have bw2 : Below w.heap.size w w2 := hb1.trans (hb2.mono hb1.size)
  have ho1' := ho1.below hb2
  go_wp2_with fail
  refine (sShifted A1 m c1 xs k w2 (by omega) ho1'.sl HSM.out).mono ?_
  rintro e w3 ⟨A3, m3, c3, rfl, ho3, hb3⟩
  have bw3 : Below w.heap.size w w3 := bw2.trans (hb3.mono bw2.size)
  have ho1'' := ho1'.below hb3
  have ho2' := ho2.below hb3
  obtain rfl : m3 = m2 := by have h1 := ho2.len; have h2 := ho3.len; omega
  cases hh : shiF xs k with
  | none =>
    rw [hh] at ho2' ho3
    simp only [Option.getD_none, Option.isSome_none] at ho2' ho3 ⊢
    have h0 : m3 = 0 := by have := ho3.len; simpa using this.symm
    subst h0
    clear hh
    go_wp2_with fail
    refine (sameSignal_true A2 A3 0 c2 c3 [] [] w3 (by omega) ho2'.sl ho3.sl (fun i hi => absurd hi (Nat.not_lt_zero _))).mono ?_
    rintro e w4 ⟨rfl, k4, hw4⟩
    have HB : Hid (Below w.heap.size w w4) := by rw [hw4]; exact below_drewN bw3 k4
    clear hw4
    go_wp2_with fail
    refine (alive_true _).mono ?_
    rintro e w5 ⟨rfl, rfl⟩
    go_wp2_with fail
    go_ret
    exact ⟨rfl, HB.out⟩
  | some ys =>
    obtain ⟨p1, p2, p3, p4, p5, p6⟩ := shiF_some HSM.out hh
    rw [hh] at ho2' ho3
    simp only [Option.getD_some, Option.isSome_some] at ho2' ho3 ⊢
    have hly : ys.length = m3 := by have := ho3.len; rw [List.length_map] at this; exact this
    have EQ := Lib.hid (eqV_all p4 hly)
    obtain ⟨s1, s2, s3, s4, s5⟩ := siz_parts p1
    rw [HL.out] at s1 s4 s5 p3 p5 p6
    have hm3 : m3 = m := by omega
    subst hm3
    obtain ⟨j, rfl⟩ := Int.eq_ofNat_of_zero_le p2
    have hj : j < m3 := by omega
    have HS1 := Lib.hid s1
    have HP6 := Lib.hid p6
    have HYF : Hid (sigB ys = true) := by show _ = _; unfold sigB; rw [p4, hly, decide_eq_true s4]; rfl
    clear hh p1 p2 p3 p4 p5 p6 hly s1 s2 s3
    go_wp2_with fail
    refine (sameSignal_true A2 A3 m3 c2 c3 ys ys w3 (by omega) ho2'.sl ho3.sl EQ.out).mono ?_
    rintro e w4 ⟨rfl, k4, hw4⟩
    have H1 : Hid (Ow w4 w.heap.size 45 (.slice A1 m3 c1) m3 (xs.map cv)) := by rw [hw4]; exact ho1''.drewN k4
    have H2 : Hid (Ow w4 w1.heap.size 45 (.slice A2 m3 c2) m3 (ys.map cv)) := by rw [hw4]; exact ho2'.drewN k4
    have HB : Hid (Below w.heap.size w w4) := by rw [hw4]; exact below_drewN bw3 k4
    have HSI : Hid (∀ w, Cs w A2 m3 ys → Calls Try.prog 30 #[.slice A2 m3 c2] w fun e w' => e = .returned (.bool true) ∧ Dr w w') := fun w h => by rw [← HYF.out]; exact iSignalOk A2 m3 c2 ys w (by omega) h
    clear ho1 ho2 ho3 hb1 hb2 hb3 ho1' ho1'' ho2' bw2 bw3 hw4 hnc h
    go_wp2_with fail
    refine (wholeSignal_any A1 m3 c1 xs 1000 w4 (by omega) H1.out.sl (by omega) (by omega)).mono ?_
    rintro e w5 ⟨v, rfl, hv, k5, hw5⟩
    have H1b : Hid (Ow w5 w.heap.size 45 (.slice A1 m3 c1) m3 (xs.map cv)) := by rw [hw5]; exact H1.out.drewN k5
    have H2b : Hid (Ow w5 w1.heap.size 45 (.slice A2 m3 c2) m3 (ys.map cv)) := by rw [hw5]; exact H2.out.drewN k5
    have HB5 : Hid (Below w.heap.size w w5) := by rw [hw5]; exact below_drewN HB.out k5
    have HV := Lib.hid hv
    clear hv hw5
    cases v with
    | false =>
      go_wp2_with fail
      refine (HSI.out w5 H2b.out.sl).mono ?_
      rintro e w6 ⟨rfl, k6, rfl⟩
      go_wp2_with fail
      go_ret
      exact ⟨rfl, below_drewN HB5.out k6⟩
    | true =>
      by_cases h4 : 4 < m3
      · go_wp2_with fail
        refine (HSI.out w5 H2b.out.sl).mono ?_
        rintro e w6 ⟨rfl, k6, rfl⟩
        go_wp2_with fail
        go_ret
        exact ⟨rfl, below_drewN HB5.out k6⟩
      obtain ⟨p, hp⟩ := WSig.of (HV.out rfl)
      rw [HL.out] at hp
      have hmn : m3 = 1 ∨ m3 = 2 ∨ m3 = 4 := by have := p2B_iff.1 HS1.out; omega
      obtain ⟨la, lb, ea, eb, na, nb, fa, g1, g2, hk⟩ := shi_law hp hmn hj
      rw [← HP6.out] at eb g2
      have HTA : Hid (∀ w', Cs w' A1 m3 xs → Calls Try.prog 32 #[.slice A1 m3 c1] w' (RetC w' la true)) := fun w' h' => by
        have := iTransform A1 m3 c1 xs w' (by omega) h' fun _ => g1
        unfold RetO at this
        rw [ea] at this
        exact this
      have HTB : Hid (∀ w', Cs w' A2 m3 ys → Calls Try.prog 32 #[.slice A2 m3 c2] w' (RetC w' lb true)) := fun w' h' => by
        have := iTransform A2 m3 c2 ys w' (by omega) h' fun _ => g2
        unfold RetO at this
        rw [eb] at this
        exact this
      have HMO : Hid (∀ A c w', Cs w' A m3 la → Calls Try.prog 54 #[.slice A m3 c, .int .i64 j] w' (RetS w' (movL la m3 j))) := fun A c w' h' =>
        iMoved A m3 c la j w' h' (by unfold sigB; rw [fa, na, decide_eq_true s4]; rfl) (by omega) (by omega)
      have NA := Lib.hid na
      have NB := Lib.hid nb
      have HK := Lib.hid hk
      clear hp ea eb na nb g1 g2 hk hmn fa
      go_wp2_with fail
      refine (HTA.out w5 H1b.out.sl).mono ?_
      rintro e w6 ⟨A6, m6, c6, rfl, ho6, hb6⟩
      obtain rfl : m6 = m3 := by have h1 := ho6.len; rw [List.length_map] at h1; exact h1.symm.trans NA.out
      have HB6 : Hid (Below w.heap.size w w6) := HB5.out.trans (hb6.mono HB5.out.size)
      have H2c := Lib.hid (H2b.out.below hb6)
      have H6 := Lib.hid ho6
      clear ho6 hb6
      go_wp2_with fail
      refine (HTB.out w6 H2c.out.sl).mono ?_
      rintro e w7 ⟨A7, m7, c7, rfl, ho7, hb7⟩
      obtain rfl : m7 = m6 := by have h1 := ho7.len; rw [List.length_map] at h1; exact h1.symm.trans NB.out
      have HB7 : Hid (Below w.heap.size w w7) := HB6.out.trans (hb7.mono HB6.out.size)
      have H6b := Lib.hid (H6.out.below hb7)
      have H7 := Lib.hid ho7
      clear ho7 hb7
      go_wp2_with fail
      refine (HMO.out A6 c6 w7 H6b.out.sl).mono ?_
      rintro e w8 ⟨A8, m8, c8, rfl, ho8, hb8⟩
      obtain rfl : m8 = m7 := by have h1 := ho8.len; rw [List.length_map] at h1; have h2 : (movL la m7 j).length = m7 := rngL_len _ _; omega
      have HB8 : Hid (Below w.heap.size w w8) := HB7.out.trans (hb8.mono HB7.out.size)
      have H7b := Lib.hid (H7.out.below hb8)
      have H8 := Lib.hid ho8
      clear ho8 hb8
      go_wp2_with fail
      refine (sameSignal_true A7 A8 m8 c7 c8 lb _ w8 (by omega) H7b.out.sl H8.out.sl HK.out).mono ?_
      rintro e w9 ⟨rfl, k9, rfl⟩
      go_wp2_with fail
      go_ret
      exact ⟨rfl, below_drewN HB8.out k9⟩
end Go.Proofs.Ytficlmnjbbpicaa
