/- The law FnHalvesOf, walked. -/
import Derived.Test.YtficlmnjbbpicaaG3
import Derived.Test.YtficlmnjbbpicaaD10
import Derived.Test.YtficlmnjbbpicaaAp
namespace Go.Proofs.Ytficlmnjbbpicaa
open Go.RowKit

theorem eqV_all {l : List C} (h : l.all finB = true) {n : Nat} (hn : l.length = n) : ∀ i, i < n → EqV (nth l i) (nth l i) := fun i hi =>
  EqV.refl (finB_iff.2 (all_fin_nth h (by omega)))
theorem halves_law {hs : List C} {half : Nat} (hl : hs.length = half) (hsz : p2B (half + half) = true) (hw : ∀ i, i < hs.length → Wh (nth hs i) 1000) :
    ∃ l, halF (hs ++ hs) = some l ∧ l.length = half ∧ ∀ k, k < half → EqV (nth l k) (nth hs k) := by
  obtain ⟨p, hp⟩ := WSig.of hw
  rw [hl] at hp
  have e1 : ∀ i, i < half → nth (hs ++ hs) i = nth hs i := fun i hi => nth_left hs (by omega)
  have e2 : ∀ i, i < half → nth (hs ++ hs) (i + half) = nth hs i := fun i hi => by
    rw [nth_eq (by rw [List.length_append]; omega), List.getElem_append_right (by omega), nth_eq (by omega)]
    congr 1; omega
  have hps : 1 ≤ half := by rcases p2B_iff.1 hsz with h | h | h | h | h <;> omega
  have hW : WSig (hs ++ hs) (half + half) (fun i => if i < half then p i else p (i - half)) 1000 := by
    refine ⟨by rw [List.length_append]; omega, fun i hi => ?_, fun i hi => ?_⟩
    · by_cases h : i < half
      · simp only [if_pos h]; rw [e1 i h]; exact hp.whl i h
      · simp only [if_neg h]
        have := e2 (i - half) (by omega)
        rw [show i - half + half = i by omega] at this
        rw [this]; exact hp.whl _ (by omega)
    · by_cases h : i < half
      · simp only [if_pos h]; exact hp.bd i h
      · simp only [if_neg h]; exact hp.bd _ (by omega)
  have hS : sizB (hs ++ hs) = true := by
    unfold sizB sigB
    rw [hW.fin, hW.len, hsz]
    simp
    rcases p2B_iff.1 hsz with h | h | h | h | h <;> omega
  obtain ⟨l, e, hl2, hq⟩ := hW.halves hS (half := half) (q := p) (by omega) (by omega) (by omega) (by omega) fun k hk => by
    simp only [if_pos hk, if_neg (show ¬ k + half < half by omega), show k + half - half = k by omega]
    omega
  exact ⟨l, e, hl2, fun k hk => eqV_whl (hq k hk) (hp.whl k hk)⟩

set_option maxHeartbeats 4000000 in
set_option maxRecDepth 100000 in
theorem lawHalvesOf (A : Option Addr) (n c : Nat) (w : World) (hnc : n ≤ c) (h : Code8 w A n) :
    Calls Try.prog 7 #[.slice A n c] w fun e w' => e = .returned (.bool true) ∧ Below w.heap.size w w' := by
  by_cases hbig : 1048576 < n
  · go_enter Try.func7, Try.ntmps7
    go_wp2_with fail
    go_ret
    exact ⟨rfl, Below.refl _ _⟩
  have hn2 : n ≤ 1048576 := by omega
  go_enter Try.func7, Try.ntmps7
  go_wp2_with fail
  refine (drawHalvesOf_any A n c w hnc hn2 h).mono ?_
  rintro e w1 ⟨A1, m, c1, xs, rfl, ho1, hm, _, hb1⟩
  have hl : xs.length = m := by have := ho1.len; rw [List.length_map] at this; exact this
  have HL := Lib.hid hl
  have hmc := Ow.cap ho1
  clear hl
  go_wp2_with fail
  refine (iHalves A1 m c1 xs w1 (by omega) ho1.sl).mono ?_
  rintro e w2 ⟨A2, m2, c2, rfl, ho2, hb2⟩
  have bw2 : Below w.heap.size w w2 := hb1.trans (hb2.mono hb1.size)
  have ho1' := ho1.below hb2
  go_wp2_with fail
  refine (sHalves A1 m c1 xs w2 (by omega) hmc ho1'.sl).mono ?_
  rintro e w3 ⟨A3, m3, c3, rfl, ho3, hb3⟩
  have bw3 : Below w.heap.size w w3 := bw2.trans (hb3.mono bw2.size)
  have ho1'' := ho1'.below hb3
  have ho2' := ho2.below hb3
  obtain rfl : m3 = m2 := by have h1 := ho2.len; have h2 := ho3.len; omega
  cases hh : halF xs with
  | none =>
    rw [hh] at ho2' ho3
    simp only [Option.getD_none, Option.isSome_none] at ho2' ho3 ⊢
    have h0 : m3 = 0 := by have := ho3.len; simpa using this.symm
    subst h0
    clear hh
    go_wp2_with fail
    refine (sameSignal_true A2 A3 0 c2 c3 [] [] w3 (by omega) ho2'.sl ho3.sl (fun i hi => absurd hi (Nat.not_lt_zero _))).mono ?_
    rintro e w4 ⟨rfl, k4, hw4⟩
    have HB : Hid (Below w.heap.size w w4) := by rw [hw4]; exact below_drewN bw3 k4
    clear hw4
    go_wp2_with fail
    refine (alive_true _).mono ?_
    rintro e w5 ⟨rfl, rfl⟩
    go_wp2_with fail
    go_ret
    exact ⟨rfl, HB.out⟩
  | some ys =>
    obtain ⟨p1, p2, p3, p4⟩ := halF_parts hh
    rw [hh] at ho2' ho3
    simp only [Option.getD_some, Option.isSome_some] at ho2' ho3 ⊢
    have hly : ys.length = m3 := by have := ho3.len; rw [List.length_map] at this; exact this
    have EQ := Lib.hid (eqV_all p4 hly)
    obtain ⟨half, hhf⟩ : ∃ half, half = m / 2 := ⟨_, rfl⟩
    have HH := Lib.hid hhf
    have hm3 : m3 ≤ 17 := by rw [← hly, p3, HL.out]; omega
    obtain ⟨s1, s2, s3, s4, s5⟩ := siz_parts p1
    rw [HL.out] at s1 s4 s5 p2
    have HEV : Hid (half + half = m) := by show _ = _; rcases p2B_iff.1 s1 with h | h | h | h | h <;> omega
    have hhm : half ≤ m := by omega
    have hhc : half ≤ c1 := by omega
    have hpos : 0 < half := by omega
    have HS1 : Hid (p2B (half + half) = true) := by show _ = _; rw [HEV.out]; exact s1
    have hh16 : half ≤ 8 := by omega
    have e0 : ((m : Int) / 2) = (half : Int) := by rw [hhf]; rfl
    have HOX := Lib.hid (ho1''.drewN 0)
    clear hh p1 p2 p3 p4 hly hhf s1 s2 s3 s4 s5
    go_wp2_with fail
    refine (sameSignal_true A2 A3 m3 c2 c3 ys ys w3 (by omega) ho2'.sl ho3.sl EQ.out).mono ?_
    rintro e w4 ⟨rfl, k4, hw4⟩
    have H1 : Hid (Ow w4 w.heap.size 45 (.slice A1 m c1) m (xs.map cv)) := by rw [hw4]; exact ho1''.drewN k4
    have HB : Hid (Below w.heap.size w w4) := by rw [hw4]; exact below_drewN bw3 k4
    clear ho1 ho2 ho3 hb1 hb2 hb3 ho1' ho1'' ho2' bw2 bw3 hw4 hnc
    obtain ⟨g, rfl, hg1, hg2, _⟩ := Ow.at_ H1.out (k := 0) (by omega)
    have HC1 : Hid (Cs w4 (some ⟨g, 0, none⟩) half (xs.take half)) := Cs.take_ H1.out.sl hhm
    have HLT : Hid ((xs.take half).length = half) := HC1.out.len
    generalize xs.take half = hs at *
    have hO5 : Ow (w4.alloc (.cells #[] 45)) w4.heap.size 45 (.slice (some ⟨w4.heap.size, 0, none⟩) 0 0) 0 [] := Ow.empty w4 _
    have hb5 := below_alloc w4 (.cells #[] 45)
    have hsz5 : w4.heap.size ≤ (w4.alloc (.cells #[] 45)).heap.size := hb5.size
    have HC5 := Lib.hid (HC1.out.below hb5)
    have HO5 := Lib.hid hO5
    have HB5 := Lib.hid hb5
    clear hO5 hb5
    go_wp2_with (first
      | (at_builtin; refine wl_appS w4.heap.size (hs.map cv) hsz5 rfl (.tmp 49) (.tmp 50) 23 rfl Try.eC _ 0 _ rfl HO5.out (some ⟨g, 0, none⟩) half c1 rfl nofun HC5.out (cvs_one hs) (by simp [maxLen]; omega) (by omega) ?_; intro v6 w6 ho6 hb6; simp only [Nat.zero_add, List.nil_append] at ho6; have HB6 := Lib.hid (HB5.out.trans hb6); have HO6 := Lib.hid ho6; have HC6 := Lib.hid (HC1.out.below (HB5.out.trans hb6)); have hsz6 := (HB5.out.trans hb6).size; clear ho6 hb6)
      | (at_builtin; refine wl_appS w4.heap.size (hs.map cv) hsz6 rfl (.tmp 51) (.tmp 52) 23 rfl Try.eC _ half _ rfl HO6.out (some ⟨g, 0, none⟩) half c1 rfl nofun HC6.out (cvs_one hs) (by simp [maxLen]; omega) (by omega) ?_; intro v7 w7 ho7 hb7; have HB7 := Lib.hid (HB6.out.trans hb7); have HO7 := Lib.hid ho7; have HC7 := Lib.hid (HC1.out.below (HB6.out.trans hb7)); clear ho7 hb7; obtain ⟨A7, c7, rfl⟩ := HO7.out.shape))
    have HX7 : Hid (Cs w7 A7 (half + half) (hs ++ hs)) := by
      have := HO7.out.sl
      rw [← List.map_append] at this
      exact this
    have HLAW : Hid ((∀ i, i < hs.length → Wh (nth hs i) 1000) → ∃ l, halF (hs ++ hs) = some l ∧ l.length = half ∧ ∀ k, k < half → EqV (nth l k) (nth hs k)) := fun hw => halves_law HLT.out HS1.out hw
    have HI : Hid (∀ w', Cs w' A7 (half + half) (hs ++ hs) → Calls Try.prog 36 #[.slice A7 (half + half) c7] w' (RetO w' (halF (hs ++ hs)))) := fun w' h' => iHalves A7 (half + half) c7 (hs ++ hs) w' (by omega) h'
    cases hz : halF (hs ++ hs) with
    | none =>
      rw [hz] at HI HLAW
      have HLAW2 : Hid (¬ ∀ i, i < hs.length → Wh (nth hs i) 1000) := fun hw => by
        obtain ⟨l, h1, _⟩ := HLAW.out hw
        cases h1
      clear hz HLAW
      refine (HI.out w7 HX7.out).mono ?_
      rintro e w8 ⟨A8, m8, c8, rfl, ho8, hb8⟩
      have HB8 : Hid (Below w.heap.size w w8) := HB.out.trans ((HB7.out.trans (hb8.mono HB7.out.size)).mono HB.out.size)
      have HC8 := Lib.hid (HC7.out.below hb8)
      simp only [Option.isSome_none]
      clear ho8 hb8
      go_wp2_with fail
      refine (wholeSignal_any (some ⟨g, 0, none⟩) half c1 hs 1000 w8 (by omega) HC8.out (by omega) (by omega)).mono ?_
      rintro e w9 ⟨v, rfl, hv, k9, hw9⟩
      have HV := Lib.hid hv
      have HB9 : Hid (Below w.heap.size w w9) := by rw [hw9]; exact below_drewN HB8.out k9
      clear hv hw9
      cases v with
      | false =>
        go_wp2_with fail
        go_ret
        exact ⟨rfl, HB9.out⟩
      | true => exact absurd (HV.out rfl) HLAW2.out
    | some l =>
      rw [hz] at HI HLAW
      have HLAW2 : Hid ((∀ i, i < hs.length → Wh (nth hs i) 1000) → l.length = half ∧ ∀ k, k < half → EqV (nth l k) (nth hs k)) := fun hw => by
        obtain ⟨l', h1, h2⟩ := HLAW.out hw
        injection h1 with h1
        subst h1
        exact h2
      clear hz HLAW
      refine (HI.out w7 HX7.out).mono ?_
      rintro e w8 ⟨A8, m8, c8, rfl, ho8, hb8⟩
      have HB8 : Hid (Below w.heap.size w w8) := HB.out.trans ((HB7.out.trans (hb8.mono HB7.out.size)).mono HB.out.size)
      have HC8 := Lib.hid (HC7.out.below hb8)
      have HO8 := Lib.hid ho8
      simp only [Option.isSome_some]
      clear ho8 hb8
      go_wp2_with fail
      refine (wholeSignal_any (some ⟨g, 0, none⟩) half c1 hs 1000 w8 (by omega) HC8.out (by omega) (by omega)).mono ?_
      rintro e w9 ⟨v, rfl, hv, k9, hw9⟩
      have HV := Lib.hid hv
      have HB9 : Hid (Below w.heap.size w w9) := by rw [hw9]; exact below_drewN HB8.out k9
      have HC9 : Hid (Cs w9 (some ⟨g, 0, none⟩) half hs) := by rw [hw9]; exact HC8.out.drewN k9
      have HO9 : Hid (Ow w9 w7.heap.size 45 (.slice A8 m8 c8) m8 (l.map cv)) := by rw [hw9]; exact HO8.out.drewN k9
      clear hv hw9
      cases v with
      | false =>
        go_wp2_with fail
        go_ret
        exact ⟨rfl, HB9.out⟩
      | true =>
        obtain ⟨q1, q2⟩ := HLAW2.out (HV.out rfl)
        have hm8 : m8 = half := by have := HO9.out.len; rw [List.length_map] at this; omega
        subst hm8
        have Q2 := Lib.hid q2
        clear q1 q2
        go_wp2_with fail
        refine (sameSignal_true A8 (some ⟨g, 0, none⟩) m8 c8 c1 l hs w9 (by omega) HO9.out.sl HC9.out Q2.out).mono ?_
        rintro e w10 ⟨rfl, k10, rfl⟩
        go_wp2_with fail
        go_ret
        exact ⟨rfl, below_drewN HB9.out k10⟩
end Go.Proofs.Ytficlmnjbbpicaa
