/- The law FnWithZeros, walked. -/
import Derived.Test.YtficlmnjbbpicaaG2
import Derived.Test.YtficlmnjbbpicaaD9
import Derived.Test.YtficlmnjbbpicaaB4
namespace Go.Proofs.Ytficlmnjbbpicaa
open Go.RowKit

theorem eqV_whl {a b : C} {p q : Int} (h1 : WhlC a p q) (h2 : WhlC b p q) : EqV a b :=
  ⟨h1.1.1, h1.2.1, h2.1.1, h2.2.1, h1.1.2.trans h2.1.2.symm, h1.2.2.trans h2.2.2.symm⟩
theorem Ow.cap {w : World} {B n c : Nat} {E : TypeId} {A : Option Addr} {vs : List Value} (h : Ow w B E (.slice A n c) n vs) : n ≤ c := by
  rcases h.2 with ⟨hv, hn⟩ | ⟨g, cap, cur, hv, _, _, r⟩
  · omega
  · injection hv with _ _ h3
    subst h3
    exact r.1
theorem Cs.take_ {w : World} {A : Option Addr} {n k : Nat} {xs : List C} (h : Cs w A n xs) (hk : k ≤ n) : Cs w A k (xs.take k) := by
  have hl := h.len
  refine ⟨by simp; omega, ?_⟩
  rcases h.2 with h0 | ⟨b, o, h1, h2, h3⟩
  · exact .inl (by omega)
  · refine .inr ⟨b, o, h1, h2, fun j v hv => h3 j v ?_⟩
    rw [List.map_take, List.getElem?_take] at hv
    split at hv
    · exact hv
    · cases hv
theorem Cs.drop_ {w : World} {g o n k : Nat} {xs : List C} (h : Cs w (some ⟨g, o, none⟩) n xs) (hk : k < n) : Cs w (some ⟨g, o + k, none⟩) (n - k) (xs.drop k) := by
  have hl := h.len
  refine ⟨by simp; omega, ?_⟩
  rcases h.2 with h0 | ⟨b, o', h1, h2, h3⟩
  · exact absurd h0 (by omega)
  · injection h1 with h1
    injection h1 with h1 h4
    subst h1
    subst h4
    refine .inr ⟨g, o + k, rfl, h2, fun j v hv => ?_⟩
    rw [List.map_drop, List.getElem?_drop] at hv
    rw [show o + k + j = o + (k + j) by omega]
    exact h3 _ v hv
theorem nth_take {xs : List C} {i k : Nat} (hi : i < k) (hk : k ≤ xs.length) : nth (xs.take k) i = nth xs i := by
  rw [nth_eq (by simp; omega), nth_eq (by omega), List.getElem_take]
theorem nth_drop {xs : List C} {i k : Nat} (h : k + i < xs.length) : nth (xs.drop k) i = nth xs (k + i) := by
  rw [nth_eq (by simp; omega), nth_eq (by omega), List.getElem_drop]
theorem wzs_fin (xs : List C) : (wzs xs).all finB = true ∧ (wzs xs).length ≤ 16 := by
  unfold wzs
  split
  · rename_i h
    rw [Bool.and_eq_true, decide_eq_true_eq] at h
    unfold sigB at h
    rw [Bool.and_eq_true] at h
    refine ⟨List.all_eq_true.2 fun z hz => ?_, by rw [wzT_len]; omega⟩
    unfold wzT at hz
    obtain ⟨i, hi, hz⟩ := List.mem_flatMap.1 hz
    have hi := List.mem_range.1 hi
    simp at hz
    rcases hz with rfl | rfl
    · rw [nth_eq hi]; exact List.all_eq_true.1 h.1.2 _ (List.getElem_mem hi)
    · decide
  · exact ⟨rfl, by simp⟩
theorem nth_left {l : List C} (r : List C) {i : Nat} (h : i < l.length) : nth (l ++ r) i = nth l i := by
  have h2 : i < (l ++ r).length := by rw [List.length_append]; omega
  rw [nth_eq h2, nth_eq h, List.getElem_append_left h]
theorem wzT_nth (xs : List C) : ∀ j i, i < j → nth (wzT xs j) (2 * i) = nth xs i ∧ nth (wzT xs j) (2 * i + 1) = (0, 0)
  | 0, i, h => absurd h (Nat.not_lt_zero _)
  | j + 1, i, h => by
    have hl := wzT_len xs j
    rw [wzT_succ]
    by_cases hi : i < j
    · obtain ⟨h1, h2⟩ := wzT_nth xs j i hi
      rw [← h1, ← h2]
      exact ⟨nth_left _ (by omega), nth_left _ (by omega)⟩
    · have : i = j := by omega
      subst this
      constructor
      · rw [nth_eq (by rw [List.length_append]; simp; omega), List.getElem_append_right (by omega)]; simp [hl]
      · rw [nth_eq (by rw [List.length_append]; simp; omega), List.getElem_append_right (by omega)]; simp [hl]
def pz (p : Nat → Int × Int) (i : Nat) : Int × Int := if i % 2 = 0 then p (i / 2) else (0, 0)
theorem wz_sig {xs : List C} {n : Nat} {p : Nat → Int × Int} (h : WSig xs n p 1000) : WSig (wzT xs n) (2 * n) (pz p) 1000 := by
  refine ⟨wzT_len xs n, fun i hi => ?_, fun i hi => ?_⟩
  · obtain ⟨h1, h2⟩ := wzT_nth xs n (i / 2) (by omega)
    unfold pz
    by_cases he : i % 2 = 0
    · rw [if_pos he]
      rw [show 2 * (i / 2) = i by omega] at h1
      rw [h1]; exact h.whl (i / 2) (by omega)
    · rw [if_neg he]
      rw [show 2 * (i / 2) + 1 = i by omega] at h2
      rw [h2]; exact ⟨whl0, whl0⟩
  · unfold pz
    by_cases he : i % 2 = 0
    · rw [if_pos he]; exact h.bd (i / 2) (by omega)
    · rw [if_neg he]; decide
theorem wz_gs {p : Nat → Int × Int} {n : Nat} (hn : n = 1 ∨ n = 2) (k : Nat) (hk : k < n) :
    gs (pz p) (tk (2 * n) (-(k : Int))) (2 * n) = gs p (tk n (-(k : Int))) n ∧ gs (pz p) (tk (2 * n) (-((n + k : Nat) : Int))) (2 * n) = gs p (tk n (-(k : Int))) n := by
  rcases hn with rfl | rfl
  · have : k = 0 := by omega
    subst this
    constructor <;> simp [gs, gmul, pz, tk, rot]
  · have : k = 0 ∨ k = 1 := by omega
    rcases this with rfl | rfl <;> constructor <;> simp [gs, gmul, pz, tk, rot]

set_option maxHeartbeats 2000000 in
set_option maxRecDepth 100000 in
theorem lawWithZeros (A : Option Addr) (n c : Nat) (w : World) (hnc : n ≤ c) (h : Code8 w A n) :
    Calls Try.prog 9 #[.slice A n c] w fun e w' => e = .returned (.bool true) ∧ Below w.heap.size w w' := by
  by_cases hbig : 1048576 < n
  · go_enter Try.func9, Try.ntmps9
    go_wp2_with fail
    go_ret
    exact ⟨rfl, Below.refl _ _⟩
  have hn2 : n ≤ 1048576 := by omega
  go_enter Try.func9, Try.ntmps9
  go_wp2_with fail
  refine (drawWithZeros_any A n c w hnc hn2 h).mono ?_
  rintro e w1 ⟨A1, m, c1, xs, rfl, ho1, hm, _, hb1⟩
  have hl : xs.length = m := by have := ho1.len; rw [List.length_map] at this; exact this
  have HL := Lib.hid hl
  clear hl
  go_wp2_with fail
  refine (iZeros A1 m c1 xs w1 (by omega) ho1.sl).mono ?_
  rintro e w2 ⟨A2, m2, c2, rfl, ho2, hb2⟩
  have bw2 : Below w.heap.size w w2 := hb1.trans (hb2.mono hb1.size)
  have ho1' := ho1.below hb2
  go_wp2_with fail
  refine (sZeros A1 m c1 xs w2 (by omega) ho1'.sl).mono ?_
  rintro e w3 ⟨A3, m3, c3, rfl, ho3, hb3⟩
  have bw3 : Below w.heap.size w w3 := bw2.trans (hb3.mono bw2.size)
  have ho1'' := ho1'.below hb3
  have ho2' := ho2.below hb3
  obtain rfl : m3 = m2 := by have h1 := ho2.len; have h2 := ho3.len; omega
  have hlw : (wzs xs).length = m3 := by have h1 := ho2.len; rw [List.length_map] at h1; exact h1
  have HLW := Lib.hid hlw
  have hm3 : m3 ≤ 16 := by have := (wzs_fin xs).2; omega
  clear hlw
  go_wp2_with fail
  refine (sameSignal_true A2 A3 m3 c2 c3 _ _ w3 (by omega) ho2'.sl ho3.sl (fun i hi => EqV.refl (by
    have h2 := List.all_eq_true.1 (wzs_fin xs).1 _ (List.getElem_mem (show i < (wzs xs).length by rw [HLW.out]; exact hi))
    rw [nth_eq (by rw [HLW.out]; exact hi)]; exact h2))).mono ?_
  rintro e w4 ⟨rfl, k4, hw4⟩
  have H1 : Hid (Ow w4 w.heap.size 45 (.slice A1 m c1) m (xs.map cv)) := by rw [hw4]; exact ho1''.drewN k4
  have H2 : Hid (Ow w4 w1.heap.size 45 (.slice A2 m3 c2) m3 ((wzs xs).map cv)) := by rw [hw4]; exact ho2'.drewN k4
  have HB : Hid (Below w.heap.size w w4) := by rw [hw4]; exact below_drewN bw3 k4
  clear ho1 ho2 ho3 hb1 hb2 hb3 ho1' ho1'' ho2' bw2 bw3 hw4
  by_cases hm0 : m3 = 0
  · subst hm0
    go_wp2_with fail
    refine (alive_true _).mono ?_
    rintro e w5 ⟨rfl, rfl⟩
    go_wp2_with fail
    go_ret
    exact ⟨rfl, HB.out⟩
  have hm0' : ((m3 : Int) == 0) = false := by rw [beq_eq_false_iff_ne]; omega
  have hpos : 0 < m3 := by omega
  -- the noughts lie there: the signal is one, of at most 8 points
  have hy : wzs xs = wzT xs m ∧ m3 = 2 * m := by
    have hne : wzs xs ≠ [] := fun h0 => hm0 (by rw [← HLW.out, h0]; rfl)
    have e : wzs xs = wzT xs m := by
      unfold wzs at hne ⊢
      split at hne
      · rename_i hc; rw [if_pos hc, HL.out]
      · exact absurd rfl hne
    exact ⟨e, by rw [← HLW.out, e, wzT_len]⟩
  have HY := Lib.hid hy.1
  have HM := Lib.hid hy.2
  have e0 : IntKind.i64.wrap (2 * (m : Int)) = 2 * (m : Int) := IntWalk.i64_in _ (by omega)
  have e1 : ((m3 : Int) == 2 * (m : Int)) = true := by rw [beq_iff_eq]; have := hy.2; omega
  clear hy hm0
  by_cases h2 : 2 < m
  · go_wp2_with fail
    go_ret
    exact ⟨rfl, HB.out⟩
  go_wp2_with fail
  refine (wholeSignal_any A1 m c1 xs 1000 w4 (by omega) H1.out.sl (by omega) (by omega)).mono ?_
  rintro e w5 ⟨v, rfl, hv, k5, hw5⟩
  have H1b : Hid (Ow w5 w.heap.size 45 (.slice A1 m c1) m (xs.map cv)) := by rw [hw5]; exact H1.out.drewN k5
  have H2b : Hid (Ow w5 w1.heap.size 45 (.slice A2 m3 c2) m3 ((wzT xs m).map cv)) := by rw [hw5, ← HY.out]; exact H2.out.drewN k5
  have HB5 : Hid (Below w.heap.size w w5) := by rw [hw5]; exact below_drewN HB.out k5
  have HV := Lib.hid hv
  clear hv hw5
  cases v with
  | false =>
    go_wp2_with fail
    go_ret
    exact ⟨rfl, HB5.out⟩
  | true =>
    obtain ⟨p, hp⟩ := WSig.of (HV.out (by trivial))
    rw [HL.out] at hp
    have hmn : m = 1 ∨ m = 2 := by have := HM.out; omega
    have hz := wz_sig hp
    obtain ⟨la, ea, sa⟩ := hp.trans (by omega) (by omega)
    obtain ⟨lb, eb, sb⟩ := hz.trans (by omega) (by omega)
    have TA : Hid (∀ w', Cs w' A1 m xs → Calls Try.prog 32 #[.slice A1 m c1] w' (RetC w' la true)) := fun w' h' => by
      have := iTransform A1 m c1 xs w' (by omega) h' (fun _ => hp.prod (by omega) (by omega) (.inr rfl))
      unfold RetO at this
      rw [ea] at this; exact this
    have TB : Hid (∀ w', Cs w' A2 m3 (wzT xs m) → Calls Try.prog 32 #[.slice A2 m3 c2] w' (RetC w' lb true)) := fun w' h' => by
      have := iTransform A2 m3 c2 (wzT xs m) w' (by omega) h' (fun _ => hz.prod (by omega) (by omega) (.inr rfl))
      unfold RetO at this
      rw [eb] at this; exact this
    have HSA := Lib.hid sa
    have HSB := Lib.hid sb
    have HMN := Lib.hid hmn
    clear hp hz ea eb sa sb hmn
    go_wp2_with fail
    refine (TA.out w5 H1b.out.sl).mono ?_
    rintro e w6 ⟨A6, m6, c6, rfl, ho6, hb6⟩
    obtain rfl : m6 = m := by have h1 := ho6.len; rw [List.length_map, HSA.out.len] at h1; omega
    have H2c := Lib.hid (H2b.out.below hb6)
    have HB6 : Hid (Below w.heap.size w w6) := HB5.out.trans (hb6.mono HB5.out.size)
    go_wp2_with fail
    refine (TB.out w6 H2c.out.sl).mono ?_
    rintro e w7 ⟨A7, m7, c7, rfl, ho7, hb7⟩
    obtain rfl : m7 = m3 := by have h1 := ho7.len; rw [List.length_map, HSB.out.len] at h1; have := HM.out; omega
    have H6 := Lib.hid (ho6.below hb7)
    have HB7 : Hid (Below w.heap.size w w7) := HB6.out.trans (hb7.mono HB6.out.size)
    have hcap := Ow.cap ho7
    obtain ⟨g, rfl, _⟩ := Ow.at_ ho7 (k := 0) hpos
    have H7 := Lib.hid ho7
    have hmm : m6 ≤ m7 := by have := HM.out; omega
    have hmlt : m6 < m7 := by have := HM.out; have := HMN.out; omega
    clear ho6 hb6 ho7 hb7
    have EQ1 : Hid (∀ i, i < m6 → EqV (nth (lb.take m6) i) (nth la i)) := fun i hi => by
      rw [nth_take hi (by rw [HSB.out.len, ← HM.out]; exact hmm)]
      have h1 := HSB.out.whl i (by omega)
      rw [(wz_gs HMN.out i hi).1] at h1
      exact eqV_whl h1 (HSA.out.whl i hi)
    have EQ2 : Hid (∀ i, i < m6 → EqV (nth (lb.drop m6) i) (nth la i)) := fun i hi => by
      rw [nth_drop (by rw [HSB.out.len]; omega)]
      have h1 := HSB.out.whl (m6 + i) (by omega)
      rw [(wz_gs HMN.out i hi).2] at h1
      exact eqV_whl h1 (HSA.out.whl i hi)
    go_wp2_with fail
    refine (sameSignal_true (some ⟨g, 0, none⟩) A6 m6 c7 c6 (lb.take m6) la w7 (by omega) (Cs.take_ H7.out.sl hmm) H6.out.sl EQ1.out).mono ?_
    rintro e w8 ⟨rfl, k8, hw8⟩
    have hd : m7 - m6 = m6 := by have := HM.out; omega
    have HD := Lib.hid hd
    have H7d : Hid (Cs w8 (some ⟨g, m6, none⟩) m6 (lb.drop m6)) := by
      have h1 := (Cs.drop_ H7.out.sl hmlt).drewN k8
      rw [HD.out, Nat.zero_add] at h1
      rw [hw8]; exact h1
    have H6d : Hid (Cs w8 A6 m6 la) := by rw [hw8]; exact Cs.drewN H6.out.sl k8
    have HB8 : Hid (Below w.heap.size w w8) := by rw [hw8]; exact below_drewN HB7.out k8
    clear hw8
    go_wp2_with fail
    refine (sameSignal_true (some ⟨g, m6, none⟩) A6 m6 _ c6 (lb.drop m6) la w8 (by omega) H7d.out H6d.out EQ2.out).mono ?_
    rintro e w9 ⟨rfl, k9, rfl⟩
    go_wp2_with fail
    go_ret
    exact ⟨rfl, below_drewN HB8.out k9⟩
end Go.Proofs.Ytficlmnjbbpicaa
