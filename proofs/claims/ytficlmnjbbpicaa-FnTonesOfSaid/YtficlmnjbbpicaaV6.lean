/- The law FnTonesOf, walked. -/
import Derived.Test.YtficlmnjbbpicaaV5
import Derived.Test.YtficlmnjbbpicaaB4
namespace Go.Proofs.Ytficlmnjbbpicaa
open Go.RowKit

/-- The sum of the first numbers. -/
def isum (l : List Int) : Nat → Int
  | 0 => 0
  | k + 1 => isum l k + inth l k
theorem isum_tons {ps : List Nat} {m : Int} : ∀ k, k ≤ ps.length → isum (tonsL ps m) k = cnt (tonI (fth ps) ps.length m) k
  | 0, _ => rfl
  | k + 1, hk => by
    show isum _ k + inth _ k = cnt _ k + b2i _
    rw [isum_tons k (by omega)]
    congr 1
    rw [inth_eq (by rw [tonsL_len]; omega)]
    simp [tonsL]
theorem tons_parts {xs : List C} {m : Int} (hg : Good xs) : tonsO pwI xs m = [] ∨ ∃ ps : List Nat, tonsO pwI xs m = tonsL ps m ∧ ps.length = xs.length ∧ ps.length ≤ 16 ∧ ∀ i, i < ps.length → PwOk (fth ps i) := by
  cases ht : transF xs with
  | none => exact .inl (tonsO_none ht)
  | some l =>
    have hsz : sizB xs = true := by
      cases hs : sizB xs
      · rw [transF_no hs] at ht; cases ht
      · rfl
    obtain ⟨_, l', e', hl2, hmd⟩ := hg hsz
    rw [ht] at e'
    injection e' with e'
    subst e'
    obtain ⟨s1, s2, s3, s4, s5⟩ := siz_parts hsz
    by_cases hm : 0 ≤ m ∧ m ≤ 1000
    · refine .inr ⟨pwL pwI l, tonsO_in ht hm, by rw [pwL_len]; exact hl2, by rw [pwL_len]; omega, fun i hi => ?_⟩
      rw [pwL_len] at hi
      rw [fth_pwL hi]
      exact (pwI_spec (hmd i (by omega)).1).2.1
    · exact .inl (tonsO_out hm)
theorem tons_len {xs : List C} {m : Int} (hg : Good xs) : ((tonsO pwI xs m).length = 0 ∨ (tonsO pwI xs m).length = xs.length) ∧ (tonsO pwI xs m).length ≤ 16 := by
  rcases tons_parts (m := m) hg with h | ⟨ps, h, h1, h2, _⟩
  · rw [h]; exact ⟨.inl rfl, by simp⟩
  · rw [h, tonsL_len]; exact ⟨.inr h1, h2⟩
theorem tons_half {xs : List C} (hg : Good xs) : ∀ k, k ≤ (tonsO pwI xs 500).length → isum (tonsO pwI xs 500) k = 0 ∨ isum (tonsO pwI xs 500) k = 1 := by
  intro k hk
  rcases tons_parts (m := 500) hg with h | ⟨ps, h, h1, h2, h3⟩
  · rw [h] at hk ⊢
    have : k = 0 := by simpa using hk
    subst this
    exact .inl rfl
  · rw [h] at hk ⊢
    rw [tonsL_len] at hk
    rw [isum_tons k hk]
    rcases cnt_le (f := tonI (fth ps) ps.length 500) (n := ps.length) (fun i j hij hj t1 t2 => one_great h2 h3 hij hj t1 t2) k hk with ⟨e, _⟩ | ⟨e, _⟩
    · exact .inl e
    · exact .inr e
theorem ton43_len : (tonF 4 3).length = 4 := by decide +kernel
theorem ton43_100 : tonsO pwI (tonF 4 3) 100 = [0, 0, 0, 1] := by decide +kernel
theorem ton43_1000 : tonsO pwI (tonF 4 3) 1000 = [0, 0, 0, 0] := by decide +kernel
theorem lit4_sl (w : World) (a b c d : Int) : Sl (w.alloc (.cells #[.int .i64 a, .int .i64 b, .int .i64 c, .int .i64 d] 3)) (some ⟨w.heap.size, 0, none⟩) 4 ([a, b, c, d].map iv) := by
  refine ⟨rfl, .inr ⟨w.heap.size, 0, rfl, by simp, fun k v h => ?_⟩⟩
  rw [World.cell?_alloc_at _ _ _ _ rfl, ← h]
  simp [iv]

set_option maxHeartbeats 2000000 in
set_option maxRecDepth 100000 in
theorem lawTonesOf (A : Option Addr) (n c : Nat) (w : World) (hnc : n ≤ c) (h : Code8 w A n) :
    Calls Try.prog 13 #[.slice A n c] w fun e w' => e = .returned (.bool true) ∧ Below w.heap.size w w' := by
  by_cases hbig : 1048576 < n
  · go_enter Try.func13, Try.ntmps13
    go_wp2_with fail
    go_ret
    exact ⟨rfl, Below.refl _ _⟩
  have hn2 : n ≤ 1048576 := by omega
  go_enter Try.func13, Try.ntmps13
  go_wp2_with fail
  refine (drawTonesOf_any A n c w hnc hn2 h).mono ?_
  rintro e w1 ⟨A1, m, c1, xs, k, rfl, ho1, hm, hgd, hb1⟩
  have hl : xs.length = m := by have := ho1.len; rw [List.length_map] at this; exact this
  have HGD := Lib.hid hgd
  have HLEN := Lib.hid (tons_len (m := k) hgd)
  have HLEN5 := Lib.hid (tons_len (m := 500) hgd)
  have HHALF := Lib.hid (tons_half hgd)
  have HSAME := Lib.hid (tonsO_same (m := k) hgd)
  clear hgd
  go_wp2_with fail
  refine (iTones A1 m c1 xs k w1 (by omega) ho1.sl HGD.out).mono ?_
  rintro e w2 ⟨A2, m2, c2, hm2, rfl, ho2, hb2⟩
  have bw2 : Below w.heap.size w w2 := hb1.trans (hb2.mono hb1.size)
  have ho1' := ho1.below hb2
  have HM2 := Lib.hid hm2
  clear hm2
  go_wp2_with fail
  refine (sTones A1 m c1 xs k w2 (by omega) ho1'.sl HGD.out).mono ?_
  rintro e w3 ⟨A3, m3, c3, hm3, rfl, ho3, hb3⟩
  rw [HSAME.out] at hm3 ho3
  obtain rfl : m3 = m2 := by rw [hm3, HM2.out]
  clear hm3
  have bw3 : Below w.heap.size w w3 := bw2.trans (hb3.mono bw2.size)
  have ho1'' := ho1'.below hb3
  have ho2' := ho2.below hb3
  have hm16 : m3 ≤ 16 := by rw [HM2.out]; exact HLEN.out.2
  have hml : m3 = 0 ∨ m3 = m := by rw [HM2.out, ← hl]; exact HLEN.out.1
  go_wp2_with fail
  refine (sameInts_true A2 A3 m3 c2 c3 _ w3 (by omega) ho2'.sl ho3.sl).mono ?_
  rintro e w4 ⟨rfl, k4, hw4⟩
  have H1 : Hid (Cs w4 A1 m xs) := by rw [hw4]; exact ho1''.sl.drewN k4
  have HB4 : Hid (Below w.heap.size w w4) := by rw [hw4]; exact below_drewN bw3 k4
  clear hw4 ho1 ho2 ho3 hb1 hb2 hb3 ho1' ho1'' ho2' bw2 bw3 h
  go_wp2_with fail
  refine (iTones A1 m c1 xs 500 w4 (by omega) H1.out HGD.out).mono ?_
  rintro e w5 ⟨A5, N, c5, hN, rfl, ho5, hb5⟩
  have HB5 : Hid (Below w.heap.size w w5) := HB4.out.trans (hb5.mono HB4.out.size)
  have HN16 : Hid (N ≤ 16) := by show _ ≤ _; rw [hN]; exact HLEN5.out.2
  have HHF : Hid (∀ k, k ≤ N → isum (tonsO pwI xs 500) k = 0 ∨ isum (tonsO pwI xs 500) k = 1) := fun k hk => HHALF.out k (by rw [← hN]; exact hk)
  generalize tonsO pwI xs 500 = hf at *
  have H5 : Hid (Sl w5 A5 N (hf.map iv)) := ho5.sl
  have hN16 := HN16.out
  clear ho5 hb5
  go_wp2_with fail
  go_loopw [7, 8] (fun s i wr => ∃ j : Nat, j ≤ N ∧ i = .int .i64 j ∧ s = .int .i64 (isum hf j) ∧ ∃ mm, wr = w5.drewN mm) (fun _ i _ => N - (intOf i).toNat)
  case atStart => exact ⟨0, by omega, rfl, rfl, 0, rfl⟩
  case round =>
    obtain ⟨j, hj, rfl, rfl, mm, rfl⟩ := hrel
    by_cases hlt : j < N
    · obtain ⟨b, o, rfl, hbl, hc⟩ := H5.out.int_at hlt
      have hck : (w5.drewN mm).cell? ⟨b, o + j, none⟩ = some (.int .i64 (inth hf j)) := hc j hlt
      have he : isum hf (j + 1) = isum hf j + inth hf j := rfl
      have h1 := HHF.out j hj
      have h2 := HHF.out (j + 1) (by omega)
      have e0 : IntKind.i64.wrap (isum hf j + inth hf j) = isum hf (j + 1) := by rw [← he]; exact IntWalk.i64_in _ (by omega)
      clear hc he h1 h2
      go_wp2_with fail
      go_roundw
      case rel => exact ⟨j + 1, by omega, by go_num, by first | rfl | (rw [e0]), mm, rfl⟩
      case measure => simp [intOf]; omega
    · obtain rfl : j = N := by omega
      have hs := HHF.out j (Nat.le_refl _)
      have hs1 : isum hf j ≤ 1 := by omega
      have HB6 : Hid (Below w.heap.size w (w5.drewN mm)) := below_drewN HB5.out mm
      clear hs
      generalize isum hf j = sm at *
      generalize w5.drewN mm = w6 at *
      have HL := Lib.hid hl
      have HML := Lib.hid hml
      clear hl hml
      go_wp2_with fail
      refine (iTone 4 3 _).mono ?_
      rintro e w7 ⟨A7, m7, c7, rfl, ho7, hb7⟩
      obtain rfl : m7 = 4 := by have h1 := ho7.len; rw [List.length_map, ton43_len] at h1; exact h1.symm
      have HB7 : Hid (Below w.heap.size w w7) := HB6.out.trans (hb7.mono HB6.out.size)
      have H7 : Hid (Cs w7 A7 4 (tonF 4 3)) := ho7.sl
      clear ho7 hb7
      go_wp2_with fail
      refine (iTones A7 4 c7 (tonF 4 3) 100 w7 (by omega) H7.out (good_ton 4 3)).mono ?_
      rintro e w8 ⟨A8, m8, c8, hm8, rfl, ho8, hb8⟩
      rw [ton43_100] at hm8 ho8
      obtain rfl : m8 = 4 := hm8
      have HB8 : Hid (Below w.heap.size w w8) := HB7.out.trans (hb8.mono HB7.out.size)
      have H7b : Hid (Cs w8 A7 4 (tonF 4 3)) := H7.out.below hb8
      have H8 : Hid (Sl w8 A8 4 ([0, 0, 0, 1].map iv)) := ho8.sl
      clear ho8 hb8
      go_wp2_with fail
      refine (sameInts_true A8 _ 4 c8 4 [0, 0, 0, 1] _ (by omega) (H8.out.below (below_alloc _ _)) (lit4_sl w8 0 0 0 1)).mono ?_
      rintro e w9 ⟨rfl, k9, hw9⟩
      have HB9 : Hid (Below w.heap.size w w9) := by rw [hw9]; exact below_drewN (HB8.out.trans ((below_alloc w8 _).mono HB8.out.size)) k9
      have H7c : Hid (Cs w9 A7 4 (tonF 4 3)) := by rw [hw9]; exact (H7b.out.below (below_alloc w8 _)).drewN k9
      clear hw9
      go_wp2_with fail
      refine (iTones A7 4 c7 (tonF 4 3) 1000 w9 (by omega) H7c.out (good_ton 4 3)).mono ?_
      rintro e w10 ⟨A10, m10, c10, hm10, rfl, ho10, hb10⟩
      rw [ton43_1000] at hm10 ho10
      obtain rfl : m10 = 4 := hm10
      have HB10 : Hid (Below w.heap.size w w10) := HB9.out.trans (hb10.mono HB9.out.size)
      have H10 : Hid (Sl w10 A10 4 ([0, 0, 0, 0].map iv)) := ho10.sl
      clear ho10 hb10
      go_wp2_with fail
      refine (sameInts_true A10 _ 4 c10 4 [0, 0, 0, 0] _ (by omega) (H10.out.below (below_alloc _ _)) (lit4_sl w10 0 0 0 0)).mono ?_
      rintro e w11 ⟨rfl, k11, hw11⟩
      have HB11 : Hid (Below w.heap.size w w11) := by rw [hw11]; exact below_drewN (HB10.out.trans ((below_alloc w10 _).mono HB10.out.size)) k11
      clear hw11
      rcases HML.out with hz | hz
      · have hz0 : ((m3 : Int) == 0) = true := by rw [beq_iff_eq]; omega
        go_wp2_with fail
        refine (alive_true _).mono ?_
        rintro e w12 ⟨rfl, rfl⟩
        go_wp2_with fail
        go_ret
        exact ⟨rfl, HB11.out⟩
      · by_cases hz2 : m3 = 0
        · have hz0 : ((m3 : Int) == 0) = true := by rw [beq_iff_eq]; omega
          go_wp2_with fail
          refine (alive_true _).mono ?_
          rintro e w12 ⟨rfl, rfl⟩
          go_wp2_with fail
          go_ret
          exact ⟨rfl, HB11.out⟩
        · have hz0 : ((m3 : Int) == 0) = false := by rw [beq_eq_false_iff_ne]; omega
          have hz1 : ((m3 : Int) == (m : Int)) = true := by rw [beq_iff_eq]; omega
          go_wp2_with fail
          refine (alive_true _).mono ?_
          rintro e w12 ⟨rfl, rfl⟩
          go_wp2_with fail
          go_ret
          exact ⟨rfl, HB11.out⟩
end Go.Proofs.Ytficlmnjbbpicaa
