/- The laws FnExactJournalText and FnExactReadJournal, walked. -/
import Derived.Test.YtemcdeopehdggaaDoorJ15
namespace Go.Proofs.YtemcdeopehdggaaDoor
open Go.RowKit
open Go.Lib hiding intOf

set_option maxHeartbeats 1000000 in
theorem eqDeedS_same (A A' : Option Addr) (n c c' : Nat) (ds : List Dd) (w : World) (hn : n ≤ 1073741824) (hx : Ds w A n ds) (hy : Ds w A' n ds) :
    Calls Tryd.prog 40 #[.slice A n c, .slice A' n c'] w fun e w' => e = .returned (.bool true) ∧ Below w.heap.size w w' := by
  have HX := Lib.hid hx
  have HY := Lib.hid hy
  clear hx hy
  go_enter Tryd.func40, Tryd.ntmps40
  go_wp2_with fail
  go_loopw [5] (fun i wr => ∃ k : Nat, k ≤ n ∧ i = .int .i64 k ∧ Below w.heap.size w wr) (fun i _ => n - (intOf i).toNat)
  case atStart => exact ⟨0, by omega, rfl, Below.refl _ _⟩
  case round =>
    obtain ⟨k, hk, rfl, hb⟩ := hrel
    have HB := Lib.hid hb
    clear hb
    by_cases hlt : k < n
    · obtain ⟨b, o, a, rfl, hbl, ha, x0, x1, x2⟩ := (HX.out.below HB.out).at_ hlt
      obtain ⟨b', o', a', rfl, hbl', ha', y0, y1, y2⟩ := (HY.out.below HB.out).at_ hlt
      obtain rfl : a' = a := by rw [ha] at ha'; injection ha' with h; exact h.symm
      have HQ := Lib.hid (fun w => eqDeed_same a' w)
      unfold dv at HQ
      have hk0 : (0 : Int) ≤ (k : Int) := by omega
      have hkn : (k : Int) < (n : Int) := by omega
      clear ha ha'
      go_wp2_with fail
      go_region_law ((go_simp; go_at_call 33; (with_reducible refine Calls.mono (HQ.out _) ?_); rintro e w1 ⟨rfl, hb1⟩; have HB1 : Hid (Below w.heap.size w w1) := HB.out.trans ((below_of_drew hb1).mono HB.out.size); clear hb1))
      all_goals
        go_wp2_with fail
        go_roundw
        case rel => exact ⟨k + 1, by omega, by go_num, HB1.out⟩
        case measure => simp [intOf]; omega
    · go_wp2_with fail
      go_ret
      exact ⟨rfl, HB.out⟩
set_option maxHeartbeats 2000000 in
set_option maxRecDepth 100000 in
theorem exactJournalText (A : Option Addr) (n c : Nat) (ds : List Dd) (w : World) (hn : n ≤ 9223372036854775807) (hd : Ds w A n ds) (ht : ∀ a ∈ ds, a.text.length ≤ 9223372036854775807) (hE : EnvT w) :
    Calls Tryd.prog 10 #[.slice A n c] w fun e w' => e = .returned (.bool true) ∧ Below w.heap.size w w' := by
  have HE := Lib.hid hE
  have HD := Lib.hid hd
  have hz := fun w h => szDeedS_any A n c ds w hn h ht
  have hok := @szDs_ok ds 1048576
  have HL := Lib.hid hd.1
  generalize szDs ds 1048576 = z at *
  have HZ := Lib.hid hz
  clear hE hd hz ht
  by_cases hneg : z < 0
  · clear hok
    go_enter Tryd.func10, Tryd.ntmps10
    go_wp2_with fail
    refine (HZ.out w HD.out).mono ?_
    rintro e w1 ⟨rfl, hb1⟩
    have HB1 := Lib.hid hb1
    clear hb1
    go_wp2_with fail
    go_ret
    exact ⟨rfl, HB1.out⟩
  · obtain ⟨h1, h2⟩ := hok (by omega)
    have hn2 : n ≤ 1048576 := by have := HL.out; omega
    have HT : Hid (∀ a ∈ ds, a.text.length ≤ 1048576) := fun a ha => by have := h2 a ha; omega
    have HTO := Lib.hid (fun w h => toDeedS_any A n c ds w hn2 h)
    have HS := Lib.hid (fun A c w h1 => sJournalText A n c ds w hn2 h1 HT.out)
    have HI := Lib.hid (fun A c w h1 h2 => iJournalText A n c ds w hn2 h1 HT.out h2)
    have HQ := Lib.hid (fun A A' c c' w h1 h2 => eqDeedS_same A A' n c c' ds w (by omega) h1 h2)
    have hto := bs_toList (jText ds)
    clear h1 h2 hok
    go_enter Tryd.func10, Tryd.ntmps10
    go_wp2_with fail
    refine (HZ.out w HD.out).mono ?_
    rintro e w1 ⟨rfl, hb1⟩
    have HD1 := Lib.hid (HD.out.below hb1)
    have HB1 := Lib.hid hb1
    clear hb1
    go_wp2_with fail
    refine (HTO.out w1 HD1.out).mono ?_
    rintro e w2 ⟨A2, c2, rfl, ho2, hb2⟩
    have HD2 := Lib.hid (HD1.out.below hb2)
    have HX2 := Lib.hid ho2.toDs
    have HB2 : Hid (Below w.heap.size w w2) := HB1.out.trans (hb2.mono HB1.out.size)
    clear ho2 hb2
    go_wp2_with fail
    refine (HS.out A2 c2 w2 HX2.out).mono ?_
    rintro e w3 ⟨rfl, hb3⟩
    have HD3 := Lib.hid (HD2.out.below hb3)
    have HB3 : Hid (Below w.heap.size w w3) := HB2.out.trans (hb3.mono HB2.out.size)
    clear hb3
    go_wp2_with fail
    refine (HTO.out w3 HD3.out).mono ?_
    rintro e w4 ⟨A4, c4, rfl, ho4, hb4⟩
    have HD4 := Lib.hid (HD3.out.below hb4)
    have HX4 := Lib.hid ho4.toDs
    have HB4 : Hid (Below w.heap.size w w4) := HB3.out.trans (hb4.mono HB3.out.size)
    clear ho4 hb4
    go_wp2_with fail
    refine (HI.out A4 c4 w4 HX4.out (HE.out.kp (Kp.below HB4.out))).mono ?_
    rintro e w5 ⟨rfl, hb5⟩
    have HD5 := Lib.hid (HD4.out.below hb5)
    have HX5 := Lib.hid (HX4.out.below hb5)
    have HB5 : Hid (Below w.heap.size w w5) := HB4.out.trans (hb5.mono HB4.out.size)
    clear hb5
    go_wp2_with fail
    refine (HTO.out w5 HD5.out).mono ?_
    rintro e w6 ⟨A6, c6, rfl, ho6, hb6⟩
    have HX6 := Lib.hid (HX5.out.below hb6)
    have HY6 := Lib.hid ho6.toDs
    have HB6 : Hid (Below w.heap.size w w6) := HB5.out.trans (hb6.mono HB5.out.size)
    clear ho6 hb6
    go_wp2_with fail
    refine (HQ.out A4 A6 c4 c6 w6 HX6.out HY6.out).mono ?_
    rintro e w7 ⟨rfl, hb7⟩
    have HB7 : Hid (Below w.heap.size w w7) := HB6.out.trans (hb7.mono HB6.out.size)
    clear hb7
    go_wp2_with fail
    go_ret
    exact ⟨rfl, HB7.out⟩
/-- The text of a mark. -/
def mT (k : Int) : Txt := if k ≤ 0 then [109, 48] else 109 :: decDigits k.toNat
theorem mark_dec {u : Nat} (_h : ¬ u = 0) (out : Txt) : (if u / 10 = 0 then [] else decDigits (u / 10)) ++ (decDigits (u % 10) ++ out) = decDigits u ++ out := by
  by_cases h10 : u < 10
  · rw [show u / 10 = 0 by omega, if_pos rfl, show u % 10 = u by omega]; rfl
  · rw [if_neg (by omega)]
    conv => rhs; rw [decDigits, dif_neg h10]
    rw [decDigits_one (show u % 10 < 10 by omega), List.append_assoc]
set_option maxHeartbeats 1000000 in
set_option maxRecDepth 100000 in
theorem markText_any (k : Int) (w : World) (hk : k ≤ 4611686018427387904) : Calls Tryd.prog 79 #[.int .i64 k] w fun e w' => e = .returned (.string (bs (mT k))) ∧ Below w.heap.size w w' := by
  by_cases h0 : k ≤ 0
  · have HR : Hid (mT k = [109, 48]) := if_pos h0
    go_enter Tryd.func79, Tryd.ntmps79
    go_wp2_with fail
    go_ret
    exact ⟨by rw [HR.out]; rfl, Below.refl _ _⟩
  · have HR : Hid (mT k = 109 :: decDigits k.toNat) := if_neg h0
    obtain ⟨K, rfl⟩ : ∃ K : Nat, k = K := ⟨k.toNat, by omega⟩
    rw [show ((K : Int)).toNat = K by omega] at HR
    have hcv := conv_one
    go_enter Tryd.func79, Tryd.ntmps79
    go_wp2_with fail
    go_loopw [0, 3] (fun kv v wr => ∃ (u : Nat) (out : Txt), kv = .int .i64 u ∧ u ≤ K ∧ v = .string (bs out) ∧ out.length ≤ 20 ∧ (if u = 0 then [] else decDigits u) ++ out = decDigits K ∧ Below w.heap.size w wr) (fun kv _ _ => (intOf kv).toNat)
    case atStart => exact ⟨K, [], rfl, by omega, rfl, by simp, by rw [if_neg (by omega)]; simp, Below.refl _ _⟩
    case round =>
      obtain ⟨u, out, rfl, hu, rfl, hol, heq, hb⟩ := hrel
      have HQ := Lib.hid heq
      have HB := Lib.hid hb
      clear heq hb
      by_cases hu0 : u = 0
      · subst hu0
        have HO : Hid (out = decDigits K) := HQ.out
        have z1 : (bs out).size ≤ 20 := by rw [bs_size]; exact hol
        go_wp2_with fail
        go_ret
        refine ⟨?_, HB.out⟩
        rw [HR.out, ← HO.out]
        show Ending.returned (.string (bs [109] ++ bs out)) = _
        rw [bs_append]; rfl
      · obtain ⟨q, hq⟩ : ∃ q, q = u / 10 := ⟨_, rfl⟩
        obtain ⟨d, hd⟩ : ∃ d, d = u % 10 := ⟨_, rfl⟩
        have hd10 : d < 10 := by omega
        have hup : (0 : Int) < (u : Int) := by omega
        have e1 : (u : Int) / 10 = q := by omega
        have e2 : (u : Int).tmod 10 = d := by rw [Int.tmod_eq_emod_of_nonneg (by omega)]; omega
        have e2' : (u : Int) % 10 = d := by omega
        have HNX : Hid ((if q = 0 then [] else decDigits q) ++ (decDigits d ++ out) = decDigits K) := by
          show _ = _
          rw [← HQ.out, if_neg hu0, hq, hd]
          exact mark_dec hu0 out
        have hqu : q < u := by omega
        have w2 : IntKind.i64.wrap (48 + (d : Int)) = 48 + d := IntWalk.i64_in _ (by omega)
        have w3 : IntKind.u8.wrap (48 + (d : Int)) = 48 + d := IntWalk.u8_in _ (by omega)
        have hz1 : (bs out).size ≤ 20 := by rw [bs_size]; exact hol
        have hz2 : (oneB (48 + (d : Int))).size = 1 := by unfold oneB; rw [bs_size]; rfl
        have HEQ : Hid (oneB (48 + (d : Int)) ++ bs out = bs (decDigits d ++ out)) := by show _ = _; rw [oneB_digit d hd10, bs_append]
        have HLN : Hid ((decDigits d ++ out).length ≤ 20) := by
          show _ ≤ _
          have h1 := congrArg List.length HNX.out
          rw [List.length_append, decDigits_length K] at h1
          have h2 := nDigits_le20 K (by omega)
          omega
        clear hq hd hu0
        go_wp2_with fail
        go_roundw
        case rel => exact ⟨q, decDigits d ++ out, by go_num, by omega, by rw [← HEQ.out], HLN.out, HNX.out, HB.out.alloc HB.out.size _⟩
        case measure => simp [intOf]; omega
end Go.Proofs.YtemcdeopehdggaaDoor
