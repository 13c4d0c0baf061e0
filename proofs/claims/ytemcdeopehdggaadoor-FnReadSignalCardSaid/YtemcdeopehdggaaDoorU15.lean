/- The law FnReadSignal, walked. -/
import Derived.Test.YtemcdeopehdggaaDoorU14
namespace Go.Proofs.YtemcdeopehdggaaDoor
open Go.RowKit
open Go.Lib hiding intOf

theorem semi_app (t : Txt) : bs t ++ { data := #[59] } = bs (t ++ [59]) := by
  show bs t ++ bs [59] = _
  rw [bs_append]
set_option maxHeartbeats 2000000 in
set_option maxRecDepth 100000 in
theorem lawReadSignal (A : Option Addr) (n c : Nat) (w : World) (hnc : n ≤ c) (h : Code8 w A n) (hE : EnvA w) :
    Calls Tryd.prog 5 #[.slice A n c] w fun e w' => e = .returned (.bool true) ∧ Below w.heap.size w w' := by
  by_cases hbig : 1048576 < n
  · clear hE
    go_enter Tryd.func5, Tryd.ntmps5
    go_wp2_with fail
    go_ret
    exact ⟨rfl, Below.refl _ _⟩
  have hn2 : n ≤ 1048576 := by omega
  have HE := Lib.hid hE
  have hto := bs_toList
  clear hE
  go_enter Tryd.func5, Tryd.ntmps5
  go_wp2_with fail
  refine (drawReadSignal_any A n c w hnc hn2 h).mono ?_
  rintro e w1 ⟨t, rfl, ht, hb1⟩
  have HB1 := Lib.hid hb1
  have HI := Lib.hid (fun w h => iReadSignal t (by omega) w h)
  have HS := Lib.hid (fun w => sReadSignal t (by omega) w)
  clear hb1 h
  go_wp2_with fail
  refine (HI.out w1 (HE.out.kp (Kp.below HB1.out))).mono ?_
  rintro e w2 ⟨A2, m2, c2, rfl, ho2, hb2⟩
  have HO2 := Lib.hid ho2
  have HB2 : Hid (Below w.heap.size w w2) := HB1.out.trans (hb2.mono HB1.out.size)
  clear ho2 hb2
  go_wp2_with fail
  refine (HS.out w2).mono ?_
  rintro e w3 ⟨A3, m3, c3, rfl, ho3, hb3⟩
  have HX3 := Lib.hid (HO2.out.below hb3)
  have HU3 := Lib.hid ho3
  have HB3 : Hid (Below w.heap.size w w3) := HB2.out.trans (hb3.mono HB2.out.size)
  clear ho3 hb3
  have hl2 : m2 = (((readSig t).map mils).getD []).length := by have := HX3.out.len; rw [List.length_map] at this; exact this.symm
  have hl3 : m3 = (((readSig t).map mils).getD []).length := by have := HU3.out.len; rw [List.length_map] at this; exact this.symm
  obtain rfl : m3 = m2 := by rw [hl2, hl3]
  have h16 : m3 ≤ 16 := by rw [hl2]; exact readSig_len
  have HL2 := Lib.hid hl2
  clear hl2 hl3
  have HEQ : Hid (∀ i, i < m3 → EqV (nth (((readSig t).map mils).getD []) i) (nth (((readSig t).map mils).getD []) i)) := fun i hi => EqV.refl (finB_iff.2 (all_fin_nth readSig_fin (by rw [← HL2.out]; exact hi)))
  have HSM : Hid (∀ w, Cs w A2 m3 (((readSig t).map mils).getD []) → Cs w A3 m3 (((readSig t).map mils).getD []) → Calls Tryd.prog 24 #[.slice A2 m3 c2, .slice A3 m3 c3] w fun e w' => e = .returned (.bool true) ∧ Dr w w') := fun w h1 h2 =>
    sameSignal_true A2 A3 m3 c2 c3 _ _ w (by omega) h1 h2 HEQ.out
  go_wp2_with fail
  refine (HSM.out w3 HX3.out.sl HU3.out.sl).mono ?_
  rintro e w4 ⟨rfl, k4, hw4⟩
  have HB4 : Hid (Below w.heap.size w w4) := by show Below _ _ _; rw [hw4]; exact below_drewN HB3.out k4
  have HX4 : Hid (Cs w4 A2 m3 (((readSig t).map mils).getD [])) := by show Cs _ _ _ _; rw [hw4]; exact Cs.drewN HX3.out.sl k4
  clear hw4 HI HS HSM HEQ HX3 HU3 HO2 HB1 HB2 HB3
  cases hr : readSig t with
  | none =>
    rw [hr] at HX4 HL2
    have h0 : m3 = 0 := by rw [HL2.out]; rfl
    subst h0
    simp only [Option.isSome_none]
    clear hr
    go_wp2_with fail
    refine (alive_true _).mono ?_
    rintro e w5 ⟨rfl, rfl⟩
    go_wp2_with fail
    go_ret
    exact ⟨rfl, HB4.out⟩
  | some ps =>
    rw [hr] at HX4 HL2
    obtain ⟨hst, hin, hlen⟩ := readSig_some hr
    have hmn : readSig (t ++ [59]) = none := readSig_more t
    have HSB := Lib.hid (sigB_mils hlen)
    have hX : Cs w4 A2 m3 (mils ps) := HX4.out
    have HX := Lib.hid hX
    have HT : Hid (∀ w, EnvT w → Cs w A2 m3 (mils ps) → Calls Tryd.prog 19 #[.slice A2 m3 c2] w fun e w' => e = .returned (.tuple #[.string (bs t), .bool true]) ∧ Below w.heap.size w w') := fun w h1 h2 => by
      have := iSignalText A2 m3 c2 (mils ps) w (by omega) h2 h1
      rw [sigT_mils hin hlen, hst] at this
      exact this
    have HR : Hid (∀ w, EnvA w → Calls Tryd.prog 14 #[.string (bs (t ++ [59]))] w (RetO w none)) := fun w h => by
      have := iReadSignal (t ++ [59]) (by rw [List.length_append]; simp; omega) w h
      rw [hmn] at this
      exact this
    have hcat := semi_app t
    have hsz : (bs t).size ≤ 709 := by rw [bs_size]; exact ht
    simp only [Option.isSome_some]
    clear hr hst hin hlen hmn hX HX4 HL2
    go_wp2_with fail
    refine (HT.out w4 (HE.out.tab.kp (Kp.below HB4.out)) HX.out).mono ?_
    rintro e w5 ⟨rfl, hb5⟩
    have HX5 : Hid (Cs w5 A2 m3 (mils ps)) := Cs.below HX.out hb5
    have HB5 : Hid (Below w.heap.size w w5) := HB4.out.trans (hb5.mono HB4.out.size)
    clear hb5
    go_wp2_with fail
    refine (HR.out w5 (HE.out.kp (Kp.below HB5.out))).mono ?_
    rintro e w6 ⟨A6, m6, c6, rfl, _, hb6⟩
    have HX6 : Hid (Cs w6 A2 m3 (mils ps)) := Cs.below HX5.out hb6
    have HB6 : Hid (Below w.heap.size w w6) := HB5.out.trans (hb6.mono HB5.out.size)
    clear hb6
    simp only [Option.isSome_none]
    go_wp2_with fail
    refine (iSignalOk A2 m3 c2 (mils ps) w6 (by omega) HX6.out).mono ?_
    rintro e w7 ⟨rfl, k7, rfl⟩
    rw [HSB.out]
    go_wp2_with fail
    go_ret
    exact ⟨rfl, below_drewN HB6.out _⟩
end Go.Proofs.YtemcdeopehdggaaDoor
