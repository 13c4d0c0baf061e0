/- The law FnExactReadSignal, walked. -/
import Derived.Test.YtemcdeopehdggaaDoorU10
namespace Go.Proofs.YtemcdeopehdggaaDoor
open Go.RowKit
open Go.Lib hiding intOf

theorem Apart.of_lt' {A A' : Option Addr} {B lo hi : Nat} (h : ∀ a, A = some a → B ≤ a.block ∧ a.block < hi) (h' : ∀ a, A' = some a → lo ≤ a.block ∧ a.block < B) : Apart A A' := fun a a' ha ha' e => by
  have h1 := h a ha
  have h2 := h' a' ha'
  omega
theorem apart_symm {A A' : Option Addr} (h : Apart A A') : Apart A' A := fun a a' ha ha' e => h a' a ha' ha e.symm
theorem mils_fin (ps : List Pr) : (mils ps).all finB = true := by
  rw [List.all_eq_true]
  intro z hz
  obtain ⟨p, _, rfl⟩ := List.mem_map.1 hz
  exact milli_fin _ _
theorem readSig_len {l : Txt} : (((readSig l).map mils).getD []).length ≤ 16 := by
  cases h : readSig l with
  | none => simp
  | some ps =>
    have := (readSig_some h).2.2
    show (mils ps).length ≤ 16
    unfold mils; rw [List.length_map]; exact this
theorem readSig_fin {l : Txt} : (((readSig l).map mils).getD []).all finB = true := by
  cases readSig l with
  | none => rfl
  | some ps => exact mils_fin ps

set_option maxHeartbeats 1000000 in
set_option maxRecDepth 100000 in
theorem exactReadSignal (l : Txt) (w : World) (hl : l.length ≤ 9223372036854775807) (hE : EnvA w) :
    Calls Tryd.prog 3 #[.string (bs l)] w fun e w' => e = .returned (.bool true) ∧ Below w.heap.size w w' := by
  obtain ⟨n, hn⟩ : ∃ n, n = l.length := ⟨_, rfl⟩
  have hsz : (bs l).size = n := by rw [bs_size, hn]
  by_cases hbig : 1048576 < n
  · clear hn hE hl
    go_enter Tryd.func3, Tryd.ntmps3
    go_wp2_with fail
    go_ret
    exact ⟨rfl, Below.refl _ _⟩
  have hn2 : n ≤ 1048576 := by omega
  have HE := Lib.hid hE
  have hfin := @readSig_fin l
  have hlen := @readSig_len l
  have cS := fun w => sReadSignal l (by omega) w
  have cI := fun w h => iReadSignal l (by omega) w h
  unfold RetO at cS cI
  generalize ((readSig l).map mils).getD [] = ys at *
  generalize ((readSig l).map mils).isSome = ok at *
  have HS := Lib.hid cS
  have HI := Lib.hid cI
  have HF := Lib.hid hfin
  clear cS cI hfin hE hn hl hbig
  go_enter Tryd.func3, Tryd.ntmps3
  go_wp2_with fail
  refine (HS.out w).mono ?_
  rintro e w1 ⟨A1, m, c1, rfl, ho1, hb1⟩
  have hm : m ≤ 16 := by have := ho1.len; rw [List.length_map] at this; omega
  have HB1 := Lib.hid hb1
  go_wp2_with fail
  refine (HI.out w1 (HE.out.kp (Kp.below hb1))).mono ?_
  rintro e w2 ⟨A2, m2, c2, rfl, ho2, hb2⟩
  obtain rfl : m2 = m := by have h1 := ho2.len; have h2 := ho1.len; omega
  have HB2 : Hid (Below w.heap.size w w2) := hb1.trans (hb2.mono hb1.size)
  have HO1 : Hid (Ow w2 w.heap.size 35 (.slice A1 m2 c1) m2 (ys.map cv)) := Ow.below ho1 hb2
  have HR1 := Lib.hid ho1.ge
  have HO2 := Lib.hid ho2
  have HR2 := Lib.hid ho2.ge
  have HW12 := Lib.hid hb1.size
  clear ho1 hb1 ho2 hb2 hlen
  go_wp2_with fail
  refine (eqC_same A2 A1 m2 c2 c1 ys w2 (by omega) HO2.out.sl HO1.out.sl HF.out).mono ?_
  rintro e w3 ⟨rfl, k3, rfl⟩
  go_wp2_with fail
  refine (markC_any A2 m2 c2 _ _ 1 (w2.drewN k3) (by omega) (HO2.out.drewN k3)).mono ?_
  rintro e w4 ⟨rfl, ho4, on4⟩
  have HO4 := Lib.hid ho4
  have HO1c : Hid (Ow w4 w.heap.size 35 (.slice A1 m2 c1) m2 (ys.map cv)) := (Ow.drewN HO1.out k3).only on4 (apart_symm (Apart.of_lt' HR2.out HR1.out))
  have HB4 : Hid (Below w.heap.size w w4) := (below_drewN HB2.out k3).trans (on4.below (fun a ha => Nat.le_trans HW12.out (HR2.out a ha).1))
  clear ho4 on4
  go_wp2_with fail
  refine (heldC_any A2 m2 c2 1 w4 (by omega) HO4.out.sl).mono ?_
  rintro e w5 ⟨rfl, k5, rfl⟩
  go_wp2_with fail
  refine (HI.out (w4.drewN k5) (HE.out.kp ((Kp.below HB4.out).drewN k5))).mono ?_
  rintro e w6 ⟨A6, m6, c6, rfl, ho6, hb6⟩
  have hb6' : Below w4.heap.size w4 w6 := (below_drewN (Below.refl _ _) k5).trans hb6
  obtain rfl : m6 = m2 := by have h1 := ho6.len; have h2 := HO1.out.len; omega
  have HO1d : Hid (Ow w6 w.heap.size 35 (.slice A1 m6 c1) m6 (ys.map cv)) := Ow.below HO1c.out hb6'
  have HO4d : Hid (Ow w6 w1.heap.size 35 (.slice A2 m6 c2) m6 ((marks 1 m6).map cv)) := Ow.below HO4.out hb6'
  have HB6 : Hid (Below w.heap.size w w6) := HB4.out.trans (hb6'.mono HB4.out.size)
  have HO6 := Lib.hid ho6
  clear ho6 hb6 hb6'
  go_wp2_with fail
  refine (eqC_same A6 A1 m6 c6 c1 ys w6 (by omega) HO6.out.sl HO1d.out.sl HF.out).mono ?_
  rintro e w7 ⟨rfl, k7, rfl⟩
  go_wp2_with fail
  refine (heldC_any A2 m6 c2 1 _ (by omega) (HO4d.out.sl.drewN k7)).mono ?_
  rintro e w8 ⟨rfl, k8, rfl⟩
  go_wp2_with fail
  go_ret
  exact ⟨rfl, below_drewN HB6.out _⟩
end Go.Proofs.YtemcdeopehdggaaDoor
