/- The laws' own words on deeds; the laws FnExactDeedText and FnExactReadDeed, walked. -/
import Derived.Test.YtemcdeopehdggaaDoorJ7
namespace Go.Proofs.YtemcdeopehdggaaDoor
open Go.RowKit
open Go.Lib hiding intOf

def szD (len left : Int) : Int := if left - len < 0 then -1 else left - len
theorem szDeed_any (a : Dd) (left : Int) (w : World) (h0 : 0 ≤ left) (h1 : left ≤ 1048576) (hl : a.text.length ≤ 9223372036854775807) :
    Calls Tryd.prog 27 #[dv a, .int .i64 left] w fun e w' => e = .returned (.int .i64 (szD a.text.length left)) ∧ Below w.heap.size w w' := by
  have hsz : (bs a.text).size = a.text.length := bs_size _
  unfold dv szD
  generalize a.text.length = n at *
  have e1 : IntKind.i64.wrap (left - (n : Int)) = left - n := IntWalk.i64_in _ (by omega)
  by_cases h : left - (n : Int) < 0
  · rw [if_pos h]
    go_enter Tryd.func27, Tryd.ntmps27
    go_wp2_with fail
    go_ret
    exact ⟨rfl, below_alloc _ _⟩
  · rw [if_neg h]
    go_enter Tryd.func27, Tryd.ntmps27
    go_wp2_with fail
    go_ret
    exact ⟨rfl, below_alloc _ _⟩
set_option maxHeartbeats 1000000 in
theorem toDeed_any (a : Dd) (w : World) : Calls Tryd.prog 29 #[dv a] w fun e w' => e = .returned (dv a) ∧ Below w.heap.size w w' := by
  unfold dv
  go_enter Tryd.func29, Tryd.ntmps29
  go_wp2_with fail
  refine bodyPost_ret (v := .agg #[.int .i64 a.kind, .int .i64 a.num, .string (bs a.text)]) (by simp [results, Tryd.results29, go_sem]) rfl ⟨rfl, ?_⟩
  exact ((below_alloc w _).trans (((below_alloc _ _).trans ((below_alloc _ _).mono (below_alloc _ _).size)).mono (below_alloc w _).size))
set_option maxHeartbeats 1000000 in
theorem eqDeed_same (a : Dd) (w : World) : Calls Tryd.prog 33 #[dv a, dv a] w fun e w' => e = .returned (.bool true) ∧ Below w.heap.size w w' := by
  have hto := bs_toList a.text
  unfold dv
  go_enter Tryd.func33, Tryd.ntmps33
  go_wp2_with fail
  go_ret
  exact ⟨rfl, (below_alloc w _).trans ((below_alloc _ _).mono (below_alloc w _).size)⟩
set_option maxHeartbeats 1000000 in
set_option maxRecDepth 100000 in
theorem exactDeedText (a : Dd) (w : World) (hl : a.text.length ≤ 9223372036854775807) (hE : EnvT w) :
    Calls Tryd.prog 6 #[dv a] w fun e w' => e = .returned (.bool true) ∧ Below w.heap.size w w' := by
  have HE := Lib.hid hE
  have HZ := Lib.hid (fun w => szDeed_any a 1048576 w (by omega) (by omega) hl)
  have HT := Lib.hid (fun w => toDeed_any a w)
  unfold dv at HZ HT ⊢
  clear hE
  by_cases h : szD a.text.length 1048576 < 0
  · go_enter Tryd.func6, Tryd.ntmps6
    go_wp2_with fail
    refine (HZ.out _).mono ?_
    rintro e w1 ⟨rfl, hb1⟩
    have HB1 := Lib.hid (below_box _ _ hb1)
    clear hb1
    go_wp2_with fail
    go_ret
    exact ⟨rfl, HB1.out⟩
  · have hl2 : a.text.length ≤ 1048576 := by
      unfold szD at h
      split at h <;> omega
    have HS := Lib.hid (fun w => sDeedText a (by omega) w)
    have HI := Lib.hid (fun w h => iDeedText a (by omega) w h)
    unfold dv at HS HI
    have hto := bs_toList (dText a)
    go_enter Tryd.func6, Tryd.ntmps6
    go_wp2_with fail
    refine (HZ.out _).mono ?_
    rintro e w1 ⟨rfl, hb1⟩
    have HB1 := Lib.hid (below_box _ _ hb1)
    obtain ⟨r0, r1, r2, _, _, _, hsz1⟩ := DAt.box hb1
    clear hb1
    go_wp2_with fail
    refine (HT.out _).mono ?_
    rintro e w2 ⟨rfl, hb2⟩
    have q0 := (hb2.cell (p := ⟨w.heap.size, 0, none⟩) hsz1).trans r0
    have q1 := (hb2.cell (p := ⟨w.heap.size, 1, none⟩) hsz1).trans r1
    have q2 := (hb2.cell (p := ⟨w.heap.size, 2, none⟩) hsz1).trans r2
    have hsz2 : w.heap.size < w2.heap.size := Nat.lt_of_lt_of_le hsz1 hb2.size
    have HB2 : Hid (Below w.heap.size w w2) := HB1.out.trans (hb2.mono HB1.out.size)
    clear hb2 r0 r1 r2
    go_wp2_with fail
    refine (HS.out _).mono ?_
    rintro e w3 ⟨rfl, hb3⟩
    have r0 := (hb3.cell (p := ⟨w.heap.size, 0, none⟩) hsz2).trans q0
    have r1 := (hb3.cell (p := ⟨w.heap.size, 1, none⟩) hsz2).trans q1
    have r2 := (hb3.cell (p := ⟨w.heap.size, 2, none⟩) hsz2).trans q2
    have HB3 : Hid (Below w.heap.size w w3) := HB2.out.trans (hb3.mono HB2.out.size)
    clear hb3 q0 q1 q2
    go_wp2_with fail
    refine (HT.out _).mono ?_
    rintro e w4 ⟨rfl, hb4⟩
    have HB4 : Hid (Below w.heap.size w w4) := HB3.out.trans (hb4.mono HB3.out.size)
    clear hb4 r0 r1 r2
    go_wp2_with fail
    refine (HI.out _ (HE.out.kp (Kp.below HB4.out))).mono ?_
    rintro e w5 ⟨rfl, hb5⟩
    have HB5 : Hid (Below w.heap.size w w5) := HB4.out.trans (hb5.mono HB4.out.size)
    clear hb5
    go_wp2_with fail
    go_ret
    exact ⟨rfl, HB5.out⟩
set_option maxHeartbeats 1000000 in
set_option maxRecDepth 100000 in
theorem exactReadDeed (l : Txt) (w : World) (hl : l.length ≤ 9223372036854775807) (hE : EnvX w) :
    Calls Tryd.prog 7 #[.string (bs l)] w fun e w' => e = .returned (.bool true) ∧ Below w.heap.size w w' := by
  have HE := Lib.hid hE
  have hsz := bs_size l
  clear hE
  by_cases hbig : 1048576 < l.length
  · go_enter Tryd.func7, Tryd.ntmps7
    go_wp2_with fail
    go_ret
    exact ⟨rfl, Below.refl _ _⟩
  have HS := Lib.hid (fun w => sReadDeed l (by omega) w)
  have HI := Lib.hid (fun w h => iReadDeed l (by omega) w h)
  have HQ := Lib.hid (fun w => eqDeed_same (od (readDd l)) w)
  unfold RetDd at HS HI
  unfold dv at HS HI HQ
  generalize od (readDd l) = a at *
  generalize (readDd l).isSome = b at *
  go_enter Tryd.func7, Tryd.ntmps7
  go_wp2_with fail
  refine (HS.out _).mono ?_
  rintro e w1 ⟨rfl, hb1⟩
  have HB1 := Lib.hid hb1
  clear hb1
  go_wp2_with fail
  refine (HI.out _ ((HE.out.kp (Kp.below HB1.out)).kp (Kp.below (below_alloc _ _)))).mono ?_
  rintro e w2 ⟨rfl, hb2⟩
  obtain ⟨r0, r1, r2, _, _, _, hsz2⟩ := DAt.box hb2
  have HB2 : Hid (Below w.heap.size w w2) := HB1.out.trans ((below_box _ _ hb2).mono HB1.out.size)
  clear hb2
  go_wp2_with fail
  refine (HQ.out _).mono ?_
  rintro e w3 ⟨rfl, hb3⟩
  have HB3 : Hid (Below w.heap.size w w3) := HB2.out.trans (((below_alloc _ _).trans (hb3.mono (below_alloc _ _).size)).mono HB2.out.size)
  clear hb3
  cases b
  all_goals
    go_wp2_with fail
    go_ret
    exact ⟨rfl, HB3.out⟩
end Go.Proofs.YtemcdeopehdggaaDoor
