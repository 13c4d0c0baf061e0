/- The laws FnDeedText and FnReadDeed, walked. -/
import Derived.Test.YtemcdeopehdggaaDoorJ9
import Derived.Test.YtemcdeopehdggaaDoorJ7
namespace Go.Proofs.YtemcdeopehdggaaDoor
open Go.RowKit
open Go.Lib hiding intOf

set_option maxHeartbeats 2000000 in
set_option maxRecDepth 100000 in
theorem lawDeedText (A : Option Addr) (n c : Nat) (w : World) (hnc : n ≤ c) (h : Code8 w A n) (hE : EnvX w) :
    Calls Tryd.prog 8 #[.slice A n c] w fun e w' => e = .returned (.bool true) ∧ Below w.heap.size w w' := by
  by_cases hbig : 1048576 < n
  · clear hE
    go_enter Tryd.func8, Tryd.ntmps8
    go_wp2_with fail
    go_ret
    exact ⟨rfl, Below.refl _ _⟩
  have hn2 : n ≤ 1048576 := by omega
  have HE := Lib.hid hE
  clear hE
  go_enter Tryd.func8, Tryd.ntmps8
  go_wp2_with fail
  refine (drawDeedText_any A n c w hnc hn2 h).mono ?_
  rintro e w1 ⟨a, rfl, ht, hn1, hn3, hb1⟩
  have HB1 := Lib.hid hb1
  have hdl := dText_len a ht
  have HI := Lib.hid (fun w h => iDeedText a (by omega) w h)
  have HS := Lib.hid (fun w => sDeedText a (by omega) w)
  have HR := Lib.hid (fun w h => iReadDeed (dText a) (by omega) w h)
  have HID : Hid (dText a ≠ [] → readDd (dText a) = some a) := fun h => readDd_iff.2 ⟨h, rfl⟩
  have hto := bs_toList (dText a)
  have hto2 := bs_toList a.text
  unfold RetDd at HR
  unfold dv at HI HS HR ⊢
  clear hb1 h
  go_wp2_with fail
  refine (HI.out _ ((HE.out.kp (Kp.below HB1.out)).a.tab.kp (Kp.below (below_alloc _ _)))).mono ?_
  rintro e w2 ⟨rfl, hb2⟩
  have HD2 := Lib.hid (DAt.box hb2)
  have HB2 : Hid (Below w.heap.size w w2) := HB1.out.trans ((below_box _ _ hb2).mono HB1.out.size)
  obtain ⟨r0, r1, r2, s0, s1, s2, hrl⟩ := HD2.out
  clear hb2
  go_wp2_with fail
  refine (HS.out _).mono ?_
  rintro e w3 ⟨rfl, hb3⟩
  have HD3 := Lib.hid (HD2.out.below hb3)
  have HB3 : Hid (Below w.heap.size w w3) := HB2.out.trans (hb3.mono HB2.out.size)
  clear hb3 r0 r1 r2 s0 s1 s2 hrl
  by_cases hd : dText a = []
  · have hd2 : (dText a).isEmpty = true := by rw [hd]; rfl
    clear hd
    go_wp2_with fail
    refine (alive_true _).mono ?_
    rintro e w4 ⟨rfl, rfl⟩
    go_wp2_with fail
    go_ret
    exact ⟨rfl, HB3.out⟩
  · have hd2 : (dText a).isEmpty = false := by simpa using hd
    have HRR := Lib.hid (HID.out hd)
    rw [HRR.out] at HR
    clear hd
    go_wp2_with fail
    refine (HR.out _ (HE.out.kp (Kp.below HB3.out))).mono ?_
    rintro e w4 ⟨rfl, hb4⟩
    have HD4 := Lib.hid (HD3.out.below hb4)
    have HB4 : Hid (Below w.heap.size w w4) := HB3.out.trans (hb4.mono HB3.out.size)
    obtain ⟨r0, r1, r2, s0, s1, s2, hrl⟩ := HD4.out
    simp only [Option.isSome_some, od, Option.getD_some]
    clear hb4
    go_wp2_with fail
    go_ret
    exact ⟨rfl, HB4.out.alloc HB4.out.size _⟩
theorem nl_app (t : Txt) : bs t ++ { data := #[10] } = bs (t ++ [10]) := by
  show bs t ++ bs [10] = _
  rw [bs_append]
set_option maxHeartbeats 2000000 in
set_option maxRecDepth 100000 in
theorem lawReadDeed (A : Option Addr) (n c : Nat) (w : World) (hnc : n ≤ c) (h : Code8 w A n) (hE : EnvX w) :
    Calls Tryd.prog 9 #[.slice A n c] w fun e w' => e = .returned (.bool true) ∧ Below w.heap.size w w' := by
  by_cases hbig : 1048576 < n
  · clear hE
    go_enter Tryd.func9, Tryd.ntmps9
    go_wp2_with fail
    go_ret
    exact ⟨rfl, Below.refl _ _⟩
  have hn2 : n ≤ 1048576 := by omega
  have HE := Lib.hid hE
  clear hE
  go_enter Tryd.func9, Tryd.ntmps9
  go_wp2_with fail
  refine (drawReadDeed_any A n c w hnc hn2 h).mono ?_
  rintro e w1 ⟨t, rfl, ht, hb1⟩
  have HB1 := Lib.hid hb1
  have HI := Lib.hid (fun w h => iReadDeed t (by omega) w h)
  have HS := Lib.hid (fun w => sReadDeed t (by omega) w)
  have HN := Lib.hid (fun w h => iReadDeed (t ++ [10]) (by rw [List.length_append]; simp; omega) w h)
  have hcat := nl_app t
  have hsz : (bs t).size ≤ 716 := by rw [bs_size]; exact ht
  unfold RetDd at HI HS HN
  unfold dv at HI HS HN
  clear hb1 h
  cases hr : readDd t with
  | none =>
    rw [hr] at HI HS
    clear hr HN
    simp only [od, Option.getD_none, Option.isSome_none] at HI HS
    have h00 : (bs []) = { data := #[] } := rfl
    go_wp2_with fail
    refine (HI.out _ (HE.out.kp (Kp.below HB1.out))).mono ?_
    rintro e w2 ⟨rfl, hb2⟩
    have HB2 : Hid (Below w.heap.size w w2) := HB1.out.trans (hb2.mono HB1.out.size)
    clear hb2
    go_wp2_with fail
    refine (HS.out _).mono ?_
    rintro e w3 ⟨rfl, hb3⟩
    obtain ⟨r0, r1, r2, s0, s1, s2, hrl⟩ := DAt.box hb3
    have HB3 : Hid (Below w.heap.size w w3) := HB2.out.trans ((below_box _ _ hb3).mono HB2.out.size)
    clear hb3
    go_wp2_with fail
    refine (alive_true _).mono ?_
    rintro e w4 ⟨rfl, rfl⟩
    go_wp2_with fail
    go_ret
    exact ⟨rfl, HB3.out.alloc HB3.out.size _⟩
  | some a =>
    obtain ⟨hne, hdt⟩ := readDd_iff.1 hr
    have hmore := readDd_more hr
    rw [hr] at HI HS
    rw [hmore] at HN
    have hal : a.text.length ≤ 4611686018427387904 := by
      have h0 : dText a ≠ [] := by rw [hdt]; exact hne
      rcases dText_cases h0 with ⟨_, _, _, e⟩ | ⟨_, h2, _⟩ | ⟨_, _, h2, _⟩
      · rw [e] at hdt
        have := congrArg List.length hdt
        rw [List.length_append, List.length_cons] at this
        omega
      · rw [h2]; simp
      · rw [h2]; simp
    have HT : Hid (∀ w, EnvT w → Calls Tryd.prog 30 #[.agg #[.int .i64 a.kind, .int .i64 a.num, .string (bs a.text)]] w fun e w' => e = .returned (.string (bs t)) ∧ Below w.heap.size w w') := fun w h => by
      have := iDeedText a hal w h
      rw [hdt] at this
      exact this
    have hto := bs_toList t
    have hto2 := bs_toList a.text
    clear hr hne hdt hmore hal
    simp only [od, Option.getD_none, Option.isSome_none, Option.getD_some, Option.isSome_some] at HI HS HN
    go_wp2_with fail
    refine (HI.out _ (HE.out.kp (Kp.below HB1.out))).mono ?_
    rintro e w2 ⟨rfl, hb2⟩
    have HB2 : Hid (Below w.heap.size w w2) := HB1.out.trans (hb2.mono HB1.out.size)
    clear hb2
    go_wp2_with fail
    refine (HS.out _).mono ?_
    rintro e w3 ⟨rfl, hb3⟩
    have HD3 := Lib.hid (DAt.box hb3)
    obtain ⟨r0, r1, r2, s0, s1, s2, hrl⟩ := HD3.out
    have HB3 : Hid (Below w.heap.size w w3) := HB2.out.trans ((below_box _ _ hb3).mono HB2.out.size)
    clear hb3
    go_wp2_with fail
    refine (HN.out _ ((HE.out.kp (Kp.below HB3.out)).kp (Kp.below (below_alloc _ _)))).mono ?_
    rintro e w4 ⟨rfl, hb4⟩
    have HD4 := Lib.hid (HD3.out.keep hb4)
    have HB4 : Hid (Below w.heap.size w w4) := HB3.out.trans ((below_box _ _ hb4).mono HB3.out.size)
    clear hb4 r0 r1 r2 s0 s1 s2 hrl
    obtain ⟨r0, r1, r2, s0, s1, s2, hrl⟩ := HD4.out
    go_wp2_with fail
    refine (HT.out _ ((HE.out.kp (Kp.below HB4.out)).a.tab.kp (Kp.below (below_alloc _ _)))).mono ?_
    rintro e w5 ⟨rfl, hb5⟩
    have HB5 : Hid (Below w.heap.size w w5) := HB4.out.trans ((below_box _ _ hb5).mono HB4.out.size)
    clear hb5
    go_wp2_with fail
    go_ret
    exact ⟨rfl, HB5.out⟩
end Go.Proofs.YtemcdeopehdggaaDoor
