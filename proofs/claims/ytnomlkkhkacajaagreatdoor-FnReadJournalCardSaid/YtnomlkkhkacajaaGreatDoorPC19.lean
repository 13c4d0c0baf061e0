/- Texts on the way to a law (J3), each with its own remark. -/
import Derived.Test.YtnomlkkhkacajaaGreatDoorPC16
import Derived.Test.YtnomlkkhkacajaaGreatDoorPC17
import Derived.Test.YtnomlkkhkacajaaGreatDoorPC18
namespace Go.Proofs.YtnomlkkhkacajaaGreatDoor
open Go.RowKit
open Go.Lib hiding intOf

theorem index_one (sep : UInt8) : ∀ l : Txt, (0 ≤ index l [sep] → cut1 sep l = (l.take (index l [sep]).toNat, l.drop ((index l [sep]).toNat + 1), true)) ∧ (¬ 0 ≤ index l [sep] → cut1 sep l = (l, [], false))
  | [] => by
    constructor
    · intro h; simp [index] at h
    · intro _; rfl
  | c :: r => by
    obtain ⟨h1, h2⟩ := index_one sep r
    have hge := index_ge r [sep]
    have hp : [sep].isPrefixOf (c :: r) = (sep == c) := by simp [List.isPrefixOf]
    unfold index
    rw [hp]
    by_cases hc : c = sep
    · subst hc
      simp [cut1]
    · have hb : (sep == c) = false := by rw [beq_eq_false_iff_ne]; exact fun h => hc h.symm
      rw [hb]
      simp only [Bool.false_eq_true, if_false, cut1, if_neg hc]
      by_cases hm : index r [sep] = -1
      · have h3 : (index r [sep] == -1) = true := by rw [beq_iff_eq]; exact hm
        rw [if_pos h3]
        constructor
        · intro h; omega
        · intro _; rw [h2 (by omega)]
      · have h3 : ¬ (index r [sep] == -1) = true := by rw [beq_iff_eq]; exact hm
        rw [if_neg h3]
        constructor
        · intro _
          rw [h1 (by omega), show (index r [sep] + 1).toNat = (index r [sep]).toNat + 1 by omega]
          rfl
        · intro h; omega
theorem cut_eq (sep : UInt8) (l : Txt) : Lib.cut l [sep] = cut1 sep l := by
  obtain ⟨h1, h2⟩ := index_one sep l
  unfold Lib.cut
  split
  · rename_i h; rw [h1 h]; rfl
  · rename_i h; rw [h2 h]
/-- All variables of the library that a deed's reader asks. -/
structure EnvX (w : World) : Prop where
  a : EnvA w
  m : ∃ m, w.cell? ⟨0, 0, none⟩ = some (.int .i64 m)
theorem EnvX.kp {w w' : World} (h : EnvX w) (hk : Kp w w') : EnvX w' := by
  obtain ⟨m, hm⟩ := h.m
  refine ⟨h.a.kp hk, m, ?_⟩
  cases hh : w.heap[(0 : Nat)]? with
  | none =>
    exfalso
    unfold World.cell? at hm
    simp only [hh] at hm
    cases hm
  | some o => exact (World.cell?_of_block (w := w) (a := ⟨0, 0, none⟩) ((hk _ o (by decide) hh).trans hh.symm)).trans hm
theorem iCut (l : Txt) (c : UInt8) (hl : l.length < 4294967281) (w : World) (h : EnvX w) :
    Calls Tryz.prog 66 #[.string (bs l), .string (bs [c])] w fun e w' => e = .returned (.tuple #[sv (cut1 c l).1, sv (cut1 c l).2.1, .bool (cut1 c l).2.2]) ∧ Below w.heap.size w w' := by
  obtain ⟨m, hm⟩ := h.m
  refine (Tryz.strings_Cut (bs l) (bs [c]) m w (by rw [bs_size]; exact hl) hm).mono ?_
  rintro e w' ⟨rfl, n, rfl⟩
  refine ⟨?_, below_drewN (Below.refl _ _) n⟩
  rw [bs_data, bs_data, cut_eq]
  rfl
theorem cut1_len (sep : UInt8) (l : Txt) : (cut1 sep l).1.length ≤ l.length ∧ (cut1 sep l).2.1.length ≤ l.length := by
  rcases cut_cases sep l with h | ⟨a, b, rfl, h⟩
  · rw [cut1_no h]; simp
  · rw [cut1_at _ h]; simp; omega
/-- A deed, and whether there is one. -/
def od (o : Option Dd) : Dd := o.getD ⟨0, 0, []⟩
def RetDd (w : World) (o : Option Dd) (e : Ending) (w' : World) : Prop := e = .returned (.tuple #[dv (od o), .bool o.isSome]) ∧ Below w.heap.size w w'
theorem kindOf_cases (l : Txt) : kindOf l = 0 ∨ (kindOf l = 3 ∨ kindOf l = 4 ∨ kindOf l = 5) ∨ (kindOf l = 1 ∨ kindOf l = 2 ∨ kindOf l = 6 ∨ kindOf l = -1) := by
  unfold kindOf
  repeat' split
  all_goals simp
/-- What the last test says of a deed that is tried. -/
def tryD (l : Txt) (a : Dd) : Option Dd := if l = [] ∨ dText a ≠ l then none else some a
theorem readDd_try {l : Txt} {a : Dd} (h : cand l = some a) : readDd l = tryD l a := by unfold readDd; rw [h]; rfl
theorem readDd_no {l : Txt} (h : cand l = none) : readDd l = none := by unfold readDd; rw [h]
theorem tryD_yes {l : Txt} {a : Dd} (h : l ≠ []) (h2 : dText a = l) : tryD l a = some a := by
  unfold tryD
  rw [if_neg]
  rintro (h3 | h3)
  · exact h h3
  · exact h3 h2
theorem tryD_no {l : Txt} {a : Dd} (h : dText a ≠ l) : tryD l a = none := by unfold tryD; rw [if_pos (.inr h)]
theorem tryD_nil {a : Dd} : tryD [] a = none := by unfold tryD; rw [if_pos (.inl rfl)]

set_option maxHeartbeats 2000000 in
set_option maxRecDepth 100000 in
theorem iReadDeed (l : Txt) (hl : l.length < 4294967281) (w : World) (hE : EnvX w) :
    Calls Tryz.prog 49 #[.string (bs l)] w (RetDd w (readDd l)) := by
  have hto := bs_toList
  have hcl := cut1_len 32 l
  have hcut := fun w h => iCut l 32 hl w h
  have hcand : cand l = (let k := kindOf (cut1 32 l).1
    if k = 0 then some ⟨0, 0, (cut1 32 l).2.1⟩
    else if 3 ≤ k ∧ k ≤ 5 then (whole? (cut1 32 l).2.1 (-99) 99).map fun n => ⟨k, n, []⟩
    else some ⟨k, 0, []⟩) := rfl
  unfold sv at hcut
  generalize (cut1 32 l).1 = wd at *
  generalize (cut1 32 l).2.1 = rs at *
  generalize (cut1 32 l).2.2 = ed at *
  have HC : Hid (∀ w, EnvX w → Calls Tryz.prog 66 #[.string (bs l), .string { data := #[32] }] w fun e w' => e = .returned (.tuple #[.string (bs wd), .string (bs rs), .bool ed]) ∧ Below w.heap.size w w') := hcut
  have HK := Lib.hid (fun w => iKind wd w)
  have HE := Lib.hid hE
  have hkc := kindOf_cases wd
  generalize kindOf wd = k at *
  clear hcut hE
  obtain ⟨hc1, hc2⟩ := hcl
  simp only at hcand
  have HW : Hid (∀ w, EnvX w → Calls Tryz.prog 92 #[.string (bs rs), .int .i64 (-99), .int .i64 99] w fun e w' => e = .returned (.tuple #[ov (whole? rs (-99) 99), .bool (whole? rs (-99) 99).isSome]) ∧ Below w.heap.size w w') := fun w h =>
    iWhole rs (-99) 99 (by omega) (by omega) (by omega) w h.a
  have HT : Hid (∀ (k n : Int) (t : Txt) w, t.length ≤ l.length → EnvX w → Calls Tryz.prog 30 #[.agg #[.int .i64 k, .int .i64 n, .string (bs t)]] w fun e w' => e = .returned (.string (bs (dText ⟨k, n, t⟩))) ∧ Below w.heap.size w w') := fun k n t w h1 h2 =>
    iDeedText ⟨k, n, t⟩ (by show t.length ≤ _; omega) w h2.a.tab
  have hn0 : ∀ w', Below w.heap.size w w' → RetDd w none (.returned (.tuple #[.agg #[.int .i64 0, .int .i64 0, .string ⟨#[]⟩], .bool false])) w' := fun w' h => ⟨rfl, h⟩
  have hy0 : ∀ (a : Dd) w', Below w.heap.size w w' → RetDd w (some a) (.returned (.tuple #[.agg #[.int .i64 a.kind, .int .i64 a.num, .string (bs a.text)], .bool true])) w' := fun a w' h => ⟨rfl, h⟩
  have NO := Lib.hid hn0
  have YES := Lib.hid hy0
  clear hn0 hy0
  have hr0 := Below.refl w.heap.size w
  have HTX : Hid (l = [] ∨ l ≠ []) := Classical.em _
  rcases hkc with rfl | hk | hk
  · have HCD : Hid (readDd l = tryD l ⟨0, 0, rs⟩) := readDd_try (by rw [hcand]; rfl)
    clear hcand
    rcases HTX.out with hl0 | hl0
    · subst hl0
      rw [HCD.out, tryD_nil]
      go_enter Tryz.func49, Tryz.ntmps49
      go_wp2_with fail
      refine (HC.out _ (HE.out.kp (Kp.below (below_alloc _ _)))).mono ?_
      rintro e w1 ⟨rfl, hb1⟩
      have HB1 := Lib.hid (below_box _ _ hb1)
      obtain ⟨r0, r1, r2, s0, s1, s2, hsz1⟩ := DAt.box hb1
      clear hb1
      go_wp2_with fail
      refine (HK.out _).mono ?_
      rintro e w2 ⟨rfl, rfl⟩
      go_wp2_with fail
      refine bodyPost_ret (v := .tuple #[.agg #[.int .i64 0, .int .i64 0, .string ⟨#[]⟩], .bool false]) (by simp [results, Tryz.results49, go_sem, r0, r1, r2, hsz1]) rfl ?_
      exact NO.out _ ((below_set3 HB1.out (Nat.le_refl _) _ _ _).alloc (below_set3 HB1.out (Nat.le_refl _) _ _ _).size _)
    · have hl2 : l.isEmpty = false := by simpa using hl0
      have HL0 := Lib.hid hl0
      clear hl0
      go_enter Tryz.func49, Tryz.ntmps49
      go_wp2_with fail
      refine (HC.out _ (HE.out.kp (Kp.below (below_alloc _ _)))).mono ?_
      rintro e w1 ⟨rfl, hb1⟩
      have HB1 := Lib.hid (below_box _ _ hb1)
      have hD1 := DAt.box hb1
      have HD1 := Lib.hid hD1
      obtain ⟨r0, r1, r2, s0, s1, s2, hsz1⟩ := hD1
      clear hb1
      go_wp2_with fail
      refine (HK.out _).mono ?_
      rintro e w2 ⟨rfl, rfl⟩
      go_wp2_with fail
      refine (HT.out _ _ _ _ hc2 ((HE.out.kp (Kp.below HB1.out)).kp (Kp.below (below_alloc _ _)))).mono ?_
      rintro e w3 ⟨rfl, hb3⟩
      have HB3 : Hid (Below w.heap.size w w3) := HB1.out.trans ((below_box _ _ hb3).mono HB1.out.size)
      have hD3 := HD1.out.keep hb3
      have hA3 := DAt.box hb3
      clear r0 r1 r2 s0 s1 s2 hb3
      obtain ⟨r0, r1, r2, s0, s1, s2, hsz3⟩ := hD3
      obtain ⟨a0, a1, a2, _, _, _, hsz4⟩ := hA3
      by_cases he : dText ⟨0, 0, rs⟩ = l
      · have he2 : (dText ⟨0, 0, rs⟩ == l) = true := by rw [beq_iff_eq]; exact he
        have HR : Hid (readDd l = some ⟨0, 0, rs⟩) := by show _ = _; rw [HCD.out, tryD_yes HL0.out he]
        clear he
        go_wp2_with fail
        refine bodyPost_ret (v := .tuple #[.agg #[.int .i64 0, .int .i64 0, .string (bs rs)], .bool true]) (by simp [results, Tryz.results49, go_sem, r0, r1, r2]) rfl ?_
        rw [HR.out]
        exact YES.out ⟨0, 0, rs⟩ _ (below_set3 HB3.out (Nat.le_refl _) _ _ _)
      · have he2 : (dText ⟨0, 0, rs⟩ == l) = false := by rw [beq_eq_false_iff_ne]; exact he
        have HR : Hid (readDd l = none) := by show _ = _; rw [HCD.out, tryD_no he]
        clear he
        go_wp2_with fail
        refine bodyPost_ret (v := .tuple #[.agg #[.int .i64 0, .int .i64 0, .string ⟨#[]⟩], .bool false]) (by simp [results, Tryz.results49, go_sem, r0, r1, r2]) rfl ?_
        rw [HR.out]
        exact NO.out _ (below_set3 HB3.out (Nat.le_refl _) _ _ _)
  · cases hw : whole? rs (-99) 99 with
    | none =>
      have HR : Hid (readDd l = none) := readDd_no (by rw [hcand, if_neg (by omega), if_pos (by omega), hw]; rfl)
      rw [hw] at HW
      clear hcand hw
      have NO2 := Lib.hid (fun w' => NO.out w')
      rcases hk with rfl | rfl | rfl
      all_goals
        rw [HR.out]
        go_enter Tryz.func49, Tryz.ntmps49
        go_wp2_with fail
        refine (HC.out _ (HE.out.kp (Kp.below (below_alloc _ _)))).mono ?_
        rintro e w1 ⟨rfl, hb1⟩
        have HB1 := Lib.hid (below_box _ _ hb1)
        have hD1 := DAt.box hb1
        have HD1 := Lib.hid hD1
        obtain ⟨r0, r1, r2, s0, s1, s2, hsz1⟩ := hD1
        clear hb1
        go_wp2_with fail
        refine (HK.out _).mono ?_
        rintro e w2 ⟨rfl, rfl⟩
        go_wp2_with fail
        refine (HW.out _ ((HE.out.kp (Kp.below HB1.out)).kp (Kp.below (below_alloc _ _)))).mono ?_
        rintro e w3 ⟨rfl, hb3⟩
        have HB3 : Hid (Below w.heap.size w w3) := HB1.out.trans ((below_box _ _ hb3).mono HB1.out.size)
        have hD3 := HD1.out.keep hb3
        clear r0 r1 r2 s0 s1 s2 hb3
        obtain ⟨r0, r1, r2, s0, s1, s2, hsz3⟩ := hD3
        go_wp2_with fail
        refine bodyPost_ret (v := .tuple #[.agg #[.int .i64 0, .int .i64 0, .string ⟨#[]⟩], .bool false]) (by simp [results, Tryz.results49, go_sem, r0, r1, r2]) rfl ?_
        exact NO.out _ (below_set3 HB3.out (Nat.le_refl _) _ _ _)
    | some n =>
      have HCD : Hid (readDd l = tryD l ⟨k, n, []⟩) := readDd_try (by rw [hcand, if_neg (by omega), if_pos (by omega), hw]; rfl)
      rw [hw] at HW
      clear hcand hw
      rcases HTX.out with hl0 | hl0
      · subst hl0
        rw [HCD.out, tryD_nil]
        rcases hk with rfl | rfl | rfl
        all_goals
          go_enter Tryz.func49, Tryz.ntmps49
          go_wp2_with fail
          refine (HC.out _ (HE.out.kp (Kp.below (below_alloc _ _)))).mono ?_
          rintro e w1 ⟨rfl, hb1⟩
          have HB1 := Lib.hid (below_box _ _ hb1)
          have hD1 := DAt.box hb1
          have HD1 := Lib.hid hD1
          obtain ⟨r0, r1, r2, s0, s1, s2, hsz1⟩ := hD1
          clear hb1
          go_wp2_with fail
          refine (HK.out _).mono ?_
          rintro e w2 ⟨rfl, rfl⟩
          go_wp2_with fail
          refine (HW.out _ ((HE.out.kp (Kp.below HB1.out)).kp (Kp.below (below_alloc _ _)))).mono ?_
          rintro e w3 ⟨rfl, hb3⟩
          simp only [ov, Option.getD_some, Option.isSome_some]
          have HB3 : Hid (Below w.heap.size w w3) := HB1.out.trans ((below_box _ _ hb3).mono HB1.out.size)
          have hne : w2.heap.size ≠ w.heap.size := by have := hsz1; omega
          have hD3 := HD1.out.keep hb3
          have hA3 := DAt.box hb3
          have HA4 := Lib.hid (hA3.num n)
          have HD4 := Lib.hid (hD3.far (b' := w2.heap.size) (j := 1) hne (.int .i64 n))
          have HB4 : Hid (Below w.heap.size w (w3.setCell ⟨w2.heap.size, 1, none⟩ (.int .i64 n))) := HB3.out.setCell (p := ⟨w2.heap.size, 1, none⟩) (by have := hsz1; show w.heap.size ≤ w2.heap.size; omega) _
          clear r0 r1 r2 s0 s1 s2 hb3 hne
          obtain ⟨r0, r1, r2, s0, s1, s2, hsz3⟩ := hD3
          obtain ⟨a0, a1, a2, b0, b1, b2, hsz4⟩ := hA3
          go_wp2_with fail
          clear r0 r1 r2 s0 s1 s2
          obtain ⟨r0, r1, r2, s0, s1, s2, _⟩ := HD4.out
          refine bodyPost_ret (v := .tuple #[.agg #[.int .i64 0, .int .i64 0, .string ⟨#[]⟩], .bool false]) (by simp [results, Tryz.results49, go_sem, r0, r1, r2]) rfl ?_
          exact NO.out _ (below_set3 HB4.out (Nat.le_refl _) _ _ _)
      · have hl2 : l.isEmpty = false := by simpa using hl0
        have HL0 := Lib.hid hl0
        clear hl0
        rcases hk with rfl | rfl | rfl
        · go_enter Tryz.func49, Tryz.ntmps49
          go_wp2_with fail
          refine (HC.out _ (HE.out.kp (Kp.below (below_alloc _ _)))).mono ?_
          rintro e w1 ⟨rfl, hb1⟩
          have HB1 := Lib.hid (below_box _ _ hb1)
          have hD1 := DAt.box hb1
          have HD1 := Lib.hid hD1
          obtain ⟨r0, r1, r2, s0, s1, s2, hsz1⟩ := hD1
          clear hb1
          go_wp2_with fail
          refine (HK.out _).mono ?_
          rintro e w2 ⟨rfl, rfl⟩
          go_wp2_with fail
          refine (HW.out _ ((HE.out.kp (Kp.below HB1.out)).kp (Kp.below (below_alloc _ _)))).mono ?_
          rintro e w3 ⟨rfl, hb3⟩
          simp only [ov, Option.getD_some, Option.isSome_some]
          have HB3 : Hid (Below w.heap.size w w3) := HB1.out.trans ((below_box _ _ hb3).mono HB1.out.size)
          have hne : w2.heap.size ≠ w.heap.size := by have := hsz1; omega
          have hD3 := HD1.out.keep hb3
          have hA3 := DAt.box hb3
          have HA4 := Lib.hid (hA3.num n)
          have HD4 := Lib.hid (hD3.far (b' := w2.heap.size) (j := 1) hne (.int .i64 n))
          have HB4 : Hid (Below w.heap.size w (w3.setCell ⟨w2.heap.size, 1, none⟩ (.int .i64 n))) := HB3.out.setCell (p := ⟨w2.heap.size, 1, none⟩) (by have := hsz1; show w.heap.size ≤ w2.heap.size; omega) _
          clear r0 r1 r2 s0 s1 s2 hb3 hne
          obtain ⟨r0, r1, r2, s0, s1, s2, hsz3⟩ := hD3
          obtain ⟨a0, a1, a2, b0, b1, b2, hsz4⟩ := hA3
          go_wp2_with fail
          refine (HT.out _ _ [] _ (Nat.zero_le _) (HE.out.kp (Kp.below HB4.out))).mono ?_
          rintro e w5 ⟨rfl, hb5⟩
          have HB5 : Hid (Below w.heap.size w w5) := HB4.out.trans (hb5.mono HB4.out.size)
          have hD5 := HD4.out.below hb5
          have hA5 := HA4.out.below hb5
          clear r0 r1 r2 s0 s1 s2 a0 a1 a2 b0 b1 b2 hb5
          obtain ⟨r0, r1, r2, s0, s1, s2, hsz5⟩ := hD5
          obtain ⟨a0, a1, a2, _, _, _, hsz6⟩ := hA5
          by_cases he : dText ⟨3, n, []⟩ = l
          · have he2 : (dText ⟨3, n, []⟩ == l) = true := by rw [beq_iff_eq]; exact he
            have HR : Hid (readDd l = some ⟨3, n, []⟩) := by show _ = _; rw [HCD.out, tryD_yes HL0.out he]
            clear he
            go_wp2_with fail
            refine bodyPost_ret (v := .tuple #[.agg #[.int .i64 3, .int .i64 n, .string (bs [])], .bool true]) (by simp [results, Tryz.results49, go_sem, r0, r1, r2]; try rfl) rfl ?_
            rw [HR.out]
            exact YES.out ⟨3, n, []⟩ _ (below_set3 HB5.out (Nat.le_refl _) _ _ _)
          · have he2 : (dText ⟨3, n, []⟩ == l) = false := by rw [beq_eq_false_iff_ne]; exact he
            have HR : Hid (readDd l = none) := by show _ = _; rw [HCD.out, tryD_no he]
            clear he
            go_wp2_with fail
            refine bodyPost_ret (v := .tuple #[.agg #[.int .i64 0, .int .i64 0, .string ⟨#[]⟩], .bool false]) (by simp [results, Tryz.results49, go_sem, r0, r1, r2]) rfl ?_
            rw [HR.out]
            exact NO.out _ (below_set3 HB5.out (Nat.le_refl _) _ _ _)
        · go_enter Tryz.func49, Tryz.ntmps49
          go_wp2_with fail
          refine (HC.out _ (HE.out.kp (Kp.below (below_alloc _ _)))).mono ?_
          rintro e w1 ⟨rfl, hb1⟩
          have HB1 := Lib.hid (below_box _ _ hb1)
          have hD1 := DAt.box hb1
          have HD1 := Lib.hid hD1
          obtain ⟨r0, r1, r2, s0, s1, s2, hsz1⟩ := hD1
          clear hb1
          go_wp2_with fail
          refine (HK.out _).mono ?_
          rintro e w2 ⟨rfl, rfl⟩
          go_wp2_with fail
          refine (HW.out _ ((HE.out.kp (Kp.below HB1.out)).kp (Kp.below (below_alloc _ _)))).mono ?_
          rintro e w3 ⟨rfl, hb3⟩
          simp only [ov, Option.getD_some, Option.isSome_some]
          have HB3 : Hid (Below w.heap.size w w3) := HB1.out.trans ((below_box _ _ hb3).mono HB1.out.size)
          have hne : w2.heap.size ≠ w.heap.size := by have := hsz1; omega
          have hD3 := HD1.out.keep hb3
          have hA3 := DAt.box hb3
          have HA4 := Lib.hid (hA3.num n)
          have HD4 := Lib.hid (hD3.far (b' := w2.heap.size) (j := 1) hne (.int .i64 n))
          have HB4 : Hid (Below w.heap.size w (w3.setCell ⟨w2.heap.size, 1, none⟩ (.int .i64 n))) := HB3.out.setCell (p := ⟨w2.heap.size, 1, none⟩) (by have := hsz1; show w.heap.size ≤ w2.heap.size; omega) _
          clear r0 r1 r2 s0 s1 s2 hb3 hne
          obtain ⟨r0, r1, r2, s0, s1, s2, hsz3⟩ := hD3
          obtain ⟨a0, a1, a2, b0, b1, b2, hsz4⟩ := hA3
          go_wp2_with fail
          refine (HT.out _ _ [] _ (Nat.zero_le _) (HE.out.kp (Kp.below HB4.out))).mono ?_
          rintro e w5 ⟨rfl, hb5⟩
          have HB5 : Hid (Below w.heap.size w w5) := HB4.out.trans (hb5.mono HB4.out.size)
          have hD5 := HD4.out.below hb5
          have hA5 := HA4.out.below hb5
          clear r0 r1 r2 s0 s1 s2 a0 a1 a2 b0 b1 b2 hb5
          obtain ⟨r0, r1, r2, s0, s1, s2, hsz5⟩ := hD5
          obtain ⟨a0, a1, a2, _, _, _, hsz6⟩ := hA5
          by_cases he : dText ⟨4, n, []⟩ = l
          · have he2 : (dText ⟨4, n, []⟩ == l) = true := by rw [beq_iff_eq]; exact he
            have HR : Hid (readDd l = some ⟨4, n, []⟩) := by show _ = _; rw [HCD.out, tryD_yes HL0.out he]
            clear he
            go_wp2_with fail
            refine bodyPost_ret (v := .tuple #[.agg #[.int .i64 4, .int .i64 n, .string (bs [])], .bool true]) (by simp [results, Tryz.results49, go_sem, r0, r1, r2]; try rfl) rfl ?_
            rw [HR.out]
            exact YES.out ⟨4, n, []⟩ _ (below_set3 HB5.out (Nat.le_refl _) _ _ _)
          · have he2 : (dText ⟨4, n, []⟩ == l) = false := by rw [beq_eq_false_iff_ne]; exact he
            have HR : Hid (readDd l = none) := by show _ = _; rw [HCD.out, tryD_no he]
            clear he
            go_wp2_with fail
            refine bodyPost_ret (v := .tuple #[.agg #[.int .i64 0, .int .i64 0, .string ⟨#[]⟩], .bool false]) (by simp [results, Tryz.results49, go_sem, r0, r1, r2]) rfl ?_
            rw [HR.out]
            exact NO.out _ (below_set3 HB5.out (Nat.le_refl _) _ _ _)
        · go_enter Tryz.func49, Tryz.ntmps49
          go_wp2_with fail
          refine (HC.out _ (HE.out.kp (Kp.below (below_alloc _ _)))).mono ?_
          rintro e w1 ⟨rfl, hb1⟩
          have HB1 := Lib.hid (below_box _ _ hb1)
          have hD1 := DAt.box hb1
          have HD1 := Lib.hid hD1
          obtain ⟨r0, r1, r2, s0, s1, s2, hsz1⟩ := hD1
          clear hb1
          go_wp2_with fail
          refine (HK.out _).mono ?_
          rintro e w2 ⟨rfl, rfl⟩
          go_wp2_with fail
          refine (HW.out _ ((HE.out.kp (Kp.below HB1.out)).kp (Kp.below (below_alloc _ _)))).mono ?_
          rintro e w3 ⟨rfl, hb3⟩
          simp only [ov, Option.getD_some, Option.isSome_some]
          have HB3 : Hid (Below w.heap.size w w3) := HB1.out.trans ((below_box _ _ hb3).mono HB1.out.size)
          have hne : w2.heap.size ≠ w.heap.size := by have := hsz1; omega
          have hD3 := HD1.out.keep hb3
          have hA3 := DAt.box hb3
          have HA4 := Lib.hid (hA3.num n)
          have HD4 := Lib.hid (hD3.far (b' := w2.heap.size) (j := 1) hne (.int .i64 n))
          have HB4 : Hid (Below w.heap.size w (w3.setCell ⟨w2.heap.size, 1, none⟩ (.int .i64 n))) := HB3.out.setCell (p := ⟨w2.heap.size, 1, none⟩) (by have := hsz1; show w.heap.size ≤ w2.heap.size; omega) _
          clear r0 r1 r2 s0 s1 s2 hb3 hne
          obtain ⟨r0, r1, r2, s0, s1, s2, hsz3⟩ := hD3
          obtain ⟨a0, a1, a2, b0, b1, b2, hsz4⟩ := hA3
          go_wp2_with fail
          refine (HT.out _ _ [] _ (Nat.zero_le _) (HE.out.kp (Kp.below HB4.out))).mono ?_
          rintro e w5 ⟨rfl, hb5⟩
          have HB5 : Hid (Below w.heap.size w w5) := HB4.out.trans (hb5.mono HB4.out.size)
          have hD5 := HD4.out.below hb5
          have hA5 := HA4.out.below hb5
          clear r0 r1 r2 s0 s1 s2 a0 a1 a2 b0 b1 b2 hb5
          obtain ⟨r0, r1, r2, s0, s1, s2, hsz5⟩ := hD5
          obtain ⟨a0, a1, a2, _, _, _, hsz6⟩ := hA5
          by_cases he : dText ⟨5, n, []⟩ = l
          · have he2 : (dText ⟨5, n, []⟩ == l) = true := by rw [beq_iff_eq]; exact he
            have HR : Hid (readDd l = some ⟨5, n, []⟩) := by show _ = _; rw [HCD.out, tryD_yes HL0.out he]
            clear he
            go_wp2_with fail
            refine bodyPost_ret (v := .tuple #[.agg #[.int .i64 5, .int .i64 n, .string (bs [])], .bool true]) (by simp [results, Tryz.results49, go_sem, r0, r1, r2]; try rfl) rfl ?_
            rw [HR.out]
            exact YES.out ⟨5, n, []⟩ _ (below_set3 HB5.out (Nat.le_refl _) _ _ _)
          · have he2 : (dText ⟨5, n, []⟩ == l) = false := by rw [beq_eq_false_iff_ne]; exact he
            have HR : Hid (readDd l = none) := by show _ = _; rw [HCD.out, tryD_no he]
            clear he
            go_wp2_with fail
            refine bodyPost_ret (v := .tuple #[.agg #[.int .i64 0, .int .i64 0, .string ⟨#[]⟩], .bool false]) (by simp [results, Tryz.results49, go_sem, r0, r1, r2]) rfl ?_
            rw [HR.out]
            exact NO.out _ (below_set3 HB5.out (Nat.le_refl _) _ _ _)
  · have HCD : Hid (readDd l = tryD l ⟨k, 0, []⟩) := readDd_try (by rw [hcand, if_neg (by omega), if_neg (by omega)])
    clear hcand
    have HE2 : Hid (∀ (w2 : World) (o : Obj), Below w.heap.size w w2 → EnvX (w2.alloc o)) := fun w2 o h => (HE.out.kp (Kp.below h)).kp (Kp.below (below_alloc _ _))
    rcases HTX.out with hl0 | hl0
    · subst hl0
      rw [HCD.out, tryD_nil]
      rcases hk with rfl | rfl | rfl | rfl
      all_goals
        go_enter Tryz.func49, Tryz.ntmps49
        go_wp2_with fail
        refine (HC.out _ (HE.out.kp (Kp.below (below_alloc _ _)))).mono ?_
        rintro e w1 ⟨rfl, hb1⟩
        have HB1 := Lib.hid (below_box _ _ hb1)
        have hD1 := DAt.box hb1
        have HD1 := Lib.hid hD1
        obtain ⟨r0, r1, r2, s0, s1, s2, hsz1⟩ := hD1
        clear hb1
        go_wp2_with fail
        refine (HK.out _).mono ?_
        rintro e w2 ⟨rfl, rfl⟩
        go_wp2_with fail
        refine bodyPost_ret (v := .tuple #[.agg #[.int .i64 0, .int .i64 0, .string ⟨#[]⟩], .bool false]) (by simp [results, Tryz.results49, go_sem, r0, r1, r2, hsz1]) rfl ?_
        exact NO.out _ (by first | exact ((below_set3 HB1.out (Nat.le_refl _) _ _ _).alloc (below_set3 HB1.out (Nat.le_refl _) _ _ _).size _))
    · have hl2 : l.isEmpty = false := by simpa using hl0
      have HL0 := Lib.hid hl0
      clear hl0
      rcases hk with rfl | rfl | rfl | rfl
      · go_enter Tryz.func49, Tryz.ntmps49
        go_wp2_with fail
        refine (HC.out _ (HE.out.kp (Kp.below (below_alloc _ _)))).mono ?_
        rintro e w1 ⟨rfl, hb1⟩
        have HB1 := Lib.hid (below_box _ _ hb1)
        have hD1 := DAt.box hb1
        have HD1 := Lib.hid hD1
        obtain ⟨r0, r1, r2, s0, s1, s2, hsz1⟩ := hD1
        clear hb1
        go_wp2_with fail
        refine (HK.out _).mono ?_
        rintro e w2 ⟨rfl, rfl⟩
        go_wp2_with fail
        refine (HT.out _ _ [] _ (Nat.zero_le _) (HE2.out _ _ HB1.out)).mono ?_
        rintro e w3 ⟨rfl, hb3⟩
        have HB3 : Hid (Below w.heap.size w w3) := HB1.out.trans ((below_box _ _ hb3).mono HB1.out.size)
        have hD3 := HD1.out.keep hb3
        have hA3 := DAt.box hb3
        clear r0 r1 r2 s0 s1 s2 hb3
        obtain ⟨r0, r1, r2, s0, s1, s2, hsz3⟩ := hD3
        obtain ⟨a0, a1, a2, _, _, _, hsz4⟩ := hA3
        by_cases he : dText ⟨1, 0, []⟩ = l
        · have he2 : (dText ⟨1, 0, []⟩ == l) = true := by rw [beq_iff_eq]; exact he
          have HR : Hid (readDd l = some ⟨1, 0, []⟩) := by show _ = _; rw [HCD.out, tryD_yes HL0.out he]
          clear he
          go_wp2_with fail
          refine bodyPost_ret (v := .tuple #[.agg #[.int .i64 (1), .int .i64 (0), .string (bs [])], .bool true]) (by simp [results, Tryz.results49, go_sem, r0, r1, r2]; try rfl) rfl ?_
          rw [HR.out]
          exact YES.out ⟨1, 0, []⟩ _ (below_set3 HB3.out (Nat.le_refl _) _ _ _)
        · have he2 : (dText ⟨1, 0, []⟩ == l) = false := by rw [beq_eq_false_iff_ne]; exact he
          have HR : Hid (readDd l = none) := by show _ = _; rw [HCD.out, tryD_no he]
          clear he
          go_wp2_with fail
          refine bodyPost_ret (v := .tuple #[.agg #[.int .i64 0, .int .i64 0, .string ⟨#[]⟩], .bool false]) (by simp [results, Tryz.results49, go_sem, r0, r1, r2]) rfl ?_
          rw [HR.out]
          exact NO.out _ (below_set3 HB3.out (Nat.le_refl _) _ _ _)
      · go_enter Tryz.func49, Tryz.ntmps49
        go_wp2_with fail
        refine (HC.out _ (HE.out.kp (Kp.below (below_alloc _ _)))).mono ?_
        rintro e w1 ⟨rfl, hb1⟩
        have HB1 := Lib.hid (below_box _ _ hb1)
        have hD1 := DAt.box hb1
        have HD1 := Lib.hid hD1
        obtain ⟨r0, r1, r2, s0, s1, s2, hsz1⟩ := hD1
        clear hb1
        go_wp2_with fail
        refine (HK.out _).mono ?_
        rintro e w2 ⟨rfl, rfl⟩
        go_wp2_with fail
        refine (HT.out _ _ [] _ (Nat.zero_le _) (HE2.out _ _ HB1.out)).mono ?_
        rintro e w3 ⟨rfl, hb3⟩
        have HB3 : Hid (Below w.heap.size w w3) := HB1.out.trans ((below_box _ _ hb3).mono HB1.out.size)
        have hD3 := HD1.out.keep hb3
        have hA3 := DAt.box hb3
        clear r0 r1 r2 s0 s1 s2 hb3
        obtain ⟨r0, r1, r2, s0, s1, s2, hsz3⟩ := hD3
        obtain ⟨a0, a1, a2, _, _, _, hsz4⟩ := hA3
        by_cases he : dText ⟨2, 0, []⟩ = l
        · have he2 : (dText ⟨2, 0, []⟩ == l) = true := by rw [beq_iff_eq]; exact he
          have HR : Hid (readDd l = some ⟨2, 0, []⟩) := by show _ = _; rw [HCD.out, tryD_yes HL0.out he]
          clear he
          go_wp2_with fail
          refine bodyPost_ret (v := .tuple #[.agg #[.int .i64 (2), .int .i64 (0), .string (bs [])], .bool true]) (by simp [results, Tryz.results49, go_sem, r0, r1, r2]; try rfl) rfl ?_
          rw [HR.out]
          exact YES.out ⟨2, 0, []⟩ _ (below_set3 HB3.out (Nat.le_refl _) _ _ _)
        · have he2 : (dText ⟨2, 0, []⟩ == l) = false := by rw [beq_eq_false_iff_ne]; exact he
          have HR : Hid (readDd l = none) := by show _ = _; rw [HCD.out, tryD_no he]
          clear he
          go_wp2_with fail
          refine bodyPost_ret (v := .tuple #[.agg #[.int .i64 0, .int .i64 0, .string ⟨#[]⟩], .bool false]) (by simp [results, Tryz.results49, go_sem, r0, r1, r2]) rfl ?_
          rw [HR.out]
          exact NO.out _ (below_set3 HB3.out (Nat.le_refl _) _ _ _)
      · go_enter Tryz.func49, Tryz.ntmps49
        go_wp2_with fail
        refine (HC.out _ (HE.out.kp (Kp.below (below_alloc _ _)))).mono ?_
        rintro e w1 ⟨rfl, hb1⟩
        have HB1 := Lib.hid (below_box _ _ hb1)
        have hD1 := DAt.box hb1
        have HD1 := Lib.hid hD1
        obtain ⟨r0, r1, r2, s0, s1, s2, hsz1⟩ := hD1
        clear hb1
        go_wp2_with fail
        refine (HK.out _).mono ?_
        rintro e w2 ⟨rfl, rfl⟩
        go_wp2_with fail
        refine (HT.out _ _ [] _ (Nat.zero_le _) (HE2.out _ _ HB1.out)).mono ?_
        rintro e w3 ⟨rfl, hb3⟩
        have HB3 : Hid (Below w.heap.size w w3) := HB1.out.trans ((below_box _ _ hb3).mono HB1.out.size)
        have hD3 := HD1.out.keep hb3
        have hA3 := DAt.box hb3
        clear r0 r1 r2 s0 s1 s2 hb3
        obtain ⟨r0, r1, r2, s0, s1, s2, hsz3⟩ := hD3
        obtain ⟨a0, a1, a2, _, _, _, hsz4⟩ := hA3
        by_cases he : dText ⟨6, 0, []⟩ = l
        · have he2 : (dText ⟨6, 0, []⟩ == l) = true := by rw [beq_iff_eq]; exact he
          have HR : Hid (readDd l = some ⟨6, 0, []⟩) := by show _ = _; rw [HCD.out, tryD_yes HL0.out he]
          clear he
          go_wp2_with fail
          refine bodyPost_ret (v := .tuple #[.agg #[.int .i64 (6), .int .i64 (0), .string (bs [])], .bool true]) (by simp [results, Tryz.results49, go_sem, r0, r1, r2]; try rfl) rfl ?_
          rw [HR.out]
          exact YES.out ⟨6, 0, []⟩ _ (below_set3 HB3.out (Nat.le_refl _) _ _ _)
        · have he2 : (dText ⟨6, 0, []⟩ == l) = false := by rw [beq_eq_false_iff_ne]; exact he
          have HR : Hid (readDd l = none) := by show _ = _; rw [HCD.out, tryD_no he]
          clear he
          go_wp2_with fail
          refine bodyPost_ret (v := .tuple #[.agg #[.int .i64 0, .int .i64 0, .string ⟨#[]⟩], .bool false]) (by simp [results, Tryz.results49, go_sem, r0, r1, r2]) rfl ?_
          rw [HR.out]
          exact NO.out _ (below_set3 HB3.out (Nat.le_refl _) _ _ _)
      · go_enter Tryz.func49, Tryz.ntmps49
        go_wp2_with fail
        refine (HC.out _ (HE.out.kp (Kp.below (below_alloc _ _)))).mono ?_
        rintro e w1 ⟨rfl, hb1⟩
        have HB1 := Lib.hid (below_box _ _ hb1)
        have hD1 := DAt.box hb1
        have HD1 := Lib.hid hD1
        obtain ⟨r0, r1, r2, s0, s1, s2, hsz1⟩ := hD1
        clear hb1
        go_wp2_with fail
        refine (HK.out _).mono ?_
        rintro e w2 ⟨rfl, rfl⟩
        go_wp2_with fail
        refine (HT.out _ _ [] _ (Nat.zero_le _) (HE2.out _ _ HB1.out)).mono ?_
        rintro e w3 ⟨rfl, hb3⟩
        have HB3 : Hid (Below w.heap.size w w3) := HB1.out.trans ((below_box _ _ hb3).mono HB1.out.size)
        have hD3 := HD1.out.keep hb3
        have hA3 := DAt.box hb3
        clear r0 r1 r2 s0 s1 s2 hb3
        obtain ⟨r0, r1, r2, s0, s1, s2, hsz3⟩ := hD3
        obtain ⟨a0, a1, a2, _, _, _, hsz4⟩ := hA3
        by_cases he : dText ⟨-1, 0, []⟩ = l
        · have he2 : (dText ⟨-1, 0, []⟩ == l) = true := by rw [beq_iff_eq]; exact he
          have HR : Hid (readDd l = some ⟨-1, 0, []⟩) := by show _ = _; rw [HCD.out, tryD_yes HL0.out he]
          clear he
          go_wp2_with fail
          refine bodyPost_ret (v := .tuple #[.agg #[.int .i64 (-1), .int .i64 (0), .string (bs [])], .bool true]) (by simp [results, Tryz.results49, go_sem, r0, r1, r2]; try rfl) rfl ?_
          rw [HR.out]
          exact YES.out ⟨-1, 0, []⟩ _ (below_set3 HB3.out (Nat.le_refl _) _ _ _)
        · have he2 : (dText ⟨-1, 0, []⟩ == l) = false := by rw [beq_eq_false_iff_ne]; exact he
          have HR : Hid (readDd l = none) := by show _ = _; rw [HCD.out, tryD_no he]
          clear he
          go_wp2_with fail
          refine bodyPost_ret (v := .tuple #[.agg #[.int .i64 0, .int .i64 0, .string ⟨#[]⟩], .bool false]) (by simp [results, Tryz.results49, go_sem, r0, r1, r2]) rfl ?_
          rw [HR.out]
          exact NO.out _ (below_set3 HB3.out (Nat.le_refl _) _ _ _)
end Go.Proofs.YtnomlkkhkacajaaGreatDoor
