/- What the library's variables hold; a number in decimal by the program. -/
import Derived.Test.YtemcdeopehdggaaDoorU2
import Derived.Test.YtemcdeopehdggaaDoorSh
import Derived.Lib.AtoiErrMem
namespace Go.Proofs.YtemcdeopehdggaaDoor
open Go.RowKit Go.Lib

theorem gTab : Tryd.prog.globalNamed Tryd.tabName = some 3 := by kernel_rfl
theorem gSyn : Tryd.prog.globalNamed "strconv.ErrSyntax" = some 1 := by kernel_rfl
theorem gRng : Tryd.prog.globalNamed "strconv.ErrRange" = some 2 := by kernel_rfl
/-- The variables' blocks stay. -/
def Kp (w w' : World) : Prop := ∀ i o, i < 6 → w.heap[i]? = some o → w'.heap[i]? = some o
theorem Kp.refl (w : World) : Kp w w := fun _ _ _ h => h
theorem Kp.trans {a b c : World} (h : Kp a b) (k : Kp b c) : Kp a c := fun i o hi ho => k i o hi (h i o hi ho)
theorem Kp.below {w w' : World} (h : Below w.heap.size w w') : Kp w w' := fun i _ _ ho => (h.block i (Array.getElem?_eq_some_iff.1 ho).1).trans ho
theorem Kp.pk {w w' : World} {g : Nat} (h : Pk g w w') (hg : 6 ≤ g) : Kp w w' := fun i _ hi ho => (h.block i (Array.getElem?_eq_some_iff.1 ho).1 (by omega)).trans ho
theorem Kp.drewN {a b : World} (h : Kp a b) (m : Nat) : Kp a (b.drewN m) := h
theorem var_keep {w w' : World} {name : String} {g : Nat} {cs : Array Value} (hg : Tryd.prog.globalNamed name = some g) (hG : g < 6) (hv : w.var? Tryd.prog name = some cs) (hk : Kp w w') : w'.var? Tryd.prog name = some cs := by
  unfold World.var? at *
  rw [hg] at *
  simp only [Option.bind_some] at *
  cases h : w.heap[g]? with
  | none => rw [h] at hv; cases hv
  | some o => rw [hk g o hG h]; rw [h] at hv; exact hv
/-- The table of strconv holds what it is laid with. -/
structure EnvT (w : World) : Prop where
  tab : TabIs Tryd.prog w Tryd.tabName .u64 pow10Tab
theorem EnvT.kp {w w' : World} (h : EnvT w) (hk : Kp w w') : EnvT w' := ⟨var_keep gTab (by decide) h.tab hk⟩
/-- The other variables hold what they are laid with. -/
structure EnvA (w : World) : Prop where
  tab : EnvT w
  syn : ∃ tp p, w.var? Tryd.prog "strconv.ErrSyntax" = some #[.iface tp p]
  rng : ∃ tp p, w.var? Tryd.prog "strconv.ErrRange" = some #[.iface tp p]
theorem EnvA.kp {w w' : World} (h : EnvA w) (hk : Kp w w') : EnvA w' := by
  obtain ⟨tp, p, h1⟩ := h.syn
  obtain ⟨tq, q, h2⟩ := h.rng
  exact ⟨h.tab.kp hk, ⟨tp, p, var_keep gSyn (by decide) h1 hk⟩, ⟨tq, q, var_keep gRng (by decide) h2 hk⟩⟩
theorem below_grow (w : World) (os : Array Obj) : Below w.heap.size w (Sort.grow w os) :=
  ⟨rfl, rfl, rfl, by simp, fun k hk => Sort.heap_grow_old w os hk⟩
theorem iItoa (n : Int) (h0 : -9223372036854775808 ≤ n) (h1 : n ≤ 9223372036854775807) (w : World) (h : EnvT w) :
    Calls Tryd.prog 71 #[.int .i64 n] w fun e w' => e = .returned (.string (bs (itoa n))) ∧ Below w.heap.size w w' := by
  refine (Tryd.strconv_Itoa n h0 h1 w h.tab).mono ?_
  rintro e w' ⟨rfl, k, os, rfl⟩
  exact ⟨rfl, (below_drewN (Below.refl _ _) k).trans (below_grow (w.drewN k) os)⟩
theorem iAtoi (l : Txt) (hl : l.length ≤ 281474976710656) (w : World) (h : EnvA w) :
    Calls Tryd.prog 82 #[.string (bs l)] w fun e w' => (∃ n, atoiAll l = .ok n ∧ e = .returned (.tuple #[.int .i64 n, .nilIface]) ∧ Below w.heap.size w w') ∨ ((∀ n, atoiAll l ≠ .ok n) ∧ ∃ n tp p, e = .returned (.tuple #[.int .i64 n, .iface tp p]) ∧ Below w.heap.size w w') := by
  have hs : (bs l).size ≤ 281474976710656 := by rw [bs_size]; exact hl
  cases ha : atoiAll l with
  | ok n =>
    refine (Tryd.strconv_Atoi_ok (bs l) (by omega) n (by rw [bs_data]; exact ha) w).mono ?_
    rintro e w' ⟨rfl, hw⟩
    refine .inl ⟨n, rfl, rfl, ?_⟩
    rcases hw with rfl | ⟨t, rfl⟩
    · exact Below.refl _ _
    · exact bytesWorld_below _ _ _
  | range =>
    obtain ⟨tp, p, hr⟩ := h.rng
    refine (Tryd.strconv_Atoi_range_var (bs l) hs (by rw [bs_data]; exact ha) tp p w hr).mono ?_
    rintro e w' ⟨N, rfl, _, _, hb⟩
    exact .inr ⟨fun n h => (by cases h), _, _, _, rfl, hb⟩
  | _ =>
    obtain ⟨tp, p, hr⟩ := h.syn
    refine (Tryd.strconv_Atoi_syntax_var (bs l) hs (by rw [bs_data]; exact ha) tp p w hr).mono ?_
    rintro e w' ⟨N, rfl, _, _, hb⟩
    exact .inr ⟨fun n h => (by cases h), _, _, _, rfl, hb⟩
def ov (o : Option Int) : Value := .int .i64 (o.getD 0)
theorem bs_toList (l : Txt) : (bs l).toList = l := by rw [toList_data, bs_data]

set_option maxRecDepth 100000 in
theorem iWhole (l : Txt) (lo hi : Int) (hl : l.length ≤ 281474976710656) (h0 : -9223372036854775808 ≤ lo) (h1 : hi ≤ 9223372036854775807) (w : World) (h : EnvA w) :
    Calls Tryd.prog 49 #[.string (bs l), .int .i64 lo, .int .i64 hi] w fun e w' => e = .returned (.tuple #[ov (whole? l lo hi), .bool (whole? l lo hi).isSome]) ∧ Below w.heap.size w w' := by
  have no : ∀ w', Below w.heap.size w w' → whole? l lo hi = none → Ending.returned (.tuple #[.int .i64 0, .bool false]) = .returned (.tuple #[ov (whole? l lo hi), .bool (whole? l lo hi).isSome]) ∧ Below w.heap.size w w' := fun w' hb h => by rw [h]; exact ⟨rfl, hb⟩
  have NO := Lib.hid no
  have HE := Lib.hid h
  clear no h
  go_enter Tryd.func49, Tryd.ntmps49
  go_wp2_with fail
  refine (iAtoi l hl w HE.out).mono ?_
  rintro e w1 (⟨n, ha, rfl, hb⟩ | ⟨ha, n, tp, p, rfl, hb⟩)
  · have HB := Lib.hid hb
    have HA := Lib.hid ha
    clear hb ha
    by_cases h2 : n < lo
    · go_wp2_with fail
      go_ret2
      exact NO.out _ HB.out (by unfold whole?; rw [HA.out]; exact if_neg (by omega))
    by_cases h3 : hi < n
    · go_wp2_with fail
      go_ret2
      exact NO.out _ HB.out (by unfold whole?; rw [HA.out]; exact if_neg (by omega))
    go_wp2_with fail
    refine (iItoa n (by omega) (by omega) w1 (HE.out.tab.kp (Kp.below HB.out))).mono ?_
    rintro e w2 ⟨rfl, hb2⟩
    have HB2 : Hid (Below w.heap.size w w2) := HB.out.trans (hb2.mono HB.out.size)
    clear hb2
    by_cases he : itoa n = l
    · have e1 := bs_toList
      go_wp2_with fail
      go_ret2
      have hw : whole? l lo hi = some n := (whole?_iff h0 h1).2 ⟨he.symm, by omega, by omega⟩
      rw [hw]
      exact ⟨rfl, HB2.out⟩
    · have e1 := bs_toList
      have e2 : (itoa n == l) = false := by rw [beq_eq_false_iff_ne]; exact he
      have HN : Hid (whole? l lo hi = none) := by
        show _ = _
        unfold whole?
        rw [HA.out]
        exact if_neg (fun hh => he hh.2.2)
      go_wp2_with fail
      go_ret2
      exact NO.out _ HB2.out HN.out
  · have HB := Lib.hid hb
    have HA := Lib.hid ha
    clear hb ha
    go_wp2_with fail
    go_ret2
    exact NO.out _ HB.out (by
      unfold whole?
      split
      · rename_i m hm; exact absurd hm (HA.out m)
      · rfl)
end Go.Proofs.YtemcdeopehdggaaDoor
