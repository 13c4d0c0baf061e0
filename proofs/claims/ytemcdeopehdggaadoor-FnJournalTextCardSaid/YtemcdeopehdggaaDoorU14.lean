/- The draw of the law FnReadSignal. -/
import Derived.Test.YtemcdeopehdggaaDoorU12
namespace Go.Proofs.YtemcdeopehdggaaDoor
open Go.RowKit
open Go.Lib hiding intOf

/-- Some text of at most so many bytes. -/
def RetTx (w : World) (M : Nat) (e : Ending) (w' : World) : Prop := ∃ t : Txt, e = .returned (.string (bs t)) ∧ t.length ≤ M ∧ Below w.heap.size w w'
/-- The same of a reader's draw. -/
def RetRx (w : World) (g p M : Nat) (e : Ending) (w' : World) : Prop := ∃ t : Txt, e = .returned (.string (bs t)) ∧ t.length ≤ M ∧ Rd w' g p ∧ Pk g w w'
theorem sigT_len (xs : List C) : ((sigT xs).getD []).length ≤ 705 := by
  cases h : sigT xs with
  | none => simp
  | some t =>
    obtain ⟨_, ps, _, rfl, h4, h5⟩ := sigT_some h
    have := sigText_len h4
    simp only [Option.getD_some]; omega
/-- A literal of six short texts. -/
def lit6 (a b c d e f : Txt) : Array Value := #[.string (bs a), .string (bs b), .string (bs c), .string (bs d), .string (bs e), .string (bs f)]
theorem lit6_get (a b c d e f : Txt) (ha : a.length ≤ 4) (hb : b.length ≤ 4) (hc : c.length ≤ 4) (hd : d.length ≤ 4) (he : e.length ≤ 4) (hf : f.length ≤ 4) (j : Nat) (hj : j < 6) : ∃ u : Txt, u.length ≤ 4 ∧ (lit6 a b c d e f)[j]? = some (.string (bs u)) := by
  have : j = 0 ∨ j = 1 ∨ j = 2 ∨ j = 3 ∨ j = 4 ∨ j = 5 := by omega
  rcases this with rfl | rfl | rfl | rfl | rfl | rfl
  · exact ⟨a, ha, rfl⟩
  · exact ⟨b, hb, rfl⟩
  · exact ⟨c, hc, rfl⟩
  · exact ⟨d, hd, rfl⟩
  · exact ⟨e, he, rfl⟩
  · exact ⟨f, hf, rfl⟩
theorem Rd.drew {w : World} {g p : Nat} (h : Rd w g p) : Rd w.drew g p := h.drewN 1
theorem splice_len (t u : Txt) (k : Nat) (hu : u.length ≤ 4) : ((t.take k ++ u) ++ t.drop (k + 1)).length ≤ t.length + 4 := by
  simp [List.length_take, List.length_drop]; omega

set_option maxHeartbeats 2000000 in
set_option maxRecDepth 100000 in
theorem drawReadSignal_any (A : Option Addr) (n c : Nat) (w : World) (hnc : n ≤ c) (hn : n ≤ 1048576) (h : Code8 w A n) :
    Calls Tryd.prog 25 #[.slice A n c] w (RetTx w 709) := by
  have hL : ∀ j, j < 6 → ∃ u : Txt, u.length ≤ 4 ∧ (#[.string { data := #[] }, .string { data := #[48] }, .string { data := #[59] }, .string { data := #[44] }, .string { data := #[45] }, .string { data := #[49] }] : Array Value)[j]? = some (.string (bs u)) := fun j hj =>
    lit6_get [] [48] [59] [44] [45] [49] (by simp) (by simp) (by simp) (by simp) (by simp) (by simp) j hj
  have HLIT := Lib.hid hL
  clear hL
  go_enter Tryd.func25, Tryd.ntmps25
  go_wp2_with fail
  refine (open_any A n c w hnc hn h).mono ?_
  rintro e w0 ⟨g, rfl, hg, hr0, hb0⟩
  have HB0 := Lib.hid hb0
  have HG := Lib.hid hg
  clear h hb0 hg
  go_wp2_with fail
  refine (points_any g 0 w0 (by omega) hr0).mono ?_
  rintro e w1 ⟨v, rfl, v1, v2, hr1, hp1⟩
  obtain ⟨q, rfl⟩ := Int.eq_ofNat_of_zero_le v1
  go_wp2_with fail
  refine (signal_any g 1 q 0 w1 (by omega) (by omega) (by omega) hr1).mono ?_
  rintro e w2 ⟨A2, m, c2, xs, rfl, ho, hl, hd, _, hr2, hp2⟩
  have hx2 := ho.sl
  have hm : m ≤ 17 := by have := ho.len; rw [List.length_map] at this; omega
  clear ho hd hl
  go_wp2_with fail
  refine (sSignalText A2 m c2 xs w2 (by omega) hx2).mono ?_
  rintro e w3 ⟨rfl, hb3⟩
  have ht := sigT_len xs
  generalize (sigT xs).getD [] = t at *
  generalize (sigT xs).isSome = okk at *
  have hr3 : Rd w3 g 200 := (hr2.below hb3).mono (by omega)
  have HP3 : Hid (Pk g w0 w3) := (hp1.trans hp2).trans (Pk.of_below hb3)
  clear hr0 hr1 hr2 hp1 hp2 hb3 hx2
  have hsz : (bs t).size = t.length := bs_size t
  go_wp2_with fail
  refine (pick_any g 200 3 w3 (by omega) (by omega) hr3).mono ?_
  rintro e w4 ⟨a, rfl, ⟨a1, a2, _⟩, hr4, hp4⟩
  have a3 := a2 (by omega)
  have HP4 : Hid (Pk g w0 w4) := HP3.out.trans hp4
  have FIN : Hid (∀ (u : Txt) w', u.length ≤ 709 → Pk g w4 w' → RetTx w 709 (.returned (.string (bs u))) w') := fun u w' h1 h2 => ⟨u, rfl, h1, HB0.out.trans ((HP4.out.trans h2).below HG.out HB0.out.size)⟩
  clear a2 hp4 hr3
  by_cases ha : a = 0
  · subst ha
    by_cases ht0 : t.length = 0
    · have ht1 : t = [] := List.length_eq_zero_iff.1 ht0
      subst ht1
      go_wp2_with fail
      go_ret
      exact FIN.out [] _ (by simp) (Pk.refl _ _)
    · have hl0 : 0 < t.length := by omega
      have hx := bs_extract t
      go_wp2_with fail
      refine (pick_any g 201 (min (t.length : Int) 250) w4 (by omega) (by omega) hr4).mono ?_
      rintro e w5 ⟨b, rfl, ⟨b1, b2, _⟩, hr5, hp5⟩
      have b3 := b2 (by omega)
      obtain ⟨k, rfl⟩ := Int.eq_ofNat_of_zero_le b1
      have hk : k < t.length := by omega
      have HP5 : Hid (Pk g w4 w5) := hp5
      have hlt := hr5.lt
      clear hp5 b1 b2 b3 hr4
      have K : Hid (∀ w', Rd w' g 202 → Calls Tryd.prog 64 #[.pointer (some ⟨g, 0, none⟩), .int .i64 6] w' (RetP w' g 202 6)) := fun w' h => pick_any g 202 6 w' (by omega) (by omega) h
      have HR5 : Hid (Rd w5 g 202) := hr5
      clear hr5
      have i1 : (k : Int) < (t.length : Int) := by omega
      have i2 : IntKind.i64.wrap ((k : Int) + 1) = (k : Int) + 1 := IntWalk.i64_in _ (by omega)
      have i3 : (k : Int) + 1 ≤ (t.length : Int) := by omega
      have i4 : (0 : Int) ≤ (k : Int) + 1 := by omega
      have i5 : ((k : Int) + 1).toNat = k + 1 := by omega
      have i6 : k ≤ t.length := by omega
      have zA : (bs (List.take k t)).size ≤ 705 := by rw [bs_size, List.length_take]; omega
      have zB : (bs (List.take (t.length - (k + 1)) (List.drop (k + 1) t))).size ≤ 705 := by rw [bs_size, List.length_take, List.length_drop]; omega
      have ZU : Hid (∀ u : Txt, u.length ≤ 4 → ¬ 9223372036854775807 < (bs (List.take k t)).size + (bs u).size ∧ ¬ 9223372036854775807 < (bs (List.take k t)).size + (bs u).size + (bs (List.take (t.length - (k + 1)) (List.drop (k + 1) t))).size) := fun u hu => by
        rw [bs_size, bs_size, bs_size, List.length_take, List.length_take, List.length_drop]; omega
      have HTL : Hid (t.length ≤ 705) := ht
      have hg5 : g < w5.heap.size := hlt
      go_wp2_with fail
      go_region_law ((go_simp; go_at_call 64; (with_reducible refine Calls.mono (K.out _ (by first | exact Rd.drew (HR5.out.below (below_alloc _ _)) | exact Rd.drew HR5.out)) ?_); rintro e w6 ⟨d, rfl, ⟨d1, d2, _⟩, hr6, hp6⟩; obtain ⟨d, rfl⟩ := Int.eq_ofNat_of_zero_le d1; (have d3 : d < 6 := (by have := d2 (by omega); omega)); obtain ⟨u, hu, hcu⟩ := HLIT.out d d3; obtain ⟨zU, zAU⟩ := ZU.out u hu; (have d4 : (d : Int) < 6 := (by omega)); first | (have cc := lit_cell _ _ (Pk.of_drewN (m := 1) hp6) hg5 hcu; have HP6 : Hid (Pk g w5 w6) := (Pk.of_below (below_alloc _ _)).trans (Pk.of_drewN (m := 1) hp6); clear hp6 hcu) | (have cc : (w6.alloc (.cells (#[.string { data := #[] }, .string { data := #[48] }, .string { data := #[59] }, .string { data := #[44] }, .string { data := #[45] }, .string { data := #[49] }] : Array Value) 9)).cell? ⟨w6.heap.size, d, none⟩ = some (.string (bs u)) := (World.cell?_alloc_at _ _ _ _ rfl).trans hcu; clear hcu; have HP6 : Hid (Pk g w5 w6) := Pk.of_drewN (m := 1) hp6; clear hp6)))
      all_goals
        go_wp2_with fail
        go_ret
        have HFL : (List.take k t ++ u ++ List.take (t.length - (k + 1)) (List.drop (k + 1) t)).length ≤ 709 := by
          have := HTL.out
          rw [List.length_append, List.length_append, List.length_take, List.length_take, List.length_drop]; omega
        have HFE : bs (List.take k t) ++ bs u ++ bs (List.take (t.length - (k + 1)) (List.drop (k + 1) t)) = bs (List.take k t ++ u ++ List.take (t.length - (k + 1)) (List.drop (k + 1) t)) := by rw [bs_append, bs_append]
        rw [HFE]
        first
          | exact FIN.out _ _ HFL (HP5.out.trans HP6.out)
          | exact FIN.out _ _ HFL (HP5.out.trans (HP6.out.trans (Pk.of_below (below_alloc _ _))))
  · have ha0 : (a == 0) = false := by rw [beq_eq_false_iff_ne]; exact ha
    go_wp2_with fail
    go_ret
    exact FIN.out t _ (by omega) (Pk.refl _ _)
end Go.Proofs.YtemcdeopehdggaaDoor
