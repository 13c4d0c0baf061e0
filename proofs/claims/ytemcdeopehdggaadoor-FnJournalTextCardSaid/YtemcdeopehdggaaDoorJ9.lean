/- The draws of deeds and of their texts. -/
import Derived.Test.YtemcdeopehdggaaDoorD12
import Derived.Test.YtemcdeopehdggaaDoorJ5
namespace Go.Proofs.YtemcdeopehdggaaDoor
open Go.RowKit
open Go.Lib hiding intOf

theorem Code8.below {w w' : World} {A : Option Addr} {n : Nat} (h : Code8 w A n) (hb : Below w.heap.size w w') : Code8 w' A n := by
  rcases h with h | ⟨b, o, h1, h2, h3⟩
  · exact .inl h
  · refine .inr ⟨b, o, h1, Nat.lt_of_lt_of_le h2 hb.size, fun k hk => ?_⟩
    obtain ⟨u, h4, h5⟩ := h3 k hk
    exact ⟨u, h4, (hb.cell (p := ⟨b, o + k, none⟩) h2).trans h5⟩
/-- A deed that is drawn. -/
def RetDT (w : World) (e : Ending) (w' : World) : Prop := ∃ a : Dd, e = .returned (dv a) ∧ a.text.length ≤ 706 ∧ -1000 ≤ a.num ∧ a.num ≤ 1000 ∧ Below w.heap.size w w'
set_option maxHeartbeats 1000000 in
theorem drawDeedText_any (A : Option Addr) (n c : Nat) (w : World) (hnc : n ≤ c) (hn : n ≤ 1048576) (h : Code8 w A n) :
    Calls Tryd.prog 34 #[.slice A n c] w (RetDT w) := by
  have HC := Lib.hid h
  clear h
  go_enter Tryd.func34, Tryd.ntmps34
  go_wp2_with fail
  refine (open_any A n c _ hnc hn (HC.out.below (below_alloc _ _))).mono ?_
  rintro e w0 ⟨g, rfl, hg, hr0, hb0⟩
  have hD := DAt.box hb0
  have HB0 := Lib.hid (below_box _ _ hb0)
  have HG : Hid (w.heap.size < g) := by show _ < _; simp at hg; omega
  have HD := Lib.hid hD
  clear hb0 hg hD
  go_wp2_with fail
  refine (deed_any g 0 w0 (by omega) hr0).mono ?_
  rintro e w1 ⟨a, rfl, ht, hn1, hn2, hr1, hp1⟩
  obtain ⟨r0, r1, r2, s0, s1, s2, hrl⟩ := HD.out.pk hp1 (by have := HG.out; omega)
  have HB1 : Hid (Below w.heap.size w w1) := HB0.out.trans (hp1.below (by have := HG.out; omega) HB0.out.size)
  clear hp1
  unfold dv
  go_wp2_with fail
  refine bodyPost_ret (v := dv a) (by simp [results, Tryd.results34, go_sem, r0, r1, r2, dv]) rfl ?_
  exact ⟨a, rfl, ht, hn1, hn2, below_set3 HB1.out (Nat.le_refl _) _ _ _⟩
/-- What becomes of a text that is spoilt. -/
def spoilX (j : Nat) : Txt := ([[], [48], [32], [10], [45], [98, 97, 99, 107]] : List Txt).getD j []
theorem spoilX_len (j : Nat) : (spoilX j).length ≤ 4 := by
  unfold spoilX
  rcases j with _ | _ | _ | _ | _ | _ | j
  all_goals first | decide | simp
def SpoilV (t u : Txt) : Prop := (t = [] ∧ u = [10]) ∨ ∃ k j, k < t.length ∧ j < 6 ∧ u = t.take k ++ spoilX j ++ t.drop (k + 1)
theorem SpoilV.len {t u : Txt} (h : SpoilV t u) : u.length ≤ t.length + 4 := by
  rcases h with ⟨rfl, rfl⟩ | ⟨k, j, hk, _, rfl⟩
  · simp
  · have := spoilX_len j
    rw [List.length_append, List.length_append, List.length_take, List.length_drop]; omega
def RetSp (t : Txt) (w : World) (g p : Nat) (e : Ending) (w' : World) : Prop := ∃ u : Txt, e = .returned (.string (bs u)) ∧ SpoilV t u ∧ Rd w' g p ∧ Pk g w w'
theorem spoil_lit (j : Nat) (h : j < 6) : (#[.string { data := #[] }, .string { data := #[48] }, .string { data := #[32] }, .string { data := #[10] }, .string { data := #[45] }, .string { data := #[98, 97, 99, 107] }] : Array Value)[j]? = some (.string (bs (spoilX j))) := by
  have : j = 0 ∨ j = 1 ∨ j = 2 ∨ j = 3 ∨ j = 4 ∨ j = 5 := by omega
  rcases this with rfl | rfl | rfl | rfl | rfl | rfl <;> rfl

set_option maxHeartbeats 2000000 in
set_option maxRecDepth 100000 in
theorem spoil_any (g p : Nat) (t : Txt) (w5 : World) (hp : p ≤ 600000) (ht : t.length ≤ 100000) (hr : Rd w5 g p) :
    Calls Tryd.prog 75 #[.pointer (some ⟨g, 0, none⟩), .string (bs t)] w5 (RetSp t w5 g (p + 2)) := by
  have hsz : (bs t).size = t.length := bs_size t
  have hx := bs_extract t
  by_cases ht0 : t.length = 0
  · have ht1 : t = [] := List.length_eq_zero_iff.1 ht0
    subst ht1
    go_enter Tryd.func75, Tryd.ntmps75
    go_wp2_with fail
    go_ret
    exact ⟨[10], rfl, .inl ⟨rfl, rfl⟩, hr.mono (by omega), Pk.refl _ _⟩
  · have hl0 : 0 < t.length := by omega
    have e0 : ((t.length : Int) == 0) = false := by rw [beq_eq_false_iff_ne]; omega
    go_enter Tryd.func75, Tryd.ntmps75
    go_wp2_with fail
    refine (pick_any g p (min (t.length : Int) 250) w5 (by omega) (by omega) hr).mono ?_
    rintro e w6 ⟨b, rfl, ⟨b1, b2, _⟩, hr6, hp6⟩
    have b3 := b2 (by omega)
    obtain ⟨k, rfl⟩ := Int.eq_ofNat_of_zero_le b1
    have hk : k < t.length := by omega
    have HP6 : Hid (Pk g w5 w6) := hp6
    have hg6 := hr6.lt
    have HR6 : Hid (Rd w6 g (p + 1)) := hr6
    clear hp6 b1 b2 b3 hr hr6
    have K : Hid (∀ w', Rd w' g (p + 1) → Calls Tryd.prog 64 #[.pointer (some ⟨g, 0, none⟩), .int .i64 6] w' (RetP w' g (p + 1) 6)) := fun w' h => pick_any g (p + 1) 6 w' (by omega) (by omega) h
    have i1 : (k : Int) < (t.length : Int) := by omega
    have i2 : IntKind.i64.wrap ((k : Int) + 1) = (k : Int) + 1 := IntWalk.i64_in _ (by omega)
    have i3 : (k : Int) + 1 ≤ (t.length : Int) := by omega
    have i4 : (0 : Int) ≤ (k : Int) + 1 := by omega
    have i5 : ((k : Int) + 1).toNat = k + 1 := by omega
    have i6 : k ≤ t.length := by omega
    have zA : (bs (List.take k t)).size ≤ 100000 := by rw [bs_size, List.length_take]; omega
    have zB : (bs (List.take (t.length - (k + 1)) (List.drop (k + 1) t))).size ≤ 100000 := by rw [bs_size, List.length_take, List.length_drop]; omega
    have ZU : Hid (∀ u : Txt, u.length ≤ 4 → ¬ 9223372036854775807 < (bs (List.take k t)).size + (bs u).size ∧ ¬ 9223372036854775807 < (bs (List.take k t)).size + (bs u).size + (bs (List.take (t.length - (k + 1)) (List.drop (k + 1) t))).size) := fun u hu => by
      rw [bs_size, bs_size, bs_size, List.length_take, List.length_take, List.length_drop]; omega
    have HTL : Hid (t.length ≤ 100000) := ht
    have HK := Lib.hid hk
    have hdt : List.take (t.length - (k + 1)) (List.drop (k + 1) t) = List.drop (k + 1) t := List.take_of_length_le (by rw [List.length_drop]; omega)
    have HDT := Lib.hid hdt
    clear hdt
    go_wp2_with fail
    go_region_law ((go_simp; go_at_call 64; (with_reducible refine Calls.mono (K.out _ (by first | exact Rd.drew (HR6.out.below (below_alloc _ _)) | exact Rd.drew HR6.out)) ?_); rintro e w7 ⟨d, rfl, ⟨d1, d2, _⟩, hr7, hp7⟩; obtain ⟨d, rfl⟩ := Int.eq_ofNat_of_zero_le d1; (have d3 : d < 6 := (by have := d2 (by omega); omega)); (have hcu := spoil_lit d d3); obtain ⟨zU, zAU⟩ := ZU.out (spoilX d) (spoilX_len d); have HD3 := Lib.hid d3; have HR7 := Lib.hid hr7; (have d4 : (d : Int) < 6 := (by omega)); first | (have cc := lit_cell _ _ (Pk.of_drewN (m := 1) hp7) hg6 hcu; have HP7 : Hid (Pk g w6 w7) := (Pk.of_below (below_alloc _ _)).trans (Pk.of_drewN (m := 1) hp7); clear hp7 hcu) | (have cc : (w7.alloc (.cells (#[.string { data := #[] }, .string { data := #[48] }, .string { data := #[32] }, .string { data := #[10] }, .string { data := #[45] }, .string { data := #[98, 97, 99, 107] }] : Array Value) 9)).cell? ⟨w7.heap.size, d, none⟩ = some (.string (bs (spoilX d))) := (World.cell?_alloc_at _ _ _ _ rfl).trans hcu; clear hcu; have HP7 : Hid (Pk g w6 w7) := Pk.of_drewN (m := 1) hp7; clear hp7)))
    all_goals
      go_wp2_with fail
      go_ret
      have HFE : bs (List.take k t) ++ bs (spoilX d) ++ bs (List.take (t.length - (k + 1)) (List.drop (k + 1) t)) = bs (List.take k t ++ spoilX d ++ List.drop (k + 1) t) := by rw [bs_append, bs_append, HDT.out]
      rw [HFE]
      first
        | exact ⟨_, rfl, .inr ⟨k, d, HK.out, HD3.out, rfl⟩, HR7.out, HP6.out.trans HP7.out⟩
        | exact ⟨_, rfl, .inr ⟨k, d, HK.out, HD3.out, rfl⟩, HR7.out.below (below_alloc _ _), HP6.out.trans (HP7.out.trans (Pk.of_below (below_alloc _ _)))⟩
theorem dText_len (a : Dd) (h : a.text.length ≤ 706) : (dText a).length ≤ 712 := by
  by_cases h0 : dText a = []
  · rw [h0]; simp
  · rcases dText_cases h0 with ⟨_, _, _, e⟩ | ⟨h1, _, h3, h4, e⟩ | ⟨h1, _, _, e⟩
    · rw [e, List.length_append, List.length_cons]
      have : (wordOf 0).length = 5 := rfl
      omega
    · rw [e, List.length_append, List.length_cons]
      have := wordOf_len a.kind
      have := itoa_small a.num (by omega) (by omega)
      omega
    · rw [e]
      have := wordOf_len a.kind
      omega
set_option maxHeartbeats 1000000 in
theorem drawReadDeed_any (A : Option Addr) (n c : Nat) (w : World) (hnc : n ≤ c) (hn : n ≤ 1048576) (h : Code8 w A n) :
    Calls Tryd.prog 35 #[.slice A n c] w (RetTx w 716) := by
  go_enter Tryd.func35, Tryd.ntmps35
  go_wp2_with fail
  refine (open_any A n c w hnc hn h).mono ?_
  rintro e w0 ⟨g, rfl, hg, hr0, hb0⟩
  have HB0 := Lib.hid hb0
  have HG := Lib.hid hg
  clear hb0 hg h
  go_wp2_with fail
  refine (deed_any g 0 w0 (by omega) hr0).mono ?_
  rintro e w1 ⟨a, rfl, ht, hn1, hn2, hr1, hp1⟩
  have HS := Lib.hid (fun w => sDeedText a (by omega) w)
  have hdl := dText_len a ht
  have HP1 := Lib.hid hp1
  unfold dv at HS ⊢
  clear hp1 hr0
  go_wp2_with fail
  refine (HS.out w1).mono ?_
  rintro e w2 ⟨rfl, hb2⟩
  have hr2 : Rd w2 g 70 := hr1.below hb2
  have HP2 : Hid (Pk g w0 w2) := HP1.out.trans (Pk.of_below hb2)
  generalize dText a = t at *
  clear hb2 hr1
  go_wp2_with fail
  refine (pick_any g 70 3 w2 (by omega) (by omega) hr2).mono ?_
  rintro e w3 ⟨v, rfl, ⟨v1, v2, _⟩, hr3, hp3⟩
  have HP3 : Hid (Pk g w0 w3) := HP2.out.trans hp3
  clear hp3 hr2
  by_cases hv : v = 0
  · subst hv
    go_wp2_with fail
    refine (spoil_any g 71 t w3 (by omega) (by omega) hr3).mono ?_
    rintro e w4 ⟨u, rfl, hu, _, hp4⟩
    have hul := hu.len
    go_wp2_with fail
    go_ret
    exact ⟨u, rfl, by omega, HB0.out.trans ((HP3.out.trans hp4).below HG.out HB0.out.size)⟩
  · have hv0 : (v == 0) = false := by rw [beq_eq_false_iff_ne]; exact hv
    go_wp2_with fail
    go_ret
    exact ⟨t, rfl, by omega, HB0.out.trans (HP3.out.below HG.out HB0.out.size)⟩
end Go.Proofs.YtemcdeopehdggaaDoor
