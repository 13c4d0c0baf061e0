/- Texts on the way to a law (E16, Row8), each with its own remark. -/
import Derived.Test.YtnomlkkhkacajaaPA44
import Derived.Test.YtnomlkkhkacajaaPA08
import Derived.Test.YtnomlkkhkacajaaPA03
import Derived.Test.YtnomlkkhkacajaaPA37
namespace Go.Proofs.Ytnomlkkhkacajaa
open Go.RowKit
open Go.Lib hiding intOf

theorem code8_below {w w' : World} {A : Option Addr} {n : Nat} (h : Code8 w A n) (hb : Below w.heap.size w w') : Code8 w' A n := by
  rcases h with h | ⟨b, o, h1, h2, h3⟩
  · exact .inl h
  · refine .inr ⟨b, o, h1, Nat.lt_of_lt_of_le h2 hb.size, fun k hk => ?_⟩
    obtain ⟨u, h4, h5⟩ := h3 k hk
    exact ⟨u, h4, (hb.cell (p := ⟨b, o + k, none⟩) h2).trans h5⟩
/-- A desk that is drawn out of bytes. -/
def RetDW (w : World) (e : Ending) (w' : World) : Prop :=
  ∃ A n c A' m c' d, e = .returned (.agg #[.slice A n c, .slice A' m c']) ∧ DkV w' w.heap.size A n c A' m d ∧ DkS d ∧ (dkB d = true → DkL d 39) ∧ Below w.heap.size w w'
set_option maxHeartbeats 2000000 in
theorem drawDeskOk_any (A : Option Addr) (n c : Nat) (w : World) (hnc : n ≤ c) (hn : n ≤ 1048576) (h : Code8 w A n) :
    Calls Try.prog 4 #[.slice A n c] w (RetDW w) := by
  have HC := Lib.hid h
  clear h
  obtain ⟨w0, hw0⟩ : ∃ w0, w0 = w.alloc (.cells #[.slice none 0 0, .slice none 0 0] 26) := ⟨_, rfl⟩
  have hs0 : w0.heap.size = w.heap.size + 1 := by rw [hw0, size_alloc]
  have HB0 : Hid (Below w.heap.size w w0) := by rw [hw0]; exact below_alloc _ _
  have HK0 : Hid (KAt w0 w.heap.size (.slice none 0 0) (.slice none 0 0)) := by rw [hw0]; exact KAt.new w _ _ _
  go_enter Try.func4, Try.ntmps4
  go_wp2_with fail
  rw [← hw0]
  clear hw0
  refine (open_any A n c _ hnc hn (code8_below HC.out HB0.out)).mono ?_
  rintro e w1 ⟨g, rfl, hg, hr1, hb1⟩
  have HB1 : Hid (Below w0.heap.size w0 w1) := hb1
  have HK1 := Lib.hid (HK0.out.below hb1 (by omega))
  have hs1 : w0.heap.size ≤ w1.heap.size := hb1.size
  clear hb1
  go_wp2_with fail
  refine (desk_any g 0 2 w1 (by omega) (by omega) hr1).mono ?_
  rintro e w2 ⟨A2, n2, c2, A3, m2, c3, d, rfl, hdk, hds, hdl, hr2, hp2⟩
  have hgn : w.heap.size ≠ g := by omega
  have HK2 := Lib.hid (HK1.out.pk hp2 hgn)
  have HDK := Lib.hid hdk
  have HB2 : Hid (Below w.heap.size w w2) := HB0.out.trans ((HB1.out.mono (by omega)).trans (hp2.below (by omega) (by omega)))
  obtain ⟨r0, r1, s0, s1, rl⟩ := HK2.out
  clear hdk hr2 hp2 hr1
  go_wp2_with fail
  refine bodyPost_ret (v := .agg #[.slice A2 n2 c2, .slice A3 m2 c3]) (by simp [results, Try.results4, go_sem, r0, r1]) rfl ?_
  have hpk : Pk w.heap.size w2 ((w2.setCell ⟨w.heap.size, 0, none⟩ (.slice A2 n2 c2)).setCell ⟨w.heap.size, 1, none⟩ (.slice A3 m2 c3)) := ((Pk.refl _ _).setCell 0 _).setCell 1 _
  exact ⟨_, _, _, _, _, _, d, rfl, (HDK.out.pk hpk (by omega)).mono (by omega), hds, hdl, (HB2.out.setCell (p := ⟨w.heap.size, 0, none⟩) (Nat.le_refl _) _).setCell (p := ⟨w.heap.size, 1, none⟩) (Nat.le_refl _) _⟩
theorem dkB_bare {d : Dk} (h : dkB d = true) : dkB ⟨d.now, []⟩ = true := by
  obtain ⟨h1, _, _⟩ := dkB_iff.1 h
  exact dkB_iff.2 ⟨h1, Nat.zero_le _, fun x hx => by cases hx⟩

set_option maxHeartbeats 2000000 in
set_option maxRecDepth 100000 in
theorem lawDeskOk (A : Option Addr) (n c : Nat) (w : World) (hnc : n ≤ c) (h : Code8 w A n) :
    Calls Try.prog 3 #[.slice A n c] w fun e w' => e = .returned (.bool true) ∧ Below w.heap.size w w' := by
  by_cases hbig : 1048576 < n
  · go_enter Try.func3, Try.ntmps3
    go_wp2_with fail
    go_ret
    exact ⟨rfl, Below.refl _ _⟩
  have hn2 : n ≤ 1048576 := by omega
  go_enter Try.func3, Try.ntmps3
  go_wp2_with fail
  refine (drawDeskOk_any A n c w hnc hn2 h).mono ?_
  rintro e w1 ⟨A2, n2, c2, A3, m2, c3, d, rfl, hdk, hds, _, hb1⟩
  obtain ⟨w2, hw2⟩ : ∃ w2, w2 = w1.alloc (.cells #[.slice A2 n2 c2, .slice A3 m2 c3] 26) := ⟨_, rfl⟩
  have HB2 : Hid (Below w1.heap.size w1 w2) := by rw [hw2]; exact below_alloc _ _
  have HK2 : Hid (KAt w2 w1.heap.size (.slice A2 n2 c2) (.slice A3 m2 c3)) := by rw [hw2]; exact KAt.new w1 _ _ _
  have HV2 : Hid (DkV w2 0 A2 n2 c2 A3 m2 d) := (hdk.mono (Nat.zero_le _)).below HB2.out
  have HBW : Hid (Below w.heap.size w w2) := hb1.trans (HB2.out.mono hb1.size)
  have HI : Hid (∀ w, DkV w 0 A2 n2 c2 A3 m2 d → Calls Try.prog 5 #[.agg #[.slice A2 n2 c2, .slice A3 m2 c3]] w fun e w' => e = .returned (.bool (dkB d)) ∧ Below w.heap.size w w') := fun w h => iDeskOk A2 A3 n2 c2 m2 c3 d w h hds
  have HS : Hid (∀ w, DkV w 0 A2 n2 c2 A3 m2 d → Calls Try.prog 6 #[.agg #[.slice A2 n2 c2, .slice A3 m2 c3]] w fun e w' => e = .returned (.bool (dkB d)) ∧ Below w.heap.size w w') := fun w h => sDeskOk A2 A3 n2 c2 m2 c3 d w h hds
  have HZ : Hid (∀ w, Calls Try.prog 5 #[.agg #[.slice none 0 0, .slice none 0 0]] w fun e w' => e = .returned (.bool true) ∧ Below w.heap.size w w') := fun w => iDeskOk none none 0 0 0 0 dk0 w (DkV.zero w 0) DkS.zero
  have HN : Hid (dkB d = true → ∀ w, DkV w 0 A2 n2 c2 A3 m2 d → Calls Try.prog 5 #[.agg #[.slice A2 n2 c2, .slice none 0 0]] w fun e w' => e = .returned (.bool true) ∧ Below w.heap.size w w') := fun hb w h => by
    have := iDeskOk A2 none n2 c2 0 0 ⟨d.now, []⟩ w ⟨h.now, Ps.nil _ _⟩ ⟨hds.now, Nat.zero_le _, fun x hx => by cases hx⟩
    rwa [dkB_bare hb] at this
  obtain ⟨k0, k1, _, _, kl⟩ := HK2.out
  clear hdk hds hb1
  cases hb : dkB d
  · rw [hb] at HI HS
    go_wp2_with fail
    rw [← hw2]
    clear hw2
    refine (HI.out _ HV2.out).mono ?_
    rintro e w3 ⟨rfl, hb3⟩
    have HV3 := Lib.hid (HV2.out.below hb3)
    obtain ⟨k0, k1, _, _, kl⟩ := HK2.out.below hb3 HK2.out.lt
    have HB3 : Hid (Below w.heap.size w w3) := HBW.out.trans (hb3.mono HBW.out.size)
    have HK3 := Lib.hid (HK2.out.below hb3 HK2.out.lt)
    clear hb3
    go_wp2_with fail
    refine (HS.out _ HV3.out).mono ?_
    rintro e w4 ⟨rfl, hb4⟩
    obtain ⟨k0, k1, _, _, kl⟩ := HK3.out.below hb4 HK3.out.lt
    have HB4 : Hid (Below w.heap.size w w4) := HB3.out.trans (hb4.mono HB3.out.size)
    clear hb4
    go_wp2_with fail
    refine (HZ.out _).mono ?_
    rintro e w5 ⟨rfl, hb5⟩
    have HB5 : Hid (Below w.heap.size w w5) := HB4.out.trans (hb5.mono HB4.out.size)
    clear hb5
    go_wp2_with fail
    refine (alive_true _).mono ?_
    rintro e w6 ⟨rfl, rfl⟩
    go_wp2_with fail
    go_ret
    exact ⟨rfl, HB5.out⟩
  · have HNN := Lib.hid (HN.out hb)
    rw [hb] at HI HS
    clear HN
    go_wp2_with fail
    rw [← hw2]
    clear hw2
    refine (HI.out _ HV2.out).mono ?_
    rintro e w3 ⟨rfl, hb3⟩
    have HV3 := Lib.hid (HV2.out.below hb3)
    obtain ⟨k0, k1, _, _, kl⟩ := HK2.out.below hb3 HK2.out.lt
    have HB3 : Hid (Below w.heap.size w w3) := HBW.out.trans (hb3.mono HBW.out.size)
    have HK3 := Lib.hid (HK2.out.below hb3 HK2.out.lt)
    clear hb3
    go_wp2_with fail
    refine (HS.out _ HV3.out).mono ?_
    rintro e w4 ⟨rfl, hb4⟩
    have HV4 := Lib.hid (HV3.out.below hb4)
    obtain ⟨k0, k1, _, _, kl⟩ := HK3.out.below hb4 HK3.out.lt
    have HB4 : Hid (Below w.heap.size w w4) := HB3.out.trans (hb4.mono HB3.out.size)
    clear hb4
    go_wp2_with fail
    refine (HNN.out _ HV4.out).mono ?_
    rintro e w7 ⟨rfl, hb7⟩
    have HB7 : Hid (Below w.heap.size w w7) := HB4.out.trans (hb7.mono HB4.out.size)
    clear hb7
    go_wp2_with fail
    refine (HZ.out _).mono ?_
    rintro e w5 ⟨rfl, hb5⟩
    have HB5 : Hid (Below w.heap.size w w5) := HB7.out.trans (hb5.mono HB7.out.size)
    clear hb5
    go_wp2_with fail
    refine (alive_true _).mono ?_
    rintro e w6 ⟨rfl, rfl⟩
    go_wp2_with fail
    go_ret
    exact ⟨rfl, HB5.out⟩
end Go.Proofs.Ytnomlkkhkacajaa
namespace Go.Proofs.Ytnomlkkhkacajaa
open Go.RowKit

theorem cell_spot {w : World} {x : Addr} {v : Value} (h : w.cell? x = some v) : x = ⟨x.block, x.off, none⟩ ∧ x.block < w.heap.size := by
  refine ⟨?_, World.block_lt_of_cell? w x h⟩
  obtain ⟨b, o, s⟩ := x
  cases s with
  | none => rfl
  | some s =>
    unfold World.cell? at h
    split at h
    · simp at h
    · cases h
theorem add_none (b o i : Nat) : (⟨b, o, none⟩ : Addr).add i = ⟨b, o + i, none⟩ := by
  unfold Addr.add
  split
  · rename_i h; subst h; rfl
  · rfl
/-- A row of cells, as the shell of a proof has it, reads as a list. -/
theorem sl_of_cells {k : IntKind} {w : World} {a : Option Addr} {len cap : Nat} {zs : List Int}
    (h : (a = none ∧ len = 0 ∧ cap = 0 ∧ zs = []) ∨
      ∃ x, a = some x ∧ len ≤ cap ∧ cap ≤ maxLen ∧ zs.length = cap ∧ (∀ i, i < zs.length → w.cell? (x.add i) = some (.int k (zs.getD i 0))) ∧ ∀ n ∈ zs, (Lit.int k n).wf = true) :
    Sl w a len ((zs.take len).map (Value.int k)) ∧ len ≤ 9223372036854775807 := by
  rcases h with ⟨rfl, rfl, rfl, rfl⟩ | ⟨x, rfl, hl, hm, hz, hc, _⟩
  · exact ⟨Sl.nil_ _ _, by omega⟩
  · refine ⟨⟨by simp; omega, ?_⟩, by unfold maxLen at hm; omega⟩
    rcases Nat.eq_zero_or_pos len with h0 | h0
    · exact .inl h0
    · right
      have h1 := hc 0 (by omega)
      have e0 : x.add 0 = x := rfl
      rw [e0] at h1
      obtain ⟨e, hb⟩ := cell_spot h1
      refine ⟨x.block, x.off, by rw [← e], hb, fun i v hv => ?_⟩
      have hi : i < len := by
        have := (List.getElem?_eq_some_iff.1 hv).1
        simp at this
        omega
      have h2 := hc i (by omega)
      rw [e, add_none] at h2
      rw [h2]
      rw [List.getElem?_map, List.getElem?_take, if_pos hi, List.getElem?_eq_getElem (by omega)] at hv
      rw [List.getD_eq_getElem?_getD, List.getElem?_eq_getElem (by omega)]
      exact hv
end Go.Proofs.Ytnomlkkhkacajaa

namespace Go.Proofs.Ytnomlkkhkacajaa
open Go.RowKit

theorem code_of_cells {w : World} {a : Option Addr} {len cap : Nat} {zs : List Int}
    (h : (a = none ∧ len = 0 ∧ cap = 0 ∧ zs = []) ∨
      ∃ x, a = some x ∧ len ≤ cap ∧ cap ≤ maxLen ∧ zs.length = cap ∧ (∀ i, i < zs.length → w.cell? (x.add i) = some (.int .u8 (zs.getD i 0))) ∧ ∀ n ∈ zs, (Lit.int .u8 n).wf = true) :
    Code8 w a len ∧ len ≤ cap := by
  rcases h with ⟨rfl, rfl, rfl, rfl⟩ | ⟨x, rfl, hl, hm, hz, hc, hw⟩
  · exact ⟨.inl rfl, Nat.le_refl _⟩
  · refine ⟨?_, hl⟩
    rcases Nat.eq_zero_or_pos len with h0 | h0
    · exact .inl h0
    · right
      have h1 := hc 0 (by omega)
      have e0 : x.add 0 = x := rfl
      rw [e0] at h1
      obtain ⟨e, hb⟩ := cell_spot h1
      refine ⟨x.block, x.off, by rw [← e], hb, fun i hi => ?_⟩
      have h2 := hc i (by omega)
      rw [e, add_none] at h2
      have h3 : i < zs.length := by omega
      rw [List.getD_eq_getElem?_getD, List.getElem?_eq_getElem h3] at h2
      have h4 := hw _ (List.getElem_mem h3)
      simp only [Option.getD_some] at h2
      have h5 : 0 ≤ zs[i] ∧ zs[i] < 256 := by
        simp [Lit.wf, IntKind.min, IntKind.max, IntKind.signed, IntKind.bits] at h4
        omega
      exact ⟨zs[i].toNat, by omega, by rw [h2]; congr 2; omega⟩
end Go.Proofs.Ytnomlkkhkacajaa
