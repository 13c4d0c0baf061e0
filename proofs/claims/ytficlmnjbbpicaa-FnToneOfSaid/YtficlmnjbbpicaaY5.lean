/- How an argument that is a slice of whole numbers, or of bytes, reads as a list. -/
import Derived.Test.YtficlmnjbbpicaaBase
import Derived.Test.YtficlmnjbbpicaaD6
import Derived.Test.YtficlmnjbbpicaaY4
import Derived.Test.YtficlmnjbbpicaaX8
import Derived.Test.YtficlmnjbbpicaaX7
import Derived.Test.YtficlmnjbbpicaaX6
import Derived.Test.YtficlmnjbbpicaaX5
import Derived.Test.YtficlmnjbbpicaaY2
namespace Go.Proofs.Ytficlmnjbbpicaa
open Go.RowKit

theorem cell_spot {w : World} {x : Addr} {v : Value} (h : w.cell? x = some v) : x = ⟨x.block, x.off, none⟩ ∧ x.block < w.heap.size := by
  refine ⟨?_, World.block_lt_of_cell? w x h⟩
  obtain ⟨b, o, s⟩ := x
  cases s with
  | none => rfl
  | some s =>
    unfold World.cell? at h
    split at h
    · simp at h
    · cases h
theorem add_none (b o i : Nat) : (⟨b, o, none⟩ : Addr).add i = ⟨b, o + i, none⟩ := by
  unfold Addr.add
  split
  · rename_i h; subst h; rfl
  · rfl
/-- A row of cells, as the shell of a proof has it, reads as a list. -/
theorem sl_of_cells {k : IntKind} {w : World} {a : Option Addr} {len cap : Nat} {zs : List Int}
    (h : (a = none ∧ len = 0 ∧ cap = 0 ∧ zs = []) ∨
      ∃ x, a = some x ∧ len ≤ cap ∧ cap ≤ maxLen ∧ zs.length = cap ∧ (∀ i, i < zs.length → w.cell? (x.add i) = some (.int k (zs.getD i 0))) ∧ ∀ n ∈ zs, (Lit.int k n).wf = true) :
    Sl w a len ((zs.take len).map (Value.int k)) ∧ len ≤ 9223372036854775807 := by
  rcases h with ⟨rfl, rfl, rfl, rfl⟩ | ⟨x, rfl, hl, hm, hz, hc, _⟩
  · exact ⟨Sl.nil_ _ _, by omega⟩
  · refine ⟨⟨by simp; omega, ?_⟩, by unfold maxLen at hm; omega⟩
    rcases Nat.eq_zero_or_pos len with h0 | h0
    · exact .inl h0
    · right
      have h1 := hc 0 (by omega)
      have e0 : x.add 0 = x := rfl
      rw [e0] at h1
      obtain ⟨e, hb⟩ := cell_spot h1
      refine ⟨x.block, x.off, by rw [← e], hb, fun i v hv => ?_⟩
      have hi : i < len := by
        have := (List.getElem?_eq_some_iff.1 hv).1
        simp at this
        omega
      have h2 := hc i (by omega)
      rw [e, add_none] at h2
      rw [h2]
      rw [List.getElem?_map, List.getElem?_take, if_pos hi, List.getElem?_eq_getElem (by omega)] at hv
      rw [List.getD_eq_getElem?_getD, List.getElem?_eq_getElem (by omega)]
      exact hv
end Go.Proofs.Ytficlmnjbbpicaa

namespace Go.Proofs.Ytficlmnjbbpicaa
open Go.RowKit

theorem code_of_cells {w : World} {a : Option Addr} {len cap : Nat} {zs : List Int}
    (h : (a = none ∧ len = 0 ∧ cap = 0 ∧ zs = []) ∨
      ∃ x, a = some x ∧ len ≤ cap ∧ cap ≤ maxLen ∧ zs.length = cap ∧ (∀ i, i < zs.length → w.cell? (x.add i) = some (.int .u8 (zs.getD i 0))) ∧ ∀ n ∈ zs, (Lit.int .u8 n).wf = true) :
    Code8 w a len ∧ len ≤ cap := by
  rcases h with ⟨rfl, rfl, rfl, rfl⟩ | ⟨x, rfl, hl, hm, hz, hc, hw⟩
  · exact ⟨.inl rfl, Nat.le_refl _⟩
  · refine ⟨?_, hl⟩
    rcases Nat.eq_zero_or_pos len with h0 | h0
    · exact .inl h0
    · right
      have h1 := hc 0 (by omega)
      have e0 : x.add 0 = x := rfl
      rw [e0] at h1
      obtain ⟨e, hb⟩ := cell_spot h1
      refine ⟨x.block, x.off, by rw [← e], hb, fun i hi => ?_⟩
      have h2 := hc i (by omega)
      rw [e, add_none] at h2
      have h3 : i < zs.length := by omega
      rw [List.getD_eq_getElem?_getD, List.getElem?_eq_getElem h3] at h2
      have h4 := hw _ (List.getElem_mem h3)
      simp only [Option.getD_some] at h2
      have h5 : 0 ≤ zs[i] ∧ zs[i] < 256 := by
        simp [Lit.wf, IntKind.min, IntKind.max, IntKind.signed, IntKind.bits] at h4
        omega
      exact ⟨zs[i].toNat, by omega, by rw [h2]; congr 2; omega⟩
end Go.Proofs.Ytficlmnjbbpicaa

namespace Go.Proofs.Ytficlmnjbbpicaa
open Go.RowKit

theorem layOk_1 : (List.range 1).all (fun k => (List.range 1).all (layOk 1 k)) = true := by decide +kernel
theorem layOk_2 : (List.range 2).all (fun k => (List.range 2).all (layOk 2 k)) = true := by decide +kernel
theorem layOk_4 : (List.range 4).all (fun k => (List.range 4).all (layOk 4 k)) = true := by decide +kernel
theorem layOk_all {n k j : Nat} (hn : p2B n = true) (h4 : n ≤ 4) (hk : k < n) (hj : j < n) : layOk n k j = true := by
  have f : ∀ {m : Nat}, (List.range m).all (fun k => (List.range m).all (layOk m k)) = true → k < m → j < m → layOk m k j = true := fun h h1 h2 =>
    List.all_eq_true.1 (List.all_eq_true.1 h k (List.mem_range.2 h1)) j (List.mem_range.2 h2)
  rcases p2B_iff.1 hn with rfl | rfl | rfl | rfl | rfl
  · exact f layOk_1 hk hj
  · exact f layOk_2 hk hj
  · exact f layOk_4 hk hj
  · omega
  · omega
end Go.Proofs.Ytficlmnjbbpicaa

namespace Go.Proofs.Ytficlmnjbbpicaa
open Go.RowKit

theorem tonOk_16 : ∀ k, k < 16 → tonOk 16 k = true
  | 0, _ => tonOk_16_0
  | 1, _ => tonOk_16_1
  | 2, _ => tonOk_16_2
  | 3, _ => tonOk_16_3
  | 4, _ => tonOk_16_4
  | 5, _ => tonOk_16_5
  | 6, _ => tonOk_16_6
  | 7, _ => tonOk_16_7
  | 8, _ => tonOk_16_8
  | 9, _ => tonOk_16_9
  | 10, _ => tonOk_16_10
  | 11, _ => tonOk_16_11
  | 12, _ => tonOk_16_12
  | 13, _ => tonOk_16_13
  | 14, _ => tonOk_16_14
  | 15, _ => tonOk_16_15
  | _ + 16, h => absurd h (by omega)
theorem lawToneOf (A : Option Addr) (n c : Nat) (w : World) (hnc : n ≤ c) (h : Code8 w A n) :
    Calls Try.prog 6 #[.slice A n c] w fun e w' => e = .returned (.bool true) ∧ Below w.heap.size w w' := lawToneOf0 tonOk_16 layOk_all A n c w hnc h
end Go.Proofs.Ytficlmnjbbpicaa
