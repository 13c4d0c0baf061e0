/- Texts on the way to a law (Row8), each with its own remark. -/
import Derived.Test.YtnomlkkhkacajaaGreatDoorPB03
import Derived.Test.YtnomlkkhkacajaaGreatDoorPB27
namespace Go.Proofs.YtnomlkkhkacajaaGreatDoor
open Go.RowKit

theorem cell_spot {w : World} {x : Addr} {v : Value} (h : w.cell? x = some v) : x = ⟨x.block, x.off, none⟩ ∧ x.block < w.heap.size := by
  refine ⟨?_, World.block_lt_of_cell? w x h⟩
  obtain ⟨b, o, s⟩ := x
  cases s with
  | none => rfl
  | some s =>
    unfold World.cell? at h
    split at h
    · simp at h
    · cases h
theorem add_none (b o i : Nat) : (⟨b, o, none⟩ : Addr).add i = ⟨b, o + i, none⟩ := by
  unfold Addr.add
  split
  · rename_i h; subst h; rfl
  · rfl
/-- A row of cells, as the shell of a proof has it, reads as a list. -/
theorem sl_of_cells {k : IntKind} {w : World} {a : Option Addr} {len cap : Nat} {zs : List Int}
    (h : (a = none ∧ len = 0 ∧ cap = 0 ∧ zs = []) ∨
      ∃ x, a = some x ∧ len ≤ cap ∧ cap ≤ maxLen ∧ zs.length = cap ∧ (∀ i, i < zs.length → w.cell? (x.add i) = some (.int k (zs.getD i 0))) ∧ ∀ n ∈ zs, (Lit.int k n).wf = true) :
    Sl w a len ((zs.take len).map (Value.int k)) ∧ len ≤ 9223372036854775807 := by
  rcases h with ⟨rfl, rfl, rfl, rfl⟩ | ⟨x, rfl, hl, hm, hz, hc, _⟩
  · exact ⟨Sl.nil_ _ _, by omega⟩
  · refine ⟨⟨by simp; omega, ?_⟩, by unfold maxLen at hm; omega⟩
    rcases Nat.eq_zero_or_pos len with h0 | h0
    · exact .inl h0
    · right
      have h1 := hc 0 (by omega)
      have e0 : x.add 0 = x := rfl
      rw [e0] at h1
      obtain ⟨e, hb⟩ := cell_spot h1
      refine ⟨x.block, x.off, by rw [← e], hb, fun i v hv => ?_⟩
      have hi : i < len := by
        have := (List.getElem?_eq_some_iff.1 hv).1
        simp at this
        omega
      have h2 := hc i (by omega)
      rw [e, add_none] at h2
      rw [h2]
      rw [List.getElem?_map, List.getElem?_take, if_pos hi, List.getElem?_eq_getElem (by omega)] at hv
      rw [List.getD_eq_getElem?_getD, List.getElem?_eq_getElem (by omega)]
      exact hv
end Go.Proofs.YtnomlkkhkacajaaGreatDoor

namespace Go.Proofs.YtnomlkkhkacajaaGreatDoor
open Go.RowKit

theorem code_of_cells {w : World} {a : Option Addr} {len cap : Nat} {zs : List Int}
    (h : (a = none ∧ len = 0 ∧ cap = 0 ∧ zs = []) ∨
      ∃ x, a = some x ∧ len ≤ cap ∧ cap ≤ maxLen ∧ zs.length = cap ∧ (∀ i, i < zs.length → w.cell? (x.add i) = some (.int .u8 (zs.getD i 0))) ∧ ∀ n ∈ zs, (Lit.int .u8 n).wf = true) :
    Code8 w a len ∧ len ≤ cap := by
  rcases h with ⟨rfl, rfl, rfl, rfl⟩ | ⟨x, rfl, hl, hm, hz, hc, hw⟩
  · exact ⟨.inl rfl, Nat.le_refl _⟩
  · refine ⟨?_, hl⟩
    rcases Nat.eq_zero_or_pos len with h0 | h0
    · exact .inl h0
    · right
      have h1 := hc 0 (by omega)
      have e0 : x.add 0 = x := rfl
      rw [e0] at h1
      obtain ⟨e, hb⟩ := cell_spot h1
      refine ⟨x.block, x.off, by rw [← e], hb, fun i hi => ?_⟩
      have h2 := hc i (by omega)
      rw [e, add_none] at h2
      have h3 : i < zs.length := by omega
      rw [List.getD_eq_getElem?_getD, List.getElem?_eq_getElem h3] at h2
      have h4 := hw _ (List.getElem_mem h3)
      simp only [Option.getD_some] at h2
      have h5 : 0 ≤ zs[i] ∧ zs[i] < 256 := by
        simp [Lit.wf, IntKind.min, IntKind.max, IntKind.signed, IntKind.bits] at h4
        omega
      exact ⟨zs[i].toNat, by omega, by rw [h2]; congr 2; omega⟩
end Go.Proofs.YtnomlkkhkacajaaGreatDoor
