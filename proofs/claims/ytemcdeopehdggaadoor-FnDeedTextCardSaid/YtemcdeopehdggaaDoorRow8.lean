/- How a code reads. -/
import Derived.Test.YtemcdeopehdggaaDoorRow
import Derived.Test.YtemcdeopehdggaaDoorD6
namespace Go.Proofs.YtemcdeopehdggaaDoor
open Go.RowKit

theorem code_of_cells {w : World} {a : Option Addr} {len cap : Nat} {zs : List Int}
    (h : (a = none ∧ len = 0 ∧ cap = 0 ∧ zs = []) ∨
      ∃ x, a = some x ∧ len ≤ cap ∧ cap ≤ maxLen ∧ zs.length = cap ∧ (∀ i, i < zs.length → w.cell? (x.add i) = some (.int .u8 (zs.getD i 0))) ∧ ∀ n ∈ zs, (Lit.int .u8 n).wf = true) :
    Code8 w a len ∧ len ≤ cap := by
  rcases h with ⟨rfl, rfl, rfl, rfl⟩ | ⟨x, rfl, hl, hm, hz, hc, hw⟩
  · exact ⟨.inl rfl, Nat.le_refl _⟩
  · refine ⟨?_, hl⟩
    rcases Nat.eq_zero_or_pos len with h0 | h0
    · exact .inl h0
    · right
      have h1 := hc 0 (by omega)
      have e0 : x.add 0 = x := rfl
      rw [e0] at h1
      obtain ⟨e, hb⟩ := cell_spot h1
      refine ⟨x.block, x.off, by rw [← e], hb, fun i hi => ?_⟩
      have h2 := hc i (by omega)
      rw [e, add_none] at h2
      have h3 : i < zs.length := by omega
      rw [List.getD_eq_getElem?_getD, List.getElem?_eq_getElem h3] at h2
      have h4 := hw _ (List.getElem_mem h3)
      simp only [Option.getD_some] at h2
      have h5 : 0 ≤ zs[i] ∧ zs[i] < 256 := by
        simp [Lit.wf, IntKind.min, IntKind.max, IntKind.signed, IntKind.bits] at h4
        omega
      exact ⟨zs[i].toNat, by omega, by rw [h2]; congr 2; omega⟩
end Go.Proofs.YtemcdeopehdggaaDoor
