/- How a list of deeds reads as an argument. -/
import Derived.Test.YtemcdeopehdggaaDoorQ1
import Derived.Test.YtemcdeopehdggaaDoorJ6
import Derived.Test.YtemcdeopehdggaaDoorRow8
import Derived.Lib.SmallJoins
import Derived.Deep.Slices
import Derived.Deep.Fields
import Derived.ChangeSame
namespace Go.Proofs.YtemcdeopehdggaaDoor
open Go.RowKit Go.Joins Go.ChangeShapes Go.WideShapes Go.Deep
open Go.Lib hiding intOf

section
variable {H : Type} {enc : TypeId × Value → H} {w : World} {base : Nat} {spare : Nat → Bool} {held : Bool}
set_option maxRecDepth 100000 in
/-- Three cells that read as a deed. -/
theorem deed_cells {fuel : Nat} {cs : List Value} {x : DataW H × List MemPlace} (h : DataW.trod enc Tryd.prog w base spare held fuel 41 cs = some x) :
    ∃ a : Dd, cs = dcs a ∧ a.text.length ≤ 9223372036854775807 := by
  obtain ⟨y0, y1, y2, n, _, hl, e0, e1, e2⟩ := trod_struct3 Tryd.underlying41 h
  rw [show Tryd.prog.cellsOf 41 = 3 by kernel_rfl] at hl
  obtain ⟨c0, c1, c2, rfl⟩ : ∃ c0 c1 c2, cs = [c0, c1, c2] := by
    match cs, hl with
    | [c0, c1, c2], _ => exact ⟨c0, c1, c2, rfl⟩
  obtain ⟨k, q0, _, _⟩ := DataW.trod_int Tryd.underlying3 e0
  obtain ⟨m, q1, _, _⟩ := DataW.trod_int Tryd.underlying3 e1
  obtain ⟨s, q2, _, hs⟩ := DataW.trod_string Tryd.underlying9 e2
  have r0 : [c0] = [.int .i64 k] := q0
  have r1 : [c1] = [.int .i64 m] := q1
  have r2 : [c2] = [.string s] := q2
  simp only [List.cons.injEq, and_true] at r0 r1 r2
  subst r0; subst r1; subst r2
  refine ⟨⟨k, m, s.data.toList⟩, ?_, ?_⟩
  · unfold dcs
    rw [bs_of]
  · unfold maxLen at hs
    have := size_eq s
    show s.data.toList.length ≤ _
    omega
set_option maxRecDepth 100000 in
/-- A list of deeds that came in. -/
theorem open_deeds {a0 : Option Addr} {len cap : Nat} {d : DataW H} {p : List MemPlace} (h : DataW.Trod enc Tryd.prog w base spare held 51 (.slice a0 len cap) d p) :
    ∃ ds : List Dd, len ≤ cap ∧ len ≤ 9223372036854775807 ∧ Ds w a0 len ds ∧ ∀ a ∈ ds, a.text.length ≤ 9223372036854775807 := by
  obtain ⟨fuel, hf⟩ := h
  rcases open_slice Tryd.underlying51 hf with ⟨hcs, _⟩ | ⟨a, len', cap', m, n, D, Pl, hcs, _, hl, hm, hmm, _, hi⟩
  · simp [Value.cells] at hcs
    obtain ⟨rfl, rfl, rfl⟩ := hcs
    exact ⟨[], Nat.le_refl _, by omega, ⟨rfl, .inl rfl⟩, by simp⟩
  · simp [Value.cells] at hcs
    obtain ⟨rfl, rfl, rfl⟩ := hcs
    have hlm : len ≤ m := by rw [hmm]; split <;> omega
    rw [show Tryd.prog.cellsOf 41 = 3 by kernel_rfl] at hi
    have hex : ∀ i, i < len → ∃ x : Dd, x.text.length ≤ 9223372036854775807 ∧ w.cell? (a.add (i * 3)) = some (.int .i64 x.kind) ∧ w.cell? (a.add (i * 3 + 1)) = some (.int .i64 x.num) ∧ w.cell? (a.add (i * 3 + 2)) = some (.string (bs x.text)) := by
      intro i hil
      obtain ⟨cs', hc, ht⟩ := hi i (by omega)
      obtain ⟨x, rfl, hx⟩ := deed_cells ht
      obtain ⟨_, _, hat⟩ := World.cells?_some hc
      refine ⟨x, hx, ?_, ?_, ?_⟩
      · have := hat 0 (by omega); rw [add_add] at this; exact this
      · have := hat 1 (by omega); rw [add_add] at this; exact this
      · have := hat 2 (by omega); rw [add_add] at this; exact this
    have hch : ∃ f : Nat → Dd, ∀ i, i < len → (f i).text.length ≤ 9223372036854775807 ∧ w.cell? (a.add (i * 3)) = some (.int .i64 (f i).kind) ∧ w.cell? (a.add (i * 3 + 1)) = some (.int .i64 (f i).num) ∧ w.cell? (a.add (i * 3 + 2)) = some (.string (bs (f i).text)) := by
      refine ⟨fun i => if h : i < len then Classical.choose (hex i h) else ⟨0, 0, []⟩, fun i hil => ?_⟩
      simp only [hil, dif_pos]
      exact Classical.choose_spec (hex i hil)
    obtain ⟨f, hf2⟩ := hch
    refine ⟨(List.range len).map f, hl, by unfold maxLen at hm; omega, ⟨by simp, ?_⟩, ?_⟩
    · rcases Nat.eq_zero_or_pos len with h0 | h0
      · exact .inl h0
      · right
        have h1 := (hf2 0 h0).2.1
        rw [Nat.zero_mul] at h1
        have e0 : a.add 0 = a := rfl
        rw [e0] at h1
        obtain ⟨e, hb⟩ := cell_spot h1
        refine ⟨a.block, a.off, by rw [← e], hb, fun k x hx => ?_⟩
        have hk : k < len := by
          have := (List.getElem?_eq_some_iff.1 hx).1
          simpa using this
        rw [List.getElem?_map, List.getElem?_range hk] at hx
        injection hx with hx
        subst hx
        obtain ⟨_, c0, c1, c2⟩ := hf2 k hk
        rw [e, add_none] at c0 c1 c2
        rw [Nat.add_assoc, Nat.add_assoc]
        exact ⟨c0, c1, c2⟩
    · intro x hx
      obtain ⟨i, hi2, rfl⟩ := List.mem_map.1 hx
      exact (hf2 i (List.mem_range.1 hi2)).1
end
end Go.Proofs.YtemcdeopehdggaaDoor
