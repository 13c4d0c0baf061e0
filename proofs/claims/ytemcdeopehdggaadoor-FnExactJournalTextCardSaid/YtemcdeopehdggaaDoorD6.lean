/- The reader opened; sizes; signals of a size. -/
import Derived.Test.YtemcdeopehdggaaDoorD5
namespace Go.Proofs.YtemcdeopehdggaaDoor
open Go.RowKit

/-- The bytes of a code, as an argument. -/
def Code8 (w : World) (A : Option Addr) (n : Nat) : Prop :=
  n = 0 ∨ ∃ b o, A = some ⟨b, o, none⟩ ∧ b < w.heap.size ∧ ∀ k, k < n → ∃ u : Nat, u < 256 ∧ w.cell? ⟨b, o + k, none⟩ = some (.int .u8 u)
/-- A reader that has just been opened. -/
def RetR (w : World) (e : Ending) (w' : World) : Prop := ∃ g, e = .returned (.pointer (some ⟨g, 0, none⟩)) ∧ w.heap.size ≤ g ∧ Rd w' g 0 ∧ Below w.heap.size w w'
theorem rd_new {w : World} {A : Option Addr} {n c : Nat} (hn : n ≤ 2000) (h : Code8 w A n) : Rd (w.alloc (.cells #[.slice A n c, .int .i64 0] 104)) w.heap.size 0 := by
  refine ⟨by simp, ?_, A, n, c, 0, ?_, ?_, by omega, hn, ?_⟩
  · simp
  · rw [World.cell?_alloc_at _ _ _ _ rfl]; rfl
  · rw [World.cell?_alloc_at _ _ _ _ rfl]; rfl
  · rcases h with h | ⟨b, o, h1, h2, h3⟩
    · exact .inl h
    · refine .inr ⟨b, o, h1, h2, fun k hk => ?_⟩
      obtain ⟨u, h4, h5⟩ := h3 k hk
      exact ⟨u, h4, (World.cell?_alloc_lt _ _ _ h2).trans h5⟩

set_option maxHeartbeats 1000000 in
theorem open_any (A : Option Addr) (n c : Nat) (w : World) (hnc : n ≤ c) (hn : n ≤ 1048576) (h : Code8 w A n) :
    Calls Tryd.prog 52 #[.slice A n c] w (RetR w) := by
  by_cases hl : 2000 < n
  · rcases h with h0 | ⟨b, o, rfl, hb, hc⟩
    · omega
    have HC : Hid (Code8 w (some ⟨b, o, none⟩) 2000) := .inr ⟨b, o, rfl, hb, fun k hk => hc k (by omega)⟩
    clear hc
    go_enter Tryd.func52, Tryd.ntmps52
    go_wp2_with fail
    go_ret
    exact ⟨_, rfl, Nat.le_refl _, rd_new (by omega) HC.out, below_alloc _ _⟩
  · have HC := Lib.hid h
    clear h
    go_enter Tryd.func52, Tryd.ntmps52
    go_wp2_with fail
    go_ret
    exact ⟨_, rfl, Nat.le_refl _, rd_new (by omega) HC.out, below_alloc _ _⟩

end Go.Proofs.YtemcdeopehdggaaDoor
