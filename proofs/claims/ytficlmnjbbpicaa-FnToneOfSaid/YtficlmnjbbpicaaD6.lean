/- The reader opened; sizes; signals of a size. -/
import Derived.Test.YtficlmnjbbpicaaD5
namespace Go.Proofs.Ytficlmnjbbpicaa
open Go.RowKit

/-- The bytes of a code, as an argument. -/
def Code8 (w : World) (A : Option Addr) (n : Nat) : Prop :=
  n = 0 ∨ ∃ b o, A = some ⟨b, o, none⟩ ∧ b < w.heap.size ∧ ∀ k, k < n → ∃ u : Nat, u < 256 ∧ w.cell? ⟨b, o + k, none⟩ = some (.int .u8 u)
/-- A reader that has just been opened. -/
def RetR (w : World) (e : Ending) (w' : World) : Prop := ∃ g, e = .returned (.pointer (some ⟨g, 0, none⟩)) ∧ w.heap.size ≤ g ∧ Rd w' g 0 ∧ Below w.heap.size w w'
theorem rd_new {w : World} {A : Option Addr} {n c : Nat} (hn : n ≤ 2000) (h : Code8 w A n) : Rd (w.alloc (.cells #[.slice A n c, .int .i64 0] 98)) w.heap.size 0 := by
  refine ⟨by simp, ?_, A, n, c, 0, ?_, ?_, by omega, hn, ?_⟩
  · simp
  · rw [World.cell?_alloc_at _ _ _ _ rfl]; rfl
  · rw [World.cell?_alloc_at _ _ _ _ rfl]; rfl
  · rcases h with h | ⟨b, o, h1, h2, h3⟩
    · exact .inl h
    · refine .inr ⟨b, o, h1, h2, fun k hk => ?_⟩
      obtain ⟨u, h4, h5⟩ := h3 k hk
      exact ⟨u, h4, (World.cell?_alloc_lt _ _ _ h2).trans h5⟩

set_option maxHeartbeats 1000000 in
theorem open_any (A : Option Addr) (n c : Nat) (w : World) (hnc : n ≤ c) (hn : n ≤ 1048576) (h : Code8 w A n) :
    Calls Try.prog 70 #[.slice A n c] w (RetR w) := by
  by_cases hl : 2000 < n
  · rcases h with h0 | ⟨b, o, rfl, hb, hc⟩
    · omega
    have HC : Hid (Code8 w (some ⟨b, o, none⟩) 2000) := .inr ⟨b, o, rfl, hb, fun k hk => hc k (by omega)⟩
    clear hc
    go_enter Try.func70, Try.ntmps70
    go_wp2_with fail
    go_ret
    exact ⟨_, rfl, Nat.le_refl _, rd_new (by omega) HC.out, below_alloc _ _⟩
  · have HC := Lib.hid h
    clear h
    go_enter Try.func70, Try.ntmps70
    go_wp2_with fail
    go_ret
    exact ⟨_, rfl, Nat.le_refl _, rd_new (by omega) HC.out, below_alloc _ _⟩

def szB (n : Int) : Bool := n == 1 || n == 2 || n == 4 || n == 8 || n == 16
set_option maxHeartbeats 1000000 in
theorem size_any (g p : Nat) (w : World) (hp : p ≤ 900000) (hr : Rd w g p) :
    Calls Try.prog 106 #[.pointer (some ⟨g, 0, none⟩)] w (RetN w g (p + 1) 0 16) := by
  have hlt := hr.lt
  go_enter Try.func106, Try.ntmps106
  go_wp2_with fail
  refine (pick_any g p 6 _ (by omega) (by omega) (hr.below (below_alloc _ _))).mono ?_
  rintro e w2 ⟨v, rfl, hv, hr2, hp2⟩
  obtain ⟨v1, v2, _⟩ := hv
  have v3 := v2 (by omega)
  clear v2
  have c0 := lit_cell _ _ hp2 hlt (k := 0) rfl
  have c1 := lit_cell _ _ hp2 hlt (k := 1) rfl
  have c2 := lit_cell _ _ hp2 hlt (k := 2) rfl
  have c3 := lit_cell _ _ hp2 hlt (k := 3) rfl
  have c4 := lit_cell _ _ hp2 hlt (k := 4) rfl
  have c5 := lit_cell _ _ hp2 hlt (k := 5) rfl
  have HP : Hid (Pk g w w2) := (Pk.of_below (below_alloc _ _)).trans hp2
  have HR := Lib.hid hr2
  clear hp2 hr2 hr
  have h4 : v = 0 ∨ v = 1 ∨ v = 2 ∨ v = 3 ∨ v = 4 ∨ v = 5 := by omega
  clear v1 v3
  rcases h4 with rfl | rfl | rfl | rfl | rfl | rfl
  all_goals
    go_wp2_with fail
    go_ret
    exact ⟨_, rfl, by omega, by omega, HR.out, HP.out⟩
set_option maxHeartbeats 1000000 in
theorem sized_any (g p : Nat) (n : Int) (w : World) (hp : p ≤ 700000) (hn : n ≤ 1000000) (hr : Rd w g p) :
    Calls Try.prog 82 #[.pointer (some ⟨g, 0, none⟩), .int .i64 n] w (RetL w g (p + 120) n) := by
  go_enter Try.func82, Try.ntmps82
  go_wp2_with fail
  refine (size_any g p w (by omega) hr).mono ?_
  rintro e w1 ⟨v, rfl, v1, v2, hr1, hp1⟩
  obtain ⟨q, rfl⟩ := Int.eq_ofNat_of_zero_le v1
  go_wp2_with fail
  refine (odd_any g (p + 1) n w1 (by omega) hn hr1).mono ?_
  rintro e w2 ⟨b, rfl, _, hr2, hp2⟩
  have HP : Hid (Pk g w w2) := hp1.trans hp2
  have key : ∀ (A : Option Addr) (m c : Nat) (xs : List C) (w3 : World) (k : Nat), k ≤ 16 → Ow w3 w2.heap.size 45 (.slice A m c) m (xs.map cv) → xs.length ≤ 17 → DrawnL xs → (n ≤ 0 → ∀ z ∈ xs, Ord z) → Rd w3 g (p + 2 + 6 * k + 10) → Pk g w2 w3 → RetL w g (p + 120) n (.returned (.slice A m c)) w3 := fun A m c xs w3 k h0 h1 h2 h3 h4 h5 h6 => ⟨A, m, c, xs, rfl, Ow.mono h1 HP.out.size, h2, h3, h4, h5.mono (by omega), HP.out.trans h6⟩
  have HK := Lib.hid key
  clear key hp1 hp2 hr1 hr
  cases b with
  | false =>
    go_wp2_with fail
    refine (signal_any g (p + 2) q n w2 (by omega) hn (by omega) hr2).mono ?_
    rintro e w3 ⟨A, m, c, xs, rfl, h1, h2, h3, h4, h5, h6⟩
    have HR := Lib.hid (HK.out A m c xs w3 q (by omega) h1 h2 h3 h4 h5 h6)
    clear h1 h2 h3 h4 h5 h6
    go_wp2_with fail
    go_ret
    exact HR.out
  | true =>
    go_wp2_with fail
    refine (signal_any g (p + 2) 3 n w2 (by omega) hn (by omega) hr2).mono ?_
    rintro e w3 ⟨A, m, c, xs, rfl, h1, h2, h3, h4, h5, h6⟩
    have HR := Lib.hid (HK.out A m c xs w3 3 (by omega) h1 h2 h3 h4 h5 h6)
    clear h1 h2 h3 h4 h5 h6
    go_wp2_with fail
    go_ret
    exact HR.out
end Go.Proofs.Ytficlmnjbbpicaa
