/- Draws of one signal for a transform. -/
import Derived.Test.YtficlmnjbbpicaaD9
namespace Go.Proofs.Ytficlmnjbbpicaa
open Go.RowKit

set_option maxHeartbeats 1000000 in
theorem drawHalvesOf_any (A : Option Addr) (n c : Nat) (w : World) (hnc : n ≤ c) (hn : n ≤ 1048576) (h : Code8 w A n) :
    Calls Try.prog 35 #[.slice A n c] w (RetDL w) := by
  go_enter Try.func35, Try.ntmps35
  go_wp2_with fail
  refine (open_any A n c w hnc hn h).mono ?_
  rintro e w0 ⟨g, rfl, hg, hr0, hb0⟩
  go_wp2_with fail
  refine (sized_any g 0 9 w0 (by omega) (by omega) hr0).mono ?_
  rintro e w2 ⟨A2, m, c2, xs, rfl, ho, hl, hd, _, hr2, hp2⟩
  go_wp2_with fail
  go_ret
  have h0 := ho.len
  rw [List.length_map] at h0
  exact ⟨A2, m, c2, xs, rfl, ho.mono hb0.size, by omega, hd, hb0.trans (hp2.below hg hb0.size)⟩
end Go.Proofs.Ytficlmnjbbpicaa
