/- A number that is picked. -/
import Derived.Test.YtemcdeopehdggaaDoorD1
namespace Go.Proofs.YtemcdeopehdggaaDoor
open Go.RowKit

/-- What a pick hands back. -/
def PickV (n v : Int) : Prop := 0 ≤ v ∧ (1 ≤ n → v < n) ∧ (n < 1 → v = 0)
def RetP (w : World) (g p : Nat) (n : Int) (e : Ending) (w' : World) : Prop := ∃ v, e = .returned (.int .i64 v) ∧ PickV n v ∧ Rd w' g (p + 1) ∧ Pk g w w'

theorem ofInt_i64 (a : Nat) (ha : a < 18446744073709551616) : (BitVec.ofInt 64 (a : Int)).toNat = a := by
  rw [BitVec.ofInt_natCast, BitVec.toNat_ofNat]; exact Nat.mod_eq_of_lt (by omega)
theorem xor_nn {a b : Int} (h1 : 0 ≤ a) (h2 : a < 4611686018427387904) (h3 : 0 ≤ b) (h4 : b < 4611686018427387904) : 0 ≤ bits .xor .i64 a b := by
  obtain ⟨A, rfl⟩ := Int.eq_ofNat_of_zero_le h1
  obtain ⟨B, rfl⟩ := Int.eq_ofNat_of_zero_le h3
  have hx : A ^^^ B < 2 ^ 62 := Nat.xor_lt_two_pow (by omega) (by omega)
  have he : bits .xor .i64 (A : Int) (B : Int) = IntKind.i64.wrap ((BitVec.ofInt 64 (A : Int) ^^^ BitVec.ofInt 64 (B : Int)).toNat : Int) := rfl
  rw [he, BitVec.toNat_xor, ofInt_i64 A (by omega), ofInt_i64 B (by omega), IntWalk.i64_in _ (by omega)]
  omega
theorem pickV_tmod {n x : Int} (h : 1 ≤ n) (hx : 0 ≤ x) : PickV n (x.tmod n) := by
  rw [Int.tmod_eq_emod_of_nonneg hx]
  have := Int.emod_nonneg x (show n ≠ 0 by omega)
  have := Int.emod_lt_of_pos x (show 0 < n by omega)
  exact ⟨by omega, by omega, by omega⟩

set_option maxHeartbeats 1000000 in
set_option maxRecDepth 100000 in
theorem pick_any (g p : Nat) (n : Int) (w : World) (hp : p ≤ 1000000) (hn : n ≤ 1000000) (hr : Rd w g p) :
    Calls Tryd.prog 64 #[.pointer (some ⟨g, 0, none⟩), .int .i64 n] w (RetP w g p n) := by
  obtain ⟨hlt, hfr, A, L, c, q, h0, h1, hq, hL, hb⟩ := hr
  have e1 : IntKind.i64.wrap ((q : Int) + 1) = (q : Int) + 1 := IntWalk.i64_in _ (by omega)
  obtain ⟨w1, hw1⟩ : ∃ w1, w1 = w.setCell ⟨g, 1, none⟩ (.int .i64 ((q : Int) + 1)) := ⟨_, rfl⟩
  have k0 : w1.cell? ⟨g, 0, none⟩ = some (.slice A L c) := by rw [hw1]; exact (World.cell?_setCell_other _ _ _ _ (by intro h; cases h)).trans h0
  have k1 : w1.cell? ⟨g, 1, none⟩ = some (.int .i64 ((q : Int) + 1)) := by rw [hw1]; exact World.cell?_setCell_same _ _ _ h1
  have hfr1 : w1.frozen? ⟨g, 1, none⟩ = false := by rw [hw1, World.frozen?_setCell]; exact hfr
  have hpk : Pk g w w1 := by rw [hw1]; exact (Pk.refl g w).setCell _ _
  have hb1 : Bs w1 g A L := by
    rcases hb with h | ⟨b, o, h1, h2, h4⟩
    · exact .inl h
    · exact .inr ⟨b, o, h1, h2, fun k hk => by
        obtain ⟨u, h5, h6⟩ := h4 k hk
        exact ⟨u, h5, (hpk.cell (p := ⟨b, o + k, none⟩) (show b < w.heap.size by omega) (show b ≠ g by omega)).trans h6⟩⟩
  have HR : Hid (Rd w1 g (p + 1)) := ⟨Nat.lt_of_lt_of_le hlt hpk.size, hfr1, A, L, c, q + 1, k0, by rw [k1]; rfl, by omega, hL, hb1⟩
  have HP := Lib.hid hpk
  have HW := Lib.hid hw1
  clear hpk hfr1 hw1
  by_cases c1 : n < 1
  · go_enter Tryd.func64, Tryd.ntmps64
    go_wp2_with fail
    go_ret
    rw [← HW.out]
    exact ⟨_, rfl, ⟨by omega, by omega, by omega⟩, HR.out, HP.out⟩
  have c1' : 1 ≤ n := by omega
  clear c1
  rcases hb with hz | ⟨b, o, rfl, hbg', hbc⟩
  · subst hz
    go_enter Tryd.func64, Tryd.ntmps64
    go_wp2_with fail
    go_ret
    rw [← HW.out]
    exact ⟨_, rfl, ⟨by omega, by omega, by omega⟩, HR.out, HP.out⟩
  have hbg : b ≠ g := by omega
  rcases Nat.eq_zero_or_pos L with hz | hpos
  · subst hz
    go_enter Tryd.func64, Tryd.ntmps64
    go_wp2_with fail
    go_ret
    rw [← HW.out]
    exact ⟨_, rfl, ⟨by omega, by omega, by omega⟩, HR.out, HP.out⟩
  have cz : (((L : Int)) == 0) = false := by rw [beq_eq_false_iff_ne]; omega
  have hne : ∀ k, (⟨g, 1, none⟩ : Addr) ≠ ⟨b, k, none⟩ := fun k h => by injection h with h; exact hbg h.symm
  have e2 : IntKind.i64.wrap ((q : Int) + 1 - 1) = (q : Int) := by rw [show (q : Int) + 1 - 1 = q by omega]; exact IntWalk.i64_in _ (by omega)
  by_cases hql : q < L
  · obtain ⟨u, hu, hc⟩ := hbc q hql
    have hq1 : (q : Int) < (L : Int) := by omega
    have hne1 := hne (o + q)
    have hm1 := Int.emod_nonneg (u : Int) (show n ≠ 0 by omega)
    have hm2 := Int.emod_lt_of_pos (u : Int) (show 0 < n by omega)
    clear hbc hne
    go_enter Tryd.func64, Tryd.ntmps64
    go_wp2_with fail
    go_ret
    rw [← HW.out]
    exact ⟨_, rfl, ⟨by omega, by omega, by omega⟩, HR.out, HP.out⟩
  · obtain ⟨i, hi⟩ : ∃ i, i = q % L := ⟨_, rfl⟩
    obtain ⟨j, hj⟩ : ∃ j, j = (q * 7 + 3) % L := ⟨_, rfl⟩
    obtain ⟨d, hd⟩ : ∃ d, d = q / L := ⟨_, rfl⟩
    have hi2 : i < L := by rw [hi]; exact Nat.mod_lt _ hpos
    have hj2 : j < L := by rw [hj]; exact Nat.mod_lt _ hpos
    have hd2 : d ≤ q := by rw [hd]; exact Nat.div_le_self _ _
    obtain ⟨u, hu, hc⟩ := hbc i hi2
    obtain ⟨v, hv, hcv⟩ := hbc j hj2
    have hne1 := hne (o + i)
    have hne2 := hne (o + j)
    have f1 : (q : Int) % (L : Int) = (i : Int) := by rw [hi]; rfl
    have f2 : IntKind.i64.wrap ((q : Int) * 7) = (q : Int) * 7 := IntWalk.i64_in _ (by omega)
    have f3 : IntKind.i64.wrap ((q : Int) * 7 + 3) = (q : Int) * 7 + 3 := IntWalk.i64_in _ (by omega)
    have f4 : ((q : Int) * 7 + 3) % (L : Int) = (j : Int) := by rw [hj]; rfl
    have f5 : (q : Int) / (L : Int) = (d : Int) := by rw [hd]; rfl
    have f6 : (i : Int) < (L : Int) := by omega
    have f7 : (j : Int) < (L : Int) := by omega
    have HQ : Hid (q ≤ 1000000) := by show _ ≤ _; omega
    clear hbc hne hi hj hd
    go_enter Tryd.func64, Tryd.ntmps64
    go_wp2_with fail
    go_quiet (fail)
    go_wp2_with fail
    go_ret
    rw [← HW.out]
    refine ⟨_, rfl, ?_, HR.out.drewN _, HP.out.drewN _⟩
    refine pickV_tmod c1' (xor_nn ?_ ?_ ?_ ?_) <;> omega

def RetB (w : World) (g p : Nat) (n : Int) (e : Ending) (w' : World) : Prop := ∃ v, e = .returned (.bool v) ∧ (n ≤ 0 → v = false) ∧ Rd w' g (p + 1) ∧ Pk g w w'
set_option maxHeartbeats 1000000 in
theorem odd_any (g p : Nat) (n : Int) (w : World) (hp : p ≤ 1000000) (hn : n ≤ 1000000) (hr : Rd w g p) :
    Calls Tryd.prog 81 #[.pointer (some ⟨g, 0, none⟩), .int .i64 n] w (RetB w g p n) := by
  by_cases hn1 : 0 < n
  · go_enter Tryd.func81, Tryd.ntmps81
    go_wp2_with fail
    refine (pick_any g p n w hp hn hr).mono ?_
    rintro e w' ⟨v, rfl, _, hr', hp'⟩
    have e1 : IntKind.i64.wrap (n - 1) = n - 1 := IntWalk.i64_in _ (by omega)
    go_wp2_with fail
    go_ret
    exact ⟨_, rfl, fun _ => by omega, hr', hp'⟩
  · go_enter Tryd.func81, Tryd.ntmps81
    go_wp2_with fail
    go_ret
    exact ⟨_, rfl, fun _ => rfl, hr.mono (by omega), Pk.refl _ _⟩
end Go.Proofs.YtemcdeopehdggaaDoor
