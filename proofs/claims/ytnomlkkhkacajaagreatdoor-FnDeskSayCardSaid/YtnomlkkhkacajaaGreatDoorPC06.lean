/- Texts on the way to a law (T2, D2, D3, D4), each with its own remark. -/
import Derived.Test.YtnomlkkhkacajaaGreatDoorPC05
import Derived.Test.YtnomlkkhkacajaaGreatDoorPC04
namespace Go.Proofs.YtnomlkkhkacajaaGreatDoor
open Go.RowKit

theorem turnL_fin (j : Nat) (h : j < 16) : finB (nth turnL j) = true := by
  have : j = 0 ∨ j = 1 ∨ j = 2 ∨ j = 3 ∨ j = 4 ∨ j = 5 ∨ j = 6 ∨ j = 7 ∨ j = 8 ∨ j = 9 ∨ j = 10 ∨ j = 11 ∨ j = 12 ∨ j = 13 ∨ j = 14 ∨ j = 15 := by omega
  rcases this with rfl | rfl | rfl | rfl | rfl | rfl | rfl | rfl | rfl | rfl | rfl | rfl | rfl | rfl | rfl | rfl <;> decide
theorem turnC_fin (k : Int) : finB (turnC k) = true := by
  unfold turnC
  split
  · exact turnL_fin _ (by have := Int.emod_lt_of_pos k (show (0 : Int) < 16 by decide); have := Int.emod_nonneg k (show (16 : Int) ≠ 0 by decide); omega)
  · decide
/-- One product more. -/
def sumStep (s : Option C) (p : C) : Option C := s.bind fun s => if finB p && finB (addC s p) then some (addC s p) else none
def prodT (xs : List C) (b : Int) (i : Nat) : C := mulC (nth xs i) (turnC (b * i))
/-- The sum of the first i products. -/
def sumT (xs : List C) (b : Int) : Nat → Option C
  | 0 => some (0, 0)
  | i + 1 => sumStep (sumT xs b i) (prodT xs b i)
theorem sumT_none {xs : List C} {b : Int} {i : Nat} (h : sumT xs b i = none) : ∀ j, i ≤ j → sumT xs b j = none := by
  intro j hj
  obtain ⟨d, rfl⟩ : ∃ d, j = i + d := ⟨j - i, by omega⟩
  clear hj
  induction d with
  | zero => exact h
  | succ d ih => show sumStep (sumT xs b (i + d)) _ = none; rw [ih]; rfl
theorem sumT_fin {xs : List C} {b : Int} : ∀ {i : Nat} {s : C}, sumT xs b i = some s → finB s = true
  | 0, s, h => by injection h with h; rw [← h]; decide
  | i + 1, s, h => by
    unfold sumT sumStep at h
    cases hs : sumT xs b i with
    | none => rw [hs] at h; cases h
    | some t =>
      rw [hs] at h
      simp only [Option.bind_some] at h
      split at h
      · rename_i hc
        injection h with h
        rw [Bool.and_eq_true] at hc
        rw [← h]; exact hc.2
      · cases h
/-- A number, and whether there is one. -/
def RetQ2 (w : World) (o : Option C) (e : Ending) (w' : World) : Prop := e = .returned (.tuple #[cv (o.getD (0, 0)), .bool o.isSome]) ∧ Below w.heap.size w w'
theorem mul_bd {b : Int} {i : Nat} (h1 : -256 ≤ b) (h2 : b ≤ 256) (hi : i ≤ 16) : -4096 ≤ b * (i : Int) ∧ b * (i : Int) ≤ 4096 := by
  have : i = 0 ∨ i = 1 ∨ i = 2 ∨ i = 3 ∨ i = 4 ∨ i = 5 ∨ i = 6 ∨ i = 7 ∨ i = 8 ∨ i = 9 ∨ i = 10 ∨ i = 11 ∨ i = 12 ∨ i = 13 ∨ i = 14 ∨ i = 15 ∨ i = 16 := by omega
  rcases this with rfl | rfl | rfl | rfl | rfl | rfl | rfl | rfl | rfl | rfl | rfl | rfl | rfl | rfl | rfl | rfl | rfl <;> omega

set_option maxHeartbeats 1000000 in
theorem plus_any (s a b : C) (hs : finB s = true) (ha : finB a = true) (hb : finB b = true) (hm : finB (mulC a b) = true) (w : World) :
    Calls Tryz.prog 147 #[cv s, cv a, cv b] w fun e w' => e = .returned (.tuple #[cv ((sumStep (some s) (mulC a b)).getD (0, 0)), .bool (sumStep (some s) (mulC a b)).isSome]) ∧ Dr w w' := by
  have q1 := mulC_run Tryz.prog 73 ha hb hm
  have q2 := addC_run Tryz.prog 73 (a := s) (b := mulC a b) hs hm
  have C1 : Hid (∀ w, Calls Tryz.prog 88 #[.complex .f32 (mulC a b).1 (mulC a b).2] w fun e w' => e = .returned (.bool true) ∧ Dr w w') := fun w => by have := iFinite (mulC a b) w; rw [hm] at this; exact this
  have C2 : Hid (∀ w, Calls Tryz.prog 88 #[.complex .f32 (addC s (mulC a b)).1 (addC s (mulC a b)).2] w fun e w' => e = .returned (.bool (finB (addC s (mulC a b)))) ∧ Dr w w') := fun w => iFinite (addC s (mulC a b)) w
  have HN : Hid (sumStep (some s) (mulC a b) = if finB (addC s (mulC a b)) then some (addC s (mulC a b)) else none) := by
    show _ = _
    unfold sumStep; rw [hm]; simp
  clear hs ha hb hm
  generalize addC s (mulC a b) = t at *
  generalize mulC a b = p at *
  rw [HN.out]
  obtain ⟨s1, s2⟩ := s
  obtain ⟨a1, a2⟩ := a
  obtain ⟨b1, b2⟩ := b
  unfold cv
  cases hf : finB t
  all_goals
    rw [hf] at C2
    go_enter Tryz.func147, Tryz.ntmps147
    go_wp2_with fail
    refine (C1.out _).mono ?_
    rintro e w' ⟨rfl, m, rfl⟩
    go_wp2_with fail
    refine (C2.out _).mono ?_
    rintro e w' ⟨rfl, m', rfl⟩
    go_wp2_with fail
    go_ret2
    exact ⟨rfl, _, rfl⟩

set_option maxHeartbeats 2000000 in
set_option maxRecDepth 100000 in
theorem iTurned (A : Option Addr) (n c : Nat) (xs : List C) (k b : Int) (w : World) (hn : 1 ≤ n) (hn2 : n ≤ 16) (hx : Cs w A n xs) (hf : xs.all finB = true) (hb : 16 / (n : Int) * k = b) (hb1 : -256 ≤ b) (hb2 : b ≤ 256)
    (hp : ∀ i, i < n → finB (prodT xs b i) = true) :
    Calls Tryz.prog 126 #[.slice A n c, .int .i64 k] w (RetQ2 w (sumT xs b n)) := by
  have HL := Lib.hid hx.len
  have e1 : IntKind.i64.wrap (16 / (n : Int) * k) = b := by rw [hb]; exact IntWalk.i64_in _ (by omega)
  have HF := Lib.hid hf
  have HPR := Lib.hid hp
  clear hf hp hb
  go_enter Tryz.func126, Tryz.ntmps126
  go_wp2_with fail
  go_loopw [7, 17] (fun v i wr => ∃ (j : Nat) (s : C), j ≤ n ∧ i = .int .i64 j ∧ v = .complex .f32 s.1 s.2 ∧ sumT xs b j = some s ∧ Below w.heap.size w wr) (fun _ i _ => n - (intOf i).toNat)
  case atStart => exact ⟨0, (0, 0), by omega, rfl, rfl, rfl, Below.refl _ _⟩
  case round =>
    obtain ⟨j, s, hj, rfl, rfl, hs, hbw⟩ := hrel
    have HS := Lib.hid hs
    have HB := Lib.hid hbw
    clear hs
    by_cases hlt : j < n
    · obtain ⟨bl, o, rfl, hbl, hc⟩ := hx.at_ hlt
      have hck : wr.cell? ⟨bl, o + j, none⟩ = some (cv (nth xs j)) := (hbw.cell (p := ⟨bl, o + j, none⟩) hbl).trans (hc j hlt)
      have hz := all_fin_nth HF.out (by rw [HL.out]; exact hlt : j < xs.length)
      have HZ := Lib.hid (finB_iff.2 hz)
      have HM : Hid (finB (mulC (nth xs j) (turnC (b * j))) = true) := HPR.out j hlt
      have HNX : Hid (sumT xs b (j + 1) = sumStep (some s) (mulC (nth xs j) (turnC (b * j)))) := by show sumStep (sumT xs b j) _ = _; rw [HS.out]; rfl
      obtain ⟨d1, d2⟩ := mul_bd (i := j) hb1 hb2 (by omega)
      have e2 : IntKind.i64.wrap (b * (j : Int)) = b * (j : Int) := IntWalk.i64_in _ (by omega)
      clear hc hx hz hbw d1 d2
      generalize nth xs j = z at *
      obtain ⟨t, ht⟩ : ∃ t, t = turnC (b * (j : Int)) := ⟨_, rfl⟩
      have HT := Lib.hid (turnC_fin (b * (j : Int)))
      have HTC : Hid (∀ w, Calls Tryz.prog 148 #[.int .i64 (b * (j : Int))] w (RetQ w t)) := fun w => by rw [ht]; exact iTurn _ w
      rw [← ht] at HM HNX HT
      clear ht
      go_wp2_with fail
      refine (HTC.out _).mono ?_
      rintro e w1 ⟨rfl, hb1w⟩
      have HB1 : Hid (Below w.heap.size w w1) := HB.out.trans (hb1w.mono HB.out.size)
      clear hb1w
      go_wp2_with fail
      refine (plus_any s z t (sumT_fin HS.out) HZ.out HT.out HM.out w1).mono ?_
      rintro e w2 ⟨rfl, m, rfl⟩
      rw [← HNX.out]
      cases hnx : sumT xs b (j + 1) with
      | none =>
        have HNN := Lib.hid (sumT_none hnx n (by omega))
        clear hnx
        simp only [Option.getD_none, Option.isSome_none]
        go_wp2_with fail
        go_ret2
        rw [HNN.out]
        exact ⟨rfl, below_drewN HB1.out m⟩
      | some s2 =>
        have HN2 := Lib.hid hnx
        clear hnx
        simp only [Option.getD_some, Option.isSome_some]
        unfold cv
        go_wp2_with fail
        go_roundw
        case rel => exact ⟨j + 1, s2, by omega, by go_num, rfl, HN2.out, below_drewN HB1.out m⟩
        case measure => simp [intOf]; omega
    · obtain rfl : j = n := by omega
      clear hx hbw
      go_wp2_with fail
      go_ret2
      rw [HS.out]
      exact ⟨rfl, HB.out⟩
end Go.Proofs.YtnomlkkhkacajaaGreatDoor
namespace Go.Proofs.YtnomlkkhkacajaaGreatDoor
open Go.RowKit

/-- What a pick hands back. -/
def PickV (n v : Int) : Prop := 0 ≤ v ∧ (1 ≤ n → v < n) ∧ (n < 1 → v = 0)
def RetP (w : World) (g p : Nat) (n : Int) (e : Ending) (w' : World) : Prop := ∃ v, e = .returned (.int .i64 v) ∧ PickV n v ∧ Rd w' g (p + 1) ∧ Pk g w w'

theorem ofInt_i64 (a : Nat) (ha : a < 18446744073709551616) : (BitVec.ofInt 64 (a : Int)).toNat = a := by
  rw [BitVec.ofInt_natCast, BitVec.toNat_ofNat]; exact Nat.mod_eq_of_lt (by omega)
theorem xor_nn {a b : Int} (h1 : 0 ≤ a) (h2 : a < 4611686018427387904) (h3 : 0 ≤ b) (h4 : b < 4611686018427387904) : 0 ≤ bits .xor .i64 a b := by
  obtain ⟨A, rfl⟩ := Int.eq_ofNat_of_zero_le h1
  obtain ⟨B, rfl⟩ := Int.eq_ofNat_of_zero_le h3
  have hx : A ^^^ B < 2 ^ 62 := Nat.xor_lt_two_pow (by omega) (by omega)
  have he : bits .xor .i64 (A : Int) (B : Int) = IntKind.i64.wrap ((BitVec.ofInt 64 (A : Int) ^^^ BitVec.ofInt 64 (B : Int)).toNat : Int) := rfl
  rw [he, BitVec.toNat_xor, ofInt_i64 A (by omega), ofInt_i64 B (by omega), IntWalk.i64_in _ (by omega)]
  omega
theorem pickV_tmod {n x : Int} (h : 1 ≤ n) (hx : 0 ≤ x) : PickV n (x.tmod n) := by
  rw [Int.tmod_eq_emod_of_nonneg hx]
  have := Int.emod_nonneg x (show n ≠ 0 by omega)
  have := Int.emod_lt_of_pos x (show 0 < n by omega)
  exact ⟨by omega, by omega, by omega⟩

set_option maxHeartbeats 1000000 in
set_option maxRecDepth 100000 in
theorem pick_any (g p : Nat) (n : Int) (w : World) (hp : p ≤ 1000000) (hn : n ≤ 1000000) (hr : Rd w g p) :
    Calls Tryz.prog 62 #[.pointer (some ⟨g, 0, none⟩), .int .i64 n] w (RetP w g p n) := by
  obtain ⟨hlt, hfr, A, L, c, q, h0, h1, hq, hL, hb⟩ := hr
  have e1 : IntKind.i64.wrap ((q : Int) + 1) = (q : Int) + 1 := IntWalk.i64_in _ (by omega)
  obtain ⟨w1, hw1⟩ : ∃ w1, w1 = w.setCell ⟨g, 1, none⟩ (.int .i64 ((q : Int) + 1)) := ⟨_, rfl⟩
  have k0 : w1.cell? ⟨g, 0, none⟩ = some (.slice A L c) := by rw [hw1]; exact (World.cell?_setCell_other _ _ _ _ (by intro h; cases h)).trans h0
  have k1 : w1.cell? ⟨g, 1, none⟩ = some (.int .i64 ((q : Int) + 1)) := by rw [hw1]; exact World.cell?_setCell_same _ _ _ h1
  have hfr1 : w1.frozen? ⟨g, 1, none⟩ = false := by rw [hw1, World.frozen?_setCell]; exact hfr
  have hpk : Pk g w w1 := by rw [hw1]; exact (Pk.refl g w).setCell _ _
  have hb1 : Bs w1 g A L := by
    rcases hb with h | ⟨b, o, h1, h2, h4⟩
    · exact .inl h
    · exact .inr ⟨b, o, h1, h2, fun k hk => by
        obtain ⟨u, h5, h6⟩ := h4 k hk
        exact ⟨u, h5, (hpk.cell (p := ⟨b, o + k, none⟩) (show b < w.heap.size by omega) (show b ≠ g by omega)).trans h6⟩⟩
  have HR : Hid (Rd w1 g (p + 1)) := ⟨Nat.lt_of_lt_of_le hlt hpk.size, hfr1, A, L, c, q + 1, k0, by rw [k1]; rfl, by omega, hL, hb1⟩
  have HP := Lib.hid hpk
  have HW := Lib.hid hw1
  clear hpk hfr1 hw1
  by_cases c1 : n < 1
  · go_enter Tryz.func62, Tryz.ntmps62
    go_wp2_with fail
    go_ret
    rw [← HW.out]
    exact ⟨_, rfl, ⟨by omega, by omega, by omega⟩, HR.out, HP.out⟩
  have c1' : 1 ≤ n := by omega
  clear c1
  rcases hb with hz | ⟨b, o, rfl, hbg', hbc⟩
  · subst hz
    go_enter Tryz.func62, Tryz.ntmps62
    go_wp2_with fail
    go_ret
    rw [← HW.out]
    exact ⟨_, rfl, ⟨by omega, by omega, by omega⟩, HR.out, HP.out⟩
  have hbg : b ≠ g := by omega
  rcases Nat.eq_zero_or_pos L with hz | hpos
  · subst hz
    go_enter Tryz.func62, Tryz.ntmps62
    go_wp2_with fail
    go_ret
    rw [← HW.out]
    exact ⟨_, rfl, ⟨by omega, by omega, by omega⟩, HR.out, HP.out⟩
  have cz : (((L : Int)) == 0) = false := by rw [beq_eq_false_iff_ne]; omega
  have hne : ∀ k, (⟨g, 1, none⟩ : Addr) ≠ ⟨b, k, none⟩ := fun k h => by injection h with h; exact hbg h.symm
  have e2 : IntKind.i64.wrap ((q : Int) + 1 - 1) = (q : Int) := by rw [show (q : Int) + 1 - 1 = q by omega]; exact IntWalk.i64_in _ (by omega)
  by_cases hql : q < L
  · obtain ⟨u, hu, hc⟩ := hbc q hql
    have hq1 : (q : Int) < (L : Int) := by omega
    have hne1 := hne (o + q)
    have hm1 := Int.emod_nonneg (u : Int) (show n ≠ 0 by omega)
    have hm2 := Int.emod_lt_of_pos (u : Int) (show 0 < n by omega)
    clear hbc hne
    go_enter Tryz.func62, Tryz.ntmps62
    go_wp2_with fail
    go_ret
    rw [← HW.out]
    exact ⟨_, rfl, ⟨by omega, by omega, by omega⟩, HR.out, HP.out⟩
  · obtain ⟨i, hi⟩ : ∃ i, i = q % L := ⟨_, rfl⟩
    obtain ⟨j, hj⟩ : ∃ j, j = (q * 7 + 3) % L := ⟨_, rfl⟩
    obtain ⟨d, hd⟩ : ∃ d, d = q / L := ⟨_, rfl⟩
    have hi2 : i < L := by rw [hi]; exact Nat.mod_lt _ hpos
    have hj2 : j < L := by rw [hj]; exact Nat.mod_lt _ hpos
    have hd2 : d ≤ q := by rw [hd]; exact Nat.div_le_self _ _
    obtain ⟨u, hu, hc⟩ := hbc i hi2
    obtain ⟨v, hv, hcv⟩ := hbc j hj2
    have hne1 := hne (o + i)
    have hne2 := hne (o + j)
    have f1 : (q : Int) % (L : Int) = (i : Int) := by rw [hi]; rfl
    have f2 : IntKind.i64.wrap ((q : Int) * 7) = (q : Int) * 7 := IntWalk.i64_in _ (by omega)
    have f3 : IntKind.i64.wrap ((q : Int) * 7 + 3) = (q : Int) * 7 + 3 := IntWalk.i64_in _ (by omega)
    have f4 : ((q : Int) * 7 + 3) % (L : Int) = (j : Int) := by rw [hj]; rfl
    have f5 : (q : Int) / (L : Int) = (d : Int) := by rw [hd]; rfl
    have f6 : (i : Int) < (L : Int) := by omega
    have f7 : (j : Int) < (L : Int) := by omega
    have HQ : Hid (q ≤ 1000000) := by show _ ≤ _; omega
    clear hbc hne hi hj hd
    go_enter Tryz.func62, Tryz.ntmps62
    go_wp2_with fail
    go_quiet (fail)
    go_wp2_with fail
    go_ret
    rw [← HW.out]
    refine ⟨_, rfl, ?_, HR.out.drewN _, HP.out.drewN _⟩
    refine pickV_tmod c1' (xor_nn ?_ ?_ ?_ ?_) <;> omega

def RetB (w : World) (g p : Nat) (n : Int) (e : Ending) (w' : World) : Prop := ∃ v, e = .returned (.bool v) ∧ (n ≤ 0 → v = false) ∧ Rd w' g (p + 1) ∧ Pk g w w'
set_option maxHeartbeats 1000000 in
theorem odd_any (g p : Nat) (n : Int) (w : World) (hp : p ≤ 1000000) (hn : n ≤ 1000000) (hr : Rd w g p) :
    Calls Tryz.prog 45 #[.pointer (some ⟨g, 0, none⟩), .int .i64 n] w (RetB w g p n) := by
  by_cases hn1 : 0 < n
  · go_enter Tryz.func45, Tryz.ntmps45
    go_wp2_with fail
    refine (pick_any g p n w hp hn hr).mono ?_
    rintro e w' ⟨v, rfl, _, hr', hp'⟩
    have e1 : IntKind.i64.wrap (n - 1) = n - 1 := IntWalk.i64_in _ (by omega)
    go_wp2_with fail
    go_ret
    exact ⟨_, rfl, fun _ => by omega, hr', hp'⟩
  · go_enter Tryz.func45, Tryz.ntmps45
    go_wp2_with fail
    go_ret
    exact ⟨_, rfl, fun _ => rfl, hr.mono (by omega), Pk.refl _ _⟩
end Go.Proofs.YtnomlkkhkacajaaGreatDoor
namespace Go.Proofs.YtnomlkkhkacajaaGreatDoor
open Go.RowKit

/-- A literal of whole numbers, still there. -/
theorem lit_cell {w w2 : World} {g : Nat} (vs : Array Value) (E : TypeId) (h : Pk g (w.alloc (.cells vs E)) w2) (hg : g < w.heap.size) {k : Nat} {v : Value} (hk : vs[k]? = some v) :
    w2.cell? ⟨w.heap.size, k, none⟩ = some v := by
  rw [h.cell (p := ⟨w.heap.size, k, none⟩) (by simp) (by simp; omega), World.cell?_alloc_at _ _ _ _ rfl]
  exact hk

def RetN (w : World) (g p : Nat) (lo hi : Int) (e : Ending) (w' : World) : Prop := ∃ v, e = .returned (.int .i64 v) ∧ lo ≤ v ∧ v ≤ hi ∧ Rd w' g p ∧ Pk g w w'
set_option maxHeartbeats 1000000 in
theorem part_any (g p : Nat) (w : World) (hp : p ≤ 990000) (hr : Rd w g p) :
    Calls Tryz.prog 136 #[.pointer (some ⟨g, 0, none⟩)] w (RetN w g (p + 2) (-10000) 10000) := by
  go_enter Tryz.func136, Tryz.ntmps136
  go_wp2_with fail
  refine (pick_any g p 4 w (by omega) (by omega) hr).mono ?_
  rintro e w1 ⟨v, rfl, hv, hr1, hp1⟩
  obtain ⟨v1, v2, _⟩ := hv
  have v3 := v2 (by omega)
  clear v2
  have hlt := hr1.lt
  have h4 : v = 0 ∨ v = 1 ∨ v = 2 ∨ v = 3 := by omega
  clear v1 v3
  rcases h4 with rfl | rfl | rfl | rfl
  · go_wp2_with fail
    go_ret
    exact ⟨_, rfl, by omega, by omega, hr1.mono (by omega), hp1⟩
  · go_wp2_with fail
    refine (pick_any g (p + 1) 4 _ (by omega) (by omega) (hr1.below (below_alloc _ _))).mono ?_
    rintro e w2 ⟨v, rfl, hv, hr2, hp2⟩
    obtain ⟨v1, v2, _⟩ := hv
    have v3 := v2 (by omega)
    clear v2
    have c0 := lit_cell _ _ hp2 hlt (k := 0) rfl
    have c1 := lit_cell _ _ hp2 hlt (k := 1) rfl
    have c2 := lit_cell _ _ hp2 hlt (k := 2) rfl
    have c3 := lit_cell _ _ hp2 hlt (k := 3) rfl
    have HP : Hid (Pk g w w2) := (hp1.trans (Pk.of_below (below_alloc _ _))).trans hp2
    have HR := Lib.hid hr2
    clear hp2 hp1 hr1 hr2 hr
    have h4 : v = 0 ∨ v = 1 ∨ v = 2 ∨ v = 3 := by omega
    clear v1 v3
    rcases h4 with rfl | rfl | rfl | rfl
    all_goals
      go_wp2_with fail
      go_ret
      exact ⟨_, rfl, by omega, by omega, HR.out.mono (by omega), HP.out⟩
  · go_wp2_with fail
    refine (pick_any g (p + 1) 21 _ (by omega) (by omega) hr1).mono ?_
    rintro e w2 ⟨v, rfl, hv, hr2, hp2⟩
    obtain ⟨v1, v2, _⟩ := hv
    have v3 := v2 (by omega)
    clear v2
    have e1 : IntKind.i64.wrap (v - 10) = v - 10 := IntWalk.i64_in _ (by omega)
    have e2 : IntKind.i64.wrap ((v - 10) * 1000) = (v - 10) * 1000 := IntWalk.i64_in _ (by omega)
    go_wp2_with fail
    go_ret
    exact ⟨_, rfl, by omega, by omega, hr2.mono (by omega), hp1.trans hp2⟩
  · go_wp2_with fail
    refine (pick_any g (p + 1) 256 _ (by omega) (by omega) hr1).mono ?_
    rintro e w2 ⟨v, rfl, hv, hr2, hp2⟩
    obtain ⟨v1, v2, _⟩ := hv
    have v3 := v2 (by omega)
    clear v2
    have e1 : IntKind.i64.wrap (v * 40) = v * 40 := IntWalk.i64_in _ (by omega)
    have e2 : IntKind.i64.wrap (v * 40 - 5000) = v * 40 - 5000 := IntWalk.i64_in _ (by omega)
    go_wp2_with fail
    go_ret
    exact ⟨_, rfl, by omega, by omega, hr2.mono (by omega), hp1.trans hp2⟩
end Go.Proofs.YtnomlkkhkacajaaGreatDoor
namespace Go.Proofs.YtnomlkkhkacajaaGreatDoor
open Go.RowKit

/-- A number of few thousandths. -/
def Ord (z : C) : Prop := ∃ a b : Int, -10000 ≤ a ∧ a ≤ 10000 ∧ -10000 ≤ b ∧ b ≤ 10000 ∧ z = milli a b
/-- A number that may be anything out of the six ways. -/
def Spc (z : C) : Prop := Ord z ∨ finB z = false ∨ z = (2123789977, 4271273625) ∨ z = (7136239, 2149862394) ∨
  (Fin Ieee.single z.1 ∧ val Ieee.single z.1 = 0 ∧ Fin Ieee.single z.2 ∧ val Ieee.single z.2 = 0) ∨ ∃ o, Ord o ∧ z = (2137108966, o.1)
theorem not_fin_inf : ¬ Fin Ieee.single 2139095040 := by unfold Fin; decide
theorem mul_zero {x : Nat} (h : Fin Ieee.single x) : ∃ r, floatBits .mul .f32 x 0 = some r ∧ Fin Ieee.single r ∧ val Ieee.single r = 0 := by
  obtain ⟨r, e, hr⟩ := mul_spec h zero32.1
  have h0 : val Ieee.single x * val Ieee.single 0 = 0 := by rw [zero32.2]; grind
  have := hr.exact (t := false) (z := 0) (by decide) (by rw [rv_zero, h0]; rfl)
  exact ⟨r, e, this.1, by rw [this.2]; exact h0⟩
theorem mp_neg {n : Int} (h1 : -9999999 ≤ n) (h2 : n ≤ 9999999) : Fin Ieee.single (Op.negFloat .f32 (mp n)) :=
  (neg_rnd (k := .f32) (narrow_spec (mq_spec h1 h2).2.1)).2.2 (mp_spec h1 h2).1
theorem nan_not {b : Nat} (h : NaN .f32 b) : ¬ Fin Ieee.single b := fun hf => by
  unfold NaN at h; unfold Fin rg at hf; exact absurd hf (Nat.not_lt.2 (Nat.le_of_lt h))
def RetZ (w : World) (g p : Nat) (n : Int) (e : Ending) (w' : World) : Prop := ∃ z, e = .returned (cv z) ∧ (n ≤ 0 → Ord z) ∧ Spc z ∧ Rd w' g p ∧ Pk g w w'
theorem retZ_mk {w w' : World} {g p : Nat} {n : Int} {x y : Nat} (h1 : n ≤ 0 → Ord (x, y)) (h2 : Spc (x, y)) (h3 : Rd w' g p) (h4 : Pk g w w') : RetZ w g p n (.returned (.complex .f32 x y)) w' := ⟨(x, y), rfl, h1, h2, h3, h4⟩

set_option maxHeartbeats 2000000 in
set_option maxRecDepth 100000 in
theorem num_any (g p : Nat) (n : Int) (w : World) (hp : p ≤ 900000) (hn : n ≤ 1000000) (hr : Rd w g p) :
    Calls Tryz.prog 108 #[.pointer (some ⟨g, 0, none⟩), .int .i64 n] w (RetZ w g (p + 6) n) := by
  go_enter Tryz.func108, Tryz.ntmps108
  go_wp2_with fail
  refine (part_any g p w (by omega) hr).mono ?_
  rintro e w1 ⟨a, rfl, a1, a2, hr1, hp1⟩
  go_wp2_with fail
  refine (part_any g (p + 2) w1 (by omega) hr1).mono ?_
  rintro e w2 ⟨b, rfl, b1, b2, hr2, hp2⟩
  have hm := milli_yes (a := a) (b := b) (inB_true (by omega) (by omega)) (inB_true (by omega) (by omega))
  have hz : milli a b = (mp a, mp b) := by unfold milli; rw [if_pos]; rw [show milB a = true from inB_true (by omega) (by omega), show milB b = true from inB_true (by omega) (by omega)]; rfl
  have HO : Hid (Ord (mp a, mp b)) := ⟨a, b, a1, a2, b1, b2, hz.symm⟩
  have HM : Hid (∀ w, Calls Tryz.prog 107 #[.int .i64 a, .int .i64 b] w fun e w' => e = .returned (.complex .f32 (mp a) (mp b)) ∧ w' = w) := fun w => by rw [← hm]; exact sMilli a b w
  have fa := mp_neg (n := a) (by omega) (by omega)
  have fb := mp_neg (n := b) (by omega) (by omega)
  obtain ⟨ra, qa, ra1, ra2⟩ := mul_zero fa
  obtain ⟨rb, qb, rb1, rb2⟩ := mul_zero fb
  have HZ : Hid (Spc (ra, rb)) := .inr (.inr (.inr (.inr (.inl ⟨ra1, ra2, rb1, rb2⟩))))
  have qa' := fun w => run_float_arith (P := Tryz.prog) w .mul 131 .f32 _ _ _ qa
  have qb' := fun w => run_float_arith (P := Tryz.prog) w .mul 131 .f32 _ _ _ qb
  clear qa qb ra1 ra2 rb1 rb2 fa fb hm hz
  have HP2 : Hid (Pk g w w2) := hp1.trans hp2
  have HR2 := Lib.hid hr2
  clear hp1 hp2 hr1 hr2 hr
  generalize mp a = x at *
  generalize mp b = y at *
  go_wp2_with fail
  refine (HM.out _).mono ?_
  rintro e w' ⟨rfl, rfl⟩
  go_wp2_with fail
  refine (odd_any g (p + 4) n w' (by omega) hn HR2.out).mono ?_
  rintro e w3 ⟨v, rfl, hv, hr3, hp3⟩
  have HP3 : Hid (Pk g w w3) := HP2.out.trans hp3
  have HR3 := Lib.hid hr3
  have HV := Lib.hid hv
  clear hp3 hr3 hv
  cases v with
  | false =>
    go_wp2_with fail
    go_ret
    exact retZ_mk (fun _ => HO.out) (.inl HO.out) (HR3.out.mono (by omega)) HP3.out
  | true =>
    have HN : Hid (n ≤ 0 → Ord (x, y)) := fun h => absurd (HV.out h) (by decide)
    have hn0 : ¬ n ≤ 0 := fun h => absurd (HV.out h) (by decide)
    have k1 := fun w => run_float_arith (P := Tryz.prog) w .mul 131 .f32 2123789977 1092616192 2139095040 (by kernel_rfl)
    have k2 := fun w => run_float_arith (P := Tryz.prog) w .quo 131 .f32 1065353216 2123789977 7136239 (by kernel_rfl)
    have k3 := fun w => run_float_arith (P := Tryz.prog) w .mul 131 .f32 2123789977 1077936128 2137108966 (by kernel_rfl)
    have k4 := fun w => run_float_arith (P := Tryz.prog) w .quo 131 .f32 3212836864 2137108966 2149862394 (by kernel_rfl)
    have k5 : Op.negFloat .f32 2123789977 = 4271273625 := by kernel_rfl
    go_wp2_with fail
    refine (pick_any g (p + 5) 6 w3 (by omega) (by omega) HR3.out).mono ?_
    rintro e w4 ⟨v, rfl, hv, hr4, hp4⟩
    obtain ⟨v1, v2, _⟩ := hv
    have v3 := v2 (by omega)
    clear v2
    have HP4 : Hid (Pk g w w4) := HP3.out.trans hp4
    have HR4 : Hid (Rd w4 g (p + 6)) := hr4
    clear hp4 hr4
    have h6 : v = 0 ∨ v = 1 ∨ v = 2 ∨ v = 3 ∨ v = 4 ∨ v = 5 := by omega
    clear v1 v3
    have HF : ∀ y, Spc (2139095040, y) := fun y => .inr (.inl (by
      have := not_fin_inf
      cases h : finB (2139095040, y) with
      | false => rfl
      | true => exact absurd (finB_iff.1 h).1 this))
    have HF' := Lib.hid HF
    clear HF
    rcases h6 with rfl | rfl | rfl | rfl | rfl | rfl
    · go_wp2_with fail
      go_ret
      exact retZ_mk (fun h => absurd h (by omega)) (HF'.out _) HR4.out HP4.out
    · obtain ⟨nb, hnb, q2⟩ := run_float_nan Tryz.prog (.inr (.inl rfl)) 131 (k := .f32) (x := 2139095040) (y := 2139095040) (by kernel_rfl)
      have HNB := Lib.hid hnb
      clear hnb
      go_wp2_with fail
      go_ret
      refine retZ_mk (fun h => absurd h (by omega)) (.inr (.inl ?_)) (HR4.out.drewN _) (HP4.out.drewN _)
      cases h : finB (y, nb w4) with
      | false => rfl
      | true => exact absurd (finB_iff.1 h).2 (nan_not (HNB.out _))
    · go_wp2_with fail
      go_ret
      exact retZ_mk (fun h => absurd h (by omega)) (.inr (.inr (.inl rfl))) HR4.out HP4.out
    · go_wp2_with fail
      go_ret
      exact retZ_mk (fun h => absurd h (by omega)) (.inr (.inr (.inr (.inl rfl)))) HR4.out HP4.out
    · go_wp2_with fail
      go_ret
      exact retZ_mk (fun h => absurd h (by omega)) HZ.out HR4.out HP4.out
    · go_wp2_with fail
      go_ret
      exact retZ_mk (fun h => absurd h (by omega)) (.inr (.inr (.inr (.inr (.inr ⟨_, HO.out, rfl⟩))))) HR4.out HP4.out
end Go.Proofs.YtnomlkkhkacajaaGreatDoor
