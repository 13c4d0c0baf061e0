/- Two signals laid over each other; the draw of the law on tones. -/
import Derived.Test.YtficlmnjbbpicaaK5
import Derived.Test.YtficlmnjbbpicaaT5
import Derived.Test.YtficlmnjbbpicaaD7
namespace Go.Proofs.Ytficlmnjbbpicaa
open Go.RowKit

def neg2 (z : C) : C := (z.1, Op.negFloat .f32 z.2)
/-- The sum of the first products with the second signal's mirrored numbers. -/
def layT (xs ys : List C) : Nat → Option C
  | 0 => some (0, 0)
  | i + 1 => sumStep (layT xs ys i) (mulC (nth xs i) (neg2 (nth ys i)))
theorem second_any (z : C) (w : World) : Calls Try.prog 81 #[cv z] w fun e w' => e = .returned (cv (neg2 z)) ∧ Dr w w' := by
  obtain ⟨a, b⟩ := z
  unfold neg2 cv
  go_enter Try.func81, Try.ntmps81
  go_wp2_with fail
  go_ret
  exact ⟨rfl, 0, rfl⟩
set_option maxHeartbeats 2000000 in
set_option maxRecDepth 100000 in
theorem iLaid (A A' : Option Addr) (n c c' : Nat) (xs ys : List C) (w : World) (hx : Cs w A n xs) (hy : Cs w A' n ys) (hs : sigB xs = true) (hs2 : sigB ys = true)
    (hf : ∀ i, i < n → finB (neg2 (nth ys i)) = true ∧ finB (mulC (nth xs i) (neg2 (nth ys i))) = true) (hl : ∀ i, i ≤ n → ∃ s, layT xs ys i = some s ∧ finB s = true) :
    Calls Try.prog 34 #[.slice A n c, .slice A' n c'] w fun e w' => e = .returned (.tuple #[cv ((layT xs ys n).getD (0, 0)), .bool true]) ∧ Dr w w' := by
  have hl1 := hx.len
  have h16 : n ≤ 16 := by rw [← hl1]; exact sig_len hs
  have HC : Hid (∀ w, Cs w A n xs → Calls Try.prog 30 #[.slice A n c] w fun e w' => e = .returned (.bool true) ∧ Dr w w') := fun w h => by rw [← hs]; exact iSignalOk A n c xs w (by omega) h
  have HC2 : Hid (∀ w, Cs w A' n ys → Calls Try.prog 30 #[.slice A' n c'] w fun e w' => e = .returned (.bool true) ∧ Dr w w') := fun w h => by rw [← hs2]; exact iSignalOk A' n c' ys w (by omega) h
  have HP : Hid (∀ i, i < n → ∀ s, layT xs ys i = some s → ∃ t, layT xs ys (i + 1) = some t ∧ ∀ w, Calls Try.prog 80 #[cv s, cv (nth xs i), cv (neg2 (nth ys i))] w fun e w' => e = .returned (.tuple #[cv t, .bool true]) ∧ Dr w w') := fun i hi s h => by
    obtain ⟨s', h1, h2⟩ := hl i (by omega)
    rw [h] at h1
    injection h1 with h1
    subst h1
    obtain ⟨t, h3, _⟩ := hl (i + 1) (by omega)
    refine ⟨t, h3, fun w => ?_⟩
    have := plus_any s (nth xs i) (neg2 (nth ys i)) h2 (fin_mk hs (by omega)) (hf i hi).1 (hf i hi).2 w
    have e : sumStep (some s) (mulC (nth xs i) (neg2 (nth ys i))) = some t := by rw [← h]; exact h3
    rw [e] at this
    exact this
  clear hs hs2 hf hl hl1
  go_enter Try.func34, Try.ntmps34
  go_wp2_with fail
  refine (HC.out _ hx).mono ?_
  rintro e w' ⟨rfl, m, rfl⟩
  go_wp2_with fail
  refine (HC2.out _ (hy.drewN m)).mono ?_
  rintro e w' ⟨rfl, m2, rfl⟩
  obtain ⟨w0, hw0⟩ : ∃ w0, w0 = (w.drewN m).drewN m2 := ⟨_, rfl⟩
  have HX0 : Hid (Cs w0 A n xs) := by rw [hw0]; exact (hx.drewN m).drewN m2
  have HY0 : Hid (Cs w0 A' n ys) := by rw [hw0]; exact (hy.drewN m).drewN m2
  have HD0 : Hid (Dr w w0) := by rw [hw0]; exact ((Dr.refl w).drewN m).drewN m2
  rw [← hw0]
  clear hw0 hx hy
  go_wp2_with fail
  go_loopw [6, 28] (fun v i wr => ∃ (j : Nat) (s : C), j ≤ n ∧ i = .int .i64 j ∧ v = .complex .f32 s.1 s.2 ∧ layT xs ys j = some s ∧ Dr w0 wr) (fun _ i _ => n - (intOf i).toNat)
  case atStart => exact ⟨0, (0, 0), by omega, rfl, rfl, rfl, Dr.refl _⟩
  case round =>
    obtain ⟨j, s, hj, rfl, rfl, hs, hdr⟩ := hrel
    have HD := Lib.hid hdr
    by_cases hlt : j < n
    · obtain ⟨b, o, rfl, hbl, hc⟩ := HX0.out.at_ hlt
      obtain ⟨b', o', rfl, hbl', hc'⟩ := HY0.out.at_ hlt
      have hck := (hdr.cell _).trans (hc j hlt)
      have hck' := (hdr.cell _).trans (hc' j hlt)
      obtain ⟨t, ht, hp⟩ := HP.out j hlt s hs
      have C1 : Hid (∀ w, Calls Try.prog 81 #[cv (nth ys j)] w fun e w' => e = .returned (cv (neg2 (nth ys j))) ∧ Dr w w') := fun w => second_any _ w
      have C2 := Lib.hid hp
      have HT := Lib.hid ht
      clear hc hc' hp ht hs hdr
      generalize neg2 (nth ys j) = ny at *
      generalize nth xs j = x at *
      generalize nth ys j = y at *
      unfold cv at hck hck' C1 C2
      go_wp2_with fail
      refine (C1.out _).mono ?_
      rintro e w' ⟨rfl, m3, rfl⟩
      go_wp2_with fail
      refine (C2.out _).mono ?_
      rintro e w' ⟨rfl, m4, rfl⟩
      go_wp2_with fail
      go_roundw
      case rel => exact ⟨j + 1, t, by omega, by go_num, rfl, HT.out, HD.out.drewN (m3 + m4)⟩
      case measure => simp [intOf]; omega
    · obtain rfl : j = n := by omega
      have HS := Lib.hid hs
      clear hs hdr
      go_wp2_with fail
      go_ret2
      rw [HS.out]
      exact ⟨rfl, HD0.out.trans HD.out⟩

def pntV : Nat → Int
  | 0 => 1 | 1 => 2 | 2 => 4 | 3 => 4 | 4 => 8 | 5 => 16 | _ => 3
theorem pntV_get : ∀ j, j < 7 → (#[.int .i64 1, .int .i64 2, .int .i64 4, .int .i64 4, .int .i64 8, .int .i64 16, .int .i64 3] : Array Value)[j]? = some (.int .i64 (pntV j))
  | 0, _ => rfl
  | 1, _ => rfl
  | 2, _ => rfl
  | 3, _ => rfl
  | 4, _ => rfl
  | 5, _ => rfl
  | 6, _ => rfl
theorem pntV_bd : ∀ j, j < 7 → 1 ≤ pntV j ∧ pntV j ≤ 16
  | 0, _ => by decide
  | 1, _ => by decide
  | 2, _ => by decide
  | 3, _ => by decide
  | 4, _ => by decide
  | 5, _ => by decide
  | 6, _ => by decide
def RetPK (w : World) (e : Ending) (w' : World) : Prop := ∃ p k : Int, e = .returned (.tuple #[.int .i64 p, .int .i64 k]) ∧ 1 ≤ p ∧ p ≤ 16 ∧ -1 ≤ k ∧ k ≤ p ∧ Below w.heap.size w w'
set_option maxHeartbeats 2000000 in
set_option maxRecDepth 100000 in
theorem drawToneOf_any (A : Option Addr) (n c : Nat) (w : World) (hnc : n ≤ c) (hn : n ≤ 1048576) (h : Code8 w A n) :
    Calls Try.prog 31 #[.slice A n c] w (RetPK w) := by
  go_enter Try.func31, Try.ntmps31
  go_wp2_with fail
  refine (open_any A n c w hnc hn h).mono ?_
  rintro e w0 ⟨g, rfl, hg, hr0, hb0⟩
  have hg0 : g < w0.heap.size := hr0.lt
  have HG := Lib.hid hg
  have HB := Lib.hid hb0
  clear hg hb0 h hnc hn
  go_wp2_with fail
  refine (pick_any g 0 7 _ (by omega) (by omega) (hr0.below (below_alloc _ _))).mono ?_
  rintro e w1 ⟨v, rfl, ⟨v1, v2, _⟩, hr1, hp1⟩
  have v3 := v2 (by omega)
  obtain ⟨j, rfl⟩ := Int.eq_ofNat_of_zero_le v1
  have hj : j < 7 := by omega
  have hji : (j : Int) < 7 := by omega
  have hck : w1.cell? ⟨w0.heap.size, j, none⟩ = some (.int .i64 (pntV j)) := lit_cell _ 3 hp1 hg0 (pntV_get j hj)
  obtain ⟨p1, p2⟩ := pntV_bd j hj
  have HP1 : Hid (Pk g w0 w1) := (Pk.of_below (below_alloc _ _)).trans hp1
  clear hp1 v2 hr0
  generalize pntV j = p at *
  have e1 : IntKind.i64.wrap (p + 1) = p + 1 := IntWalk.i64_in _ (by omega)
  go_wp2_with fail
  refine (pick_any g 1 (p + 1) w1 (by omega) (by omega) hr1).mono ?_
  rintro e w2 ⟨u, rfl, ⟨u1, u2, _⟩, hr2, hp2⟩
  have u3 := u2 (by omega)
  have HP2 := Lib.hid (HP1.out.trans hp2)
  clear hp2 u2 hr1 hck
  go_wp2_with fail
  refine (pick_any g 2 20 w2 (by omega) (by omega) hr2).mono ?_
  rintro e w3 ⟨y, rfl, ⟨y1, y2, _⟩, hr3, hp3⟩
  have y3 := y2 (by omega)
  have HP3 := Lib.hid (HP2.out.trans hp3)
  clear hp3 y2 hr2 hr3
  obtain ⟨q, hq, q0, q1⟩ : ∃ q : Int, y / 19 = q ∧ 0 ≤ q ∧ q ≤ 1 := ⟨y / 19, rfl, by omega, by omega⟩
  have e2 : IntKind.i64.wrap q = q := IntWalk.i64_in _ (by omega)
  have e3 : IntKind.i64.wrap (u - q) = u - q := IntWalk.i64_in _ (by omega)
  go_wp2_with fail
  go_ret2
  exact ⟨p, u - q, by first | rfl | rw [e3], p1, p2, by omega, by omega, HB.out.trans (HP3.out.below HG.out HB.out.size)⟩
end Go.Proofs.Ytficlmnjbbpicaa
