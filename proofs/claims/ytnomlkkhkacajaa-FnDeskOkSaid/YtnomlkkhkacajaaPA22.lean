/- Texts on the way to a law (O1, O2), each with its own remark. -/
import Derived.Test.YtnomlkkhkacajaaPA21
import Derived.Test.YtnomlkkhkacajaaPA13
namespace Go.Proofs.Ytnomlkkhkacajaa
open Go.RowKit

def triD (n k : Nat) : Nat := (floatBits .quo .f32 (floatOfInt .f32 (2 * (k : Int))) (floatOfInt .f32 (n : Int))).getD 0
def triE (n k : Nat) : Nat := (floatBits .sub .f32 1073741824 (triD n k)).getD 0
def smoH (n k : Nat) : Nat := (floatBits .mul .f32 (turnC (16 / (n : Int) * (k : Int))).1 1056964608).getD 0
def smoW (n k : Nat) : Nat := (floatBits .sub .f32 1056964608 (smoH n k)).getD 0
/-- The words of a window. -/
def winW (kind : Int) (n k : Nat) : Nat := if kind = 0 then 1056964608 else if kind = 1 then (if n / 2 ≤ k then triE n k else triD n k) else smoW n k
def winN (n : Nat) : Bool := n == 2 || n == 4 || n == 8 || n == 16
theorem winN_iff {n : Nat} : winN n = true ↔ n = 2 ∨ n = 4 ∨ n = 8 ∨ n = 16 := by unfold winN; simp [or_assoc]
def winOk (kind : Int) (n : Nat) : Bool := winN n && decide (0 ≤ kind) && decide (kind ≤ 2)
theorem winOk_iff {kind : Int} {n : Nat} : winOk kind n = true ↔ (n = 2 ∨ n = 4 ∨ n = 8 ∨ n = 16) ∧ 0 ≤ kind ∧ kind ≤ 2 := by
  unfold winOk; rw [Bool.and_eq_true, Bool.and_eq_true, winN_iff, decide_eq_true_eq, decide_eq_true_eq]
  exact ⟨fun h => ⟨h.1.1, h.1.2, h.2⟩, fun h => ⟨⟨h.1, h.2.1⟩, h.2.2⟩⟩
def winChk (n k : Nat) : Bool :=
  floatBits .quo .f32 (floatOfInt .f32 (2 * (k : Int))) (floatOfInt .f32 (n : Int)) == some (triD n k) &&
  floatBits .sub .f32 1073741824 (triD n k) == some (triE n k) &&
  floatBits .mul .f32 (turnC (16 / (n : Int) * (k : Int))).1 1056964608 == some (smoH n k) &&
  floatBits .quo .f32 (turnC (16 / (n : Int) * (k : Int))).1 1073741824 == some (smoH n k) &&
  floatBits .sub .f32 1056964608 (smoH n k) == some (smoW n k) &&
  decide (rg Ieee.single (winW 0 n k) ≤ 1065353216) && decide (rg Ieee.single (winW 1 n k) ≤ 1065353216) && decide (rg Ieee.single (winW 2 n k) ≤ 1065353216)
theorem win_tab : ([2, 4, 8, 16].all fun n => (List.range n).all (winChk n)) = true := by decide +kernel
/-- How a word of a window comes. -/
structure WinS (n k : Nat) : Prop where
  d : floatBits .quo .f32 (floatOfInt .f32 (2 * (k : Int))) (floatOfInt .f32 (n : Int)) = some (triD n k)
  e : floatBits .sub .f32 1073741824 (triD n k) = some (triE n k)
  h : floatBits .mul .f32 (turnC (16 / (n : Int) * (k : Int))).1 1056964608 = some (smoH n k)
  q : floatBits .quo .f32 (turnC (16 / (n : Int) * (k : Int))).1 1073741824 = some (smoH n k)
  w : floatBits .sub .f32 1056964608 (smoH n k) = some (smoW n k)
  b0 : rg Ieee.single (winW 0 n k) ≤ 1065353216
  b1 : rg Ieee.single (winW 1 n k) ≤ 1065353216
  b2 : rg Ieee.single (winW 2 n k) ≤ 1065353216
theorem winS {n k : Nat} (hn : n = 2 ∨ n = 4 ∨ n = 8 ∨ n = 16) (hk : k < n) : WinS n k := by
  have h1 := List.all_eq_true.1 win_tab n (by rcases hn with rfl | rfl | rfl | rfl <;> decide)
  have h2 := List.all_eq_true.1 h1 k (List.mem_range.2 hk)
  simp only [winChk, Bool.and_eq_true, beq_iff_eq, decide_eq_true_eq] at h2
  obtain ⟨⟨⟨⟨⟨⟨⟨a, b⟩, c⟩, d⟩, e⟩, f⟩, g⟩, h⟩ := h2
  exact ⟨a, b, c, d, e, f, g, h⟩
theorem part_of_rg {x : Nat} (h : rg Ieee.single x ≤ 1065353216) : Fin Ieee.single x ∧ val Ieee.single x ≤ 1 ∧ -1 ≤ val Ieee.single x := by
  have h1 : rv Ieee.single (rg Ieee.single x) ≤ rv Ieee.single 1065353216 := rv_le _ h
  have h2 : rv Ieee.single 1065353216 = 1 := w_one.2
  have h3 := rv_nonneg Ieee.single (rg Ieee.single x)
  rw [h2] at h1
  refine ⟨Nat.lt_of_le_of_lt h (by decide), ?_⟩
  unfold val
  cases sg Ieee.single x
  · rw [sr_false]; constructor <;> grind
  · rw [sr_true]; constructor <;> grind
theorem winW_part {kind : Int} {n k : Nat} (h : winOk kind n = true) (hk : k < n) : Fin Ieee.single (winW kind n k) ∧ val Ieee.single (winW kind n k) ≤ 1 ∧ -1 ≤ val Ieee.single (winW kind n k) := by
  obtain ⟨hn, k0, k1⟩ := winOk_iff.1 h
  have hs := winS hn hk
  refine part_of_rg ?_
  have : kind = 0 ∨ kind = 1 ∨ kind = 2 := by omega
  rcases this with rfl | rfl | rfl
  · exact hs.b0
  · exact hs.b1
  · exact hs.b2
/-- The words of a window, if there is one. -/
def winL (kind : Int) (n : Nat) : List Nat := if winOk kind n then (List.range n).map (winW kind n) else []
theorem winL_no {kind : Int} {n : Nat} (h : winOk kind n = false) : winL kind n = [] := by unfold winL; rw [h]; rfl
theorem winL_yes {kind : Int} {n : Nat} (h : winOk kind n = true) : winL kind n = (List.range n).map (winW kind n) := by unfold winL; rw [h]; rfl
theorem winL_len {kind : Int} {n : Nat} (h : winOk kind n = true) : (winL kind n).length = n := by rw [winL_yes h, List.length_map, List.length_range]
def mulS (x u : Nat) : Nat := (floatBits .mul .f32 x u).getD 0
theorem mulS_spec {x u : Nat} (hx : Fin Ieee.single x) (hu : Fin Ieee.single u) : floatBits .mul .f32 x u = some (mulS x u) ∧ Rnd Ieee.single (val Ieee.single x * val Ieee.single u) (mulS x u) := by
  obtain ⟨r, e, hr⟩ := mul_spec hx hu
  have e' : floatBits .mul .f32 x u = some r := e
  unfold mulS
  rw [e']
  exact ⟨rfl, hr⟩
def lessC (z : C) (u : Nat) : C := (mulS z.1 u, mulS z.2 u)
/-- A signal times a window. -/
def winM (xs : List C) (kind : Int) (n : Nat) : List C := rngL (fun i => lessC (nth xs i) (winW kind n i)) n
def winF (xs : List C) (kind : Int) : Option (List C) := if sigB xs && winOk kind xs.length then some (winM xs kind xs.length) else none
theorem winF_no {xs : List C} {kind : Int} (h : sigB xs = false ∨ winOk kind xs.length = false) : winF xs kind = none := by
  unfold winF
  rcases h with h | h
  · rw [h]; rfl
  · rw [h, Bool.and_false]; rfl
theorem winF_yes {xs : List C} {kind : Int} {n : Nat} (hl : xs.length = n) (h : sigB xs = true) (h2 : winOk kind n = true) : winF xs kind = some (winM xs kind n) := by
  unfold winF; rw [hl, h, h2]; rfl
/-- A product with a part of at most 1 is a word. -/
theorem mulS_pb {x u : Nat} {a : Int} (hx : Fin Ieee.single x) (hu : Fin Ieee.single u) (h1 : val Ieee.single x ≤ p2 a) (h2 : -p2 a ≤ val Ieee.single x) (u1 : val Ieee.single u ≤ 1) (u2 : -1 ≤ val Ieee.single u) (ha : -149 ≤ a) (hb : a ≤ 123) :
    Fin Ieee.single (mulS x u) ∧ val Ieee.single (mulS x u) ≤ p2 a ∧ -p2 a ≤ val Ieee.single (mulS x u) := by
  obtain ⟨_, r⟩ := mulS_spec hx hu
  obtain ⟨q1, q2⟩ := mul_part h1 h2 u1 u2
  have := rnd_le (n := 1) (e := a) r (by decide) (Int.le_trans (by decide) ha) (lt_inf32 (by decide) hb) (by rw [one_mul_p2]; exact q1) (by rw [one_mul_p2]; exact q2)
  rw [one_mul_p2] at this
  exact this
theorem Lv.win {xs l : List C} {a kind : Int} (h : Lv xs a) (h1 : -149 ≤ a) (h2 : a ≤ 123) (he : winF xs kind = some l) : l.length = xs.length ∧ Lv l a := by
  unfold winF at he
  split at he
  · rename_i hc
    cases he
    rw [Bool.and_eq_true] at hc
    refine ⟨by unfold winM; rw [rngL_len], ?_⟩
    unfold winM
    refine Lv.rng fun i hi => ?_
    obtain ⟨hf, ⟨z1, z2⟩, ⟨z3, z4⟩⟩ := h i hi
    rw [one_mul_p2] at z1 z2 z3 z4
    obtain ⟨fa, fb⟩ := finB_iff.1 hf
    obtain ⟨u0, u1, u2⟩ := winW_part hc.2 hi
    obtain ⟨a1, a2, a3⟩ := mulS_pb fa u0 z1 z2 u1 u2 h1 h2
    obtain ⟨b1, b2, b3⟩ := mulS_pb fb u0 z3 z4 u1 u2 h1 h2
    unfold Pb
    rw [one_mul_p2]
    exact ⟨finB_iff.2 ⟨a1, b1⟩, ⟨a2, a3⟩, ⟨b2, b3⟩⟩
  · cases he
/-- The signal moved round, where that is told. -/
def movF (xs : List C) (b : Int) : List C := if sigB xs && inB b (-99) 99 then movL xs xs.length b else []
theorem movF_no {xs : List C} {b : Int} (h : sigB xs = false ∨ inB b (-99) 99 = false) : movF xs b = [] := by
  unfold movF
  rcases h with h | h
  · rw [h]; rfl
  · rw [h, Bool.and_false]; rfl
theorem movF_yes {xs : List C} {b : Int} {n : Nat} (hl : xs.length = n) (h : sigB xs = true) (h2 : inB b (-99) 99 = true) : movF xs b = movL xs n b := by
  unfold movF; rw [h, h2, hl]; rfl
end Go.Proofs.Ytnomlkkhkacajaa
namespace Go.Proofs.Ytnomlkkhkacajaa
open Go.RowKit

theorem Try.eG : Elem Try.prog 73 57 (.float .f32 0) 4 := Elem.mk' Try.underlying73 (by kernel_rfl) rfl
def gv (x : Nat) : Value := .float .f32 x
/-- A list of words of single precision. -/
def RetWn (w : World) (ws : List Nat) (e : Ending) (w' : World) : Prop :=
  ∃ (A : Option Addr) (c : Nat), e = .returned (.slice A ws.length c) ∧ Ow w' w.heap.size 57 (.slice A ws.length c) ws.length (ws.map gv) ∧ Below w.heap.size w w'
theorem win_snoc (f : Nat → Nat) (k : Nat) : ((List.range k).map f).map gv ++ [gv (f k)] = ((List.range (k + 1)).map f).map gv := by rw [List.range_succ, List.map_append, List.map_append]; rfl
theorem sWindow_no (kind : Int) (n : Nat) (w : World) (hn : n ≤ 1048576) (h : winOk kind n = false) : Calls Try.prog 41 #[.int .i64 kind, .int .i64 n] w (RetWn w []) := by
  have HE := Lib.hid (Ow.empty w 57)
  have HB0 := Lib.hid (below_alloc w (.cells #[] 57))
  cases hw : winN n
  · have h2 : ¬ (n : Int) = 2 := by intro e; rw [show n = 2 by omega] at hw; exact absurd hw (by decide)
    have h4 : ¬ (n : Int) = 4 := by intro e; rw [show n = 4 by omega] at hw; exact absurd hw (by decide)
    have h8 : ¬ (n : Int) = 8 := by intro e; rw [show n = 8 by omega] at hw; exact absurd hw (by decide)
    have h16 : ¬ (n : Int) = 16 := by intro e; rw [show n = 16 by omega] at hw; exact absurd hw (by decide)
    clear h hw hn
    go_enter Try.func41, Try.ntmps41
    go_wp2_with fail
    go_ret
    exact ⟨_, _, rfl, HE.out, HB0.out⟩
  · have hin : inB kind 0 2 = false := by
      unfold winOk at h; rw [hw] at h
      rw [inB_false_iff]
      simp only [Bool.true_and, Bool.and_eq_false_iff, decide_eq_false_iff_not] at h
      omega
    have HIN := Lib.hid hin
    obtain ⟨N, hN⟩ : ∃ N : Int, N = (n : Int) := ⟨_, rfl⟩
    have hc : N = 2 ∨ N = 4 ∨ N = 8 ∨ N = 16 := by have := winN_iff.1 hw; omega
    rw [← hN]
    clear h hw hn hin hN
    rcases hc with rfl | rfl | rfl | rfl
    all_goals
      go_enter Try.func41, Try.ntmps41
      go_wp2_with fail
      refine (l1In_any _ _ _ _).mono ?_
      rintro e w' ⟨rfl, rfl⟩
      rw [HIN.out]
      go_wp2_with fail
      go_ret
      exact ⟨_, _, rfl, HE.out, HB0.out⟩

set_option maxHeartbeats 8000000 in
set_option maxRecDepth 100000 in
theorem sWindow0 (n : Nat) (w : World) (hn : n = 2 ∨ n = 4 ∨ n = 8 ∨ n = 16) : Calls Try.prog 41 #[.int .i64 0, .int .i64 n] w (RetWn w ((List.range n).map (winW 0 n))) := by
  have HE : Hid (Ow (w.alloc (.cells #[] 57)) w.heap.size 57 (.slice (some ⟨w.heap.size, 0, none⟩) 0 0) 0 (((List.range 0).map (winW 0 n)).map gv)) := Lib.hid (Ow.empty w 57)
  have HB0 := Lib.hid (below_alloc w (.cells #[] 57))
  obtain ⟨N, hN⟩ : ∃ N : Int, N = (n : Int) := ⟨_, rfl⟩
  have hc : N = 2 ∨ N = 4 ∨ N = 8 ∨ N = 16 := by omega
  have h16 : n ≤ 16 := by omega
  rw [← hN]
  clear hn
  rcases hc with rfl | rfl | rfl | rfl
  all_goals
    have HNn := Lib.hid hN
    clear hN
    go_enter Try.func41, Try.ntmps41
    go_wp2_with fail
    refine (l1In_any _ _ _ _).mono ?_
    rintro e w' ⟨rfl, rfl⟩
    rw [show inB 0 0 2 = true from rfl]
    go_wp2_with fail
    go_loopw [5, 6] (fun v i wr => ∃ k : Nat, k ≤ n ∧ i = .int .i64 k ∧ Ow wr w.heap.size 57 v k (((List.range k).map (winW 0 n)).map gv) ∧ Below w.heap.size w wr) (fun _ i _ => n - (intOf i).toNat)
    case atStart => first | exact ⟨0, by omega, rfl, HE.out, HB0.out⟩ | ((repeat apply Exists.intro); exact ⟨by omega, rfl, HE.out, HB0.out⟩)
    case round =>
      obtain ⟨k, hk, rfl, ho, hb⟩ := hrel
      have HO := Lib.hid ho
      have HB := Lib.hid hb
      have hsz := hb.size
      clear ho hb
      by_cases hlt : k < n
      · have hlN := Int.lt_of_lt_of_le (Int.ofNat_lt.2 hlt) (Int.le_of_eq HNn.out.symm)
        have HN := Lib.hid (win_snoc (winW 0 n) k)
        have hw : winW 0 n k = 1056964608 := rfl
        rw [hw] at HN
        clear hw
        go_wp2_with (at_builtin; refine wl_appB w.heap.size [.float .f32 1056964608] hsz rfl (.tmp 61) (.tmp 63) 73 rfl Try.eG _ k _ rfl HO.out rfl (by simp [Value.oneCell']) (by simp [maxLen]; omega) (by simp; omega) ?_; intro v' w4 ho4 hb4)
        have HO4 : Hid (Ow w4 w.heap.size 57 v' (k + 1) (((List.range (k + 1)).map (winW 0 n)).map gv)) := by
          show Ow _ _ _ _ _ _
          rw [← HN.out]; exact ho4
        have HB4 : Hid (Below w.heap.size w w4) := HB.out.trans hb4
        clear ho4 hb4
        go_roundw
        case rel => first | exact ⟨k + 1, by omega, by go_num, HO4.out, HB4.out⟩ | ((repeat apply Exists.intro); exact ⟨⟨k + 1, by omega, by go_num, HO4.out, HB4.out⟩, rfl⟩)
        case measure => simp [intOf]; omega
      · obtain rfl : k = n := by omega
        have hlN := Int.not_lt.2 (Int.le_of_eq HNn.out)
        obtain ⟨A2, c2, rfl⟩ := HO.out.shape
        have HR : Hid (RetWn w ((List.range k).map (winW 0 k)) (.returned (.slice A2 k c2)) wr) := by
          have e : ((List.range k).map (winW 0 k)).length = k := by rw [List.length_map, List.length_range]
          exact ⟨_, _, by rw [e], by rw [e]; exact HO.out, HB.out⟩
        go_wp2_with fail
        go_ret
        exact HR.out
end Go.Proofs.Ytnomlkkhkacajaa
