/- Tones: the turns that are yielded one after the other, and the program's function that ranges over them. -/
import Derived.Test.YtficlmnjbbpicaaT4
import Derived.RangeFuncNested
import Derived.RangeFuncBound
import Derived.RangeFuncCalls
import Derived.RangeFuncLeaves
import Derived.Shelf.Abstract
import Derived.Shelf.RegionOpen
import Derived.OwnWalkIn
import Derived.TacticsInMore
import Derived.LoopNIn
import Derived.LoopIn
import Derived.Stop.RegionWithIn
namespace Go.Proofs.Ytficlmnjbbpicaa
open Go.RowKit Go.Shelf
attribute [local go_sem] Oper.semAt_some

/-- make([]T, n), inside a fence. -/
theorem wlIn_make_full {F : Fence} {d : Nat} {P : Program} (w : World) {ops : Array Oper} {rest : List Oper} {o : Oper} {a : Act} {Q : Exit → Act → World → Prop}
    (hg : o.guard = none) (l c : Operand) (t : TypeId) (hop : o.op = Op.makeSlice t l c) {E : TypeId} {z : Value} {bytes : Nat} (he : Elem P t E z bytes)
    (kl kc : IntKind) (m : Nat) (L C : Int) (hl : a.eval l = .int kl L) (hc : a.eval c = .int kc C) (hL : L = (m : Int)) (hC : C = (m : Int)) (b2 : bytes * m ≤ 281474976710656) (b3 : m ≤ maxLen)
    (hK : ∀ w', Ow w' w.heap.size E (.slice (some ⟨w.heap.size, 0, none⟩) m m) m (List.replicate m z) → Below w.heap.size w w' → wpListIn F d P ops Q rest (a.put o.dst (.slice (some ⟨w.heap.size, 0, none⟩) m m)) w') :
    wpListIn F d P ops Q (o :: rest) a w := by
  obtain ⟨i, h2, h3, h4, h5⟩ := he.info
  subst h5
  refine wpListIn_plain hg fun K hK' => ?_
  obtain ⟨w', hrun, r1, r2⟩ := run_make_full (P := P) w w.heap.size t E i z 1 he.und h2 h3 h4 kl kc m b2 b3 (Nat.le_refl _)
  rw [he.one, Nat.mul_one, toList_madeCells_one] at r1
  subst hL
  subst hC
  unfold Oper.wpIn
  refine ⟨?_, ?_⟩
  · simp [Oper.about, hop]
  · rw [Oper.semAt_plain F _ _ (by rw [hop]; intro c hc'; cases hc')]
    simp [execOp, hop, hl, hc, hrun, Result.andThen]
    exact hK' _ _ (hK w' r1 ((Below.refl _ _).grown r2 (Nat.le_refl _) (by simp)))

/-- A place of a tone. -/
abbrev TI (n : Nat) := { i : Nat // i < n }
def encT (n : Nat) (b : Int) (x : TI n) : Array Value := #[.int .i64 x.1, .complex .f32 (turnC (b * x.1)).1 (turnC (b * x.1)).2]
/-- The first places. -/
def upT (n : Nat) : (m : Nat) → m ≤ n → List (TI n)
  | 0, _ => []
  | m + 1, h => upT n m (Nat.le_of_succ_le h) ++ [⟨m, h⟩]
theorem upT_len (n : Nat) : ∀ m h, (upT n m h).length = m
  | 0, _ => rfl
  | m + 1, h => by unfold upT; rw [List.length_append, upT_len n m]; rfl
theorem grown_of_below {w w' : World} (h : Below w.heap.size w w') : w.grownBy w' none := ⟨h.os, h.tape, h.output, h.size, fun k hk _ => h.block k hk⟩

/-- Two blocks stay. -/
def KpT (Bp Bk : Nat) (W W' : World) : Prop := W.heap.size ≤ W'.heap.size ∧ W'.heap[Bp]? = W.heap[Bp]? ∧ W'.heap[Bk]? = W.heap[Bk]?
theorem KpT.refl (Bp Bk : Nat) (W : World) : KpT Bp Bk W W := ⟨Nat.le_refl _, rfl, rfl⟩
theorem KpT.trans {Bp Bk : Nat} {A B D : World} (h : KpT Bp Bk A B) (k : KpT Bp Bk B D) : KpT Bp Bk A D := ⟨Nat.le_trans h.1 k.1, k.2.1.trans h.2.1, k.2.2.trans h.2.2⟩
theorem KpT.of_below {Bp Bk : Nat} {A B : World} (h : Below A.heap.size A B) (hp : Bp < A.heap.size) (hk : Bk < A.heap.size) : KpT Bp Bk A B := ⟨h.size, h.block Bp hp, h.block Bk hk⟩
theorem KpT.putObj {Bp Bk : Nat} {w : World} (hp : Bp < w.heap.size) (hk : Bk < w.heap.size) (W : World) (l : Nat) (o o' : Obj) (hl : w.heap.size ≤ l) (h : W.heap[l]? = some o) (_ : o.isCells = false) (_ : o.isWalk = false) : KpT Bp Bk W (W.putObj l o') :=
  ⟨(grownBy_putObj' W l o').size, World.putObj_heap_other (by omega), World.putObj_heap_other (by omega)⟩

set_option maxHeartbeats 2000000 in
set_option maxRecDepth 100000 in
theorem turns_stops (n : Nat) (k b : Int) (hn : p2B n = true) (hb : 16 / (n : Int) * k = b) (hb1 : -256 ≤ b) (hb2 : b ≤ 256) (Bp Bk : Nat) (w : World) (hp : Bp < w.heap.size) (hk : Bk < w.heap.size)
    (cp : w.cell? ⟨Bp, 0, none⟩ = some (.int .i64 n)) (ck : w.cell? ⟨Bk, 0, none⟩ = some (.int .i64 k)) :
    SeqStopsK Fence.wide 2 Try.prog 102 #[.pointer (some ⟨Bp, 0, none⟩), .pointer (some ⟨Bk, 0, none⟩)] (encT n b) (KpT Bp Bk) (fun xs => xs = upT n n (Nat.le_refl _)) (fun _ => True) n w := fun l J Jx W hW hJ hJx hY h0 => by
  have cpW : W.cell? ⟨Bp, 0, none⟩ = some (.int .i64 n) := (hW.cell (p := ⟨Bp, 0, none⟩) hp).trans cp
  have ckW : W.cell? ⟨Bk, 0, none⟩ = some (.int .i64 k) := (hW.cell (p := ⟨Bk, 0, none⟩) hk).trans ck
  have hn16 : 1 ≤ n ∧ n ≤ 16 := by rcases p2B_iff.1 hn with h | h | h | h | h <;> omega
  obtain ⟨hn1, hn2⟩ := hn16
  have HCK := Lib.hid ckW
  have hp2 : Bp < W.heap.size := Nat.lt_of_lt_of_le hp hW.size
  have hk2 : Bk < W.heap.size := Nat.lt_of_lt_of_le hk hW.size
  have HCP := Lib.hid cpW
  have HBB := Lib.hid hb
  clear cp ck hW hb hn ckW
  refine callsIn_of_wp Try.func102 rfl trivial ?_ rfl
  simp only [Try.ntmps102, List.size_toArray, List.length_cons, List.length_nil, Nat.reduceAdd, Nat.reduceSub, Array.replicate_succ, Array.replicate_zero, List.push_toArray, List.append_toArray, List.nil_append, List.cons_append]
  gi_wp2
  gi_loopw [6] (fun i wr => ∃ (m : Nat) (h : m ≤ n), i = .int .i64 m ∧ J (upT n m h) wr ∧ KpT Bp Bk W wr) (fun i _ => n - (intOf i).toNat)
  case atStart => exact ⟨0, Nat.zero_le _, rfl, h0, KpT.refl _ _ _⟩
  case round =>
    obtain ⟨m, hm, rfl, hJs, hB⟩ := hrel
    by_cases hlt : m < n
    · have c1 : wr.cell? ⟨Bp, 0, none⟩ = some (.int .i64 n) := (World.cell?_of_block (a := ⟨Bp, 0, none⟩) hB.2.1).trans HCP.out
      have c2 : wr.cell? ⟨Bk, 0, none⟩ = some (.int .i64 k) := (World.cell?_of_block (a := ⟨Bk, 0, none⟩) hB.2.2).trans HCK.out
      obtain ⟨d1, d2⟩ := mul_bd (i := m) hb1 hb2 (by omega)
      have e0 : IntKind.i64.wrap (16 / (n : Int)) = 16 / (n : Int) := IntWalk.i64_in _ (by have := Int.ediv_nonneg (show (0 : Int) ≤ 16 by decide) (show (0 : Int) ≤ n by omega); have := Int.ediv_le_self (n : Int) (show (0 : Int) ≤ 16 by decide); omega)
      have e1 : IntKind.i64.wrap (16 / (n : Int) * k) = b := by rw [HBB.out]; exact IntWalk.i64_in _ (by omega)
      have e2 : IntKind.i64.wrap (b * (m : Int)) = b * (m : Int) := IntWalk.i64_in _ (by omega)
      have HY : Hid (∀ w1, Below wr.heap.size wr w1 → ∃ fn tmps assign body, (Instr.yield l #[.int .i64 m, .complex .f32 (turnC (b * m)).1 (turnC (b * m)).2]).run Try.prog w1 = .ok (.round l fn tmps assign body) w1 ∧
          RoundIn Fence.wide 1 Try.prog l fn tmps assign body w1 fun e W' => ∃ bb, e = .returned (.bool bb) ∧ (bb = true → J (upT n (m + 1) hlt) W' ∧ KpT Bp Bk w1 W') ∧ (bb = false → Jx (upT n (m + 1) hlt) W')) := fun w1 hw1 => by
        obtain ⟨fn, tmps, assign, body, hy, hR⟩ := hY (upT n m hm) ⟨m, hlt⟩ w1 (hJ _ wr w1 none hJs (grown_of_below hw1) (fun _ h => by cases h)) (by rw [upT_len]; exact hlt)
        refine ⟨fn, tmps, assign, body, hy, hR.mono ?_⟩
        rintro e W' (⟨rfl, h1, h2⟩ | ⟨rfl, h1⟩)
        · exact ⟨true, rfl, fun _ => ⟨h1, h2⟩, nofun⟩
        · exact ⟨false, rfl, nofun, fun _ => h1⟩
      have HT : Hid (∀ w1, Calls Try.prog 103 #[.int .i64 (b * (m : Int))] w1 (RetQ w1 (turnC (b * m)))) := fun w1 => iTurn _ w1
      have HB := Lib.hid hB
      generalize turnC (b * (m : Int)) = t at *
      clear hJs hB d1 d2
      have hd : 1 ≤ (1 : Nat) := Nat.le_refl _
      gi_wp2
      gi_region_with (first
        | (refine ⟨trivial, ?_⟩; gi_at_call 103; (with_reducible refine CallsIn.mono (callsIn_wide.2 (HT.out _)) ?_); rintro e w1 ⟨rfl, hw1⟩; have hw2 : Below wr.heap.size wr w1 := (⟨hw1.os, hw1.tape, hw1.output, hw1.size, hw1.block⟩); have HW2 := Lib.hid hw2; obtain ⟨fn, tmps, assign, body, hy, hR⟩ := HY.out w1 hw2; have HR := Lib.hid hR; clear hR hw1 hw2; unfold cv)
        | (refine (HR.out).mono ?_; rintro e w2 ⟨bb, rfl, hbt, hbf⟩; have HBT := Lib.hid hbt; have HBF := Lib.hid hbf; clear hbt hbf))
      all_goals
        cases bb with
        | true =>
          obtain ⟨hj2, hkk⟩ := HBT.out rfl
          have HJ2 := Lib.hid hj2
          have HB2 : Hid (KpT Bp Bk W w2) := (HB.out.trans (KpT.of_below HW2.out (by have := HB.out.1; omega) (by have := HB.out.1; omega))).trans hkk
          clear hj2 hkk
          gi_wp2
          go_roundw
          case rel => exact ⟨m + 1, hlt, by go_num, HJ2.out, HB2.out⟩
          case measure => simp [intOf]; omega
        | false =>
          have hx2 := HBF.out rfl
          gi_wp2
          refine bodyPost_ret (results_none rfl _ _ _) rfl ?_
          exact ⟨⟨_, rfl⟩, .inr ⟨_, hx2⟩⟩
    · obtain rfl : m = n := by omega
      gi_wp2
      go_end0
      exact ⟨⟨_, rfl⟩, .inl ⟨_, rfl, hJs⟩⟩
end Go.Proofs.Ytficlmnjbbpicaa
