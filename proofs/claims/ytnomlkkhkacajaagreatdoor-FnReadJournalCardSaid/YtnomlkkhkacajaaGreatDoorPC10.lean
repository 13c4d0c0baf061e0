/- Texts on the way to a law (V3, R1), each with its own remark. -/
import Derived.Test.YtnomlkkhkacajaaGreatDoorPC09
import Derived.Test.YtnomlkkhkacajaaGreatDoorPC07
import Derived.RangeFuncNested
import Derived.RangeFuncBound
import Derived.RangeFuncCalls
import Derived.RangeFuncLeaves
import Derived.Shelf.Abstract
import Derived.Shelf.RegionOpen
import Derived.OwnWalkIn
import Derived.TacticsInMore
import Derived.LoopNIn
import Derived.LoopIn
import Derived.Stop.RegionWithIn
import Derived.Test.YtnomlkkhkacajaaGreatDoorPC08
namespace Go.Proofs.YtnomlkkhkacajaaGreatDoor
open Go.RowKit

def fth (ps : List Nat) (k : Nat) : Nat := ps.getD k 0
theorem fth_get {ps : List Nat} {k : Nat} (h : k < ps.length) : (ps.map fv)[k]? = some (.float .f64 (fth ps k)) := by
  unfold fth
  rw [List.getElem?_map, List.getElem?_eq_getElem h, List.getD_eq_getElem?_getD, List.getElem?_eq_getElem h]; rfl
theorem Sl.flt_at {w : World} {A : Option Addr} {n k : Nat} {ps : List Nat} (h : Sl w A n (ps.map fv)) (hk : k < n) :
    ∃ b o, A = some ⟨b, o, none⟩ ∧ b < w.heap.size ∧ ∀ j, j < n → w.cell? ⟨b, o + j, none⟩ = some (.float .f64 (fth ps j)) := by
  obtain ⟨b, o, hA, hb, hc⟩ := Sl.at_ h hk
  have hl := h.len
  rw [List.length_map] at hl
  exact ⟨b, o, hA, hb, fun j hj => hc j _ (fth_get (by omega))⟩
set_option maxHeartbeats 1000000 in
theorem iSumAll (A : Option Addr) (n c : Nat) (ps : List Nat) (w : World) (hn : n ≤ 16) (hx : Sl w A n (ps.map fv)) (hp : ∀ i, i < n → PwOk (fth ps i)) :
    Calls Tryz.prog 128 #[.slice A n c] w fun e w' => e = .returned (.float .f64 (smT (fth ps) n)) ∧ Dr w w' := by
  have HP := Lib.hid hp
  have HS : Hid (∀ i, i < n → floatBits .add .f64 (smT (fth ps) i) (fth ps i) = some (smT (fth ps) (i + 1))) := fun i hi => (smT_step (smT_ok hn hp i (by omega)).1 (hp i hi).1).1
  clear hp
  go_enter Tryz.func128, Tryz.ntmps128
  go_wp2_with fail
  go_loopw [3, 8] (fun s i wr => ∃ k : Nat, k ≤ n ∧ i = .int .i64 k ∧ s = .float .f64 (smT (fth ps) k) ∧ ∃ m, wr = w.drewN m) (fun _ i _ => n - (intOf i).toNat)
  case atStart => exact ⟨0, by omega, rfl, rfl, 0, rfl⟩
  case round =>
    obtain ⟨k, hk, rfl, rfl, m, rfl⟩ := hrel
    by_cases hlt : k < n
    · obtain ⟨b, o, rfl, hb, hc⟩ := hx.flt_at hlt
      have hck : (w.drewN m).cell? ⟨b, o + k, none⟩ = some (.float .f64 (fth ps k)) := hc k hlt
      have q1 := fun w => run_float_arith (P := Tryz.prog) w .add 120 .f64 _ _ _ (HS.out k hlt)
      clear hc hx
      go_wp2_with fail
      go_roundw
      case rel => exact ⟨k + 1, by omega, by go_num, rfl, m, rfl⟩
      case measure => simp [intOf]; omega
    · obtain rfl : k = n := by omega
      go_wp2_with fail
      go_ret
      exact ⟨rfl, m, rfl⟩

/-- Which tones are great. -/
def tonsL (ps : List Nat) (m : Int) : List Int := (List.range ps.length).map fun k => b2i (tonI (fth ps) ps.length m k)
theorem tonsL_len (ps : List Nat) (m : Int) : (tonsL ps m).length = ps.length := by simp [tonsL]
theorem tonsL_get {ps : List Nat} {n k : Nat} {m : Int} (hl : ps.length = n) (h : k < n) : ((tonsL ps m).map iv)[k]? = some (.int .i64 (b2i (tonI (fth ps) n m k))) := by
  subst hl
  simp [tonsL, h, iv]
def RetIS (w : World) (ys : List Int) (e : Ending) (w' : World) : Prop :=
  ∃ (A : Option Addr) (n c : Nat), n = ys.length ∧ e = .returned (.slice A n c) ∧ Ow w' w.heap.size 3 (.slice A n c) n (ys.map iv) ∧ Below w.heap.size w w'
theorem RetIS.empty {w w' : World} {c g : Nat} (ho : Ow w' w.heap.size 3 (.slice (some ⟨g, 0, none⟩) 0 c) 0 []) (h : Below w.heap.size w w') : RetIS w [] (.returned (.slice (some ⟨g, 0, none⟩) 0 c)) w' := ⟨_, _, _, rfl, rfl, ho, h⟩
/-- What both functions hand back. -/
def tonsO (f : C → Nat) (xs : List C) (m : Int) : List Int := match transF xs with
  | none => []
  | some l => if 0 ≤ m ∧ m ≤ 1000 then tonsL (pwL f l) m else []
theorem pwL_len (f : C → Nat) (l : List C) : (pwL f l).length = l.length := by simp [pwL]
theorem fth_pwL {f : C → Nat} {l : List C} {k : Nat} (h : k < l.length) : fth (pwL f l) k = f (nth l k) := by
  unfold fth pwL
  rw [List.getD_eq_getElem?_getD, List.getElem?_map, List.getElem?_eq_getElem h, nth_eq h]; rfl
theorem tonsO_same {xs : List C} {m : Int} (hg : Good xs) : tonsO pwS xs m = tonsO pwI xs m := by
  unfold tonsO
  cases ht : transF xs with
  | none => rfl
  | some l =>
    have hsz : sizB xs = true := by
      cases hs : sizB xs
      · rw [transF_no hs] at ht; cases ht
      · rfl
    obtain ⟨_, l', e', hl2, hmd⟩ := hg hsz
    rw [ht] at e'
    injection e' with e'
    subst e'
    obtain ⟨s1, s2, s3, s4, s5⟩ := siz_parts hsz
    simp only
    split
    · rename_i hm
      unfold tonsL
      rw [pwL_len, pwL_len]
      refine List.map_congr_left fun k hk => ?_
      have hkl := List.mem_range.1 hk
      rw [tonI_same (ps := fth (pwL pwS l)) (qs := fth (pwL pwI l)) (by omega) (fun i hi => by rw [fth_pwL hi]; exact (pwS_spec (hmd i (by omega)).1).2.2.1) (fun i hi => by rw [fth_pwL hi]; exact (pwI_spec (hmd i (by omega)).1).2.1) (fun i hi => by rw [fth_pwL hi, fth_pwL hi]; exact (pwS_spec (hmd i (by omega)).1).2.2.2) hkl hm.1 hm.2]
    · rfl

set_option maxHeartbeats 2000000 in
set_option maxRecDepth 100000 in
theorem iTones (A : Option Addr) (n c : Nat) (xs : List C) (m : Int) (w : World) (hn : n ≤ 1048576) (hx : Cs w A n xs) (hg : Good xs) :
    Calls Tryz.prog 98 #[.slice A n c, .int .i64 m] w (RetIS w (tonsO pwI xs m)) := by
  have HP : Hid (∀ w, Cs w A n xs → Calls Tryz.prog 124 #[.slice A n c] w (RetF w (pwL pwI ((transF xs).getD [])) (transF xs).isSome)) := fun w h => iPowers A n c xs w hn h hg
  cases ht : transF xs with
  | none =>
    have HN : Hid (tonsO pwI xs m = []) := by show _ = _; unfold tonsO; rw [ht]
    rw [ht] at HP
    clear ht hg
    go_enter Tryz.func98, Tryz.ntmps98
    go_wp2_with fail
    refine (HP.out w hx).mono ?_
    rintro e w1 ⟨A1, c1, rfl, ho1, hb1⟩
    simp only [Option.isSome_none]
    go_wp2_with fail
    go_ret
    rw [HN.out]
    exact ⟨_, _, _, rfl, rfl, Ow.nil_ _ _ _, hb1⟩
  | some l =>
    have hsz : sizB xs = true := by
      cases hs : sizB xs
      · rw [transF_no hs] at ht; cases ht
      · rfl
    obtain ⟨_, l', e', hl2, hmd⟩ := hg hsz
    rw [ht] at e'
    injection e' with e'
    subst e'
    obtain ⟨s1, s2, s3, s4, s5⟩ := siz_parts hsz
    have hPW : ∀ i, i < l.length → PwOk (fth (pwL pwI l) i) := fun i hi => by rw [fth_pwL hi]; exact (pwI_spec (hmd i (by omega)).1).2.1
    by_cases hm : 0 ≤ m ∧ m ≤ 1000
    case neg =>
      have HN : Hid (tonsO pwI xs m = []) := by show _ = _; unfold tonsO; rw [ht]; exact if_neg hm
      have key : m < 0 ∨ (0 ≤ m ∧ 1000 < m) := by omega
      rw [ht] at HP
      clear ht hg hmd hm hPW s1 s2 s3 s4 s5 hl2 hsz
      rcases key with h0 | ⟨h0, h1⟩
      all_goals
        go_enter Tryz.func98, Tryz.ntmps98
        go_wp2_with fail
        refine (HP.out w hx).mono ?_
        rintro e w1 ⟨A1, c1, rfl, ho1, hb1⟩
        simp only [Option.isSome_some]
        go_wp2_with fail
        go_ret
        rw [HN.out]
        exact ⟨_, _, _, rfl, rfl, Ow.nil_ _ _ _, hb1⟩
    obtain ⟨m0, m1⟩ := hm
    have HY : Hid (tonsO pwI xs m = tonsL (pwL pwI l) m) := by show _ = _; unfold tonsO; rw [ht]; exact if_pos ⟨m0, m1⟩
    rw [ht] at HP
    obtain ⟨N, hN⟩ : ∃ N, N = l.length := ⟨_, rfl⟩
    have h16 : N ≤ 16 := by omega
    rw [← hN] at hPW
    obtain ⟨ps, hps⟩ : ∃ ps, ps = pwL pwI l := ⟨_, rfl⟩
    have hpl : ps.length = N := by rw [hps, pwL_len, hN]
    have HPP : Hid (∀ w, Cs w A n xs → Calls Tryz.prog 124 #[.slice A n c] w (RetF w ps true)) := by
      rw [hps]
      exact HP.out
    rw [← hps] at HY hPW
    have HPW := Lib.hid hPW
    have HPL := Lib.hid hpl
    have hS := sm_274 h16 hPW
    have qT := fun w => run_float_arith (P := Tryz.prog) w .mul 120 .f64 _ _ _ (tw_spec hS.1 hS.2.1 hS.2.2 m0 m1).1
    have HM : Hid (∀ i, i < N → floatBits .mul .f64 (fth ps i) 4652007308841189376 = some (mw (fth ps i))) := fun i hi => (mw_spec (hPW i hi)).1
    have HTL : Hid (((tonsL ps m).map iv).length = N) := by show _ = _; rw [List.length_map, tonsL_len]; exact hpl
    clear ht hg hmd hPW s1 s2 s3 s4 s5 hl2 hsz hps hN HP hS hpl
    go_enter Tryz.func98, Tryz.ntmps98
    go_wp2_with fail
    refine (HPP.out w hx).mono ?_
    rintro e w1 ⟨A1, c1, rfl, ho1, hb1⟩
    rw [HPL.out] at ho1 ⊢
    have HX1 : Hid (Sl w1 A1 N (ps.map fv)) := ho1.sl
    have HB1 := Lib.hid hb1
    clear ho1 hb1 hx
    go_wp2_with fail
    refine (iSumAll A1 N c1 ps w1 h16 HX1.out HPW.out).mono ?_
    rintro e w2 ⟨rfl, k2, hw2⟩
    have HX2 : Hid (Sl w2 A1 N (ps.map fv)) := by rw [hw2]; exact HX1.out.drewN k2
    have HB2 : Hid (Below w.heap.size w w2) := by rw [hw2]; exact below_drewN HB1.out k2
    clear hw2
    have HTI : Hid (∀ k, k < N → ∀ b, tonI (fth ps) N m k = b → (FloatKind.f64.format.order (mw (fth ps k)) (tw (smT (fth ps) N) m) == some .gt) = b) := fun k hk b hb => hb
    generalize tw (smT (fth ps) N) m = tt at *
    go_wp2_with (at_make; refine wl_make (w0 := w2) rfl (.tmp 32) (.tmp 32) 92 rfl Tryz.eI .i64 .i64 N _ _ rfl rfl rfl rfl (by omega) (by unfold maxLen; omega) (Below.refl _ _) ?_; intro w3 hown hb3 _)
    have HO3 : Hid (Ow w3 w2.heap.size 3 (.slice (some ⟨w2.heap.size, 0, none⟩) N N) N (fill ((tonsL ps m).map iv) N 0 (.int .i64 0))) := by
      show Ow _ _ _ _ _ _
      rw [fill_zero]
      exact hown
    have HB3 := Lib.hid hb3
    clear hown hb3
    go_loopw [36] (fun i wr => ∃ k : Nat, k ≤ N ∧ i = .int .i64 k ∧ Ow wr w2.heap.size 3 (.slice (some ⟨w2.heap.size, 0, none⟩) N N) N (fill ((tonsL ps m).map iv) N k (.int .i64 0)) ∧ Below w2.heap.size w2 wr) (fun i _ => N - (intOf i).toNat)
    case atStart => exact ⟨0, by omega, rfl, HO3.out, HB3.out⟩
    case round =>
      obtain ⟨k, hk, rfl, ho, hb⟩ := hrel
      have HO := Lib.hid ho
      have HB := Lib.hid hb
      clear ho
      by_cases hlt : k < N
      · obtain ⟨b, o, rfl, hbl, hc⟩ := HX2.out.flt_at hlt
        have hck : wr.cell? ⟨b, o + k, none⟩ = some (.float .f64 (fth ps k)) := (hb.cell (p := ⟨b, o + k, none⟩) hbl).trans (hc k hlt)
        have q1 := fun w => run_float_arith (P := Tryz.prog) w .mul 120 .f64 _ _ _ (HM.out k hlt)
        have HGT := Lib.hid (tonsL_get (ps := ps) (m := m) HPL.out hlt)
        obtain ⟨g, hg, hge, hgl, hcell, hfr, hst⟩ := Ow.at_ HO.out hlt
        injection hg with hg
        injection hg with hg
        subst hg
        have hck2 : wr.cell? ⟨w2.heap.size, k, none⟩ = some (.int .i64 0) := (hcell k hlt).trans (fill_get HTL.out hlt _)
        have hfr2 := hfr k
        have HST := Lib.hid hst
        clear hcell hfr hst hb hc
        cases hti : tonI (fth ps) N m k
        · have o1 := HTI.out k hlt false hti
          have HS : Hid (Ow wr w2.heap.size 3 (.slice (some ⟨w2.heap.size, 0, none⟩) N N) N (fill ((tonsL ps m).map iv) N (k + 1) (.int .i64 0))) := by
            have h2 := HGT.out
            rw [hti] at h2
            have := fill_set HTL.out hlt (.int .i64 0) _ h2
            have e3 : (fill ((tonsL ps m).map iv) N k (.int .i64 0)).set k (.int .i64 (b2i false)) = fill ((tonsL ps m).map iv) N k (.int .i64 0) := by
              refine List.ext_getElem? fun j => ?_
              rw [List.getElem?_set]
              split
              · rename_i hkj
                subst hkj
                have h0 := fill_get HTL.out hlt (.int .i64 0)
                rw [h0]
                have hlen : k < (fill ((tonsL ps m).map iv) N k (.int .i64 0)).length := (List.getElem?_eq_some_iff.1 h0).1
                rw [if_pos hlen]; rfl
              · rfl
            rw [e3] at this
            show Ow _ _ _ _ _ _
            rw [← this]; exact HO.out
          clear hti
          go_wp2_with fail
          go_roundw
          case rel => exact ⟨k + 1, by omega, by go_num, HS.out, HB.out⟩
          case measure => simp [intOf]; omega
        · have o1 := HTI.out k hlt true hti
          have HS : Hid (Ow (wr.setCell ⟨w2.heap.size, k, none⟩ (.int .i64 1)) w2.heap.size 3 (.slice (some ⟨w2.heap.size, 0, none⟩) N N) N (fill ((tonsL ps m).map iv) N (k + 1) (.int .i64 0))) := by
            have h2 := HGT.out
            rw [hti] at h2
            have h3 := HST.out k (.int .i64 1)
            have := fill_set HTL.out hlt (.int .i64 0) (.int .i64 1) h2
            rw [this] at h3
            exact h3
          clear hti
          go_wp2_with fail
          go_roundw
          case rel => exact ⟨k + 1, by omega, by go_num, HS.out, HB.out.setCell (Nat.le_refl _) _⟩
          case measure => simp [intOf]; omega
      · obtain rfl : k = N := by omega
        have HR : Hid (RetIS w (tonsL ps m) (.returned (.slice (some ⟨w2.heap.size, 0, none⟩) k k)) wr) := by
          have h1 := HO.out
          rw [fill_full HTL.out] at h1
          exact ⟨_, _, _, by rw [tonsL_len]; exact HPL.out.symm, rfl, h1.mono HB2.out.size, HB2.out.trans (HB.out.mono HB2.out.size)⟩
        clear hb
        go_wp2_with fail
        go_ret
        rw [HY.out]
        exact HR.out
end Go.Proofs.YtnomlkkhkacajaaGreatDoor
namespace Go.Proofs.YtnomlkkhkacajaaGreatDoor
open Go.RowKit Go.Shelf
attribute [local go_sem] Oper.semAt_some

/-- make([]T, n), inside a fence. -/
theorem wlIn_make_full {F : Fence} {d : Nat} {P : Program} (w : World) {ops : Array Oper} {rest : List Oper} {o : Oper} {a : Act} {Q : Exit → Act → World → Prop}
    (hg : o.guard = none) (l c : Operand) (t : TypeId) (hop : o.op = Op.makeSlice t l c) {E : TypeId} {z : Value} {bytes : Nat} (he : Elem P t E z bytes)
    (kl kc : IntKind) (m : Nat) (L C : Int) (hl : a.eval l = .int kl L) (hc : a.eval c = .int kc C) (hL : L = (m : Int)) (hC : C = (m : Int)) (b2 : bytes * m ≤ 281474976710656) (b3 : m ≤ maxLen)
    (hK : ∀ w', Ow w' w.heap.size E (.slice (some ⟨w.heap.size, 0, none⟩) m m) m (List.replicate m z) → Below w.heap.size w w' → wpListIn F d P ops Q rest (a.put o.dst (.slice (some ⟨w.heap.size, 0, none⟩) m m)) w') :
    wpListIn F d P ops Q (o :: rest) a w := by
  obtain ⟨i, h2, h3, h4, h5⟩ := he.info
  subst h5
  refine wpListIn_plain hg fun K hK' => ?_
  obtain ⟨w', hrun, r1, r2⟩ := run_make_full (P := P) w w.heap.size t E i z 1 he.und h2 h3 h4 kl kc m b2 b3 (Nat.le_refl _)
  rw [he.one, Nat.mul_one, toList_madeCells_one] at r1
  subst hL
  subst hC
  unfold Oper.wpIn
  refine ⟨?_, ?_⟩
  · simp [Oper.about, hop]
  · rw [Oper.semAt_plain F _ _ (by rw [hop]; intro c hc'; cases hc')]
    simp [execOp, hop, hl, hc, hrun, Result.andThen]
    exact hK' _ _ (hK w' r1 ((Below.refl _ _).grown r2 (Nat.le_refl _) (by simp)))

/-- A place of a tone. -/
abbrev TI (n : Nat) := { i : Nat // i < n }
def encT (n : Nat) (b : Int) (x : TI n) : Array Value := #[.int .i64 x.1, .complex .f32 (turnC (b * x.1)).1 (turnC (b * x.1)).2]
/-- The first places. -/
def upT (n : Nat) : (m : Nat) → m ≤ n → List (TI n)
  | 0, _ => []
  | m + 1, h => upT n m (Nat.le_of_succ_le h) ++ [⟨m, h⟩]
theorem upT_len (n : Nat) : ∀ m h, (upT n m h).length = m
  | 0, _ => rfl
  | m + 1, h => by unfold upT; rw [List.length_append, upT_len n m]; rfl
theorem grown_of_below {w w' : World} (h : Below w.heap.size w w') : w.grownBy w' none := ⟨h.os, h.tape, h.output, h.size, fun k hk _ => h.block k hk⟩

/-- Two blocks stay. -/
def KpT (Bp Bk : Nat) (W W' : World) : Prop := W.heap.size ≤ W'.heap.size ∧ W'.heap[Bp]? = W.heap[Bp]? ∧ W'.heap[Bk]? = W.heap[Bk]?
theorem KpT.refl (Bp Bk : Nat) (W : World) : KpT Bp Bk W W := ⟨Nat.le_refl _, rfl, rfl⟩
theorem KpT.trans {Bp Bk : Nat} {A B D : World} (h : KpT Bp Bk A B) (k : KpT Bp Bk B D) : KpT Bp Bk A D := ⟨Nat.le_trans h.1 k.1, k.2.1.trans h.2.1, k.2.2.trans h.2.2⟩
theorem KpT.of_below {Bp Bk : Nat} {A B : World} (h : Below A.heap.size A B) (hp : Bp < A.heap.size) (hk : Bk < A.heap.size) : KpT Bp Bk A B := ⟨h.size, h.block Bp hp, h.block Bk hk⟩
theorem KpT.putObj {Bp Bk : Nat} {w : World} (hp : Bp < w.heap.size) (hk : Bk < w.heap.size) (W : World) (l : Nat) (o o' : Obj) (hl : w.heap.size ≤ l) (_h : W.heap[l]? = some o) (_ : o.isCells = false) (_ : o.isWalk = false) : KpT Bp Bk W (W.putObj l o') :=
  ⟨(grownBy_putObj' W l o').size, World.putObj_heap_other (by omega), World.putObj_heap_other (by omega)⟩

set_option maxHeartbeats 2000000 in
set_option maxRecDepth 100000 in
theorem turns_stops (n : Nat) (k b : Int) (hn : p2B n = true) (hb : 16 / (n : Int) * k = b) (hb1 : -256 ≤ b) (hb2 : b ≤ 256) (Bp Bk : Nat) (w : World) (hp : Bp < w.heap.size) (hk : Bk < w.heap.size)
    (cp : w.cell? ⟨Bp, 0, none⟩ = some (.int .i64 n)) (ck : w.cell? ⟨Bk, 0, none⟩ = some (.int .i64 k)) :
    SeqStopsK Fence.wide 2 Tryz.prog 174 #[.pointer (some ⟨Bp, 0, none⟩), .pointer (some ⟨Bk, 0, none⟩)] (encT n b) (KpT Bp Bk) (fun xs => xs = upT n n (Nat.le_refl _)) (fun _ => True) n w := fun l J Jx W hW hJ hJx hY h0 => by
  have cpW : W.cell? ⟨Bp, 0, none⟩ = some (.int .i64 n) := (hW.cell (p := ⟨Bp, 0, none⟩) hp).trans cp
  have ckW : W.cell? ⟨Bk, 0, none⟩ = some (.int .i64 k) := (hW.cell (p := ⟨Bk, 0, none⟩) hk).trans ck
  have hn16 : 1 ≤ n ∧ n ≤ 16 := by rcases p2B_iff.1 hn with h | h | h | h | h <;> omega
  obtain ⟨hn1, hn2⟩ := hn16
  have HCK := Lib.hid ckW
  have hp2 : Bp < W.heap.size := Nat.lt_of_lt_of_le hp hW.size
  have hk2 : Bk < W.heap.size := Nat.lt_of_lt_of_le hk hW.size
  have HCP := Lib.hid cpW
  have HBB := Lib.hid hb
  clear cp ck hW hb hn ckW
  refine callsIn_of_wp Tryz.func174 rfl trivial ?_ rfl
  simp only [Tryz.ntmps174, List.size_toArray, List.length_cons, List.length_nil, Nat.reduceAdd, Nat.reduceSub, Array.replicate_succ, Array.replicate_zero, List.push_toArray, List.append_toArray, List.nil_append, List.cons_append]
  gi_wp2
  gi_loopw [6] (fun i wr => ∃ (m : Nat) (h : m ≤ n), i = .int .i64 m ∧ J (upT n m h) wr ∧ KpT Bp Bk W wr) (fun i _ => n - (intOf i).toNat)
  case atStart => exact ⟨0, Nat.zero_le _, rfl, h0, KpT.refl _ _ _⟩
  case round =>
    obtain ⟨m, hm, rfl, hJs, hB⟩ := hrel
    by_cases hlt : m < n
    · have c1 : wr.cell? ⟨Bp, 0, none⟩ = some (.int .i64 n) := (World.cell?_of_block (a := ⟨Bp, 0, none⟩) hB.2.1).trans HCP.out
      have c2 : wr.cell? ⟨Bk, 0, none⟩ = some (.int .i64 k) := (World.cell?_of_block (a := ⟨Bk, 0, none⟩) hB.2.2).trans HCK.out
      obtain ⟨d1, d2⟩ := mul_bd (i := m) hb1 hb2 (by omega)
      have e0 : IntKind.i64.wrap (16 / (n : Int)) = 16 / (n : Int) := IntWalk.i64_in _ (by have := Int.ediv_nonneg (show (0 : Int) ≤ 16 by decide) (show (0 : Int) ≤ n by omega); have := Int.ediv_le_self (n : Int) (show (0 : Int) ≤ 16 by decide); omega)
      have e1 : IntKind.i64.wrap (16 / (n : Int) * k) = b := by rw [HBB.out]; exact IntWalk.i64_in _ (by omega)
      have e2 : IntKind.i64.wrap (b * (m : Int)) = b * (m : Int) := IntWalk.i64_in _ (by omega)
      have HY : Hid (∀ w1, Below wr.heap.size wr w1 → ∃ fn tmps assign body, (Instr.yield l #[.int .i64 m, .complex .f32 (turnC (b * m)).1 (turnC (b * m)).2]).run Tryz.prog w1 = .ok (.round l fn tmps assign body) w1 ∧
          RoundIn Fence.wide 1 Tryz.prog l fn tmps assign body w1 fun e W' => ∃ bb, e = .returned (.bool bb) ∧ (bb = true → J (upT n (m + 1) hlt) W' ∧ KpT Bp Bk w1 W') ∧ (bb = false → Jx (upT n (m + 1) hlt) W')) := fun w1 hw1 => by
        obtain ⟨fn, tmps, assign, body, hy, hR⟩ := hY (upT n m hm) ⟨m, hlt⟩ w1 (hJ _ wr w1 none hJs (grown_of_below hw1) (fun _ h => by cases h)) (by rw [upT_len]; exact hlt)
        refine ⟨fn, tmps, assign, body, hy, hR.mono ?_⟩
        rintro e W' (⟨rfl, h1, h2⟩ | ⟨rfl, h1⟩)
        · exact ⟨true, rfl, fun _ => ⟨h1, h2⟩, nofun⟩
        · exact ⟨false, rfl, nofun, fun _ => h1⟩
      have HT : Hid (∀ w1, Calls Tryz.prog 148 #[.int .i64 (b * (m : Int))] w1 (RetQ w1 (turnC (b * m)))) := fun w1 => iTurn _ w1
      have HB := Lib.hid hB
      generalize turnC (b * (m : Int)) = t at *
      clear hJs hB d1 d2
      have hd : 1 ≤ (1 : Nat) := Nat.le_refl _
      gi_wp2
      gi_region_with (first
        | (refine ⟨trivial, ?_⟩; gi_at_call 148; (with_reducible refine CallsIn.mono (callsIn_wide.2 (HT.out _)) ?_); rintro e w1 ⟨rfl, hw1⟩; have hw2 : Below wr.heap.size wr w1 := (⟨hw1.os, hw1.tape, hw1.output, hw1.size, hw1.block⟩); have HW2 := Lib.hid hw2; obtain ⟨fn, tmps, assign, body, hy, hR⟩ := HY.out w1 hw2; have HR := Lib.hid hR; clear hR hw1 hw2; unfold cv)
        | (refine (HR.out).mono ?_; rintro e w2 ⟨bb, rfl, hbt, hbf⟩; have HBT := Lib.hid hbt; have HBF := Lib.hid hbf; clear hbt hbf))
      all_goals
        cases bb with
        | true =>
          obtain ⟨hj2, hkk⟩ := HBT.out rfl
          have HJ2 := Lib.hid hj2
          have HB2 : Hid (KpT Bp Bk W w2) := (HB.out.trans (KpT.of_below HW2.out (by have := HB.out.1; omega) (by have := HB.out.1; omega))).trans hkk
          clear hj2 hkk
          gi_wp2
          go_roundw
          case rel => exact ⟨m + 1, hlt, by go_num, HJ2.out, HB2.out⟩
          case measure => simp [intOf]; omega
        | false =>
          have hx2 := HBF.out rfl
          gi_wp2
          refine bodyPost_ret (results_none rfl _ _ _) rfl ?_
          exact ⟨⟨_, rfl⟩, .inr ⟨_, hx2⟩⟩
    · obtain rfl : m = n := by omega
      gi_wp2
      go_end0
      exact ⟨⟨_, rfl⟩, .inl ⟨_, rfl, hJs⟩⟩
end Go.Proofs.YtnomlkkhkacajaaGreatDoor

namespace Go.Proofs.YtnomlkkhkacajaaGreatDoor
open Go.RowKit Go.Shelf
attribute [local go_sem] Oper.semAt_some

def p2I (p : Int) : Bool := p == 1 || p == 2 || p == 4 || p == 8 || p == 16
theorem p2I_iff {p : Int} : p2I p = true ↔ p = 1 ∨ p = 2 ∨ p = 4 ∨ p = 8 ∨ p = 16 := by simp [p2I]; omega
theorem p2I_nat (n : Nat) : p2I (n : Int) = p2B n := by
  rw [Bool.eq_iff_iff, p2I_iff, p2B_iff]; omega
set_option maxHeartbeats 400000 in
theorem powI_any (p : Int) (w : World) : Calls Tryz.prog 146 #[.int .i64 p] w fun e w' => e = .returned (.bool (p2I p)) ∧ w' = w := by
  by_cases hp : 0 ≤ p
  · obtain ⟨n, rfl⟩ := Int.eq_ofNat_of_zero_le hp
    have := pow_any n w
    rw [← p2I_nat] at this
    exact this
  · have hb : p2I p = false := by
      cases h : p2I p
      · rfl
      · have := p2I_iff.1 h; omega
    rw [hb]
    have c1 : (p == 1) = false := by rw [beq_eq_false_iff_ne]; omega
    have c2 : (p == 2) = false := by rw [beq_eq_false_iff_ne]; omega
    have c3 : (p == 4) = false := by rw [beq_eq_false_iff_ne]; omega
    have c4 : (p == 8) = false := by rw [beq_eq_false_iff_ne]; omega
    have c5 : (p == 16) = false := by rw [beq_eq_false_iff_ne]; omega
    clear hb hp
    go_enter Tryz.func146, Tryz.ntmps146
    go_wp2_with fail
    go_ret
    exact ⟨rfl, rfl⟩
theorem turnsOf_any (p k : Int) (w : World) : Calls Tryz.prog 159 #[.int .i64 p, .int .i64 k] w fun e w' =>
    e = .returned (.func (.func 174) #[] #[.pointer (some ⟨w.heap.size, 0, none⟩), .pointer (some ⟨w.heap.size + 1, 0, none⟩)]) ∧ w' = (w.alloc (.cells #[.int .i64 p] 3)).alloc (.cells #[.int .i64 k] 3) := by
  go_enter Tryz.func159, Tryz.ntmps159
  go_wp2_with fail
  go_ret
  exact ⟨rfl, rfl⟩

/-- The numbers of a tone. -/
def tonL (n : Nat) (b : Int) : List C := (List.range n).map fun i : Nat => turnC (b * (i : Int))
theorem tonL_len (n : Nat) (b : Int) : (tonL n b).length = n := by simp [tonL]
theorem tonL_nth {n i : Nat} (b : Int) (h : i < n) : nth (tonL n b) i = turnC (b * (i : Int)) := by
  rw [nth_eq (by rw [tonL_len]; exact h)]; simp [tonL]
def tonB (p k : Int) : Bool := p2I p && decide (0 ≤ k) && decide (k < p)
def tonF (p k : Int) : List C := if tonB p k then tonL p.toNat (16 / p * k) else []
theorem tonF_no {p k : Int} (h : p2I p = false ∨ k < 0 ∨ p ≤ k) : tonF p k = [] := by
  have : tonB p k = false := by
    unfold tonB
    rcases h with h | h | h
    · rw [h]; rfl
    · rw [decide_eq_false (show ¬ 0 ≤ k by omega), Bool.and_false]; rfl
    · rw [decide_eq_false (show ¬ k < p by omega), Bool.and_false]
  unfold tonF; rw [this]; rfl
theorem tonF_yes {n : Nat} {k : Int} (h : p2B n = true) (h0 : 0 ≤ k) (h1 : k < n) : tonF (n : Int) k = tonL n (16 / (n : Int) * k) := by
  unfold tonF tonB
  rw [p2I_nat, h, decide_eq_true h0, decide_eq_true h1]; rfl
/-- What the row holds while it is filled. -/
def tonV (n : Nat) (b : Int) (pre : List (TI n)) : List Value := (List.range n).map fun i : Nat => if i ∈ pre.map (·.1) then cv (turnC (b * (i : Int))) else .complex .f32 0 0
theorem tonV_len (n : Nat) (b : Int) (pre : List (TI n)) : (tonV n b pre).length = n := by simp [tonV]
theorem tonV_nil (n : Nat) (b : Int) : tonV n b [] = List.replicate n (.complex .f32 0 0) := by
  refine List.ext_getElem (by simp [tonV]) fun i h1 h2 => ?_
  simp [tonV]
theorem tonV_set (n : Nat) (b : Int) (pre : List (TI n)) (x : TI n) : (tonV n b pre).set x.1 (cv (turnC (b * (x.1 : Int)))) = tonV n b (pre ++ [x]) := by
  refine List.ext_getElem (by simp [tonV]) fun i h1 h2 => ?_
  rw [List.getElem_set]
  by_cases hx : x.1 = i
  · rw [if_pos hx]
    simp [tonV, ← hx]
  · rw [if_neg hx]
    have hx' : ¬ i = x.1 := fun h => hx h.symm
    simp [tonV, hx']
theorem upT_mem (n : Nat) : ∀ m h i, i < m → i ∈ (upT n m h).map (·.1)
  | 0, _, i, hi => absurd hi (Nat.not_lt_zero _)
  | m + 1, h, i, hi => by
    unfold upT
    rw [List.map_append, List.mem_append]
    by_cases him : i < m
    · exact .inl (upT_mem n m _ i him)
    · exact .inr (by simp; omega)
theorem tonV_all (n : Nat) (b : Int) : tonV n b (upT n n (Nat.le_refl _)) = (tonL n b).map cv := by
  refine List.ext_getElem (by simp [tonV, tonL]) fun i h1 h2 => ?_
  have hi : i < n := by rw [tonV_len] at h1; exact h1
  have := upT_mem n n (Nat.le_refl _) i hi
  simp only [tonV, tonL, List.getElem_map, List.getElem_range, if_pos this]

set_option maxHeartbeats 4000000 in
set_option maxRecDepth 100000 in
theorem iTone (p k : Int) (w : World) : Calls Tryz.prog 139 #[.int .i64 p, .int .i64 k] w (RetS w (tonF p k)) := by
  have HP : Hid (∀ w, Calls Tryz.prog 146 #[.int .i64 p] w fun e w' => e = .returned (.bool (p2I p)) ∧ w' = w) := fun w => powI_any p w
  cases hb : p2I p
  · rw [hb] at HP
    have HN := Lib.hid (tonF_no (k := k) (.inl hb))
    clear hb
    go_enter Tryz.func139, Tryz.ntmps139
    go_wp2_with fail
    refine (HP.out _).mono ?_
    rintro e w' ⟨rfl, rfl⟩
    go_wp2_with fail
    go_ret
    rw [HN.out]
    exact RetS.nil_ (Below.refl _ _)
  rw [hb] at HP
  by_cases h0 : k < 0
  · have HN := Lib.hid (tonF_no (p := p) (.inr (.inl h0)))
    clear hb
    go_enter Tryz.func139, Tryz.ntmps139
    go_wp2_with fail
    refine (HP.out _).mono ?_
    rintro e w' ⟨rfl, rfl⟩
    go_wp2_with fail
    go_ret
    rw [HN.out]
    exact RetS.nil_ (Below.refl _ _)
  by_cases h1 : p ≤ k
  · have HN := Lib.hid (tonF_no (p := p) (.inr (.inr h1)))
    clear hb
    go_enter Tryz.func139, Tryz.ntmps139
    go_wp2_with fail
    refine (HP.out _).mono ?_
    rintro e w' ⟨rfl, rfl⟩
    go_wp2_with fail
    go_ret
    rw [HN.out]
    exact RetS.nil_ (Below.refl _ _)
  have hpp := p2I_iff.1 hb
  obtain ⟨n, rfl⟩ := Int.eq_ofNat_of_zero_le (show 0 ≤ p by omega)
  have hn2 : p2B n = true := by rw [← p2I_nat]; exact hb
  have hn16 : n ≤ 16 := by omega
  have HY := Lib.hid (tonF_yes hn2 (show 0 ≤ k by omega) (by omega))
  obtain ⟨b, hbk⟩ : ∃ b, b = 16 / (n : Int) * k := ⟨_, rfl⟩
  rw [← hbk] at HY
  have hbd := bk_bd hn2 (k := k) (by omega) (by omega)
  unfold bk at hbd
  rw [← hbk] at hbd
  have HST : Hid (∀ (Bp Bk : Nat) (w : World), Bp < w.heap.size → Bk < w.heap.size → w.cell? ⟨Bp, 0, none⟩ = some (.int .i64 n) → w.cell? ⟨Bk, 0, none⟩ = some (.int .i64 k) →
      SeqStopsK Fence.wide 2 Tryz.prog 174 #[.pointer (some ⟨Bp, 0, none⟩), .pointer (some ⟨Bk, 0, none⟩)] (encT n b) (KpT Bp Bk) (fun xs => xs = upT n n (Nat.le_refl _)) (fun _ => True) n w) := fun Bp Bk w a1 a2 a3 a4 =>
    turns_stops n k b hn2 hbk.symm hbd.1 hbd.2 Bp Bk w a1 a2 a3 a4
  have HTO : Hid (∀ w, Calls Tryz.prog 159 #[.int .i64 n, .int .i64 k] w fun e w' =>
    e = .returned (.func (.func 174) #[] #[.pointer (some ⟨w.heap.size, 0, none⟩), .pointer (some ⟨w.heap.size + 1, 0, none⟩)]) ∧ w' = (w.alloc (.cells #[.int .i64 n] 3)).alloc (.cells #[.int .i64 k] 3)) := fun w => turnsOf_any n k w
  clear hpp hb hn2 hbk hbd
  refine (callsIn_wide (n := 3)).1 ?_
  refine callsIn_of_wp_marks Tryz.func139 rfl trivial ?_ rfl
  simp only [Tryz.ntmps139, List.size_toArray, List.length_cons, List.length_nil, Nat.reduceAdd, Nat.reduceSub, Array.replicate_succ, Array.replicate_zero, List.push_toArray, List.append_toArray, List.nil_append, List.cons_append]
  gi_wp2_with (first
    | (refine ⟨trivial, ?_⟩; gi_at_call 146; (with_reducible refine CallsIn.mono (callsIn_wide.2 (HP.out _)) ?_); rintro e w' ⟨rfl, rfl⟩)
    | (gi_at_make; refine wlIn_make_full _ rfl (.tmp 20) (.tmp 20) 23 rfl Tryz.eC .i64 .i64 n _ _ rfl rfl rfl rfl (by omega) (by unfold maxLen; omega) ?_; intro w1 hown hb1; have HO1 := Lib.hid hown; have HB1 := Lib.hid hb1; clear hown hb1)
    | (refine ⟨trivial, ?_⟩; gi_at_call 159; (with_reducible refine CallsIn.mono (callsIn_wide.2 (HTO.out _)) ?_); rintro e w' ⟨rfl, rfl⟩))
  have hge := (Ow.ge HO1.out _ rfl).2
  have hge' : w'.heap.size < w1.heap.size := hge
  have HRW : Hid (Ow (((w1.alloc (.cells #[.slice (some ⟨w'.heap.size, 0, none⟩) n n] 23)).alloc (.cells #[.int .i64 n] 3)).alloc (.cells #[.int .i64 k] 3)) w'.heap.size 73 (.slice (some ⟨w'.heap.size, 0, none⟩) n n) n (tonV n b [])) := by
    show Ow _ _ _ _ _ _
    rw [tonV_nil]
    exact HO1.out.below ((((Below.refl _ w1).alloc (Nat.le_refl _) _).alloc (by simp) _).alloc (by simp; omega) _)
  have HBX : Hid (Boxed (((w1.alloc (.cells #[.slice (some ⟨w'.heap.size, 0, none⟩) n n] 23)).alloc (.cells #[.int .i64 n] 3)).alloc (.cells #[.int .i64 k] 3)) w1.heap.size 23 (.slice (some ⟨w'.heap.size, 0, none⟩) n n)) := ((Boxed.new _ _ _).alloc _).alloc _
  have HBL : Hid (Below w'.heap.size w' (((w1.alloc (.cells #[.slice (some ⟨w'.heap.size, 0, none⟩) n n] 23)).alloc (.cells #[.int .i64 n] 3)).alloc (.cells #[.int .i64 k] 3))) := ((HB1.out.alloc (by omega) _).alloc (by simp; omega) _).alloc (by simp; omega) _
  have c1 : (((w1.alloc (.cells #[.slice (some ⟨w'.heap.size, 0, none⟩) n n] 23)).alloc (.cells #[.int .i64 n] 3)).alloc (.cells #[.int .i64 k] 3)).cell? ⟨w1.heap.size + 1, 0, none⟩ = some (.int .i64 n) := by
    have := (Boxed.new (w1.alloc (.cells #[.slice (some ⟨w'.heap.size, 0, none⟩) n n] 23)) 3 (.int .i64 n)).alloc (.cells #[.int .i64 k] 3)
    rw [World.size_alloc] at this
    exact this.cell
  have c2 : (((w1.alloc (.cells #[.slice (some ⟨w'.heap.size, 0, none⟩) n n] 23)).alloc (.cells #[.int .i64 n] 3)).alloc (.cells #[.int .i64 k] 3)).cell? ⟨w1.heap.size + 1 + 1, 0, none⟩ = some (.int .i64 k) := by
    have := Boxed.new ((w1.alloc (.cells #[.slice (some ⟨w'.heap.size, 0, none⟩) n n] 23)).alloc (.cells #[.int .i64 n] 3)) 3 (.int .i64 k)
    rw [World.size_alloc, World.size_alloc] at this
    exact this.cell
  have hp : w1.heap.size + 1 < (((w1.alloc (.cells #[.slice (some ⟨w'.heap.size, 0, none⟩) n n] 23)).alloc (.cells #[.int .i64 n] 3)).alloc (.cells #[.int .i64 k] 3)).heap.size := by simp
  have hk : w1.heap.size + 1 + 1 < (((w1.alloc (.cells #[.slice (some ⟨w'.heap.size, 0, none⟩) n n] 23)).alloc (.cells #[.int .i64 n] 3)).alloc (.cells #[.int .i64 k] 3)).heap.size := by simp
  have hsz : w'.heap.size ≤ (((w1.alloc (.cells #[.slice (some ⟨w'.heap.size, 0, none⟩) n n] 23)).alloc (.cells #[.int .i64 n] 3)).alloc (.cells #[.int .i64 k] 3)).heap.size := HBL.out.size
  have HSQ := Lib.hid (HST.out (w1.heap.size + 1) (w1.heap.size + 1 + 1) _ hp hk c1 c2)
  generalize (((w1.alloc (.cells #[.slice (some ⟨w'.heap.size, 0, none⟩) n n] 23)).alloc (.cells #[.int .i64 n] 3)).alloc (.cells #[.int .i64 k] 3)) = W0 at *
  have HC12 : Hid (w'.heap.size ≠ w1.heap.size + 1 ∧ w'.heap.size ≠ w1.heap.size + 1 + 1 ∧ w1.heap.size ≠ w'.heap.size) := ⟨by omega, by omega, by omega⟩
  clear c1 c2
  refine wpIn_rangeFunc_ownF rfl (by omega) (gf := 174) (lb := #[.pointer (some ⟨w1.heap.size + 1, 0, none⟩), .pointer (some ⟨w1.heap.size + 1 + 1, 0, none⟩)]) rfl trivial (enters_of Tryz.func174 (by kernel_rfl) rfl)
    HSQ.out (fun h k => KpT.trans h k) (KpT.putObj hp hk) (Below.refl _ _) (fun _ => rfl)
    (fun pre W => (∃ v, Boxed W w1.heap.size 23 v ∧ W.ownsRow w'.heap.size 73 1 v n (tonV n b pre) ∧ v = .slice (some ⟨w'.heap.size, 0, none⟩) n n) ∧ Below w'.heap.size w' W)
    (fun _ _ _ => False)
    (OwnFrom.and (Own.from (holdsRow_own w'.heap.size w1.heap.size 23 73 1 (fun _ => n) (fun pre => tonV n b pre) (fun _ v => v = .slice (some ⟨w'.heap.size, 0, none⟩) n n)) _) (ownFrom_below (Nat.le_refl _) hsz))
    (fun _ _ _ _ _ hs _ _ => hs)
    ⟨⟨_, HBX.out, HRW.out, rfl⟩, HBL.out⟩
    (fun x => { tmps := #[.int .i64 n, .int .i64 k, undef, undef, .slice none 0 0, .pointer (some ⟨w1.heap.size, 0, none⟩), .int .i64 x.1, .complex .f32 (turnC (b * x.1)).1 (turnC (b * x.1)).2, .int .i64 n,
      .bool true, .bool false, .bool false, .int .i64 k, .bool (decide (k < 0)), .bool (decide (k < 0)), .bool (decide (k < 0)), .int .i64 k, .int .i64 n, .bool (decide ((n : Int) ≤ k)), .bool (decide (k < 0) || decide ((n : Int) ≤ k)), .int .i64 n,
      .slice (some ⟨w'.heap.size, 0, none⟩) n n, .int .i64 n, .int .i64 k, .func (.func 174) #[] #[.pointer (some ⟨w1.heap.size + 1, 0, none⟩), .pointer (some ⟨w1.heap.size + 1 + 1, 0, none⟩)],
      .int .i64 x.1, .complex .f32 (turnC (b * x.1)).1 (turnC (b * x.1)).2, undef, undef, undef, undef, undef], defers := [] }) ?assign ?body ?done ?stop
  case assign =>
    intro l x W K hK
    unfold encT
    gi_wp2
    exact hK
  case body =>
    rintro l pre ⟨i, hi⟩ W ⟨⟨v, hbx, hrow, rfl⟩, hB⟩ _
    have hc := hbx.cell
    have hOw : Ow W w'.heap.size 73 (.slice (some ⟨w'.heap.size, 0, none⟩) n n) n (tonV n b pre) := hrow
    obtain ⟨g, hg, hge3, hgl, hcell, hfr, hst⟩ := hOw.at_ hi
    injection hg with hg
    injection hg with hg
    subst hg
    have hck : W.cell? ⟨w'.heap.size, i, none⟩ = some ((tonV n b pre)[i]'(by rw [tonV_len]; exact hi)) := (hcell i hi).trans (List.getElem?_eq_getElem _)
    generalize (tonV n b pre)[i]'(by rw [tonV_len]; exact hi) = u0 at hck
    have hfr2 := hfr i
    have hi2 : (i : Int) < (n : Int) := by omega
    have HS : Hid (Ow (W.setCell ⟨w'.heap.size, i, none⟩ (cv (turnC (b * (i : Int))))) w'.heap.size 73 (.slice (some ⟨w'.heap.size, 0, none⟩) n n) n (tonV n b (pre ++ [⟨i, hi⟩]))) := by
      have := hst i (cv (turnC (b * (i : Int))))
      rw [tonV_set n b pre ⟨i, hi⟩] at this
      exact this
    have HBX2 := Lib.hid hbx
    have HB2 := Lib.hid hB
    clear hst hfr hcell hOw hrow hbx hB
    gi_wp2
    refine ⟨KeepsOthers.setCell _ _ _, ?_, ⟨⟨?_, HS.out⟩, HB2.out.setCell (p := ⟨w'.heap.size, i, none⟩) (Nat.le_refl _) _⟩⟩
    · exact ⟨by simp [World.setCell], Below.heap_setCell _ _ _ _ HC12.out.1.symm, Below.heap_setCell _ _ _ _ HC12.out.2.1.symm⟩
    · exact (Below.heap_setCell _ _ _ _ HC12.out.2.2).trans HBX2.out
  case done =>
    rintro D ys W hD rfl ⟨⟨v, hbx, hrow, rfl⟩, hB⟩ hK
    have hc := hbx.cell
    gi_wp2
    refine ⟨by simp, .inl ⟨_, _, rfl, run_takeDeferred hK, ?_⟩⟩
    refine ⟨_, results_tmp rfl _ _ _, ?_⟩
    rw [HY.out]
    refine ⟨_, _, _, rfl, ?_, hB.trans (belowK_b (w := W0) hsz W D _ _ hD hK rfl rfl)⟩
    have := ownsRow_putObj hrow (.deferred none) hK rfl
    rw [tonV_all] at this
    exact this
  case stop =>
    rintro D c pre W _ _ h _
    exact h.elim
end Go.Proofs.YtnomlkkhkacajaaGreatDoor

namespace Go.Proofs.YtnomlkkhkacajaaGreatDoor
open Go.RowKit

def RetPr (p : Int) (w : World) (e : Ending) (w' : World) : Prop := ∃ a b : Int, e = .returned (.tuple #[.int .i64 a, .int .i64 b]) ∧ (p2I p = true → 0 ≤ a) ∧ (p2I p = false → a < 0) ∧ w' = w
set_option maxHeartbeats 1000000 in
theorem prods_any (p : Int) (w : World) : Calls Tryz.prog 142 #[.int .i64 p] w (RetPr p w) := by
  cases hb : p2I p
  · have hn : ¬ (p = 1 ∨ p = 2 ∨ p = 4 ∨ p = 8 ∨ p = 16) := fun h => by rw [p2I_iff.2 h] at hb; cases hb
    have c1 : (p != 1) = true := by rw [bne_iff_ne]; omega
    have c2 : (p != 2) = true := by rw [bne_iff_ne]; omega
    have c4 : (p != 4) = true := by rw [bne_iff_ne]; omega
    have c8 : (p != 8) = true := by rw [bne_iff_ne]; omega
    have c16 : (p != 16) = true := by rw [bne_iff_ne]; omega
    have HB := Lib.hid hb
    clear hn hb
    go_enter Tryz.func142, Tryz.ntmps142
    go_wp2_with fail
    go_ret2
    exact ⟨_, _, rfl, (fun h => by rw [HB.out] at h; cases h), (fun _ => by omega), rfl⟩
  · have hp := p2I_iff.1 hb
    obtain ⟨n, rfl⟩ := Int.eq_ofNat_of_zero_le (show 0 ≤ p by omega)
    have HB := Lib.hid hb
    have hn16 : n ≤ 16 := by omega
    have key : ((n : Int) != 1) = false ∨ (((n : Int) != 1) = true ∧ ((n : Int) != 2) = false) ∨ (((n : Int) != 1) = true ∧ ((n : Int) != 2) = true ∧ ((n : Int) != 4) = false) ∨ (((n : Int) != 1) = true ∧ ((n : Int) != 2) = true ∧ ((n : Int) != 4) = true ∧ ((n : Int) != 8) = false) ∨
        (((n : Int) != 1) = true ∧ ((n : Int) != 2) = true ∧ ((n : Int) != 4) = true ∧ ((n : Int) != 8) = true ∧ ((n : Int) != 16) = false) := by
      have : n = 1 ∨ n = 2 ∨ n = 4 ∨ n = 8 ∨ n = 16 := by omega
      rcases this with rfl | rfl | rfl | rfl | rfl <;> decide
    have hmul : 0 ≤ (n : Int) * (n : Int) ∧ (n : Int) * (n : Int) ≤ 256 := by
      have : n = 1 ∨ n = 2 ∨ n = 4 ∨ n = 8 ∨ n = 16 := by omega
      rcases this with rfl | rfl | rfl | rfl | rfl <;> decide
    have e0 : IntKind.i64.wrap ((n : Int) * (n : Int)) = (n : Int) * (n : Int) := IntWalk.i64_in _ (by omega)
    clear hb hp hmul
    rcases key with c1 | ⟨c1, c2⟩ | ⟨c1, c2, c3⟩ | ⟨c1, c2, c3, c4⟩ | ⟨c1, c2, c3, c4, c5⟩
    all_goals
      go_enter Tryz.func142, Tryz.ntmps142
      go_wp2_with fail
      go_loop [4, 5] (fun m i => ∃ s t : Nat, 2 ≤ s ∧ s ≤ 32 ∧ t ≤ 8 * s ∧ i = .int .i64 s ∧ m = .int .i64 t) (fun _ i => 33 - (intOf i).toNat)
      case atStart => exact ⟨2, 0, by omega, by omega, by omega, rfl, rfl⟩
      case round =>
        obtain ⟨s, t, h1, h2, h3, rfl, rfl⟩ := hrel
        by_cases hle : s ≤ n
        · have d1 : (0 : Int) ≤ (n : Int) / 2 := by omega
          go_wp2_with fail
          go_round
          case rel => exact ⟨2 * s, t + n / 2, by omega, by omega, by omega, by go_num, by go_num⟩
          case measure => simp [intOf]; omega
        · go_wp2_with fail
          go_ret2
          exact ⟨_, _, rfl, (fun _ => by omega), (fun h => by rw [HB.out] at h; cases h), rfl⟩

set_option maxHeartbeats 2000000 in
set_option maxRecDepth 100000 in
theorem sTone (p k : Int) (w : World) : Calls Tryz.prog 117 #[.int .i64 p, .int .i64 k] w (RetS w (tonF p k)) := by
  have he := Ow.empty w 73
  have hb0 := below_alloc w (.cells #[] 73)
  have HP : Hid (∀ w, Calls Tryz.prog 142 #[.int .i64 p] w (RetPr p w)) := fun w => prods_any p w
  have HE := Lib.hid he
  have HB0 := Lib.hid hb0
  clear he hb0
  cases hb : p2I p
  · have HN := Lib.hid (tonF_no (k := k) (.inl hb))
    have HB := Lib.hid hb
    clear hb
    go_enter Tryz.func117, Tryz.ntmps117
    go_wp2_with fail
    refine (HP.out _).mono ?_
    rintro e w' ⟨a, b, rfl, _, h2, rfl⟩
    have h3 := h2 HB.out
    clear h2
    go_wp2_with fail
    go_ret
    rw [HN.out]
    exact RetS.empty HE.out HB0.out
  have hpp := p2I_iff.1 hb
  obtain ⟨n, rfl⟩ := Int.eq_ofNat_of_zero_le (show 0 ≤ p by omega)
  have hn2 : p2B n = true := by rw [← p2I_nat]; exact hb
  have hn16 : n ≤ 16 := by omega
  have hn1 : 1 ≤ n := by omega
  have e0 : IntKind.i64.wrap ((n : Int) - 1) = (n : Int) - 1 := IntWalk.i64_in _ (by omega)
  have HB := Lib.hid hb
  clear hpp hb
  by_cases hin : inB k 0 ((n : Int) - 1) = true
  case neg =>
    have hin' : inB k 0 ((n : Int) - 1) = false := by simpa using hin
    have HN := Lib.hid (tonF_no (p := (n : Int)) (k := k) (.inr (by have := inB_false_iff.1 hin'; omega)))
    clear hin hn2
    go_enter Tryz.func117, Tryz.ntmps117
    go_wp2_with fail
    refine (HP.out _).mono ?_
    rintro e w' ⟨a, b, rfl, h2, _, rfl⟩
    have h3 := h2 HB.out
    clear h2
    go_wp2_with fail
    refine (l1In_any _ _ _ _).mono ?_
    rintro e w' ⟨rfl, rfl⟩
    go_wp2_with fail
    go_ret
    rw [HN.out]
    exact RetS.empty HE.out HB0.out
  obtain ⟨h0, h1⟩ := inB_iff.1 hin
  have HY := Lib.hid (tonF_yes hn2 h0 (by omega))
  obtain ⟨bb, hbk⟩ : ∃ b, b = 16 / (n : Int) * k := ⟨_, rfl⟩
  rw [← hbk] at HY
  have hbd := bk_bd hn2 (k := k) (by omega) (by omega)
  unfold bk at hbd
  rw [← hbk] at hbd
  obtain ⟨hb1, hb2⟩ := hbd
  have e1 : IntKind.i64.wrap (16 / (n : Int) * k) = bb := by rw [← hbk]; exact IntWalk.i64_in _ (by omega)
  clear hn2 hbk
  go_enter Tryz.func117, Tryz.ntmps117
  go_wp2_with fail
  refine (HP.out _).mono ?_
  rintro e w' ⟨a, b, rfl, h2, _, rfl⟩
  have h3 := h2 HB.out
  clear h2
  go_wp2_with fail
  refine (l1In_any _ _ _ _).mono ?_
  rintro e w2 ⟨rfl, rfl⟩
  go_wp2_with fail
  go_loopw [5, 8] (fun v i wr => ∃ m : Nat, m ≤ n ∧ i = .int .i64 m ∧ Ow wr w.heap.size 73 v m (((tonL n bb).map cv).take m) ∧ Below w.heap.size w wr) (fun _ i _ => n - (intOf i).toNat)
  case atStart => exact ⟨0, by omega, rfl, HE.out, HB0.out⟩
  case round =>
    obtain ⟨m, hm, rfl, ho, hb⟩ := hrel
    have HO := Lib.hid ho
    have HBW := Lib.hid hb
    clear ho hb
    by_cases hlt : m < n
    · obtain ⟨d1, d2⟩ := mul_bd (i := m) hb1 hb2 (by omega)
      have e2 : IntKind.i64.wrap (bb * (m : Int)) = bb * (m : Int) := IntWalk.i64_in _ (by omega)
      have HN : Hid (((tonL n bb).map cv).take m ++ [cv (turnC (bb * (m : Int)))] = ((tonL n bb).map cv).take (m + 1)) := by
        show _ = _
        refine take_snoc' ?_
        simp [tonL, hlt]
      have HT : Hid (∀ w1, Calls Tryz.prog 130 #[.int .i64 (bb * (m : Int))] w1 (RetQ w1 (turnC (bb * m)))) := fun w1 => sTurn _ w1
      generalize turnC (bb * (m : Int)) = t at *
      clear d1 d2
      go_wp2_with fail
      refine (HT.out _).mono ?_
      rintro e w3 ⟨rfl, hw3⟩
      have HB3 : Hid (Below w.heap.size w w3) := HBW.out.trans (hw3.mono HBW.out.size)
      have HO3 := Lib.hid (HO.out.below hw3)
      have hsz := HB3.out.size
      clear hw3
      unfold cv
      go_wp2_with (at_builtin; refine wl_appB w.heap.size [.complex .f32 t.1 t.2] hsz rfl (.tmp 30) (.tmp 38) 23 rfl Tryz.eC _ m _ rfl HO3.out rfl (by simp [Value.oneCell']) (by simp [maxLen]; omega) (by simp; omega) ?_; intro v' w4 ho4 hb4)
      go_roundw
      case rel => exact ⟨m + 1, by omega, by go_num, by rw [← HN.out]; exact ho4, HB3.out.trans hb4⟩
      case measure => simp [intOf]; omega
    · obtain rfl : m = n := by omega
      obtain ⟨A2, c2, rfl⟩ := HO.out.shape
      go_wp2_with fail
      go_ret
      rw [HY.out]
      refine ⟨_, _, _, rfl, ?_, HBW.out⟩
      have := HO.out
      rw [List.take_of_length_le (by rw [List.length_map, tonL_len]; omega)] at this
      exact this
theorem tonL_fin (n : Nat) (b : Int) : (tonL n b).all finB = true := List.all_eq_true.2 fun z hz => by
  unfold tonL at hz
  obtain ⟨i, _, rfl⟩ := List.mem_map.1 hz
  exact turnC_fin _
end Go.Proofs.YtnomlkkhkacajaaGreatDoor
