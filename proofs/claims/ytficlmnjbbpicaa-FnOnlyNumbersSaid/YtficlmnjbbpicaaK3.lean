/- Signals without a tone, and with some numbers only. -/
import Derived.Test.YtficlmnjbbpicaaK1
import Derived.Test.YtficlmnjbbpicaaMg
namespace Go.Proofs.Ytficlmnjbbpicaa
open Go.RowKit

theorem RetC.trans {w w1 w' : World} {ys : List C} {ok : Bool} {e : Ending} (h : RetC w1 ys ok e w') (hb : Below w.heap.size w w1) : RetC w ys ok e w' := by
  obtain ⟨A, n, c, h1, h2, h3⟩ := h
  exact ⟨A, n, c, h1, h2.mono hb.size, hb.trans (h3.mono hb.size)⟩
theorem Good.prod {xs : List C} (h : Good xs) : sizB xs = true → ProdOk xs (-1) := fun hs => (h hs).1
/-- A number of a list, or 0, is not too great. -/
theorem zero_md : Md (0, 0) K1 := by
  have := U_pos
  refine ⟨by decide, by unfold K1; grind, ?_⟩
  unfold sq2
  simp only [zero32.2]
  have := sq_nn K1
  grind
theorem prodOk_k1 {l : List C} (h : ∀ i, i < l.length → Md (nth l i) K1) : ProdOk l 1 := prodOk_md h (by unfold K1; have := U_pos; grind) 1

/-- Without one number. -/
def witF (xs : List C) (k : Int) : Option (List C) := match transF xs with
  | none => none
  | some l => if 0 ≤ k ∧ k < xs.length then backF (l.set k.toNat (0, 0)) else none
theorem witF_none {xs : List C} {k : Int} (h : transF xs = none) : witF xs k = none := by unfold witF; rw [h]
theorem witF_out {xs : List C} {k : Int} (h : k < 0 ∨ (xs.length : Int) ≤ k) : witF xs k = none := by
  unfold witF
  cases transF xs with
  | none => rfl
  | some l => show (if _ then _ else none) = none; rw [if_neg (by omega)]
theorem witF_in {xs : List C} {j : Nat} {l : List C} (h : transF xs = some l) (hj : j < xs.length) : witF xs j = backF (l.set j (0, 0)) := by
  unfold witF; rw [h]; show (if _ then _ else none) = _; rw [if_pos (by omega)]; rfl
theorem set_md {l : List C} {j : Nat} (h : ∀ i, i < l.length → Md (nth l i) K1) : ∀ i, i < (l.set j (0, 0)).length → Md (nth (l.set j (0, 0)) i) K1 := fun i hi => by
  rw [List.length_set] at hi
  rw [nth_eq (by rw [List.length_set]; exact hi), List.getElem_set]
  split
  · exact zero_md
  · rw [← nth_eq hi]; exact h i hi

set_option maxHeartbeats 2000000 in
set_option maxRecDepth 100000 in
theorem iWithout (A : Option Addr) (n c : Nat) (xs : List C) (k : Int) (w : World) (hn : n ≤ 1048576) (hx : Cs w A n xs) (hg : Good xs) :
    Calls Try.prog 48 #[.slice A n c, .int .i64 k] w (RetO w (witF xs k)) := by
  have hl := hx.len
  have HT : Hid (∀ w, Cs w A n xs → Calls Try.prog 32 #[.slice A n c] w (RetO w (transF xs))) := fun w h => iTransform A n c xs w hn h hg.prod
  cases ht : transF xs with
  | none =>
    rw [ht] at HT
    have HN := Lib.hid (witF_none (k := k) ht)
    clear hl ht hg
    go_enter Try.func48, Try.ntmps48
    go_wp2_with fail
    refine (HT.out w hx).mono ?_
    rintro e w1 ⟨A1, m1, c1, rfl, ho1, hb1⟩
    simp only [Option.isSome_none]
    go_wp2_with fail
    go_ret2
    rw [HN.out]
    exact RetC.nil_ hb1
  | some l =>
    rw [ht] at HT
    have hsz : sizB xs = true := by
      cases hs : sizB xs
      · rw [transF_no hs] at ht; cases ht
      · rfl
    obtain ⟨_, l', e', hl2, hmd⟩ := hg hsz
    rw [ht] at e'
    injection e' with e'
    subst e'
    by_cases hk : 0 ≤ k ∧ k < (n : Int)
    case neg =>
      have HN := Lib.hid (witF_out (xs := xs) (k := k) (by omega))
      have key : k < 0 ∨ (0 ≤ k ∧ (n : Int) ≤ k) := by omega
      clear hl ht hg hmd hk hl2 hsz
      rcases key with h0 | ⟨h0, h1⟩
      all_goals
        go_enter Try.func48, Try.ntmps48
        go_wp2_with fail
        refine (HT.out w hx).mono ?_
        rintro e w1 ⟨A1, m1, c1, rfl, ho1, hb1⟩
        simp only [Option.isSome_some]
        go_wp2_with fail
        go_ret2
        rw [HN.out]
        exact RetC.nil_ hb1
    obtain ⟨hk0, hk1⟩ := hk
    obtain ⟨j, rfl⟩ := Int.eq_ofNat_of_zero_le hk0
    have HY := Lib.hid (witF_in ht (show j < xs.length by omega))
    have HB : Hid (∀ A' n' c' w', n' = n → Cs w' A' n' (l.set j (0, 0)) → Calls Try.prog 91 #[.slice A' n' c'] w' (RetO w' (backF (l.set j (0, 0))))) := fun A' n' c' w' h1 h2 =>
      iBack A' n' c' _ w' (by omega) h2 fun _ => prodOk_k1 (set_md fun i hi => hmd i (by omega))
    have HL2 : Hid (l.length = n) := by show _ = _; omega
    clear hl ht hg hmd hl2 hsz
    go_enter Try.func48, Try.ntmps48
    go_wp2_with fail
    refine (HT.out w hx).mono ?_
    rintro e w1 ⟨A1, m1, c1, rfl, ho1, hb1⟩
    obtain rfl : m1 = n := by have h1 := ho1.len; rw [List.length_map] at h1; have h2 : l.length = n := HL2.out; have h3 : l.length = m1 := h1; omega
    have hjm : j < m1 := by omega
    obtain ⟨g, rfl, hge, hgl, hcell, hfr, hst⟩ := Ow.at_ ho1 hjm
    have hck : w1.cell? ⟨g, j, none⟩ = some (cv (nth l j)) := (hcell j hjm).trans (by show (l.map cv)[j]? = _; rw [List.getElem?_map, List.getElem?_eq_getElem (by rw [HL2.out]; exact hjm), nth_eq (by rw [HL2.out]; exact hjm)]; rfl)
    have hfr2 := hfr j
    have HS : Hid (Ow (w1.setCell ⟨g, j, none⟩ (.complex .f32 0 0)) w.heap.size 45 (.slice (some ⟨g, 0, none⟩) m1 c1) m1 ((l.set j (0, 0)).map cv)) := by
      have := hst j (.complex .f32 0 0)
      rw [List.map_set]
      exact this
    have HBB : Hid (Below w.heap.size w (w1.setCell ⟨g, j, none⟩ (.complex .f32 0 0))) := hb1.setCell hge _
    generalize nth l j = z0 at hck
    simp only [Option.isSome_some]
    unfold cv at hck
    clear hst hfr hcell ho1 hb1
    go_wp2_with fail
    refine (HB.out _ _ _ _ rfl HS.out.sl).mono ?_
    rintro e w3 hr
    have hr2 := RetC.trans hr HBB.out
    rw [← HY.out] at hr2
    obtain ⟨A3, m3, c3, rfl, ho3, hb3⟩ := hr2
    have HR : Hid (RetO w (witF xs j) (.returned (.tuple #[.slice A3 m3 c3, .bool (witF xs j).isSome])) w3) := ⟨A3, m3, c3, rfl, ho3, hb3⟩
    generalize (witF xs j).isSome = okk at *
    clear hr ho3 hb3
    go_wp2_with fail
    go_ret2
    exact HR.out
set_option maxHeartbeats 2000000 in
set_option maxRecDepth 100000 in
theorem sWithout (A : Option Addr) (n c : Nat) (xs : List C) (k : Int) (w : World) (hn : n ≤ 1048576) (hx : Cs w A n xs) (hg : Good xs) :
    Calls Try.prog 49 #[.slice A n c, .int .i64 k] w (RetO w (witF xs k)) := by
  have hl := hx.len
  have HT : Hid (∀ w, Cs w A n xs → Calls Try.prog 92 #[.slice A n c] w (RetO w (transF xs))) := fun w h => sTransform A n c xs w hn h hg.prod
  cases ht : transF xs with
  | none =>
    rw [ht] at HT
    have HN := Lib.hid (witF_none (k := k) ht)
    clear hl ht hg
    go_enter Try.func49, Try.ntmps49
    go_wp2_with fail
    refine (HT.out w hx).mono ?_
    rintro e w1 ⟨A1, m1, c1, rfl, ho1, hb1⟩
    simp only [Option.isSome_none]
    go_wp2_with fail
    go_ret2
    rw [HN.out]
    exact RetC.empty ((Ow.empty w1 45).mono hb1.size) (hb1.alloc hb1.size _)
  | some l =>
    rw [ht] at HT
    have hsz : sizB xs = true := by
      cases hs : sizB xs
      · rw [transF_no hs] at ht; cases ht
      · rfl
    obtain ⟨_, l', e', hl2, hmd⟩ := hg hsz
    rw [ht] at e'
    injection e' with e'
    subst e'
    by_cases hk : 0 ≤ k ∧ k < (n : Int)
    case neg =>
      have HN := Lib.hid (witF_out (xs := xs) (k := k) (by omega))
      have hin : inB k 0 ((n : Int) - 1) = false := by rw [inB_false_iff]; omega
      have e0 : IntKind.i64.wrap ((n : Int) - 1) = (n : Int) - 1 := IntWalk.i64_in _ (by omega)
      clear hl ht hg hmd hk hl2 hsz
      all_goals
        go_enter Try.func49, Try.ntmps49
        go_wp2_with fail
        refine (HT.out w hx).mono ?_
        rintro e w1 ⟨A1, m1, c1, rfl, ho1, hb1⟩
        simp only [Option.isSome_some]
        go_wp2_with fail
        refine (l1In_any _ _ _ _).mono ?_
        rintro e w2 ⟨rfl, hw2⟩
        obtain rfl := hw2.symm
        go_wp2_with fail
        go_ret2
        rw [HN.out]
        exact RetC.empty ((Ow.empty w1 45).mono hb1.size) (hb1.alloc hb1.size _)
    obtain ⟨hk0, hk1⟩ := hk
    obtain ⟨j, rfl⟩ := Int.eq_ofNat_of_zero_le hk0
    have HY := Lib.hid (witF_in ht (show j < xs.length by omega))
    have HB : Hid (∀ A' n' c' w', n' = n → Cs w' A' n' (l.set j (0, 0)) → Calls Try.prog 93 #[.slice A' n' c'] w' (RetO w' (backF (l.set j (0, 0))))) := fun A' n' c' w' h1 h2 =>
      sBack A' n' c' _ w' (by omega) h2 fun _ => prodOk_k1 (set_md fun i hi => hmd i (by omega))
    have HL2 : Hid (l.length = n) := by show _ = _; omega
    have hin : inB (j : Int) 0 ((n : Int) - 1) = true := inB_true (by omega) (by omega)
    have e0 : IntKind.i64.wrap ((n : Int) - 1) = (n : Int) - 1 := IntWalk.i64_in _ (by omega)
    clear hl ht hg hmd hl2 hsz
    go_enter Try.func49, Try.ntmps49
    go_wp2_with fail
    refine (HT.out w hx).mono ?_
    rintro e w1 ⟨A1, m1, c1, rfl, ho1, hb1⟩
    obtain rfl : m1 = n := by have h1 := ho1.len; rw [List.length_map] at h1; have h2 : l.length = n := HL2.out; have h3 : l.length = m1 := h1; omega
    have hjm : j < m1 := by omega
    obtain ⟨g, rfl, hge, hgl, hcell, hfr, hst⟩ := Ow.at_ ho1 hjm
    have hck : w1.cell? ⟨g, j, none⟩ = some (cv (nth l j)) := (hcell j hjm).trans (by show (l.map cv)[j]? = _; rw [List.getElem?_map, List.getElem?_eq_getElem (by rw [HL2.out]; exact hjm), nth_eq (by rw [HL2.out]; exact hjm)]; rfl)
    have hfr2 := hfr j
    have HS : Hid (Ow (w1.setCell ⟨g, j, none⟩ (.complex .f32 0 0)) w.heap.size 45 (.slice (some ⟨g, 0, none⟩) m1 c1) m1 ((l.set j (0, 0)).map cv)) := by
      have := hst j (.complex .f32 0 0)
      rw [List.map_set]
      exact this
    have HBB : Hid (Below w.heap.size w (w1.setCell ⟨g, j, none⟩ (.complex .f32 0 0))) := hb1.setCell hge _
    generalize nth l j = z0 at hck
    simp only [Option.isSome_some]
    unfold cv at hck
    clear hst hfr hcell ho1 hb1
    go_wp2_with fail
    refine (l1In_any _ _ _ _).mono ?_
    rintro e w2 ⟨rfl, hw2⟩
    obtain rfl := hw2.symm
    go_wp2_with fail
    refine (HB.out _ _ _ _ rfl HS.out.sl).mono ?_
    rintro e w3 hr
    have hr2 := RetC.trans hr HBB.out
    rw [← HY.out] at hr2
    obtain ⟨A3, m3, c3, rfl, ho3, hb3⟩ := hr2
    have HR : Hid (RetO w (witF xs j) (.returned (.tuple #[.slice A3 m3 c3, .bool (witF xs j).isSome])) w3) := ⟨A3, m3, c3, rfl, ho3, hb3⟩
    generalize (witF xs j).isSome = okk at *
    clear hr ho3 hb3
    go_wp2_with fail
    go_ret2
    exact HR.out
end Go.Proofs.Ytficlmnjbbpicaa

namespace Go.Proofs.Ytficlmnjbbpicaa
open Go.RowKit

def mskL (l : List C) (a b : Int) : List C := (List.range l.length).map fun i : Nat => if (i : Int) < a ∨ b < (i : Int) then (0, 0) else nth l i
theorem mskL_len (l : List C) (a b : Int) : (mskL l a b).length = l.length := by simp [mskL]
theorem mskL_nth {l : List C} {a b : Int} {i : Nat} (h : i < l.length) : nth (mskL l a b) i = if (i : Int) < a ∨ b < (i : Int) then (0, 0) else nth l i := by
  rw [nth_eq (by rw [mskL_len]; exact h)]
  simp [mskL]
theorem mskL_get {l : List C} {a b : Int} {i : Nat} (h : i < l.length) : ((mskL l a b).map cv)[i]? = some (cv (if (i : Int) < a ∨ b < (i : Int) then (0, 0) else nth l i)) := by
  rw [List.getElem?_map, List.getElem?_eq_getElem (by rw [mskL_len]; exact h), ← mskL_nth h, nth_eq (by rw [mskL_len]; exact h)]; rfl
theorem mskL_md {l : List C} {a b : Int} (h : ∀ i, i < l.length → Md (nth l i) K1) : ∀ i, i < (mskL l a b).length → Md (nth (mskL l a b) i) K1 := fun i hi => by
  rw [mskL_len] at hi
  rw [mskL_nth hi]
  split
  · exact zero_md
  · exact h i hi
/-- Some numbers only. -/
def onlF (xs : List C) (a b : Int) : Option (List C) := match transF xs with
  | none => none
  | some l => if 0 ≤ a ∧ a < xs.length ∧ 0 ≤ b ∧ b < xs.length then backF (mskL l a b) else none
theorem onlF_none {xs : List C} {a b : Int} (h : transF xs = none) : onlF xs a b = none := by unfold onlF; rw [h]
theorem onlF_out {xs : List C} {a b : Int} (h : ¬ (0 ≤ a ∧ a < xs.length ∧ 0 ≤ b ∧ b < xs.length)) : onlF xs a b = none := by
  unfold onlF
  cases transF xs with
  | none => rfl
  | some l => show (if _ then _ else none) = none; rw [if_neg h]
theorem onlF_in {xs : List C} {a b : Int} {l : List C} (h : transF xs = some l) (hj : 0 ≤ a ∧ a < xs.length ∧ 0 ≤ b ∧ b < xs.length) : onlF xs a b = backF (mskL l a b) := by
  unfold onlF; rw [h]; show (if _ then _ else none) = _; rw [if_pos hj]
theorem over_same {L vs : List Value} {n k : Nat} (hL : L.length = n) (hv : vs.length = n) (hk : k < n) (h : L[k]? = vs[k]?) : L.take k ++ vs.drop k = L.take (k + 1) ++ vs.drop (k + 1) := by
  rw [List.getElem?_eq_getElem (by omega), List.getElem?_eq_getElem (by omega)] at h
  injection h with h
  rw [List.drop_eq_getElem_cons (show k < vs.length by omega), List.take_succ_eq_append_getElem (show k < L.length by omega), h, List.append_assoc]
  rfl

set_option maxHeartbeats 4000000 in
set_option maxRecDepth 100000 in
theorem iOnly (A : Option Addr) (n c : Nat) (xs : List C) (a b : Int) (w : World) (hn : n ≤ 1048576) (hx : Cs w A n xs) (hg : Good xs) :
    Calls Try.prog 59 #[.slice A n c, .int .i64 a, .int .i64 b] w (RetO w (onlF xs a b)) := by
  have hl := hx.len
  have HT : Hid (∀ w, Cs w A n xs → Calls Try.prog 32 #[.slice A n c] w (RetO w (transF xs))) := fun w h => iTransform A n c xs w hn h hg.prod
  cases ht : transF xs with
  | none =>
    rw [ht] at HT
    have HN := Lib.hid (onlF_none (a := a) (b := b) ht)
    clear hl ht hg
    go_enter Try.func59, Try.ntmps59
    go_wp2_with fail
    refine (HT.out w hx).mono ?_
    rintro e w1 ⟨A1, m1, c1, rfl, ho1, hb1⟩
    simp only [Option.isSome_none]
    go_wp2_with fail
    go_ret2
    rw [HN.out]
    exact RetC.nil_ hb1
  | some l =>
    rw [ht] at HT
    have hsz : sizB xs = true := by
      cases hs : sizB xs
      · rw [transF_no hs] at ht; cases ht
      · rfl
    obtain ⟨_, l', e', hl2, hmd⟩ := hg hsz
    rw [ht] at e'
    injection e' with e'
    subst e'
    by_cases hk : 0 ≤ a ∧ a < (n : Int) ∧ 0 ≤ b ∧ b < (n : Int)
    case neg =>
      have HN := Lib.hid (onlF_out (xs := xs) (a := a) (b := b) (by rw [hl]; exact hk))
      have key : a < 0 ∨ (0 ≤ a ∧ (n : Int) ≤ a) ∨ (0 ≤ a ∧ a < (n : Int) ∧ b < 0) ∨ (0 ≤ a ∧ a < (n : Int) ∧ 0 ≤ b ∧ (n : Int) ≤ b) := by omega
      clear hl ht hg hmd hk hl2 hsz
      rcases key with h0 | ⟨h0, h1⟩ | ⟨h0, h1, h2⟩ | ⟨h0, h1, h2, h3⟩
      all_goals
        go_enter Try.func59, Try.ntmps59
        go_wp2_with fail
        refine (HT.out w hx).mono ?_
        rintro e w1 ⟨A1, m1, c1, rfl, ho1, hb1⟩
        simp only [Option.isSome_some]
        go_wp2_with fail
        go_ret2
        rw [HN.out]
        exact RetC.nil_ hb1
    have HY := Lib.hid (onlF_in ht (show 0 ≤ a ∧ a < xs.length ∧ 0 ≤ b ∧ b < xs.length by rw [hl]; exact hk))
    obtain ⟨a0, a1, b0, b1⟩ := hk
    have HB : Hid (∀ A' n' c' w', n' = n → Cs w' A' n' (mskL l a b) → Calls Try.prog 91 #[.slice A' n' c'] w' (RetO w' (backF (mskL l a b)))) := fun A' n' c' w' h1 h2 =>
      iBack A' n' c' _ w' (by omega) h2 fun _ => prodOk_k1 (mskL_md fun i hi => hmd i (by omega))
    have HL2 : Hid (l.length = n) := by show _ = _; omega
    have HML : Hid (((mskL l a b).map cv).length = n) := by show _ = _; rw [List.length_map, mskL_len]; exact HL2.out
    have HVL : Hid ((l.map cv).length = n) := by show _ = _; rw [List.length_map]; exact HL2.out
    clear hl ht hg hmd hl2 hsz
    go_enter Try.func59, Try.ntmps59
    go_wp2_with fail
    refine (HT.out w hx).mono ?_
    rintro e w1 ⟨A1, m1, c1, rfl, ho1, hb1⟩
    obtain rfl : m1 = n := by have h1 := ho1.len; have h2 := HVL.out; exact h1.symm.trans h2
    have HO1 : Hid (Ow w1 w.heap.size 45 (.slice A1 m1 c1) m1 (((mskL l a b).map cv).take 0 ++ (l.map cv).drop 0)) := ho1
    have HB1 := Lib.hid hb1
    simp only [Option.isSome_some]
    clear ho1 hb1 hx
    go_wp2_with fail
    go_loopw [40] (fun i wr => ∃ k : Nat, k ≤ m1 ∧ i = .int .i64 k ∧ Ow wr w.heap.size 45 (.slice A1 m1 c1) m1 (((mskL l a b).map cv).take k ++ (l.map cv).drop k) ∧ Below w.heap.size w wr) (fun i _ => m1 - (intOf i).toNat)
    case atStart => exact ⟨0, by omega, rfl, HO1.out, HB1.out⟩
    case round =>
      obtain ⟨k, hk, rfl, ho, hb⟩ := hrel
      have HBW := Lib.hid hb
      by_cases hlt : k < m1
      · have HG := Lib.hid (mskL_get (a := a) (b := b) (show k < l.length by rw [HL2.out]; exact hlt))
        by_cases hmk : (k : Int) < a ∨ b < (k : Int)
        · obtain ⟨g, rfl, hge, hgl, hcell, hfr, hst⟩ := Ow.at_ ho hlt
          have HGL := Lib.hid hge
          have hL := ho.len
          have hck : wr.cell? ⟨g, k, none⟩ = some ((((mskL l a b).map cv).take k ++ (l.map cv).drop k)[k]'(by omega)) := (hcell k hlt).trans (List.getElem?_eq_getElem _)
          generalize (((mskL l a b).map cv).take k ++ (l.map cv).drop k)[k]'(by omega) = u0 at hck
          have hfr2 := hfr k
          have HS : Hid (Ow (wr.setCell ⟨g, k, none⟩ (.complex .f32 0 0)) w.heap.size 45 (.slice (some ⟨g, 0, none⟩) m1 c1) m1 (((mskL l a b).map cv).take (k + 1) ++ (l.map cv).drop (k + 1))) := by
            have h1 := hst k (cv (0, 0))
            have h2 := HG.out
            rw [if_pos hmk] at h2
            rw [over_set HML.out HVL.out hlt h2] at h1
            exact h1
          clear hst hfr hcell ho hb hL
          have key : (k : Int) < a ∨ (a ≤ (k : Int) ∧ b < (k : Int)) := by omega
          clear hmk
          rcases key with hka | ⟨hka, hkb⟩
          all_goals
            go_wp2_with fail
            go_roundw
            case rel => exact ⟨k + 1, by omega, by go_num, HS.out, HBW.out.setCell HGL.out _⟩
            case measure => simp [intOf]; omega
        · have HS : Hid (Ow wr w.heap.size 45 (.slice A1 m1 c1) m1 (((mskL l a b).map cv).take (k + 1) ++ (l.map cv).drop (k + 1))) := by
            have h2 := HG.out
            rw [if_neg hmk] at h2
            have h3 := over_same HML.out HVL.out hlt (h2.trans (by rw [List.getElem?_map, List.getElem?_eq_getElem (by rw [HL2.out]; exact hlt), nth_eq (by rw [HL2.out]; exact hlt)]; rfl))
            show Ow _ _ _ _ _ _
            rw [← h3]; exact ho
          have hka : a ≤ (k : Int) := by omega
          have hkb : (k : Int) ≤ b := by omega
          clear hmk ho hb
          go_wp2_with fail
          go_roundw
          case rel => exact ⟨k + 1, by omega, by go_num, HS.out, HBW.out⟩
          case measure => simp [intOf]; omega
      · obtain rfl : k = m1 := by omega
        have HOF : Hid (Cs wr A1 k (mskL l a b)) := by
          have := ho.sl
          rw [List.take_of_length_le (by rw [HML.out]; omega), List.drop_of_length_le (by rw [HVL.out]; omega), List.append_nil] at this
          exact this
        clear ho hb
        go_wp2_with fail
        refine (HB.out _ _ _ _ rfl HOF.out).mono ?_
        rintro e w3 hr
        have hr2 := RetC.trans hr HBW.out
        rw [← HY.out] at hr2
        obtain ⟨A3, m3, c3, rfl, ho3, hb3⟩ := hr2
        have HR : Hid (RetO w (onlF xs a b) (.returned (.tuple #[.slice A3 m3 c3, .bool (onlF xs a b).isSome])) w3) := ⟨A3, m3, c3, rfl, ho3, hb3⟩
        generalize (onlF xs a b).isSome = okk at *
        clear hr ho3 hb3
        go_wp2_with fail
        go_ret2
        exact HR.out

set_option maxHeartbeats 4000000 in
set_option maxRecDepth 100000 in
theorem sOnly (A : Option Addr) (n c : Nat) (xs : List C) (a b : Int) (w : World) (hn : n ≤ 1048576) (hx : Cs w A n xs) (hg : Good xs) :
    Calls Try.prog 60 #[.slice A n c, .int .i64 a, .int .i64 b] w (RetO w (onlF xs a b)) := by
  have hl := hx.len
  have HT : Hid (∀ w, Cs w A n xs → Calls Try.prog 92 #[.slice A n c] w (RetO w (transF xs))) := fun w h => sTransform A n c xs w hn h hg.prod
  cases ht : transF xs with
  | none =>
    rw [ht] at HT
    have HN := Lib.hid (onlF_none (a := a) (b := b) ht)
    clear hl ht hg
    go_enter Try.func60, Try.ntmps60
    go_wp2_with fail
    refine (HT.out w hx).mono ?_
    rintro e w1 ⟨A1, m1, c1, rfl, ho1, hb1⟩
    simp only [Option.isSome_none]
    go_wp2_with fail
    go_ret2
    rw [HN.out]
    exact RetC.empty ((Ow.empty w1 45).mono hb1.size) (hb1.alloc hb1.size _)
  | some l =>
    rw [ht] at HT
    have hsz : sizB xs = true := by
      cases hs : sizB xs
      · rw [transF_no hs] at ht; cases ht
      · rfl
    obtain ⟨_, l', e', hl2, hmd⟩ := hg hsz
    rw [ht] at e'
    injection e' with e'
    subst e'
    have e0 : IntKind.i64.wrap ((n : Int) - 1) = (n : Int) - 1 := IntWalk.i64_in _ (by omega)
    by_cases hk : 0 ≤ a ∧ a < (n : Int) ∧ 0 ≤ b ∧ b < (n : Int)
    case neg =>
      have HN := Lib.hid (onlF_out (xs := xs) (a := a) (b := b) (by rw [hl]; exact hk))
      by_cases ha : inB a 0 ((n : Int) - 1) = true
      · have hb : inB b 0 ((n : Int) - 1) = false := by
          have := inB_iff.1 ha
          rw [inB_false_iff]; omega
        clear hl ht hg hmd hk hl2 hsz
        go_enter Try.func60, Try.ntmps60
        go_wp2_with fail
        refine (HT.out w hx).mono ?_
        rintro e w1 ⟨A1, m1, c1, rfl, ho1, hb1⟩
        simp only [Option.isSome_some]
        go_wp2_with fail
        refine (l1In_any _ _ _ _).mono ?_
        rintro e w2 ⟨rfl, hw2⟩
        obtain rfl := hw2.symm
        go_wp2_with fail
        refine (l1In_any _ _ _ _).mono ?_
        rintro e w2 ⟨rfl, hw2⟩
        obtain rfl := hw2.symm
        go_wp2_with fail
        go_ret2
        rw [HN.out]
        exact RetC.empty ((Ow.empty w1 45).mono hb1.size) (hb1.alloc hb1.size _)
      · have ha' : inB a 0 ((n : Int) - 1) = false := by simpa using ha
        clear hl ht hg hmd hk hl2 hsz ha
        go_enter Try.func60, Try.ntmps60
        go_wp2_with fail
        refine (HT.out w hx).mono ?_
        rintro e w1 ⟨A1, m1, c1, rfl, ho1, hb1⟩
        simp only [Option.isSome_some]
        go_wp2_with fail
        refine (l1In_any _ _ _ _).mono ?_
        rintro e w2 ⟨rfl, hw2⟩
        obtain rfl := hw2.symm
        go_wp2_with fail
        go_ret2
        rw [HN.out]
        exact RetC.empty ((Ow.empty w1 45).mono hb1.size) (hb1.alloc hb1.size _)
    have HY := Lib.hid (onlF_in ht (show 0 ≤ a ∧ a < xs.length ∧ 0 ≤ b ∧ b < xs.length by rw [hl]; exact hk))
    obtain ⟨a0, a1, b0, b1⟩ := hk
    have HB : Hid (∀ A' n' c' w', n' = n → Cs w' A' n' (mskL l a b) → Calls Try.prog 93 #[.slice A' n' c'] w' (RetO w' (backF (mskL l a b)))) := fun A' n' c' w' h1 h2 =>
      sBack A' n' c' _ w' (by omega) h2 fun _ => prodOk_k1 (mskL_md fun i hi => hmd i (by omega))
    have HL2 : Hid (l.length = n) := by show _ = _; omega
    have HML : Hid (((mskL l a b).map cv).length = n) := by show _ = _; rw [List.length_map, mskL_len]; exact HL2.out
    have ia : inB a 0 ((n : Int) - 1) = true := inB_true (by omega) (by omega)
    have ib : inB b 0 ((n : Int) - 1) = true := inB_true (by omega) (by omega)
    clear hl ht hg hmd hl2 hsz
    go_enter Try.func60, Try.ntmps60
    go_wp2_with fail
    refine (HT.out w hx).mono ?_
    rintro e w1 ⟨A1, m1, c1, rfl, ho1, hb1⟩
    obtain rfl : m1 = n := by have h1 := ho1.len; rw [List.length_map] at h1; have h2 := HL2.out; exact h1.symm.trans h2
    have HO1 : Hid (Cs w1 A1 m1 l) := ho1.sl
    have HB1 := Lib.hid hb1
    have hm16 : m1 ≤ 1048576 := hn
    simp only [Option.isSome_some]
    clear ho1 hb1 hx
    go_wp2_with fail
    refine (l1In_any _ _ _ _).mono ?_
    rintro e w2 ⟨rfl, hw2⟩
    obtain rfl := hw2.symm
    go_wp2_with fail
    refine (l1In_any _ _ _ _).mono ?_
    rintro e w2 ⟨rfl, hw2⟩
    obtain rfl := hw2.symm
    have HE : Hid (Ow (w1.alloc (.cells #[] 45)) w1.heap.size 45 (.slice (some ⟨w1.heap.size, 0, none⟩) 0 0) 0 (((mskL l a b).map cv).take 0)) := Ow.empty w1 45
    have HBE : Hid (Below w1.heap.size w1 (w1.alloc (.cells #[] 45))) := below_alloc _ _
    go_wp2_with fail
    go_loopw [10, 11] (fun v i wr => ∃ k : Nat, k ≤ m1 ∧ i = .int .i64 k ∧ Ow wr w1.heap.size 45 v k (((mskL l a b).map cv).take k) ∧ Below w1.heap.size w1 wr) (fun _ i _ => m1 - (intOf i).toNat)
    case atStart => exact ⟨0, by omega, rfl, HE.out, HBE.out⟩
    case round =>
      obtain ⟨k, hk, rfl, ho, hb⟩ := hrel
      have HBW := Lib.hid hb
      have HOW := Lib.hid ho
      clear ho
      by_cases hlt : k < m1
      · have HG := Lib.hid (mskL_get (a := a) (b := b) (show k < l.length by rw [HL2.out]; exact hlt))
        have hsz := HBW.out.size
        by_cases hmk : (k : Int) < a ∨ b < (k : Int)
        · have HN : Hid (((mskL l a b).map cv).take k ++ [.complex .f32 0 0] = ((mskL l a b).map cv).take (k + 1)) := by
            have h2 := HG.out
            rw [if_pos hmk] at h2
            exact take_snoc' h2
          have key : (k : Int) < a ∨ (a ≤ (k : Int) ∧ b < (k : Int)) := by omega
          clear hmk hb
          rcases key with hka | ⟨hka, hkb⟩
          all_goals
            go_wp2_with (at_builtin; refine wl_appB w1.heap.size [.complex .f32 0 0] hsz rfl (.tmp 51) (.tmp 52) 23 rfl Try.eC _ k _ rfl HOW.out rfl (by simp [Value.oneCell']) (by simp [maxLen]; omega) (by simp; omega) ?_; intro v' w4 ho4 hb4; have HB4 := Lib.hid hb4; have HO4 := Lib.hid ho4; clear ho4 hb4)
            go_roundw
            case rel => exact ⟨k + 1, by omega, by go_num, by rw [← HN.out]; exact HO4.out, HBW.out.trans HB4.out⟩
            case measure => simp [intOf]; omega
        · obtain ⟨bl, o, rfl, hbl, hc⟩ := HO1.out.at_ hlt
          have hck : wr.cell? ⟨bl, o + k, none⟩ = some (cv (nth l k)) := (hb.cell (p := ⟨bl, o + k, none⟩) hbl).trans (hc k hlt)
          have HN : Hid (((mskL l a b).map cv).take k ++ [cv (nth l k)] = ((mskL l a b).map cv).take (k + 1)) := by
            have h2 := HG.out
            rw [if_neg hmk] at h2
            exact take_snoc' h2
          have hka : a ≤ (k : Int) := by omega
          have hkb : (k : Int) ≤ b := by omega
          generalize nth l k = z at *
          unfold cv at hck
          clear hmk hb hc
          go_wp2_with (at_builtin; refine wl_appB w1.heap.size [.complex .f32 z.1 z.2] hsz rfl (.tmp 54) (.tmp 59) 23 rfl Try.eC _ k _ rfl HOW.out rfl (by simp [Value.oneCell']) (by simp [maxLen]; omega) (by simp; omega) ?_; intro v' w4 ho4 hb4; have HB4 := Lib.hid hb4; have HO4 := Lib.hid ho4; clear ho4 hb4)
          go_roundw
          case rel => exact ⟨k + 1, by omega, by go_num, by rw [← HN.out]; exact HO4.out, HBW.out.trans HB4.out⟩
          case measure => simp [intOf]; omega
      · obtain rfl : k = m1 := by omega
        obtain ⟨A2, c2, rfl⟩ := HOW.out.shape
        have HOF : Hid (Cs wr A2 k (mskL l a b)) := by
          have := HOW.out.sl
          rw [List.take_of_length_le (by rw [HML.out]; omega)] at this
          exact this
        have HBF : Hid (Below w.heap.size w wr) := HB1.out.trans (HBW.out.mono HB1.out.size)
        clear hb
        go_wp2_with fail
        refine (HB.out _ _ _ _ rfl HOF.out).mono ?_
        rintro e w3 hr
        have hr2 := RetC.trans hr HBF.out
        rw [← HY.out] at hr2
        obtain ⟨A3, m3, c3, rfl, ho3, hb3⟩ := hr2
        have HR : Hid (RetO w (onlF xs a b) (.returned (.tuple #[.slice A3 m3 c3, .bool (onlF xs a b).isSome])) w3) := ⟨A3, m3, c3, rfl, ho3, hb3⟩
        generalize (onlF xs a b).isSome = okk at *
        clear hr ho3 hb3
        go_wp2_with fail
        go_ret2
        exact HR.out
end Go.Proofs.Ytficlmnjbbpicaa
