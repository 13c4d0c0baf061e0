/- Noughts between. -/
import Derived.Test.YtficlmnjbbpicaaE1
namespace Go.Proofs.Ytficlmnjbbpicaa
open Go.RowKit

def wzT (xs : List C) (j : Nat) : List C := (List.range j).flatMap fun i => [nth xs i, (0, 0)]
theorem wzT_succ (xs : List C) (j : Nat) : wzT xs (j + 1) = wzT xs j ++ [nth xs j, (0, 0)] := by unfold wzT; rw [List.range_succ, List.flatMap_append]; simp
theorem wzT_len (xs : List C) : ∀ j, (wzT xs j).length = 2 * j
  | 0 => rfl
  | j + 1 => by rw [wzT_succ, List.length_append, wzT_len xs j]; rfl
/-- With noughts between. -/
def wzs (xs : List C) : List C := if sigB xs && decide (xs.length ≤ 8) then wzT xs xs.length else []
theorem wzs_no {xs : List C} (h : sigB xs = false ∨ 8 < xs.length) : wzs xs = [] := by
  unfold wzs
  rcases h with h | h
  · rw [h]; rfl
  · rw [decide_eq_false (by omega), Bool.and_false]; rfl
theorem wzs_yes {xs : List C} {n : Nat} (h : sigB xs = true) (hl : xs.length = n) (h8 : n ≤ 8) : wzs xs = wzT xs n := by unfold wzs; rw [h, hl, decide_eq_true h8]; rfl
theorem wz_set (l : List Value) {n k : Nat} (hl : l.length = 2 * k) (hk : k < n) (u : Value) : (l ++ List.replicate (2 * n - 2 * k) (Value.complex .f32 0 0)).set (2 * k) u = (l ++ [u, Value.complex .f32 0 0]) ++ List.replicate (2 * n - 2 * (k + 1)) (Value.complex .f32 0 0) := by
  obtain ⟨d, hd⟩ : ∃ d, 2 * n - 2 * k = d + 1 + 1 := ⟨2 * n - 2 * k - 2, by omega⟩
  have hd2 : 2 * n - 2 * (k + 1) = d := by omega
  rw [List.set_append_right _ _ (by omega), hl, Nat.sub_self, hd, hd2, List.replicate_succ, List.replicate_succ, List.set_cons_zero, List.append_assoc]
  rfl
theorem wz_get (l : List Value) {n k : Nat} (hl : l.length = 2 * k) (hk : k < n) : (l ++ List.replicate (2 * n - 2 * k) (Value.complex .f32 0 0))[2 * k]? = some (.complex .f32 0 0) := by
  rw [List.getElem?_append_right (by omega), hl, Nat.sub_self, List.getElem?_replicate, if_pos (by omega)]

set_option maxHeartbeats 2000000 in
set_option maxRecDepth 100000 in
theorem iZeros (A : Option Addr) (n c : Nat) (xs : List C) (w : World) (hn : n ≤ 1048576) (hx : Cs w A n xs) :
    Calls Try.prog 42 #[.slice A n c] w (RetS w (wzs xs)) := by
  have hl := hx.len
  cases hs : sigB xs
  · have HN := Lib.hid (wzs_no (.inl hs))
    have HC : Hid (∀ w, Cs w A n xs → Calls Try.prog 30 #[.slice A n c] w fun e w' => e = .returned (.bool false) ∧ Dr w w') := fun w h => by rw [← hs]; exact iSignalOk A n c xs w (by omega) h
    clear hl hs
    go_enter Try.func42, Try.ntmps42
    go_wp2_with fail
    refine (HC.out _ hx).mono ?_
    rintro e w' ⟨rfl, m, rfl⟩
    go_wp2_with fail
    go_ret
    rw [HN.out]
    exact RetS.nil_ (below_drewN (Below.refl _ _) m)
  have HC : Hid (∀ w, Cs w A n xs → Calls Try.prog 30 #[.slice A n c] w fun e w' => e = .returned (.bool true) ∧ Dr w w') := fun w h => by rw [← hs]; exact iSignalOk A n c xs w (by omega) h
  by_cases h8 : 8 < n
  · have HN := Lib.hid (wzs_no (xs := xs) (.inr (by omega)))
    clear hl hs
    go_enter Try.func42, Try.ntmps42
    go_wp2_with fail
    refine (HC.out _ hx).mono ?_
    rintro e w' ⟨rfl, m, rfl⟩
    go_wp2_with fail
    go_ret
    rw [HN.out]
    exact RetS.nil_ (below_drewN (Below.refl _ _) m)
  · have HY := Lib.hid (wzs_yes hs hl (by omega))
    have e0 : IntKind.i64.wrap (2 * (n : Int)) = 2 * (n : Int) := IntWalk.i64_in _ (by omega)
    clear hl hs
    go_enter Try.func42, Try.ntmps42
    go_wp2_with fail
    refine (HC.out _ hx).mono ?_
    rintro e w' ⟨rfl, m, rfl⟩
    go_wp2_with (at_make; refine wl_make (w0 := w.drewN m) rfl (.tmp 16) (.tmp 16) 23 rfl Try.eC .i64 .i64 (2 * n) _ _ rfl rfl (by push_cast; rfl) (by push_cast; rfl) (by omega) (by unfold maxLen; omega) (Below.refl _ _) ?_; intro w1 hown hb1 _)
    have HO1 : Hid (Ow w1 w.heap.size 45 (.slice (some ⟨w.heap.size, 0, none⟩) (2 * n) (2 * n)) (2 * n) (List.replicate (2 * n) (.complex .f32 0 0))) := hown
    have HB1 : Hid (Below w.heap.size w w1) := ⟨hb1.os, hb1.tape, hb1.output, hb1.size, hb1.block⟩
    clear hown hb1
    go_loopw [20] (fun i wr => ∃ k : Nat, k ≤ n ∧ i = .int .i64 k ∧ Ow wr w.heap.size 45 (.slice (some ⟨w.heap.size, 0, none⟩) (2 * n) (2 * n)) (2 * n) ((wzT xs k).map cv ++ List.replicate (2 * n - 2 * k) (.complex .f32 0 0)) ∧ Below w.heap.size w wr) (fun i _ => n - (intOf i).toNat)
    case atStart => exact ⟨0, by omega, rfl, HO1.out, HB1.out⟩
    case round =>
      obtain ⟨k, hk, rfl, ho, hb⟩ := hrel
      have HO := Lib.hid ho
      have HB := Lib.hid hb
      clear ho
      by_cases hlt : k < n
      · obtain ⟨b, o, rfl, hbl, hc⟩ := hx.at_ hlt
        have hck : wr.cell? ⟨b, o + k, none⟩ = some (cv (nth xs k)) := (hb.cell (p := ⟨b, o + k, none⟩) hbl).trans (hc k hlt)
        have HN : Hid ((wzT xs (k + 1)).map cv = (wzT xs k).map cv ++ [cv (nth xs k), .complex .f32 0 0]) := by show _ = _; rw [wzT_succ, List.map_append]; rfl
        have HLL : Hid (((wzT xs k).map cv).length = 2 * k) := by show _ = _; rw [List.length_map]; exact wzT_len xs k
        obtain ⟨g, hg, hge, hgl, hcell, hfr, hst⟩ := Ow.at_ HO.out (k := 2 * k) (by omega)
        injection hg with hg
        injection hg with hg
        subst hg
        have hck2 : wr.cell? ⟨w.heap.size, 2 * k, none⟩ = some (.complex .f32 0 0) := (hcell (2 * k) (by omega)).trans (wz_get _ HLL.out hlt)
        have hfr2 := hfr (2 * k)
        have hst2 := hst (2 * k) (cv (nth xs k))
        rw [wz_set _ HLL.out hlt] at hst2
        have HS := Lib.hid hst2
        have e3 : IntKind.i64.wrap (2 * (k : Int)) = 2 * (k : Int) := IntWalk.i64_in _ (by omega)
        have f1 : (0 : Int) ≤ 2 * (k : Int) := by omega
        have f2 : 2 * (k : Int) < 2 * (n : Int) := by omega
        have f3 : (2 * (k : Int)).toNat = 2 * k := by omega
        clear hc hb hx hst2 hcell hfr hst
        generalize nth xs k = z at *
        unfold cv at hck HS
        go_wp2_with fail
        go_roundw
        case rel => exact ⟨k + 1, by omega, by go_num, by rw [HN.out]; exact HS.out, HB.out.setCell (Nat.le_refl _) _⟩
        case measure => simp [intOf]; omega
      · obtain rfl : k = n := by omega
        clear hb hx
        go_wp2_with fail
        go_ret
        rw [HY.out]
        refine ⟨_, _, _, rfl, ?_, HB.out⟩
        have := HO.out
        rw [Nat.sub_self, List.replicate_zero, List.append_nil] at this
        exact this
set_option maxHeartbeats 2000000 in
set_option maxRecDepth 100000 in
theorem sZeros (A : Option Addr) (n c : Nat) (xs : List C) (w : World) (hn : n ≤ 1048576) (hx : Cs w A n xs) :
    Calls Try.prog 43 #[.slice A n c] w (RetS w (wzs xs)) := by
  have hl := hx.len
  have he := Ow.empty w 45
  have hb0 := below_alloc w (.cells #[] 45)
  have HC : Hid (∀ w, Cs w A n xs → Calls Try.prog 88 #[.slice A n c] w fun e w' => e = .returned (.bool (sigB xs)) ∧ Dr w w') := fun w h => sSignalOk A n c xs w (by omega) h
  rcases Nat.eq_zero_or_pos n with h0 | hpos
  · subst h0
    have HN : Hid (wzs xs = []) := by
      show _ = _
      unfold wzs
      split
      · rw [hl]; rfl
      · rfl
    clear hl hx
    go_enter Try.func43, Try.ntmps43
    go_wp2_with fail
    go_loopw [3, 4] (fun v i wr => v = .slice (some ⟨w.heap.size, 0, none⟩) 0 0 ∧ i = .int .i64 0 ∧ w.alloc (.cells #[] 45) = wr) (fun _ i _ => (intOf i).toNat)
    case atStart => exact ⟨rfl, rfl, rfl⟩
    case round =>
      obtain ⟨rfl, rfl, rfl⟩ := hrel
      go_wp2_with fail
      go_ret
      rw [HN.out]
      exact RetS.empty he hb0
  have HE := Lib.hid he
  have HB0 := Lib.hid hb0
  clear he hb0
  cases hs : sigB xs
  · have HN := Lib.hid (wzs_no (.inl hs))
    rw [hs] at HC
    clear hl hs
    go_enter Try.func43, Try.ntmps43
    go_wp2_with fail
    go_loopw [3, 4] (fun v i wr => v = .slice (some ⟨w.heap.size, 0, none⟩) 0 0 ∧ i = .int .i64 0 ∧ w.alloc (.cells #[] 45) = wr) (fun _ i _ => (intOf i).toNat)
    case atStart => exact ⟨rfl, rfl, rfl⟩
    case round =>
      obtain ⟨rfl, rfl, rfl⟩ := hrel
      go_wp2_with fail
      refine (HC.out _ (hx.below HB0.out)).mono ?_
      rintro e w' ⟨rfl, m, rfl⟩
      go_wp2_with fail
      go_ret
      rw [HN.out]
      exact RetS.empty HE.out (below_drewN HB0.out m)
  rw [hs] at HC
  by_cases h8 : 8 < n
  · have HN := Lib.hid (wzs_no (xs := xs) (.inr (by omega)))
    clear hl hs
    go_enter Try.func43, Try.ntmps43
    go_wp2_with fail
    go_loopw [3, 4] (fun v i wr => v = .slice (some ⟨w.heap.size, 0, none⟩) 0 0 ∧ i = .int .i64 0 ∧ w.alloc (.cells #[] 45) = wr) (fun _ i _ => (intOf i).toNat)
    case atStart => exact ⟨rfl, rfl, rfl⟩
    case round =>
      obtain ⟨rfl, rfl, rfl⟩ := hrel
      go_wp2_with fail
      refine (HC.out _ (hx.below HB0.out)).mono ?_
      rintro e w' ⟨rfl, m, rfl⟩
      go_wp2_with fail
      go_ret
      rw [HN.out]
      exact RetS.empty HE.out (below_drewN HB0.out m)
  · have HY := Lib.hid (wzs_yes hs hl (by omega))
    clear hl hs
    go_enter Try.func43, Try.ntmps43
    go_wp2_with fail
    go_loopw [3, 4] (fun v i wr => ∃ j : Nat, j ≤ n ∧ i = .int .i64 j ∧ Ow wr w.heap.size 45 v (2 * j) ((wzT xs j).map cv) ∧ Below w.heap.size w wr) (fun _ i _ => n - (intOf i).toNat)
    case atStart => exact ⟨0, by omega, rfl, HE.out, HB0.out⟩
    case round =>
      obtain ⟨j, hj, rfl, ho, hb⟩ := hrel
      have HO := Lib.hid ho
      have HB := Lib.hid hb
      clear ho
      by_cases hlt : j < n
      · obtain ⟨b, o, rfl, hbl, hc⟩ := hx.at_ hlt
        have HCK : Hid (wr.cell? ⟨b, o + j, none⟩ = some (cv (nth xs j))) := (hb.cell (p := ⟨b, o + j, none⟩) hbl).trans (hc j hlt)
        have HN : Hid ((wzT xs (j + 1)).map cv = (wzT xs j).map cv ++ [cv (nth xs j), .complex .f32 0 0]) := by show _ = _; rw [wzT_succ, List.map_append]; rfl
        have HXR := Lib.hid (hx.below hb)
        clear hc hb hx
        generalize nth xs j = z at *
        go_wp2_with fail
        refine (HC.out _ HXR.out).mono ?_
        rintro e w' ⟨rfl, m, hw⟩
        have hck : w'.cell? ⟨b, o + j, none⟩ = some (cv z) := by rw [hw]; exact HCK.out
        have HO2 : Hid (Ow w' w.heap.size 45 u3 (2 * j) ((wzT xs j).map cv)) := by rw [hw]; exact HO.out.drewN m
        have HB2 : Hid (Below w.heap.size w w') := by rw [hw]; exact below_drewN HB.out m
        have hsz := HB2.out.size
        clear hw
        unfold cv at hck HN
        go_wp2_with (at_builtin; refine wl_appB w.heap.size [.complex .f32 z.1 z.2, .complex .f32 0 0] hsz rfl (.tmp 21) (.tmp 26) 23 rfl Try.eC _ (2 * j) _ rfl HO2.out rfl (by simp [Value.oneCell']) (by simp [maxLen]; omega) (by simp; omega) ?_; intro v' w4 ho4 hb4)
        go_roundw
        case rel => exact ⟨j + 1, by omega, by go_num, by rw [show List.map cv (wzT xs (j + 1)) = _ from HN.out]; exact ho4, HB2.out.trans hb4⟩
        case measure => simp [intOf]; omega
      · obtain rfl : j = n := by omega
        obtain ⟨A2, c2, rfl⟩ := HO.out.shape
        clear hb hx
        go_wp2_with fail
        go_ret
        rw [HY.out]
        exact ⟨_, _, _, rfl, HO.out, HB.out⟩
end Go.Proofs.Ytficlmnjbbpicaa
