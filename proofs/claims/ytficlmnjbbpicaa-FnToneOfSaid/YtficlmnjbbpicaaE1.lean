/- Every second number. -/
import Derived.Test.YtficlmnjbbpicaaW2
import Derived.Test.YtficlmnjbbpicaaT5
namespace Go.Proofs.Ytficlmnjbbpicaa
open Go.RowKit

def evT (xs : List C) (j : Nat) : List C := (List.range j).map fun i => nth xs (2 * i)
theorem evT_succ (xs : List C) (j : Nat) : evT xs (j + 1) = evT xs j ++ [nth xs (2 * j)] := by unfold evT; rw [List.range_succ, List.map_append]; rfl
theorem evT_len (xs : List C) (j : Nat) : (evT xs j).length = j := by simp [evT]
/-- The numbers at even places. -/
def evs (xs : List C) : List C := if sigB xs then evT xs ((xs.length + 1) / 2) else []
theorem evs_no {xs : List C} (h : sigB xs = false) : evs xs = [] := by unfold evs; rw [h]; rfl
theorem evs_yes {xs : List C} {n : Nat} (h : sigB xs = true) (hl : xs.length = n) : evs xs = evT xs ((n + 1) / 2) := by unfold evs; rw [h, hl]; rfl
theorem RetS.empty {w w' : World} {c : Nat} {g : Nat} (ho : Ow w' w.heap.size 45 (.slice (some ⟨g, 0, none⟩) 0 c) 0 []) (h : Below w.heap.size w w') : RetS w [] (.returned (.slice (some ⟨g, 0, none⟩) 0 c)) w' := ⟨_, _, _, rfl, ho, h⟩

set_option maxHeartbeats 2000000 in
set_option maxRecDepth 100000 in
theorem iEvery (A : Option Addr) (n c : Nat) (xs : List C) (w : World) (hn : n ≤ 1048576) (hx : Cs w A n xs) :
    Calls Try.prog 45 #[.slice A n c] w (RetS w (evs xs)) := by
  have hl := hx.len
  cases hs : sigB xs
  · have HN := Lib.hid (evs_no hs)
    have HC : Hid (∀ w, Cs w A n xs → Calls Try.prog 30 #[.slice A n c] w fun e w' => e = .returned (.bool false) ∧ Dr w w') := fun w h => by rw [← hs]; exact iSignalOk A n c xs w (by omega) h
    clear hl hs
    go_enter Try.func45, Try.ntmps45
    go_wp2_with fail
    refine (HC.out _ hx).mono ?_
    rintro e w' ⟨rfl, m, rfl⟩
    go_wp2_with fail
    go_ret
    rw [HN.out]
    exact RetS.nil_ (below_drewN (Below.refl _ _) m)
  · have HY := Lib.hid (evs_yes hs hl)
    have HC : Hid (∀ w, Cs w A n xs → Calls Try.prog 30 #[.slice A n c] w fun e w' => e = .returned (.bool true) ∧ Dr w w') := fun w h => by rw [← hs]; exact iSignalOk A n c xs w (by omega) h
    have h16 : n ≤ 16 := by unfold sigB at hs; simp at hs; omega
    have e0 : IntKind.i64.wrap ((n : Int) + 1) = (n : Int) + 1 := IntWalk.i64_in _ (by omega)
    clear hl hs
    go_enter Try.func45, Try.ntmps45
    go_wp2_with fail
    refine (HC.out _ hx).mono ?_
    rintro e w' ⟨rfl, m, rfl⟩
    go_wp2_with (at_make; refine wl_make0 (w0 := w.drewN m) rfl (.const (.int .i64 0)) (.tmp 11) 23 rfl Try.eC .i64 .i64 ((n + 1) / 2) _ rfl rfl (by push_cast; rfl) (by omega) (by unfold maxLen; omega) (Below.refl _ _) ?_; intro w1 hown hb1 _)
    have HO1 : Hid (Ow w1 w.heap.size 45 (.slice (some ⟨w.heap.size, 0, none⟩) 0 ((n + 1) / 2)) 0 []) := hown
    have HB1 : Hid (Below w.heap.size w w1) := ⟨hb1.os, hb1.tape, hb1.output, hb1.size, hb1.block⟩
    clear hown hb1
    go_loopw [3, 4] (fun v i wr => ∃ (j p : Nat), p = 2 * j ∧ p ≤ n + 1 ∧ i = .int .i64 p ∧ Ow wr w.heap.size 45 v j ((evT xs j).map cv) ∧ Below w.heap.size w wr) (fun _ i _ => n + 1 - (intOf i).toNat)
    case atStart => exact ⟨0, 0, rfl, by omega, rfl, HO1.out, HB1.out⟩
    case round =>
      obtain ⟨j, p, hp, hpn, rfl, ho, hb⟩ := hrel
      have HP := Lib.hid hp
      have HO := Lib.hid ho
      have HB := Lib.hid hb
      have hj : j ≤ 8 := by omega
      clear hp ho
      by_cases hlt : p < n
      · obtain ⟨b, o, rfl, hbl, hc⟩ := hx.at_ hlt
        have hck : wr.cell? ⟨b, o + p, none⟩ = some (cv (nth xs p)) := (hb.cell (p := ⟨b, o + p, none⟩) hbl).trans (hc p hlt)
        have HN : Hid (evT xs (j + 1) = evT xs j ++ [nth xs p]) := by show _ = _; rw [evT_succ, HP.out]
        have hsz := HB.out.size
        clear hc hb hx
        generalize nth xs p = z at *
        unfold cv at hck
        go_wp2_with (at_builtin; refine wl_appB w.heap.size [.complex .f32 z.1 z.2] hsz rfl (.tmp 19) (.tmp 24) 23 rfl Try.eC _ j _ rfl HO.out rfl (by simp [Value.oneCell']) (by simp [maxLen]; omega) (by simp; omega) ?_; intro v' w4 ho4 hb4)
        go_roundw
        case rel => exact ⟨j + 1, p + 2, by rw [HP.out]; omega, by omega, by go_num, by rw [HN.out, List.map_append]; exact ho4, HB.out.trans hb4⟩
        case measure => simp [intOf]; omega
      · have HJ : Hid (j = (n + 1) / 2) := by show _ = _; have := HP.out; omega
        obtain ⟨A2, c2, rfl⟩ := HO.out.shape
        clear hb hx
        go_wp2_with fail
        go_ret
        rw [HY.out, ← HJ.out]
        exact ⟨_, _, _, rfl, HO.out, HB.out⟩
set_option maxHeartbeats 2000000 in
set_option maxRecDepth 100000 in
theorem sEvery (A : Option Addr) (n c : Nat) (xs : List C) (w : World) (hn : n ≤ 1048576) (hx : Cs w A n xs) :
    Calls Try.prog 46 #[.slice A n c] w (RetS w (evs xs)) := by
  have hl := hx.len
  have he := Ow.empty w 45
  have hb0 := below_alloc w (.cells #[] 45)
  have HC : Hid (∀ w, Cs w A n xs → Calls Try.prog 88 #[.slice A n c] w fun e w' => e = .returned (.bool (sigB xs)) ∧ Dr w w') := fun w h => sSignalOk A n c xs w (by omega) h
  rcases Nat.eq_zero_or_pos n with h0 | hpos
  · subst h0
    have HN : Hid (evs xs = []) := by
      show _ = _
      unfold evs
      split
      · rw [hl]; rfl
      · rfl
    clear hl hx
    go_enter Try.func46, Try.ntmps46
    go_wp2_with fail
    go_loopw [3, 4] (fun v i wr => v = .slice (some ⟨w.heap.size, 0, none⟩) 0 0 ∧ i = .int .i64 0 ∧ w.alloc (.cells #[] 45) = wr) (fun _ i _ => (intOf i).toNat)
    case atStart => exact ⟨rfl, rfl, rfl⟩
    case round =>
      obtain ⟨rfl, rfl, rfl⟩ := hrel
      go_wp2_with fail
      go_ret
      rw [HN.out]
      exact RetS.empty he hb0
  have HE := Lib.hid he
  have HB0 := Lib.hid hb0
  clear he hb0
  cases hs : sigB xs
  · have HN := Lib.hid (evs_no hs)
    rw [hs] at HC
    clear hl hs
    go_enter Try.func46, Try.ntmps46
    go_wp2_with fail
    go_loopw [3, 4] (fun v i wr => v = .slice (some ⟨w.heap.size, 0, none⟩) 0 0 ∧ i = .int .i64 0 ∧ w.alloc (.cells #[] 45) = wr) (fun _ i _ => (intOf i).toNat)
    case atStart => exact ⟨rfl, rfl, rfl⟩
    case round =>
      obtain ⟨rfl, rfl, rfl⟩ := hrel
      go_wp2_with fail
      refine (HC.out _ (hx.below HB0.out)).mono ?_
      rintro e w' ⟨rfl, m, rfl⟩
      go_wp2_with fail
      go_ret
      rw [HN.out]
      exact RetS.empty HE.out (below_drewN HB0.out m)
  · have HY := Lib.hid (evs_yes hs hl)
    have h16 : n ≤ 16 := by unfold sigB at hs; simp at hs; omega
    rw [hs] at HC
    clear hl hs
    go_enter Try.func46, Try.ntmps46
    go_wp2_with fail
    go_loopw [3, 4] (fun v i wr => ∃ (j p : Nat), p = 2 * j ∧ p ≤ n + 1 ∧ i = .int .i64 p ∧ Ow wr w.heap.size 45 v j ((evT xs j).map cv) ∧ Below w.heap.size w wr) (fun _ i _ => n + 1 - (intOf i).toNat)
    case atStart => exact ⟨0, 0, rfl, by omega, rfl, HE.out, HB0.out⟩
    case round =>
      obtain ⟨j, p, hp, hpn, rfl, ho, hb⟩ := hrel
      have HP := Lib.hid hp
      have HO := Lib.hid ho
      have HB := Lib.hid hb
      have hj : j ≤ 8 := by omega
      clear hp ho
      by_cases hlt : p < n
      · obtain ⟨b, o, rfl, hbl, hc⟩ := hx.at_ hlt
        have HCK : Hid (wr.cell? ⟨b, o + p, none⟩ = some (cv (nth xs p))) := (hb.cell (p := ⟨b, o + p, none⟩) hbl).trans (hc p hlt)
        have HN : Hid (evT xs (j + 1) = evT xs j ++ [nth xs p]) := by show _ = _; rw [evT_succ, HP.out]
        have HXR := Lib.hid (hx.below hb)
        clear hc hb hx
        generalize nth xs p = z at *
        go_wp2_with fail
        refine (HC.out _ HXR.out).mono ?_
        rintro e w' ⟨rfl, m, hw⟩
        have hck : w'.cell? ⟨b, o + p, none⟩ = some (cv z) := by rw [hw]; exact HCK.out
        have HO2 : Hid (Ow w' w.heap.size 45 u3 j ((evT xs j).map cv)) := by rw [hw]; exact HO.out.drewN m
        have HB2 : Hid (Below w.heap.size w w') := by rw [hw]; exact below_drewN HB.out m
        have hsz := HB2.out.size
        clear hw
        unfold cv at hck
        go_wp2_with (at_builtin; refine wl_appB w.heap.size [.complex .f32 z.1 z.2] hsz rfl (.tmp 16) (.tmp 21) 23 rfl Try.eC _ j _ rfl HO2.out rfl (by simp [Value.oneCell']) (by simp [maxLen]; omega) (by simp; omega) ?_; intro v' w4 ho4 hb4)
        go_roundw
        case rel => exact ⟨j + 1, p + 2, by rw [HP.out]; omega, by omega, by go_num, by rw [HN.out, List.map_append]; exact ho4, HB2.out.trans hb4⟩
        case measure => simp [intOf]; omega
      · have HJ : Hid (j = (n + 1) / 2) := by show _ = _; have := HP.out; omega
        obtain ⟨A2, c2, rfl⟩ := HO.out.shape
        clear hb hx
        go_wp2_with fail
        go_ret
        rw [HY.out, ← HJ.out]
        exact ⟨_, _, _, rfl, HO.out, HB.out⟩
end Go.Proofs.Ytficlmnjbbpicaa
