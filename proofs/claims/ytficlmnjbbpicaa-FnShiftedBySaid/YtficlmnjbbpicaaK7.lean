/- Products of two signals: the reference's function; signals that are shifted. -/
import Derived.Test.YtficlmnjbbpicaaK5
import Derived.Test.YtficlmnjbbpicaaR1
import Derived.Test.YtficlmnjbbpicaaMg
namespace Go.Proofs.Ytficlmnjbbpicaa
open Go.RowKit

/-- What l1Told hands back of a list whose numbers are finite. -/
theorem told_any (A : Option Addr) (n c : Nat) (xs : List C) (w : World) (hn : n ≤ 1048576) (hx : Cs w A n xs) (hf : xs.all finB = true) :
    Calls Try.prog 112 #[.slice A n c] w fun e w' => e = .returned (.tuple #[.slice A n c, .bool true]) ∧ Dr w w' := by
  have HC : Hid (∀ w, Cs w A n xs → Calls Try.prog 108 #[.slice A n c] w fun e w' => e = .returned (.bool true) ∧ Dr w w') := fun w h => by
    have := sAll A n c xs w (by omega) h
    rw [hf] at this
    exact this
  clear hf
  go_enter Try.func112, Try.ntmps112
  go_wp2_with fail
  refine (HC.out _ hx).mono ?_
  rintro e w' ⟨rfl, m, rfl⟩
  go_wp2_with fail
  go_ret2
  exact ⟨rfl, m, rfl⟩
theorem rngL_fin {f : Nat → C} {n : Nat} (h : ∀ i, i < n → finB (f i) = true) : (rngL f n).all finB = true := List.all_eq_true.2 fun z hz => by
  unfold rngL at hz
  obtain ⟨i, hi, rfl⟩ := List.mem_map.1 hz
  exact h i (List.mem_range.1 hi)

set_option maxHeartbeats 2000000 in
set_option maxRecDepth 100000 in
theorem sEach (A A' : Option Addr) (n c c' : Nat) (xs ys : List C) (w : World) (hx : Cs w A n xs) (hy : Cs w A' n ys) (hs : sigB xs = true) (hs2 : sigB ys = true) (hp : ∀ i, i < n → finB (mulC (nth xs i) (nth ys i)) = true) :
    Calls Try.prog 95 #[.slice A n c, .slice A' n c'] w (RetC w (rngL (fun i => mulC (nth xs i) (nth ys i)) n) true) := by
  have hl := hx.len
  have hl2 := hy.len
  have h16 : n ≤ 16 := by rw [← hl]; exact sig_len hs
  have HC : Hid (∀ w, Cs w A n xs → Calls Try.prog 88 #[.slice A n c] w fun e w' => e = .returned (.bool true) ∧ Dr w w') := fun w h => by rw [← hs]; exact sSignalOk A n c xs w (by omega) h
  have HC2 : Hid (∀ w, Cs w A' n ys → Calls Try.prog 88 #[.slice A' n c'] w fun e w' => e = .returned (.bool true) ∧ Dr w w') := fun w h => by rw [← hs2]; exact sSignalOk A' n c' ys w (by omega) h
  have HM : Hid (∀ i, i < n → ∀ w, (binOp .mul 45 (.complex .f32 (nth xs i).1 (nth xs i).2) (.complex .f32 (nth ys i).1 (nth ys i).2)).run Try.prog w = .ok (.complex .f32 (mulC (nth xs i) (nth ys i)).1 (mulC (nth xs i) (nth ys i)).2) w) := fun i hi =>
    mulC_run Try.prog _ (fin_mk hs (by omega)) (fin_mk hs2 (by omega)) (hp i hi)
  have HFL := Lib.hid (rngL_fin hp)
  clear hs hs2 hp hl hl2
  go_enter Try.func95, Try.ntmps95
  go_wp2_with fail
  refine (HC.out _ hx).mono ?_
  rintro e w' ⟨rfl, m, rfl⟩
  go_wp2_with fail
  refine (HC2.out _ (hy.drewN m)).mono ?_
  rintro e w' ⟨rfl, m2, rfl⟩
  obtain ⟨w0, hw0⟩ : ∃ w0, w0 = (w.drewN m).drewN m2 := ⟨_, rfl⟩
  have HB0 : Hid (Below w.heap.size w w0) := by rw [hw0]; exact below_drewN (below_drewN (Below.refl _ _) m) m2
  have HX0 : Hid (Cs w0 A n xs) := hx.below HB0.out
  have HY0 : Hid (Cs w0 A' n ys) := hy.below HB0.out
  have HZ0 : Hid (w0.heap.size = w.heap.size) := by rw [hw0]; rfl
  rw [← hw0]
  clear hw0
  have HE : Hid (Ow (w0.alloc (.cells #[] 45)) w0.heap.size 45 (.slice (some ⟨w0.heap.size, 0, none⟩) 0 0) 0 ((rngL (fun i => mulC (nth xs i) (nth ys i)) 0).map cv)) := Ow.empty w0 45
  have HBE : Hid (Below w0.heap.size w0 (w0.alloc (.cells #[] 45))) := below_alloc _ _
  clear hx hy
  go_wp2_with fail
  go_loopw [6, 7] (fun v i wr => ∃ k : Nat, k ≤ n ∧ i = .int .i64 k ∧ Ow wr w0.heap.size 45 v k ((rngL (fun i => mulC (nth xs i) (nth ys i)) k).map cv) ∧ Below w0.heap.size w0 wr) (fun _ i _ => n - (intOf i).toNat)
  case atStart => exact ⟨0, by omega, rfl, HE.out, HBE.out⟩
  case round =>
    obtain ⟨k, hk, rfl, ho, hb⟩ := hrel
    have HO := Lib.hid ho
    have HB := Lib.hid hb
    clear ho
    by_cases hlt : k < n
    · obtain ⟨b, o, rfl, hbl, hc⟩ := HX0.out.at_ hlt
      obtain ⟨b', o', rfl, hbl', hc'⟩ := HY0.out.at_ hlt
      have hck : wr.cell? ⟨b, o + k, none⟩ = some (cv (nth xs k)) := (hb.cell (p := ⟨b, o + k, none⟩) hbl).trans (hc k hlt)
      have hck' : wr.cell? ⟨b', o' + k, none⟩ = some (cv (nth ys k)) := (hb.cell (p := ⟨b', o' + k, none⟩) hbl').trans (hc' k hlt)
      have q1 := HM.out k hlt
      have HN : Hid ((rngL (fun i => mulC (nth xs i) (nth ys i)) k).map cv ++ [cv (mulC (nth xs k) (nth ys k))] = (rngL (fun i => mulC (nth xs i) (nth ys i)) (k + 1)).map cv) := by show _ = _; rw [rngL_succ, List.map_append]; rfl
      have hsz := HB.out.size
      have hin : (k : Int) < (n : Int) := by omega
      clear hb hc hc'
      generalize mulC (nth xs k) (nth ys k) = p at *
      generalize nth xs k = x at *
      generalize nth ys k = y at *
      unfold cv at hck hck'
      have hkm : k + 1 ≤ maxLen := by unfold maxLen; omega
      have hkb : (k + 1) * 8 ≤ 140737488355328 := by omega
      have HBD : Hid (∀ wd, wd = wr ∨ wd = wr.drew → Below w0.heap.size w0 wd) := fun wd h => by
        rcases h with rfl | rfl
        · exact HB.out
        · exact HB.out.drew
      go_wp2_with fail
      go_region_law ((refine st_app1 (w0 := w0) rfl (.tmp 31) (.tmp 41) 23 rfl Try.eC u6 k _ rfl (show Ow wr.drew _ _ _ _ _ from HO.out) (.complex .f32 p.1 p.2) rfl rfl hkm hkb HB.out.drew ?_; intro v' w3 hown3 hb3; have HO3 := Lib.hid hown3; have HB3 := Lib.hid hb3; clear hown3 hb3))
      all_goals
        have HO4 : Ow w3 w0.heap.size 45 v' (k + 1) ((rngL (fun i => mulC (nth xs i) (nth ys i)) k).map cv ++ [cv p]) := HO3.out
        rw [HN.out] at HO4
        have HO5 := Lib.hid HO4
        clear HO4
        go_wp2_with fail
        go_roundw
        case rel => exact ⟨k + 1, by omega, by go_num, HO5.out, HB3.out⟩
        case measure => simp [intOf]; omega
    · obtain rfl : k = n := by omega
      obtain ⟨A2, c2, rfl⟩ := HO.out.shape
      have HR : Hid (∀ w', Dr wr w' → RetC w (rngL (fun i => mulC (nth xs i) (nth ys i)) k) true (.returned (.tuple #[.slice A2 k c2, .bool true])) w') := fun w' hd => by
        obtain ⟨m3, rfl⟩ := hd
        have hB := HB0.out.trans (HB.out.mono (by rw [HZ0.out]; exact Nat.le_refl _))
        exact ⟨_, _, _, rfl, (HO.out.mono (by rw [HZ0.out]; exact Nat.le_refl _)).drewN m3, below_drewN hB m3⟩
      clear hb
      go_wp2_with fail
      refine (told_any A2 k c2 _ wr (by omega) HO.out.sl HFL.out).mono ?_
      rintro e w' ⟨rfl, hd⟩
      have HRW := Lib.hid (HR.out w' hd)
      clear hd
      go_wp2_with fail
      go_ret2
      exact HRW.out
end Go.Proofs.Ytficlmnjbbpicaa
