/- Signals out of numbers of steps: the reference. -/
import Derived.Test.YtficlmnjbbpicaaA4
import Derived.Deep.RegionLaw
namespace Go.Proofs.Ytficlmnjbbpicaa
open Go.RowKit

theorem RetC.empty {w w' : World} {c : Nat} {g : Nat} (ho : Ow w' w.heap.size 45 (.slice (some ⟨g, 0, none⟩) 0 c) 0 []) (h : Below w.heap.size w w') : RetC w [] false (.returned (.tuple #[.slice (some ⟨g, 0, none⟩) 0 c, .bool false])) w' := ⟨_, _, _, rfl, ho, h⟩
theorem take_snoc' {vs : List Value} {k : Nat} {u : Value} (h : vs[k]? = some u) : vs.take k ++ [u] = vs.take (k + 1) := by
  have hk : k < vs.length := (List.getElem?_eq_some_iff.1 h).1
  rw [List.getElem?_eq_getElem hk] at h
  injection h with h
  rw [List.take_succ_eq_append_getElem hk, h]

set_option maxHeartbeats 1000000 in
set_option maxRecDepth 100000 in
theorem sFromSteps (A : Option Addr) (n c : Nat) (l : List Int) (step : Int) (w : World) (hn : n ≤ 1048576) (hx : Sl w A n (l.map iv)) :
    Calls Try.prog 15 #[.slice A n c, .int .i64 step] w (RetO w (fromSteps l step)) := by
  have hl : l.length = n := by simpa using hx.len
  have he := Ow.empty w 45
  have hb0 := below_alloc w (.cells #[] 45)
  by_cases h4 : n % 2 = 1
  · rw [fromSteps_no (by unfold stOk; simp [hl]; omega)]
    have h4' : (((n : Int) % 2) != 0) = true := by rw [bne_iff_ne]; omega
    clear hl h4
    go_enter Try.func15, Try.ntmps15
    go_wp2_with fail
    go_ret2
    exact RetC.empty he hb0
  have h4' : (((n : Int) % 2) != 0) = false := by rw [bne_eq_false_iff_eq]; omega
  have H4 : Hid (n % 2 = 0) := by show n % 2 = 0; omega
  by_cases h3 : 32 < n
  · rw [fromSteps_no (by unfold stOk; simp [hl]; omega)]
    clear hl h4
    go_enter Try.func15, Try.ntmps15
    go_wp2_with fail
    go_ret2
    exact RetC.empty he hb0
  by_cases h1 : inB step 1 10000 = true
  case neg =>
    have h1' : inB step 1 10000 = false := by simpa using h1
    rw [fromSteps_no (by unfold stOk; rw [h1']; rfl)]
    clear hl h1
    go_enter Try.func15, Try.ntmps15
    go_wp2_with fail
    refine (l1In_any _ _ _ _).mono ?_
    rintro e w' ⟨rfl, rfl⟩
    go_wp2_with fail
    go_ret2
    exact RetC.empty he hb0
  obtain ⟨h1a, h1b⟩ := inB_iff.1 h1
  have HL := Lib.hid hl
  obtain ⟨m1, m2⟩ := most_bd (step := step) (by omega)
  obtain ⟨M, hM⟩ : ∃ M, M = 9999999 / step := ⟨_, rfl⟩
  have e1 : (9999999 : Int) / step = M := hM.symm
  have HM := Lib.hid hM
  rw [e1] at m1 m2
  clear hl h4 hM
  go_enter Try.func15, Try.ntmps15
  go_wp2_with fail
  refine (l1In_any _ _ _ _).mono ?_
  rintro e w' ⟨rfl, rfl⟩
  go_wp2_with fail
  go_loopw [7] (fun i wr => ∃ k : Nat, k ≤ n ∧ i = .int .i64 k ∧ (l.take k).all (fun x => inB x (-M) M) = true ∧ Ow wr w.heap.size 45 (.slice (some ⟨w.heap.size, 0, none⟩) 0 0) 0 [] ∧ Below w.heap.size w wr) (fun i _ => n - (intOf i).toNat)
  case atStart => exact ⟨0, by omega, rfl, rfl, he, hb0⟩
  case round =>
    obtain ⟨k, hk, rfl, hall, ho, hb⟩ := hrel
    have HA := Lib.hid hall
    clear hall
    by_cases hlt : k < n
    · obtain ⟨b, o, rfl, hbl, hc⟩ := hx.int_at hlt
      have hck : wr.cell? ⟨b, o + k, none⟩ = some (.int .i64 (inth l k)) := (hb.cell (p := ⟨b, o + k, none⟩) hbl).trans (hc k hlt)
      clear hc
      by_cases hin : inB (inth l k) (-M) M = true
      · have HN : Hid ((l.take (k + 1)).all (fun x => inB x (-M) M) = true) := by
          show _ = true
          rw [int_all_take_succ (by rw [HL.out]; exact hlt), HA.out, hin]; rfl
        generalize inth l k = x at *
        go_wp2_with fail
        go_quiet ((go_at_call 62; exact Calls.quiet_of_same (l1In_any _ _ _ _)))
        go_wp2_with fail
        go_roundw
        case rel => exact ⟨k + 1, by omega, by go_num, HN.out, ho.drewN _, below_drewN hb _⟩
        case measure => simp [intOf]; omega
      · have hin' : inB (inth l k) (-M) M = false := by simpa using hin
        have HNO : Hid (fromSteps l step = none) := fromSteps_no (by
          unfold stOk
          rw [int_all_false_of (k := k) (by rw [HL.out]; exact hlt) (by rw [← HM.out]; exact hin'), Bool.and_false])
        clear hin
        generalize inth l k = x at *
        go_wp2_with fail
        go_quiet ((go_at_call 62; exact Calls.quiet_of_same (l1In_any _ _ _ _)))
        go_wp2_with fail
        go_ret2
        rw [HNO.out]
        have he2 := (Ow.empty (wr.drewN nq) 45).mono hb.size
        exact RetC.empty he2 ((below_drewN hb _).alloc hb.size _)
    · obtain rfl : k = n := by omega
      have hyes : stOk l step = true := by
        have := HA.out
        rw [List.take_of_length_le (by rw [HL.out]; omega)] at this
        unfold stOk
        rw [h1, ← HM.out, this, HL.out]
        have := H4.out
        simp; omega
      have HY : Hid (fromSteps l step = some (fromSt l step)) := fromSteps_yes hyes
      have HZ := Lib.hid hyes
      clear hyes
      have HF : Hid (((fromSt l step).map cv).length = k / 2) := by show _ = _; rw [List.length_map, fromSt_len, HL.out]
      have HO := Lib.hid ho
      have HB := Lib.hid hb
      clear ho hb he hb0
      go_wp2_with fail
      go_loopw [6, 8] (fun v i wr => ∃ j p : Nat, j ≤ k / 2 ∧ p = 2 * j ∧ i = .int .i64 p ∧ Ow wr w.heap.size 45 v j (((fromSt l step).map cv).take j) ∧ Below w.heap.size w wr) (fun _ i _ => k - (intOf i).toNat)
      case atStart => exact ⟨0, 0, by omega, rfl, rfl, HO.out, HB.out⟩
      case round =>
        obtain ⟨j, p, hj, hp, rfl, ho, hb⟩ := hrel
        by_cases hjl : j < k / 2
        · obtain ⟨b, o, rfl, hbl, hc⟩ := hx.int_at (show p < k by omega)
          have c1 : wr.cell? ⟨b, o + p, none⟩ = some (.int .i64 (inth l (2 * j))) := (hb.cell (p := ⟨b, o + p, none⟩) hbl).trans (by rw [hc p (by omega), hp])
          have c2 : wr.cell? ⟨b, o + (p + 1), none⟩ = some (.int .i64 (inth l (2 * j + 1))) := (hb.cell (p := ⟨b, o + (p + 1), none⟩) hbl).trans (by rw [hc (p + 1) (by omega), hp])
          have bx := step_bd HZ.out (i := 2 * j) (by rw [HL.out]; omega)
          have bz := step_bd HZ.out (i := 2 * j + 1) (by rw [HL.out]; omega)
          have HU := Lib.hid (fromSt_get (l := l) (step := step) (i := j) (by rw [HL.out]; exact hjl))
          have HP := Lib.hid hp
          have hpb : p + 2 ≤ k := by omega
          clear hp
          generalize inth l (2 * j) = x at *
          generalize inth l (2 * j + 1) = z at *
          have e1 : IntKind.i64.wrap (x * step) = x * step := IntWalk.i64_in _ (by omega)
          have e2 : IntKind.i64.wrap (z * step) = z * step := IntWalk.i64_in _ (by omega)
          have e3 : IntKind.i64.wrap ((p : Int) + 1) = (p : Int) + 1 := IntWalk.i64_in _ (by omega)
          have f4 : (0 : Int) ≤ (p : Int) + 1 := by omega
          have f5 : (p : Int) + 1 < (k : Int) := by omega
          have f6 : ((p : Int) + 1).toNat = p + 1 := by omega
          have f7 : (p : Int) < (k : Int) := by omega
          have HB := Lib.hid hb
          have HO := Lib.hid ho
          clear hc hx hb ho
          go_wp2_with fail
          obtain ⟨q1, q2, hq⟩ : ∃ q1 q2, cv (milli (x * step) (z * step)) = .complex .f32 q1 q2 := ⟨_, _, rfl⟩
          have hm : ∀ w, Calls Try.prog 63 #[.int .i64 (x * step), .int .i64 (z * step)] w fun e w' => e = .returned (.complex .f32 q1 q2) ∧ w' = w := fun w => by rw [← hq]; exact sMilli _ _ w
          rw [hq] at HU
          clear hq
          have HM2 := Lib.hid hm
          clear hm
          go_region_law ((first
            | (refine st_app1 rfl (.tmp 49) (.tmp 64) 23 rfl Try.eC u6 j _ rfl (show Ow wr.drew _ _ _ _ _ from HO.out) (.complex .f32 q1 q2) rfl rfl (by unfold maxLen; omega) (by omega) HB.out.drew ?_; intro v' w3 hown3 hb3; rw [take_snoc' HU.out] at hown3)
            | (go_simp; go_at_call 63; refine (HM2.out _).mono ?_; rintro e w' ⟨rfl, rfl⟩)))
          all_goals
            have HO3 := Lib.hid hown3
            have HB3 := Lib.hid hb3
            clear hown3 hb3 e1 e2 e3 f4 f5 f6 c1 c2
            go_wp2_with fail
            go_roundw
            case rel => exact ⟨j + 1, p + 2, by omega, by rw [HP.out]; omega, by go_num, HO3.out, HB3.out⟩
            case measure => simp [intOf]; omega
        · obtain rfl : j = k / 2 := by omega
          have HP : Hid (p = k) := by show _ = _; have := H4.out; omega
          have hpk : ¬ p < k := by rw [HP.out]; omega
          clear hp
          go_wp2_with fail
          obtain ⟨A2, c2, rfl⟩ := ho.shape
          go_ret2
          rw [HY.out]
          refine ⟨_, _, _, rfl, ?_, hb⟩
          rw [List.take_of_length_le (by rw [HF.out]; omega)] at ho
          exact ho
end Go.Proofs.Ytficlmnjbbpicaa
