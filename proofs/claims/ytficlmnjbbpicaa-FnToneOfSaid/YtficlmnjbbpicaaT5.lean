/- Spectra: the reference's transform. -/
import Derived.Test.YtficlmnjbbpicaaT4
import Derived.Test.YtficlmnjbbpicaaA5
namespace Go.Proofs.Ytficlmnjbbpicaa
open Go.RowKit

set_option maxHeartbeats 2000000 in
set_option maxRecDepth 100000 in
theorem sTransform (A : Option Addr) (n c : Nat) (xs : List C) (w : World) (hn : n ≤ 1048576) (hx : Cs w A n xs) (hp : sizB xs = true → ProdOk xs (-1)) :
    Calls Try.prog 92 #[.slice A n c] w (RetO w (transF xs)) := by
  have hl := hx.len
  have he := Ow.empty w 45
  have hb0 := below_alloc w (.cells #[] 45)
  have hx0 : Cs (w.alloc (.cells #[] 45)) A n xs := hx.below hb0
  cases hs : sizB xs
  · have HN := Lib.hid (transF_no hs)
    have HC : Hid (∀ w, Cs w A n xs → Calls Try.prog 83 #[.slice A n c] w fun e w' => e = .returned (.bool false) ∧ Dr w w') := fun w h => by rw [← hs]; exact sSizeOk A n c xs w hn h
    clear hl hs hp
    go_enter Try.func92, Try.ntmps92
    go_wp2_with fail
    refine (HC.out _ hx0).mono ?_
    rintro e w' ⟨rfl, m, rfl⟩
    go_wp2_with fail
    go_ret2
    rw [HN.out]
    exact RetC.empty he (below_drewN hb0 m)
  · have HC : Hid (∀ w, Cs w A n xs → Calls Try.prog 83 #[.slice A n c] w fun e w' => e = .returned (.bool true) ∧ Dr w w') := fun w h => by rw [← hs]; exact sSizeOk A n c xs w hn h
    obtain ⟨s1, s2, s3, s4, s5⟩ := siz_parts hs
    rw [hl] at s1 s4 s5
    have HY := Lib.hid (transF_yes hs hl)
    have HT : Hid (∀ (k : Nat) w', k < n → Cs w' A n xs → Calls Try.prog 111 #[.slice A n c, .int .i64 (bk n (-(k : Int)))] w' (RetQ2 w' (sumT xs (bk n (-(k : Int))) n))) := fun k w' hk h => by
      obtain ⟨b1, b2⟩ := bk_bd s1 (k := -(k : Int)) (by omega) (by omega)
      refine sSum A n c xs (bk n (-(k : Int))) w' s4 h s3 b1 b2 fun i hi => ?_
      have := hp hs k i (by omega) (by omega)
      rw [hl, show (-1 : Int) * (k : Int) = -(k : Int) by omega] at this
      exact this
    have HBK : Hid (∀ k : Nat, k < n → IntKind.i64.wrap (-(k : Int) * (16 / (n : Int))) = bk n (-(k : Int))) := fun k hk => by
      obtain ⟨b1, b2⟩ := bk_bd s1 (k := -(k : Int)) (by omega) (by omega)
      have : -(k : Int) * (16 / (n : Int)) = bk n (-(k : Int)) := by unfold bk; exact Int.mul_comm _ _
      rw [this]; exact IntWalk.i64_in _ (by omega)
    have HE := Lib.hid he
    have HB0 := Lib.hid hb0
    clear hl hs hp s1 s2 s3 he hb0
    go_enter Try.func92, Try.ntmps92
    go_wp2_with fail
    refine (HC.out _ hx0).mono ?_
    rintro e w' ⟨rfl, m, rfl⟩
    have HO1 : Hid (Ow ((w.alloc (.cells #[] 45)).drewN m) w.heap.size 45 (.slice (some ⟨w.heap.size, 0, none⟩) 0 0) 0 []) := HE.out.drewN m
    have HB1 : Hid (Below w.heap.size w ((w.alloc (.cells #[] 45)).drewN m)) := below_drewN HB0.out m
    clear hx0
    go_wp2_with fail
    go_loopw [4, 5] (fun v i wr => ∃ (k : Nat) (l : List C), k ≤ n ∧ i = .int .i64 k ∧ allT (fun k => sumT xs (bk n (-(k : Int))) n) k = some l ∧ Ow wr w.heap.size 45 v k (l.map cv) ∧ Below w.heap.size w wr) (fun _ i _ => n - (intOf i).toNat)
    case atStart => exact ⟨0, [], by omega, rfl, rfl, HO1.out, HB1.out⟩
    case round =>
      obtain ⟨k, l, hk, rfl, hal, ho, hb⟩ := hrel
      have HA := Lib.hid hal
      have HO := Lib.hid ho
      have HB := Lib.hid hb
      clear hal ho hb
      by_cases hlt : k < n
      · have e1 : IntKind.i64.wrap (-(k : Int)) = -(k : Int) := IntWalk.i64_in _ (by omega)
        have e2 := HBK.out k hlt
        go_wp2_with fail
        refine (HT.out k wr hlt (hx.below HB.out)).mono ?_
        rintro e w2 ⟨rfl, hb2⟩
        have HB2 : Hid (Below w.heap.size w w2) := HB.out.trans (hb2.mono HB.out.size)
        have HO2 := Lib.hid (HO.out.below hb2)
        clear hb2
        cases hz : sumT xs (bk n (-(k : Int))) n with
        | none =>
          have HN : Hid (transF xs = none) := by show _ = _; rw [HY.out]; exact allT_none (allT_stop HA.out hz) n (by omega)
          clear hz
          simp only [Option.getD_none, Option.isSome_none]
          go_wp2_with fail
          go_ret2
          rw [HN.out]
          exact RetC.empty ((Ow.empty w2 45).mono HB2.out.size) (HB2.out.alloc HB2.out.size _)
        | some z =>
          have HNX := Lib.hid (allT_step HA.out hz)
          clear hz
          simp only [Option.getD_some, Option.isSome_some]
          unfold cv
          have hsz := HB2.out.size
          go_wp2_with (at_builtin; refine wl_appB w.heap.size [.complex .f32 z.1 z.2] hsz rfl (.tmp 33) (.tmp 35) 23 rfl Try.eC _ k _ rfl HO2.out rfl (by simp [Value.oneCell']) (by simp [maxLen]; omega) (by simp; omega) ?_; intro v' w4 ho4 hb4)
          go_roundw
          case rel => exact ⟨k + 1, l ++ [z], by omega, by go_num, HNX.out, by rw [List.map_append]; exact ho4, HB2.out.trans hb4⟩
          case measure => simp [intOf]; omega
      · obtain rfl : k = n := by omega
        have HR : Hid (transF xs = some l) := by show _ = _; rw [HY.out]; exact HA.out
        obtain ⟨A2, c2, rfl⟩ := HO.out.shape
        go_wp2_with fail
        go_ret2
        rw [HR.out]
        exact ⟨_, _, _, rfl, HO.out, HB.out⟩
end Go.Proofs.Ytficlmnjbbpicaa
