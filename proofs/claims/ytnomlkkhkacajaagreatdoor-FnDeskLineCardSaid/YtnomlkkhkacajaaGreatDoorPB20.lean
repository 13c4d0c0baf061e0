/- Texts on the way to a law (O4, O5, H3), each with its own remark. -/
import Derived.Test.YtnomlkkhkacajaaGreatDoorPB19
import Derived.Test.YtnomlkkhkacajaaGreatDoorPB16
import Derived.Test.YtnomlkkhkacajaaGreatDoorPB18
import Derived.Lib.SliceRun
namespace Go.Proofs.YtnomlkkhkacajaaGreatDoor
open Go.RowKit

theorem sLess (z : C) (u : Nat) (hz : finB z = true) (hu : Fin Ieee.single u) (w : World) :
    Calls Tryz.prog 119 #[.complex .f32 z.1 z.2, .float .f32 u] w fun e w' => e = .returned (.complex .f32 (lessC z u).1 (lessC z u).2) ∧ w' = w := by
  obtain ⟨f1, f2⟩ := finB_iff.1 hz
  have q1 := fun w => run_float_arith (P := Tryz.prog) w .mul 131 .f32 _ _ _ (mulS_spec f1 hu).1
  have q2 := fun w => run_float_arith (P := Tryz.prog) w .mul 131 .f32 _ _ _ (mulS_spec f2 hu).1
  unfold lessC
  generalize mulS z.1 u = a at *
  generalize mulS z.2 u = b at *
  clear f1 f2 hz hu
  go_enter Tryz.func119, Tryz.ntmps119
  go_wp2_with fail
  go_ret
  exact ⟨rfl, rfl⟩

set_option maxHeartbeats 4000000 in
set_option maxRecDepth 100000 in
theorem sWindowed (A : Option Addr) (n c : Nat) (xs : List C) (kind : Int) (w : World) (hn : n ≤ 1048576) (hx : Cs w A n xs) :
    Calls Tryz.prog 86 #[.slice A n c, .int .i64 kind] w (RetO w (winF xs kind)) := by
  have hl := hx.len
  have HW : Hid (∀ w, Calls Tryz.prog 118 #[.int .i64 kind, .int .i64 n] w (RetWn w (winL kind n))) := fun w => sWindow kind n w hn
  have HC : Hid (∀ w, Cs w A n xs → Calls Tryz.prog 47 #[.slice A n c] w fun e w' => e = .returned (.bool (sigB xs)) ∧ Dr w w') := fun w h => sSignalOk A n c xs w (by omega) h
  by_cases hno : sigB xs = false ∨ winOk kind n = false
  · have HN := Lib.hid (winF_no (kind := kind) (by rw [hl]; exact hno))
    have key : sigB xs = false ∨ (sigB xs = true ∧ winL kind n = []) := by
      cases hs : sigB xs
      · exact .inl rfl
      · rw [hs] at hno; exact .inr ⟨rfl, winL_no (hno.resolve_left (by decide))⟩
    have hL : (winL kind n).length ≤ 16 := by
      cases h : winOk kind n
      · rw [winL_no h]; decide
      · have h2 := winL_len h
        have h3 := (winOk_iff.1 h).1
        omega
    clear hl hno
    rcases key with hs | ⟨hs, hw⟩
    · rw [hs] at HC
      generalize winL kind n = ws at *
      clear hs
      go_enter Tryz.func86, Tryz.ntmps86
      go_wp2_with fail
      refine (HW.out _).mono ?_
      rintro e w1 ⟨A1, c1, rfl, ho1, hb1⟩
      have HB1 := Lib.hid hb1
      have HX1 := Lib.hid (hx.below hb1)
      clear ho1 hb1 hx
      go_wp2_with fail
      refine (HC.out _ HX1.out).mono ?_
      rintro e w' ⟨rfl, m, rfl⟩
      go_wp2_with fail
      go_ret2
      rw [HN.out]
      exact RetC.empty ((Ow.empty (w1.drewN m) 73).mono HB1.out.size) ((below_drewN HB1.out m).alloc (by exact HB1.out.size) _)
    · rw [hs] at HC
      rw [hw] at HW
      clear hs hw hL
      go_enter Tryz.func86, Tryz.ntmps86
      go_wp2_with fail
      refine (HW.out _).mono ?_
      rintro e w1 ⟨A1, c1, rfl, ho1, hb1⟩
      have HB1 := Lib.hid hb1
      have HX1 := Lib.hid (hx.below hb1)
      clear ho1 hb1 hx
      simp only [List.length_nil]
      go_wp2_with fail
      refine (HC.out _ HX1.out).mono ?_
      rintro e w' ⟨rfl, m, rfl⟩
      go_wp2_with fail
      go_ret2
      rw [HN.out]
      exact RetC.empty ((Ow.empty (w1.drewN m) 73).mono HB1.out.size) ((below_drewN HB1.out m).alloc (by exact HB1.out.size) _)
  have hs : sigB xs = true := eq_true_of_ne_false fun h => hno (.inl h)
  have hk : winOk kind n = true := eq_true_of_ne_false fun h => hno (.inr h)
  have h16 : n ≤ 16 := by rw [← hl]; exact sig_len hs
  have hn0 : ((n : Int) == 0) = false := by have := (winOk_iff.1 hk).1; rw [beq_eq_false_iff_ne]; omega
  have HY := Lib.hid (winF_yes hl hs hk)
  rw [hs] at HC
  rw [winL_yes hk] at HW
  have HL0 : Hid (∀ i, i < n → ∀ w, Calls Tryz.prog 119 #[.complex .f32 (nth xs i).1 (nth xs i).2, .float .f32 (winW kind n i)] w fun e w' => e = .returned (.complex .f32 (lessC (nth xs i) (winW kind n i)).1 (lessC (nth xs i) (winW kind n i)).2) ∧ w' = w) := fun i hi w =>
    sLess _ _ (fin_mk hs (by omega)) (winW_part hk hi).1 w
  have HLN : Hid (((List.range n).map (winW kind n)).length = n) := by show _ = _; rw [List.length_map, List.length_range]
  clear hno hs hk hl
  go_enter Tryz.func86, Tryz.ntmps86
  go_wp2_with fail
  refine (HW.out _).mono ?_
  rintro e w1 ⟨A1, c1, rfl, ho1, hb1⟩
  rw [HLN.out] at ho1 ⊢
  have HB1 := Lib.hid hb1
  have HX1 := Lib.hid (hx.below hb1)
  have HG1 := Lib.hid ho1.sl
  clear ho1 hb1 hx
  go_wp2_with fail
  refine (HC.out _ HX1.out).mono ?_
  rintro e w' ⟨rfl, m, rfl⟩
  obtain ⟨w0, hw0⟩ : ∃ w0, w0 = w1.drewN m := ⟨_, rfl⟩
  have HB0 : Hid (Below w.heap.size w w0) := by rw [hw0]; exact below_drewN HB1.out m
  have HX0 : Hid (Cs w0 A n xs) := by rw [hw0]; exact HX1.out.drewN m
  have HG0 : Hid (Sl w0 A1 n (((List.range n).map (winW kind n)).map gv)) := by rw [hw0]; exact HG1.out.drewN m
  rw [← hw0]
  clear hw0
  have HE : Hid (Ow (w0.alloc (.cells #[] 73)) w0.heap.size 73 (.slice (some ⟨w0.heap.size, 0, none⟩) 0 0) 0 ((rngL (fun i => lessC (nth xs i) (winW kind n i)) 0).map cv)) := Ow.empty w0 73
  have HBE : Hid (Below w0.heap.size w0 (w0.alloc (.cells #[] 73))) := below_alloc _ _
  go_wp2_with fail
  go_loopw [7, 8] (fun v i wr => ∃ k : Nat, k ≤ n ∧ i = .int .i64 k ∧ Ow wr w0.heap.size 73 v k ((rngL (fun i => lessC (nth xs i) (winW kind n i)) k).map cv) ∧ Below w0.heap.size w0 wr) (fun _ i _ => n - (intOf i).toNat)
  case atStart => exact ⟨0, by omega, rfl, HE.out, HBE.out⟩
  case round =>
    obtain ⟨k, hk, rfl, ho, hb⟩ := hrel
    have HO := Lib.hid ho
    have HB := Lib.hid hb
    clear ho
    by_cases hlt : k < n
    · obtain ⟨b, o, rfl, hbl, hc⟩ := HX0.out.at_ hlt
      obtain ⟨b', o', rfl, hbl', hc'⟩ := Sl.at_ HG0.out hlt
      have hck : wr.cell? ⟨b, o + k, none⟩ = some (cv (nth xs k)) := (hb.cell (p := ⟨b, o + k, none⟩) hbl).trans (hc k hlt)
      have hck' : wr.cell? ⟨b', o' + k, none⟩ = some (.float .f32 (winW kind n k)) := (hb.cell (p := ⟨b', o' + k, none⟩) hbl').trans (hc' k _ (by rw [List.getElem?_map, List.getElem?_map, List.getElem?_range hlt]; rfl))
      have HL := Lib.hid (HL0.out k hlt)
      have HN : Hid ((rngL (fun i => lessC (nth xs i) (winW kind n i)) k).map cv ++ [cv (lessC (nth xs k) (winW kind n k))] = (rngL (fun i => lessC (nth xs i) (winW kind n i)) (k + 1)).map cv) := by show _ = _; rw [rngL_succ, List.map_append]; rfl
      have hin : (k : Int) < (n : Int) := by omega
      clear hb hc hc'
      generalize lessC (nth xs k) (winW kind n k) = p at *
      generalize nth xs k = x at *
      generalize winW kind n k = y at *
      unfold cv at hck
      have hkm : k + 1 ≤ maxLen := by unfold maxLen; omega
      have hkb : (k + 1) * 8 ≤ 140737488355328 := by omega
      go_wp2_with fail
      go_region_law ((first
        | (refine st_app1 (w0 := w0) rfl (.tmp 29) (.tmp 39) 23 rfl Tryz.eC u7 k _ rfl (show Ow wr.drew _ _ _ _ _ from HO.out) (.complex .f32 p.1 p.2) rfl rfl hkm hkb HB.out.drew ?_; intro v' w3 hown3 hb3; have HO3 := Lib.hid hown3; have HB3 := Lib.hid hb3; clear hown3 hb3)
        | (go_simp; go_at_call 119; refine (HL.out _).mono ?_; rintro e w' ⟨rfl, rfl⟩)))
      all_goals
        have HO4 : Ow w3 w0.heap.size 73 v' (k + 1) ((rngL (fun i => lessC (nth xs i) (winW kind n i)) k).map cv ++ [cv p]) := HO3.out
        rw [HN.out] at HO4
        have HO5 := Lib.hid HO4
        clear HO4
        go_wp2_with fail
        go_roundw
        case rel => first | exact ⟨k + 1, by omega, by go_num, HO5.out, HB3.out⟩ | ((repeat apply Exists.intro); exact ⟨⟨k + 1, by omega, by go_num, HO5.out, HB3.out⟩, rfl⟩)
        case measure => simp [intOf]; omega
    · obtain rfl : k = n := by omega
      obtain ⟨A2, c2, rfl⟩ := HO.out.shape
      have HR : Hid (RetO w (winF xs kind) (.returned (.tuple #[.slice A2 k c2, .bool true])) wr) := by
        show RetO _ _ _ _
        rw [HY.out]
        exact ⟨_, _, _, rfl, HO.out.mono HB0.out.size, HB0.out.trans (HB.out.mono HB0.out.size)⟩
      clear hb
      go_wp2_with fail
      go_ret2
      exact HR.out
end Go.Proofs.YtnomlkkhkacajaaGreatDoor
namespace Go.Proofs.YtnomlkkhkacajaaGreatDoor
open Go.RowKit

theorem rem2 {x n : Int} (hn : 0 < n) : -n < x.tmod n ∧ x.tmod n < n ∧ (x.tmod n + n).tmod n = x % n := by
  by_cases hx : 0 ≤ x
  · have m1 := Int.emod_nonneg x (show n ≠ 0 by omega)
    have m2 := Int.emod_lt_of_pos x hn
    rw [Int.tmod_eq_emod_of_nonneg hx, Int.tmod_eq_emod_of_nonneg (by omega), show x % n + n = x % n + n * 1 by omega, Int.add_mul_emod_self_left, Int.emod_emod_of_dvd x (Int.dvd_refl n)]
    exact ⟨by omega, by omega, rfl⟩
  · obtain ⟨y, rfl⟩ : ∃ y, x = -y := ⟨-x, by omega⟩
    have m1 := Int.emod_nonneg y (show n ≠ 0 by omega)
    have m2 := Int.emod_lt_of_pos y hn
    rw [Int.neg_tmod, Int.tmod_eq_emod_of_nonneg (show 0 ≤ y by omega), Int.tmod_eq_emod_of_nonneg (by omega), show -(y % n) + n = (0 - y % n) + n * 1 by omega, Int.add_mul_emod_self_left]
    refine ⟨by omega, by omega, ?_⟩
    rw [Int.sub_emod, Int.emod_emod_of_dvd y (Int.dvd_refl n), ← Int.sub_emod, Int.zero_sub]
set_option maxHeartbeats 4000000 in
set_option maxRecDepth 100000 in
theorem sMoved (A : Option Addr) (n c : Nat) (xs : List C) (b : Int) (w : World) (hn : n ≤ 1048576) (hx : Cs w A n xs) :
    Calls Tryz.prog 84 #[.slice A n c, .int .i64 b] w (RetS w (movF xs b)) := by
  have hl := hx.len
  have HC : Hid (∀ w, Cs w A n xs → Calls Tryz.prog 47 #[.slice A n c] w fun e w' => e = .returned (.bool (sigB xs)) ∧ Dr w w') := fun w h => sSignalOk A n c xs w (by omega) h
  cases hs : sigB xs
  · rw [hs] at HC
    have HN := Lib.hid (movF_no (b := b) (.inl hs))
    clear hl hs
    go_enter Tryz.func84, Tryz.ntmps84
    go_wp2_with fail
    refine (HC.out _ hx).mono ?_
    rintro e w' ⟨rfl, m, rfl⟩
    go_wp2_with fail
    go_ret
    rw [HN.out]
    exact RetS.empty (Ow.empty (w.drewN m) 73) ((below_drewN (Below.refl _ _) m).alloc (Nat.le_refl _) _)
  rw [hs] at HC
  by_cases hin : inB b (-99) 99 = true
  case neg =>
    have hin' : inB b (-99) 99 = false := by simpa using hin
    have HN := Lib.hid (movF_no (xs := xs) (.inr hin'))
    have HI := Lib.hid hin'
    clear hl hs hin hin'
    go_enter Tryz.func84, Tryz.ntmps84
    go_wp2_with fail
    refine (HC.out _ hx).mono ?_
    rintro e w' ⟨rfl, m, rfl⟩
    go_wp2_with fail
    refine (l1In_any _ _ _ _).mono ?_
    rintro e w2 ⟨rfl, hw2⟩
    obtain rfl := hw2.symm
    rw [HI.out]
    go_wp2_with fail
    go_ret
    rw [HN.out]
    exact RetS.empty (Ow.empty (w.drewN m) 73) ((below_drewN (Below.refl _ _) m).alloc (Nat.le_refl _) _)
  have HY := Lib.hid (movF_yes hl hs hin)
  have HI := Lib.hid hin
  obtain ⟨h1, h2⟩ := inB_iff.1 hin
  have h16 : n ≤ 16 := by rw [← hl]; exact sig_len hs
  clear hs hl hin
  go_enter Tryz.func84, Tryz.ntmps84
  go_wp2_with fail
  refine (HC.out _ hx).mono ?_
  rintro e w' ⟨rfl, m, rfl⟩
  go_wp2_with fail
  refine (l1In_any _ _ _ _).mono ?_
  rintro e w2 ⟨rfl, hw2⟩
  obtain rfl := hw2.symm
  rw [HI.out]
  go_wp2_with (at_make; refine wl_make (w0 := w.drewN m) rfl (.tmp 17) (.tmp 17) 23 rfl Tryz.eC .i64 .i64 n _ _ rfl rfl rfl rfl (by omega) (by unfold maxLen; omega) (Below.refl _ _) ?_; intro w1 hown hb1 _)
  have HO1 : Hid (Ow w1 w.heap.size 73 (.slice (some ⟨w.heap.size, 0, none⟩) n n) n (movV xs n b 0)) := by
    show Ow _ _ _ _ _ _
    rw [movV_zero]
    exact hown
  have HB1 : Hid (Below w.heap.size w w1) := ⟨hb1.os, hb1.tape, hb1.output, hb1.size, hb1.block⟩
  clear hown hb1
  go_loopw [6] (fun i wr => ∃ k : Nat, k ≤ n ∧ i = .int .i64 k ∧ Ow wr w.heap.size 73 (.slice (some ⟨w.heap.size, 0, none⟩) n n) n (movV xs n b k) ∧ Below w.heap.size w wr) (fun i _ => n - (intOf i).toNat)
  case atStart => exact ⟨0, by omega, rfl, HO1.out, HB1.out⟩
  case round =>
    obtain ⟨k, hk, rfl, ho, hb⟩ := hrel
    have HO := Lib.hid ho
    have HB := Lib.hid hb
    clear ho
    by_cases hlt : k < n
    · obtain ⟨bl, o, rfl, hbl, hc⟩ := hx.at_ hlt
      have hck : wr.cell? ⟨bl, o + k, none⟩ = some (cv (nth xs k)) := (hb.cell (p := ⟨bl, o + k, none⟩) hbl).trans (hc k hlt)
      have hn0 : ((n : Int) == 0) = false := by rw [beq_eq_false_iff_ne]; omega
      have e1 : IntKind.i64.wrap ((k : Int) + b) = (k : Int) + b := IntWalk.i64_in _ (by omega)
      have hset := movV_set xs b hlt
      obtain ⟨r1, r2, r3⟩ := rem2 (x := (k : Int) + b) (n := (n : Int)) (by omega)
      obtain ⟨t, ht⟩ : ∃ t, ((k : Int) + b).tmod (n : Int) = t := ⟨_, rfl⟩
      rw [ht] at r1 r2 r3
      have e2 : IntKind.i64.wrap (t + (n : Int)) = t + (n : Int) := IntWalk.i64_in _ (by omega)
      have p1 := Int.emod_nonneg ((k : Int) + b) (show (n : Int) ≠ 0 by omega)
      have p2 := Int.emod_lt_of_pos ((k : Int) + b) (show 0 < (n : Int) by omega)
      obtain ⟨q, hq⟩ := Int.eq_ofNat_of_zero_le p1
      rw [hq] at hset p2 r3
      have hqn : q < n := by omega
      have hqt : ((q : Nat) : Int).toNat = q := by omega
      rw [hqt] at hset
      obtain ⟨g, hg, hge, hgl, hcell, hfr, hst⟩ := Ow.at_ HO.out hqn
      injection hg with hg
      injection hg with hg
      subst hg
      have hck2 : wr.cell? ⟨w.heap.size, q, none⟩ = some ((movV xs n b k)[q]'(by rw [movV_len]; exact hqn)) := (hcell q hqn).trans (List.getElem?_eq_getElem _)
      generalize (movV xs n b k)[q]'(by rw [movV_len]; exact hqn) = u0 at hck2
      have hfr2 := hfr q
      have hst2 := hst q (cv (nth xs k))
      rw [hset] at hst2
      have HS := Lib.hid hst2
      have hkn : (k : Int) < (n : Int) := by omega
      clear hst2 hcell hfr hst hb hc hset hq p1 hqt hx r1 r2
      generalize nth xs k = x at *
      unfold cv at hck HS
      go_wp2_with fail
      go_region
      go_wp2_with fail
      go_roundw
      case rel => first | exact ⟨k + 1, by omega, by go_num, HS.out, HB.out.setCell (Nat.le_refl _) _⟩ | exact ⟨k + 1, by omega, by go_num, HS.out, (HB.out.setCell (p := ⟨w.heap.size, _, none⟩) (Nat.le_refl _) _).drew⟩
      case measure => simp [intOf]; omega
    · obtain rfl : k = n := by omega
      clear hb hx
      go_wp2_with fail
      go_ret
      rw [HY.out]
      refine ⟨_, _, _, rfl, ?_, HB.out⟩
      have := HO.out
      rw [movV_full] at this
      exact this
end Go.Proofs.YtnomlkkhkacajaaGreatDoor
namespace Go.Proofs.YtnomlkkhkacajaaGreatDoor
open Go.RowKit

set_option maxHeartbeats 4000000 in
set_option maxRecDepth 100000 in
theorem iWindowed (A : Option Addr) (n c : Nat) (xs : List C) (kind : Int) (w : World) (hn : n ≤ 1048576) (hx : Cs w A n xs) :
    Calls Tryz.prog 114 #[.slice A n c, .int .i64 kind] w (RetO w (winF xs kind)) := by
  have hl := hx.len
  have HC : Hid (∀ w, Cs w A n xs → Calls Tryz.prog 43 #[.slice A n c] w fun e w' => e = .returned (.bool (sigB xs)) ∧ Dr w w') := fun w h => iSignalOk A n c xs w (by omega) h
  cases hs : sigB xs
  · rw [hs] at HC
    have HN := Lib.hid (winF_no (kind := kind) (.inl hs))
    clear hl hs
    go_enter Tryz.func114, Tryz.ntmps114
    go_wp2_with fail
    refine (HC.out _ hx).mono ?_
    rintro e w' ⟨rfl, m, rfl⟩
    go_wp2_with fail
    go_ret2
    rw [HN.out]
    exact RetC.nil_ (below_drewN (Below.refl _ _) m)
  rw [hs] at HC
  have h16 : n ≤ 16 := by rw [← hl]; exact sig_len hs
  have HW : Hid (∀ w, Calls Tryz.prog 140 #[.int .i64 kind, .int .i64 n] w (RetWi w kind n)) := fun w => iWindow kind n w
  have HNO : Hid (winOk kind n = false → winF xs kind = none) := fun h => winF_no (.inr (by rw [hl]; exact h))
  have HYES : Hid (winOk kind n = true → winF xs kind = some (winM xs kind n)) := fun h => winF_yes hl hs h
  have HF : Hid (∀ i, i < n → finB (nth xs i) = true) := fun i hi => fin_mk hs (by omega)
  have hqn : ∀ w a n c, (binOp .eql 134 (.slice a n c) (.slice none 0 0)).run Tryz.prog w = .ok (.bool a.isNone) w := fun w a n c => Go.Lib.run_eql_slice_nil w _ _ a n c 0 0 Tryz.underlying134
  clear hs hl
  go_enter Tryz.func114, Tryz.ntmps114
  go_wp2_with fail
  refine (HC.out _ hx).mono ?_
  rintro e w' ⟨rfl, m, rfl⟩
  have HX0 : Hid (Cs (w.drewN m) A n xs) := Cs.drewN hx m
  have HB0 : Hid (Below w.heap.size w (w.drewN m)) := below_drewN (Below.refl _ _) m
  clear hx
  go_wp2_with fail
  refine (HW.out _).mono ?_
  rintro e w1 hw1
  rcases hw1 with ⟨hno, rfl, hb1⟩ | ⟨hyes, g1, rfl, ho1, hb1⟩
  · have HN := Lib.hid (HNO.out hno)
    have HB1 : Hid (Below w.heap.size w w1) := HB0.out.trans hb1
    clear hno hb1
    go_wp2_with fail
    go_ret2
    rw [HN.out]
    exact RetC.nil_ HB1.out
  have HY := Lib.hid (HYES.out hyes)
  have HU : Hid (∀ i, i < n → Fin Ieee.single (winW kind n i)) := fun i hi => (winW_part hyes hi).1
  have HB1 : Hid (Below w.heap.size w w1) := HB0.out.trans hb1
  have HX1 := Lib.hid (HX0.out.below hb1)
  have HG1 := Lib.hid ho1.sl
  clear hyes ho1 hb1
  go_wp2_with (at_make; refine wl_make (w0 := w1) rfl (.tmp 20) (.tmp 20) 23 rfl Tryz.eC .i64 .i64 n _ _ rfl rfl rfl rfl (by omega) (by unfold maxLen; omega) (Below.refl _ _) ?_; intro w2 hown hb2 _)
  have HO2 : Hid (Ow w2 w1.heap.size 73 (.slice (some ⟨w1.heap.size, 0, none⟩) n n) n ((rngL (fun i => lessC (nth xs i) (winW kind n i)) 0).map cv ++ List.replicate (n - 0) (.complex .f32 0 0))) := hown
  have HB2 := Lib.hid hb2
  clear hown hb2
  go_loopw [24] (fun i wr => ∃ k : Nat, k ≤ n ∧ i = .int .i64 k ∧ Ow wr w1.heap.size 73 (.slice (some ⟨w1.heap.size, 0, none⟩) n n) n ((rngL (fun i => lessC (nth xs i) (winW kind n i)) k).map cv ++ List.replicate (n - k) (.complex .f32 0 0)) ∧ Below w1.heap.size w1 wr) (fun i _ => n - (intOf i).toNat)
  case atStart => first | exact ⟨0, by omega, rfl, HO2.out, HB2.out⟩ | ((repeat apply Exists.intro); exact ⟨by omega, rfl, HO2.out, HB2.out⟩)
  case round =>
    obtain ⟨k, hk, rfl, ho, hb⟩ := hrel
    have HO := Lib.hid ho
    have HB := Lib.hid hb
    clear ho
    by_cases hlt : k < n
    · obtain ⟨b, o, rfl, hbl, hc⟩ := HX1.out.at_ hlt
      obtain ⟨b', o', hg', hbl', hc'⟩ := Sl.at_ HG1.out hlt
      injection hg' with hg'
      injection hg' with hg1 hg2
      subst hg1; subst hg2
      have hck : wr.cell? ⟨b, o + k, none⟩ = some (cv (nth xs k)) := (hb.cell (p := ⟨b, o + k, none⟩) hbl).trans (hc k hlt)
      have hck' : wr.cell? ⟨g1, k, none⟩ = some (.float .f32 (winW kind n k)) := by have h := (hb.cell (p := ⟨g1, 0 + k, none⟩) hbl').trans (hc' k _ (by rw [List.getElem?_map, List.getElem?_map, List.getElem?_range hlt]; rfl)); rwa [Nat.zero_add] at h
      obtain ⟨g, hg, hge, hgl, hcell, hfr, hst⟩ := Ow.at_ HO.out hlt
      injection hg with hg
      injection hg with hg
      subst hg
      have hck2 : wr.cell? ⟨w1.heap.size, k, none⟩ = some (.complex .f32 0 0) := (hcell k hlt).trans (fil_get _ (by rw [List.length_map, rngL_len]) hlt _)
      have hfr2 := hfr k
      have hst2 := hst k (cv (lessC (nth xs k) (winW kind n k)))
      rw [fil_set _ (by rw [List.length_map, rngL_len]) hlt, show [cv (lessC (nth xs k) (winW kind n k))] = [lessC (nth xs k) (winW kind n k)].map cv from rfl, ← List.map_append, ← rngL_succ (fun i => lessC (nth xs i) (winW kind n i))] at hst2
      obtain ⟨f1, f2⟩ := finB_iff.1 (HF.out k hlt)
      have q1 := fun w => run_float_arith (P := Tryz.prog) w .mul 131 .f32 _ _ _ (mulS_spec f1 (HU.out k hlt)).1
      have q2 := fun w => run_float_arith (P := Tryz.prog) w .mul 131 .f32 _ _ _ (mulS_spec f2 (HU.out k hlt)).1
      have HS := Lib.hid hst2
      have HBX : Hid (Below w1.heap.size w1 (wr.setCell ⟨w1.heap.size, k, none⟩ (cv (lessC (nth xs k) (winW kind n k))))) := HB.out.setCell (Nat.le_refl _) _
      have e1 : cv (lessC (nth xs k) (winW kind n k)) = .complex .f32 (mulS (nth xs k).1 (winW kind n k)) (mulS (nth xs k).2 (winW kind n k)) := rfl
      rw [e1] at HS HBX
      clear hst2 hcell hfr hst f1 f2 hb hc hc' e1
      generalize mulS (nth xs k).1 (winW kind n k) = a1 at *
      generalize mulS (nth xs k).2 (winW kind n k) = a2 at *
      generalize hz : nth xs k = z at hck q1 q2
      clear hz
      generalize hy : winW kind n k = y at hck' q1 q2
      clear hy
      unfold cv at hck
      go_wp2_with fail
      go_region
      all_goals
        have HS2 : Hid (Ow (wr.drew.setCell ⟨w1.heap.size, k, none⟩ (.complex .f32 a1 a2)) w1.heap.size 73 (.slice (some ⟨w1.heap.size, 0, none⟩) n n) n ((rngL (fun i => lessC (nth xs i) (winW kind n i)) (k + 1)).map cv ++ List.replicate (n - (k + 1)) (.complex .f32 0 0))) := HS.out
        have HB2 : Hid (Below w1.heap.size w1 (wr.drew.setCell ⟨w1.heap.size, k, none⟩ (.complex .f32 a1 a2))) := HB.out.drew.setCell (Nat.le_refl _) _
        go_wp2_with fail
        go_roundw
        case rel => first | exact ⟨k + 1, by omega, by go_num, HS2.out, HB2.out⟩ | ((repeat apply Exists.intro); exact ⟨⟨k + 1, by omega, by go_num, HS2.out, HB2.out⟩, rfl⟩)
        case measure => simp [intOf]; omega
    · obtain rfl : k = n := by omega
      have HR : Hid (RetO w (winF xs kind) (.returned (.tuple #[.slice (some ⟨w1.heap.size, 0, none⟩) k k, .bool true])) wr) := by
        show RetO _ _ _ _
        rw [HY.out]
        have h1 := HO.out
        rw [Nat.sub_self, List.replicate_zero, List.append_nil] at h1
        exact ⟨_, _, _, rfl, h1.mono HB1.out.size, HB1.out.trans (HB.out.mono HB1.out.size)⟩
      clear hb
      go_wp2_with fail
      go_ret2
      exact HR.out

set_option maxHeartbeats 2000000 in
theorem iMovedF (A : Option Addr) (n c : Nat) (xs : List C) (b : Int) (w : World) (hn : n ≤ 1048576) (hx : Cs w A n xs) :
    Calls Tryz.prog 112 #[.slice A n c, .int .i64 b] w (RetS w (movF xs b)) := by
  have hl := hx.len
  have HC : Hid (∀ w, Cs w A n xs → Calls Tryz.prog 43 #[.slice A n c] w fun e w' => e = .returned (.bool (sigB xs)) ∧ Dr w w') := fun w h => iSignalOk A n c xs w (by omega) h
  cases hs : sigB xs
  · rw [hs] at HC
    have HN := Lib.hid (movF_no (b := b) (.inl hs))
    clear hl hs
    go_enter Tryz.func112, Tryz.ntmps112
    go_wp2_with fail
    refine (HC.out _ hx).mono ?_
    rintro e w' ⟨rfl, m, rfl⟩
    go_wp2_with fail
    go_ret
    rw [HN.out]
    exact RetS.nil_ (below_drewN (Below.refl _ _) m)
  by_cases hin : inB b (-99) 99 = true
  · rw [movF_yes hl hs hin]
    obtain ⟨h1, h2⟩ := inB_iff.1 hin
    exact iMoved A n c xs b w hx hs h1 h2
  · have hin' : inB b (-99) 99 = false := by simpa using hin
    rw [hs] at HC
    have HN := Lib.hid (movF_no (xs := xs) (.inr hin'))
    have hb : b < -99 ∨ (¬ b < -99 ∧ b > 99) := by rw [inB_false_iff] at hin'; omega
    clear hl hs hin hin'
    rcases hb with hb | ⟨hb, hb2⟩
    all_goals
      go_enter Tryz.func112, Tryz.ntmps112
      go_wp2_with fail
      refine (HC.out _ hx).mono ?_
      rintro e w' ⟨rfl, m, rfl⟩
      go_wp2_with fail
      go_ret
      rw [HN.out]
      exact RetS.nil_ (below_drewN (Below.refl _ _) m)
end Go.Proofs.YtnomlkkhkacajaaGreatDoor
