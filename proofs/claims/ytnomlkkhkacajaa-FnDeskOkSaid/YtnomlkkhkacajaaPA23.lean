/- Texts on the way to a law (O3, O4), each with its own remark. -/
import Derived.Test.YtnomlkkhkacajaaPA22
import Derived.Test.YtnomlkkhkacajaaPA18
namespace Go.Proofs.Ytnomlkkhkacajaa
open Go.RowKit

set_option maxHeartbeats 8000000 in
set_option maxRecDepth 100000 in
theorem sWindow1 (n : Nat) (w : World) (hn : n = 2 ∨ n = 4 ∨ n = 8 ∨ n = 16) : Calls Try.prog 41 #[.int .i64 1, .int .i64 n] w (RetWn w ((List.range n).map (winW 1 n))) := by
  have HE : Hid (Ow (w.alloc (.cells #[] 57)) w.heap.size 57 (.slice (some ⟨w.heap.size, 0, none⟩) 0 0) 0 (((List.range 0).map (winW 1 n)).map gv)) := Lib.hid (Ow.empty w 57)
  have HB0 := Lib.hid (below_alloc w (.cells #[] 57))
  obtain ⟨N, hN⟩ : ∃ N : Int, N = (n : Int) := ⟨_, rfl⟩
  have hc : N = 2 ∨ N = 4 ∨ N = 8 ∨ N = 16 := by omega
  have h16 : n ≤ 16 := by omega
  have HK : Hid (∀ k, k < n → WinS n k) := fun k hk => winS hn hk
  obtain ⟨M, hM⟩ : ∃ M : Int, M = ((n / 2 : Nat) : Int) := ⟨_, rfl⟩
  have hc2 : (N = 2 ∧ M = 1) ∨ (N = 4 ∧ M = 2) ∨ (N = 8 ∧ M = 4) ∨ (N = 16 ∧ M = 8) := by omega
  rw [← hN]
  clear hn hc
  rcases hc2 with ⟨rfl, rfl⟩ | ⟨rfl, rfl⟩ | ⟨rfl, rfl⟩ | ⟨rfl, rfl⟩
  all_goals
    have HNn := Lib.hid hN
    have HM2 := Lib.hid hM
    clear hN hM
    go_enter Try.func41, Try.ntmps41
    go_wp2_with fail
    refine (l1In_any _ _ _ _).mono ?_
    rintro e w' ⟨rfl, rfl⟩
    rw [show inB 1 0 2 = true from rfl]
    go_wp2_with fail
    go_loopw [5, 6] (fun v i wr => ∃ k : Nat, k ≤ n ∧ i = .int .i64 k ∧ Ow wr w.heap.size 57 v k (((List.range k).map (winW 1 n)).map gv) ∧ Below w.heap.size w wr) (fun _ i _ => n - (intOf i).toNat)
    case atStart => first | exact ⟨0, by omega, rfl, HE.out, HB0.out⟩ | ((repeat apply Exists.intro); exact ⟨by omega, rfl, HE.out, HB0.out⟩)
    case round =>
      obtain ⟨k, hk, rfl, ho, hb⟩ := hrel
      have HO := Lib.hid ho
      have HB := Lib.hid hb
      have hsz := hb.size
      clear ho hb
      by_cases hlt : k < n
      · have hlN := Int.lt_of_lt_of_le (Int.ofNat_lt.2 hlt) (Int.le_of_eq HNn.out.symm)
        have HN := Lib.hid (win_snoc (winW 1 n) k)
        have e2 : IntKind.i64.wrap (2 * (k : Int)) = 2 * (k : Int) := IntWalk.i64_in _ (by omega)
        obtain ⟨x, hx⟩ : ∃ x, x = triD n k := ⟨_, rfl⟩
        have qd := (HK.out k hlt).d
        rw [← HNn.out, ← hx] at qd
        have q1 := fun w => run_float_arith (P := Try.prog) w .quo 57 .f32 _ _ _ qd
        clear qd
        by_cases hh : n / 2 ≤ k
        · have hge := Int.le_trans (Int.le_of_eq HM2.out) (Int.ofNat_le.2 hh)
          have hw : winW 1 n k = triE n k := by
            unfold winW; rw [if_neg (by decide), if_pos rfl, if_pos hh]
          have qe := (HK.out k hlt).e
          rw [← hx] at qe
          have q2 := fun w => run_float_arith (P := Try.prog) w .sub 57 .f32 _ _ _ qe
          rw [hw] at HN
          clear hw qe hx hh
          generalize triE n k = u at *
          go_wp2_with (at_builtin; refine wl_appB w.heap.size [.float .f32 u] hsz rfl (.tmp 61) (.tmp 63) 73 rfl Try.eG _ k _ rfl HO.out rfl (by simp [Value.oneCell']) (by simp [maxLen]; omega) (by simp; omega) ?_; intro v' w4 ho4 hb4)
          have HO4 : Hid (Ow w4 w.heap.size 57 v' (k + 1) (((List.range (k + 1)).map (winW 1 n)).map gv)) := by
            show Ow _ _ _ _ _ _
            rw [← HN.out]; exact ho4
          have HB4 : Hid (Below w.heap.size w w4) := HB.out.trans hb4
          clear ho4 hb4
          go_roundw
          case rel => first | exact ⟨k + 1, by omega, by go_num, HO4.out, HB4.out⟩ | ((repeat apply Exists.intro); exact ⟨⟨k + 1, by omega, by go_num, HO4.out, HB4.out⟩, rfl⟩)
          case measure => simp [intOf]; omega
        · have hge := Int.not_le.2 (Int.lt_of_lt_of_le (Int.ofNat_lt.2 (Nat.lt_of_not_le hh)) (Int.le_of_eq HM2.out.symm))
          have hw : winW 1 n k = x := by
            unfold winW; rw [if_neg (by decide), if_pos rfl, if_neg hh, hx]
          rw [hw] at HN
          clear hw hx hh
          go_wp2_with (at_builtin; refine wl_appB w.heap.size [.float .f32 x] hsz rfl (.tmp 61) (.tmp 63) 73 rfl Try.eG _ k _ rfl HO.out rfl (by simp [Value.oneCell']) (by simp [maxLen]; omega) (by simp; omega) ?_; intro v' w4 ho4 hb4)
          have HO4 : Hid (Ow w4 w.heap.size 57 v' (k + 1) (((List.range (k + 1)).map (winW 1 n)).map gv)) := by
            show Ow _ _ _ _ _ _
            rw [← HN.out]; exact ho4
          have HB4 : Hid (Below w.heap.size w w4) := HB.out.trans hb4
          clear ho4 hb4
          go_roundw
          case rel => first | exact ⟨k + 1, by omega, by go_num, HO4.out, HB4.out⟩ | ((repeat apply Exists.intro); exact ⟨⟨k + 1, by omega, by go_num, HO4.out, HB4.out⟩, rfl⟩)
          case measure => simp [intOf]; omega
      · obtain rfl : k = n := by omega
        have hlN := Int.not_lt.2 (Int.le_of_eq HNn.out)
        obtain ⟨A2, c2, rfl⟩ := HO.out.shape
        have HR : Hid (RetWn w ((List.range k).map (winW 1 k)) (.returned (.slice A2 k c2)) wr) := by
          have e : ((List.range k).map (winW 1 k)).length = k := by rw [List.length_map, List.length_range]
          exact ⟨_, _, by rw [e], by rw [e]; exact HO.out, HB.out⟩
        go_wp2_with fail
        go_ret
        exact HR.out
set_option maxHeartbeats 8000000 in
set_option maxRecDepth 100000 in
theorem sWindow2 (n : Nat) (w : World) (hn : n = 2 ∨ n = 4 ∨ n = 8 ∨ n = 16) : Calls Try.prog 41 #[.int .i64 2, .int .i64 n] w (RetWn w ((List.range n).map (winW 2 n))) := by
  have HE : Hid (Ow (w.alloc (.cells #[] 57)) w.heap.size 57 (.slice (some ⟨w.heap.size, 0, none⟩) 0 0) 0 (((List.range 0).map (winW 2 n)).map gv)) := Lib.hid (Ow.empty w 57)
  have HB0 := Lib.hid (below_alloc w (.cells #[] 57))
  obtain ⟨N, hN⟩ : ∃ N : Int, N = (n : Int) := ⟨_, rfl⟩
  have hc : N = 2 ∨ N = 4 ∨ N = 8 ∨ N = 16 := by omega
  have h16 : n ≤ 16 := by omega
  have HK : Hid (∀ k, k < n → WinS n k) := fun k hk => winS hn hk
  obtain ⟨M, hM⟩ : ∃ M : Int, M = 16 / (n : Int) := ⟨_, rfl⟩
  have hc2 : (N = 2 ∧ M = 8) ∨ (N = 4 ∧ M = 4) ∨ (N = 8 ∧ M = 2) ∨ (N = 16 ∧ M = 1) := by rcases hn with rfl | rfl | rfl | rfl <;> simp at hN hM <;> omega
  rw [← hN]
  clear hn hc
  have HTN : Hid (∀ (k : Nat) w1, Calls Try.prog 45 #[.int .i64 (M * (k : Int))] w1 (RetQ w1 (turnC (16 / (n : Int) * (k : Int))))) := fun k w1 => by rw [hM]; exact sTurn _ w1
  have HWR : Hid (∀ k : Nat, k < n → IntKind.i64.wrap (M * (k : Int)) = M * (k : Int)) := fun k hk => IntWalk.i64_in _ (by rcases hc2 with ⟨_, rfl⟩ | ⟨_, rfl⟩ | ⟨_, rfl⟩ | ⟨_, rfl⟩ <;> omega)
  rcases hc2 with ⟨rfl, rfl⟩ | ⟨rfl, rfl⟩ | ⟨rfl, rfl⟩ | ⟨rfl, rfl⟩
  all_goals
    have HNn := Lib.hid hN
    clear hN hM
    go_enter Try.func41, Try.ntmps41
    go_wp2_with fail
    refine (l1In_any _ _ _ _).mono ?_
    rintro e w' ⟨rfl, rfl⟩
    rw [show inB 2 0 2 = true from rfl]
    go_wp2_with fail
    go_loopw [5, 6] (fun v i wr => ∃ k : Nat, k ≤ n ∧ i = .int .i64 k ∧ Ow wr w.heap.size 57 v k (((List.range k).map (winW 2 n)).map gv) ∧ Below w.heap.size w wr) (fun _ i _ => n - (intOf i).toNat)
    case atStart => first | exact ⟨0, by omega, rfl, HE.out, HB0.out⟩ | ((repeat apply Exists.intro); exact ⟨by omega, rfl, HE.out, HB0.out⟩)
    case round =>
      obtain ⟨k, hk, rfl, ho, hb⟩ := hrel
      have HO := Lib.hid ho
      have HB := Lib.hid hb
      have hsz := hb.size
      clear ho hb
      by_cases hlt : k < n
      · have hlN := Int.lt_of_lt_of_le (Int.ofNat_lt.2 hlt) (Int.le_of_eq HNn.out.symm)
        have HN := Lib.hid (win_snoc (winW 2 n) k)
        have hT := HTN.out k
        have e2 := HWR.out k hlt
        try simp only [Int.one_mul] at hT e2
        have HS := Lib.hid (HK.out k hlt)
        obtain ⟨t, ht⟩ : ∃ t, t = turnC (16 / (n : Int) * (k : Int)) := ⟨_, rfl⟩
        have qh := HS.out.h
        rw [← ht] at hT qh
        have HT := Lib.hid hT
        clear hT
        have q1 := fun w => run_float_arith (P := Try.prog) w .mul 57 .f32 _ _ _ qh
        have q2 := fun w => run_float_arith (P := Try.prog) w .sub 57 .f32 _ _ _ HS.out.w
        have hw : winW 2 n k = smoW n k := by unfold winW; rw [if_neg (by decide), if_neg (by decide)]
        rw [hw] at HN
        clear hw qh ht
        generalize smoW n k = u at *
        generalize smoH n k = v0 at *
        have hkN := h16
        go_wp2_with fail
        refine (HT.out _).mono ?_
        rintro e w3 ⟨rfl, hw3⟩
        have HB3 : Hid (Below w.heap.size w w3) := HB.out.trans (hw3.mono HB.out.size)
        have HO3 := Lib.hid (HO.out.below hw3)
        have hsz3 := HB3.out.size
        clear hw3
        unfold cv
        go_wp2_with (at_builtin; refine wl_appB w.heap.size [.float .f32 u] hsz3 rfl (.tmp 61) (.tmp 63) 73 rfl Try.eG _ k _ rfl HO3.out rfl (by simp [Value.oneCell']) (by simp [maxLen]; omega) (by simp; omega) ?_; intro v' w4 ho4 hb4)
        have HO4 : Hid (Ow w4 w.heap.size 57 v' (k + 1) (((List.range (k + 1)).map (winW 2 n)).map gv)) := by
          show Ow _ _ _ _ _ _
          rw [← HN.out]; exact ho4
        have HB4 : Hid (Below w.heap.size w w4) := HB3.out.trans hb4
        clear ho4 hb4
        go_roundw
        case rel => first | exact ⟨k + 1, by omega, by go_num, HO4.out, HB4.out⟩ | ((repeat apply Exists.intro); exact ⟨⟨k + 1, by omega, by go_num, HO4.out, HB4.out⟩, rfl⟩)
        case measure => simp [intOf]; omega
      · obtain rfl : k = n := by omega
        have hlN := Int.not_lt.2 (Int.le_of_eq HNn.out)
        obtain ⟨A2, c2, rfl⟩ := HO.out.shape
        have HR : Hid (RetWn w ((List.range k).map (winW 2 k)) (.returned (.slice A2 k c2)) wr) := by
          have e : ((List.range k).map (winW 2 k)).length = k := by rw [List.length_map, List.length_range]
          exact ⟨_, _, by rw [e], by rw [e]; exact HO.out, HB.out⟩
        go_wp2_with fail
        go_ret
        exact HR.out
theorem sWindow (kind : Int) (n : Nat) (w : World) (hn : n ≤ 1048576) : Calls Try.prog 41 #[.int .i64 kind, .int .i64 n] w (RetWn w (winL kind n)) := by
  cases h : winOk kind n
  · rw [winL_no h]; exact sWindow_no kind n w hn h
  · rw [winL_yes h]
    obtain ⟨h1, h2, h3⟩ := winOk_iff.1 h
    have : kind = 0 ∨ kind = 1 ∨ kind = 2 := by omega
    rcases this with rfl | rfl | rfl
    · exact sWindow0 n w h1
    · exact sWindow1 n w h1
    · exact sWindow2 n w h1
end Go.Proofs.Ytnomlkkhkacajaa
namespace Go.Proofs.Ytnomlkkhkacajaa
open Go.RowKit

theorem sLess (z : C) (u : Nat) (hz : finB z = true) (hu : Fin Ieee.single u) (w : World) :
    Calls Try.prog 42 #[.complex .f32 z.1 z.2, .float .f32 u] w fun e w' => e = .returned (.complex .f32 (lessC z u).1 (lessC z u).2) ∧ w' = w := by
  obtain ⟨f1, f2⟩ := finB_iff.1 hz
  have q1 := fun w => run_float_arith (P := Try.prog) w .mul 57 .f32 _ _ _ (mulS_spec f1 hu).1
  have q2 := fun w => run_float_arith (P := Try.prog) w .mul 57 .f32 _ _ _ (mulS_spec f2 hu).1
  unfold lessC
  generalize mulS z.1 u = a at *
  generalize mulS z.2 u = b at *
  clear f1 f2 hz hu
  go_enter Try.func42, Try.ntmps42
  go_wp2_with fail
  go_ret
  exact ⟨rfl, rfl⟩

set_option maxHeartbeats 4000000 in
set_option maxRecDepth 100000 in
theorem sWindowed (A : Option Addr) (n c : Nat) (xs : List C) (kind : Int) (w : World) (hn : n ≤ 1048576) (hx : Cs w A n xs) :
    Calls Try.prog 33 #[.slice A n c, .int .i64 kind] w (RetO w (winF xs kind)) := by
  have hl := hx.len
  have HW : Hid (∀ w, Calls Try.prog 41 #[.int .i64 kind, .int .i64 n] w (RetWn w (winL kind n))) := fun w => sWindow kind n w hn
  have HC : Hid (∀ w, Cs w A n xs → Calls Try.prog 11 #[.slice A n c] w fun e w' => e = .returned (.bool (sigB xs)) ∧ Dr w w') := fun w h => sSignalOk A n c xs w (by omega) h
  by_cases hno : sigB xs = false ∨ winOk kind n = false
  · have HN := Lib.hid (winF_no (kind := kind) (by rw [hl]; exact hno))
    have key : sigB xs = false ∨ (sigB xs = true ∧ winL kind n = []) := by
      cases hs : sigB xs
      · exact .inl rfl
      · rw [hs] at hno; exact .inr ⟨rfl, winL_no (hno.resolve_left (by decide))⟩
    have hL : (winL kind n).length ≤ 16 := by
      cases h : winOk kind n
      · rw [winL_no h]; decide
      · have h2 := winL_len h
        have h3 := (winOk_iff.1 h).1
        omega
    clear hl hno
    rcases key with hs | ⟨hs, hw⟩
    · rw [hs] at HC
      generalize winL kind n = ws at *
      clear hs
      go_enter Try.func33, Try.ntmps33
      go_wp2_with fail
      refine (HW.out _).mono ?_
      rintro e w1 ⟨A1, c1, rfl, ho1, hb1⟩
      have HB1 := Lib.hid hb1
      have HX1 := Lib.hid (hx.below hb1)
      clear ho1 hb1 hx
      go_wp2_with fail
      refine (HC.out _ HX1.out).mono ?_
      rintro e w' ⟨rfl, m, rfl⟩
      go_wp2_with fail
      go_ret2
      rw [HN.out]
      exact RetC.empty ((Ow.empty (w1.drewN m) 35).mono HB1.out.size) ((below_drewN HB1.out m).alloc (by exact HB1.out.size) _)
    · rw [hs] at HC
      rw [hw] at HW
      clear hs hw hL
      go_enter Try.func33, Try.ntmps33
      go_wp2_with fail
      refine (HW.out _).mono ?_
      rintro e w1 ⟨A1, c1, rfl, ho1, hb1⟩
      have HB1 := Lib.hid hb1
      have HX1 := Lib.hid (hx.below hb1)
      clear ho1 hb1 hx
      simp only [List.length_nil]
      go_wp2_with fail
      refine (HC.out _ HX1.out).mono ?_
      rintro e w' ⟨rfl, m, rfl⟩
      go_wp2_with fail
      go_ret2
      rw [HN.out]
      exact RetC.empty ((Ow.empty (w1.drewN m) 35).mono HB1.out.size) ((below_drewN HB1.out m).alloc (by exact HB1.out.size) _)
  have hs : sigB xs = true := eq_true_of_ne_false fun h => hno (.inl h)
  have hk : winOk kind n = true := eq_true_of_ne_false fun h => hno (.inr h)
  have h16 : n ≤ 16 := by rw [← hl]; exact sig_len hs
  have hn0 : ((n : Int) == 0) = false := by have := (winOk_iff.1 hk).1; rw [beq_eq_false_iff_ne]; omega
  have HY := Lib.hid (winF_yes hl hs hk)
  rw [hs] at HC
  rw [winL_yes hk] at HW
  have HL0 : Hid (∀ i, i < n → ∀ w, Calls Try.prog 42 #[.complex .f32 (nth xs i).1 (nth xs i).2, .float .f32 (winW kind n i)] w fun e w' => e = .returned (.complex .f32 (lessC (nth xs i) (winW kind n i)).1 (lessC (nth xs i) (winW kind n i)).2) ∧ w' = w) := fun i hi w =>
    sLess _ _ (fin_mk hs (by omega)) (winW_part hk hi).1 w
  have HLN : Hid (((List.range n).map (winW kind n)).length = n) := by show _ = _; rw [List.length_map, List.length_range]
  clear hno hs hk hl
  go_enter Try.func33, Try.ntmps33
  go_wp2_with fail
  refine (HW.out _).mono ?_
  rintro e w1 ⟨A1, c1, rfl, ho1, hb1⟩
  rw [HLN.out] at ho1 ⊢
  have HB1 := Lib.hid hb1
  have HX1 := Lib.hid (hx.below hb1)
  have HG1 := Lib.hid ho1.sl
  clear ho1 hb1 hx
  go_wp2_with fail
  refine (HC.out _ HX1.out).mono ?_
  rintro e w' ⟨rfl, m, rfl⟩
  obtain ⟨w0, hw0⟩ : ∃ w0, w0 = w1.drewN m := ⟨_, rfl⟩
  have HB0 : Hid (Below w.heap.size w w0) := by rw [hw0]; exact below_drewN HB1.out m
  have HX0 : Hid (Cs w0 A n xs) := by rw [hw0]; exact HX1.out.drewN m
  have HG0 : Hid (Sl w0 A1 n (((List.range n).map (winW kind n)).map gv)) := by rw [hw0]; exact HG1.out.drewN m
  rw [← hw0]
  clear hw0
  have HE : Hid (Ow (w0.alloc (.cells #[] 35)) w0.heap.size 35 (.slice (some ⟨w0.heap.size, 0, none⟩) 0 0) 0 ((rngL (fun i => lessC (nth xs i) (winW kind n i)) 0).map cv)) := Ow.empty w0 35
  have HBE : Hid (Below w0.heap.size w0 (w0.alloc (.cells #[] 35))) := below_alloc _ _
  go_wp2_with fail
  go_loopw [7, 8] (fun v i wr => ∃ k : Nat, k ≤ n ∧ i = .int .i64 k ∧ Ow wr w0.heap.size 35 v k ((rngL (fun i => lessC (nth xs i) (winW kind n i)) k).map cv) ∧ Below w0.heap.size w0 wr) (fun _ i _ => n - (intOf i).toNat)
  case atStart => exact ⟨0, by omega, rfl, HE.out, HBE.out⟩
  case round =>
    obtain ⟨k, hk, rfl, ho, hb⟩ := hrel
    have HO := Lib.hid ho
    have HB := Lib.hid hb
    clear ho
    by_cases hlt : k < n
    · obtain ⟨b, o, rfl, hbl, hc⟩ := HX0.out.at_ hlt
      obtain ⟨b', o', rfl, hbl', hc'⟩ := Sl.at_ HG0.out hlt
      have hck : wr.cell? ⟨b, o + k, none⟩ = some (cv (nth xs k)) := (hb.cell (p := ⟨b, o + k, none⟩) hbl).trans (hc k hlt)
      have hck' : wr.cell? ⟨b', o' + k, none⟩ = some (.float .f32 (winW kind n k)) := (hb.cell (p := ⟨b', o' + k, none⟩) hbl').trans (hc' k _ (by rw [List.getElem?_map, List.getElem?_map, List.getElem?_range hlt]; rfl))
      have HL := Lib.hid (HL0.out k hlt)
      have HN : Hid ((rngL (fun i => lessC (nth xs i) (winW kind n i)) k).map cv ++ [cv (lessC (nth xs k) (winW kind n k))] = (rngL (fun i => lessC (nth xs i) (winW kind n i)) (k + 1)).map cv) := by show _ = _; rw [rngL_succ, List.map_append]; rfl
      have hin : (k : Int) < (n : Int) := by omega
      clear hb hc hc'
      generalize lessC (nth xs k) (winW kind n k) = p at *
      generalize nth xs k = x at *
      generalize winW kind n k = y at *
      unfold cv at hck
      have hkm : k + 1 ≤ maxLen := by unfold maxLen; omega
      have hkb : (k + 1) * 8 ≤ 140737488355328 := by omega
      go_wp2_with fail
      go_region_law ((first
        | (refine st_app1 (w0 := w0) rfl (.tmp 29) (.tmp 39) 23 rfl Try.eC u7 k _ rfl (show Ow wr.drew _ _ _ _ _ from HO.out) (.complex .f32 p.1 p.2) rfl rfl hkm hkb HB.out.drew ?_; intro v' w3 hown3 hb3; have HO3 := Lib.hid hown3; have HB3 := Lib.hid hb3; clear hown3 hb3)
        | (go_simp; go_at_call 42; refine (HL.out _).mono ?_; rintro e w' ⟨rfl, rfl⟩)))
      all_goals
        have HO4 : Ow w3 w0.heap.size 35 v' (k + 1) ((rngL (fun i => lessC (nth xs i) (winW kind n i)) k).map cv ++ [cv p]) := HO3.out
        rw [HN.out] at HO4
        have HO5 := Lib.hid HO4
        clear HO4
        go_wp2_with fail
        go_roundw
        case rel => first | exact ⟨k + 1, by omega, by go_num, HO5.out, HB3.out⟩ | ((repeat apply Exists.intro); exact ⟨⟨k + 1, by omega, by go_num, HO5.out, HB3.out⟩, rfl⟩)
        case measure => simp [intOf]; omega
    · obtain rfl : k = n := by omega
      obtain ⟨A2, c2, rfl⟩ := HO.out.shape
      have HR : Hid (RetO w (winF xs kind) (.returned (.tuple #[.slice A2 k c2, .bool true])) wr) := by
        show RetO _ _ _ _
        rw [HY.out]
        exact ⟨_, _, _, rfl, HO.out.mono HB0.out.size, HB0.out.trans (HB.out.mono HB0.out.size)⟩
      clear hb
      go_wp2_with fail
      go_ret2
      exact HR.out
end Go.Proofs.Ytnomlkkhkacajaa
