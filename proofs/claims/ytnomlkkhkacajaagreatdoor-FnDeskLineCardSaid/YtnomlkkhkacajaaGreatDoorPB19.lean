/- Texts on the way to a law (O3, H2), each with its own remark. -/
import Derived.Test.YtnomlkkhkacajaaGreatDoorPB18
import Derived.Test.YtnomlkkhkacajaaGreatDoorPB10
namespace Go.Proofs.YtnomlkkhkacajaaGreatDoor
open Go.RowKit

set_option maxHeartbeats 8000000 in
set_option maxRecDepth 100000 in
theorem sWindow1 (n : Nat) (w : World) (hn : n = 2 ∨ n = 4 ∨ n = 8 ∨ n = 16) : Calls Tryz.prog 118 #[.int .i64 1, .int .i64 n] w (RetWn w ((List.range n).map (winW 1 n))) := by
  have HE : Hid (Ow (w.alloc (.cells #[] 131)) w.heap.size 131 (.slice (some ⟨w.heap.size, 0, none⟩) 0 0) 0 (((List.range 0).map (winW 1 n)).map gv)) := Lib.hid (Ow.empty w 131)
  have HB0 := Lib.hid (below_alloc w (.cells #[] 131))
  obtain ⟨N, hN⟩ : ∃ N : Int, N = (n : Int) := ⟨_, rfl⟩
  have hc : N = 2 ∨ N = 4 ∨ N = 8 ∨ N = 16 := by omega
  have h16 : n ≤ 16 := by omega
  have HK : Hid (∀ k, k < n → WinS n k) := fun k hk => winS hn hk
  obtain ⟨M, hM⟩ : ∃ M : Int, M = ((n / 2 : Nat) : Int) := ⟨_, rfl⟩
  have hc2 : (N = 2 ∧ M = 1) ∨ (N = 4 ∧ M = 2) ∨ (N = 8 ∧ M = 4) ∨ (N = 16 ∧ M = 8) := by omega
  rw [← hN]
  clear hn hc
  rcases hc2 with ⟨rfl, rfl⟩ | ⟨rfl, rfl⟩ | ⟨rfl, rfl⟩ | ⟨rfl, rfl⟩
  all_goals
    have HNn := Lib.hid hN
    have HM2 := Lib.hid hM
    clear hN hM
    go_enter Tryz.func118, Tryz.ntmps118
    go_wp2_with fail
    refine (l1In_any _ _ _ _).mono ?_
    rintro e w' ⟨rfl, rfl⟩
    rw [show inB 1 0 2 = true from rfl]
    go_wp2_with fail
    go_loopw [5, 6] (fun v i wr => ∃ k : Nat, k ≤ n ∧ i = .int .i64 k ∧ Ow wr w.heap.size 131 v k (((List.range k).map (winW 1 n)).map gv) ∧ Below w.heap.size w wr) (fun _ i _ => n - (intOf i).toNat)
    case atStart => first | exact ⟨0, by omega, rfl, HE.out, HB0.out⟩ | ((repeat apply Exists.intro); exact ⟨by omega, rfl, HE.out, HB0.out⟩)
    case round =>
      obtain ⟨k, hk, rfl, ho, hb⟩ := hrel
      have HO := Lib.hid ho
      have HB := Lib.hid hb
      have hsz := hb.size
      clear ho hb
      by_cases hlt : k < n
      · have hlN := Int.lt_of_lt_of_le (Int.ofNat_lt.2 hlt) (Int.le_of_eq HNn.out.symm)
        have HN := Lib.hid (win_snoc (winW 1 n) k)
        have e2 : IntKind.i64.wrap (2 * (k : Int)) = 2 * (k : Int) := IntWalk.i64_in _ (by omega)
        obtain ⟨x, hx⟩ : ∃ x, x = triD n k := ⟨_, rfl⟩
        have qd := (HK.out k hlt).d
        rw [← HNn.out, ← hx] at qd
        have q1 := fun w => run_float_arith (P := Tryz.prog) w .quo 131 .f32 _ _ _ qd
        clear qd
        by_cases hh : n / 2 ≤ k
        · have hge := Int.le_trans (Int.le_of_eq HM2.out) (Int.ofNat_le.2 hh)
          have hw : winW 1 n k = triE n k := by
            unfold winW; rw [if_neg (by decide), if_pos rfl, if_pos hh]
          have qe := (HK.out k hlt).e
          rw [← hx] at qe
          have q2 := fun w => run_float_arith (P := Tryz.prog) w .sub 131 .f32 _ _ _ qe
          rw [hw] at HN
          clear hw qe hx hh
          generalize triE n k = u at *
          go_wp2_with (at_builtin; refine wl_appB w.heap.size [.float .f32 u] hsz rfl (.tmp 61) (.tmp 63) 134 rfl Tryz.eG _ k _ rfl HO.out rfl (by simp [Value.oneCell']) (by simp [maxLen]; omega) (by simp; omega) ?_; intro v' w4 ho4 hb4)
          have HO4 : Hid (Ow w4 w.heap.size 131 v' (k + 1) (((List.range (k + 1)).map (winW 1 n)).map gv)) := by
            show Ow _ _ _ _ _ _
            rw [← HN.out]; exact ho4
          have HB4 : Hid (Below w.heap.size w w4) := HB.out.trans hb4
          clear ho4 hb4
          go_roundw
          case rel => first | exact ⟨k + 1, by omega, by go_num, HO4.out, HB4.out⟩ | ((repeat apply Exists.intro); exact ⟨⟨k + 1, by omega, by go_num, HO4.out, HB4.out⟩, rfl⟩)
          case measure => simp [intOf]; omega
        · have hge := Int.not_le.2 (Int.lt_of_lt_of_le (Int.ofNat_lt.2 (Nat.lt_of_not_le hh)) (Int.le_of_eq HM2.out.symm))
          have hw : winW 1 n k = x := by
            unfold winW; rw [if_neg (by decide), if_pos rfl, if_neg hh, hx]
          rw [hw] at HN
          clear hw hx hh
          go_wp2_with (at_builtin; refine wl_appB w.heap.size [.float .f32 x] hsz rfl (.tmp 61) (.tmp 63) 134 rfl Tryz.eG _ k _ rfl HO.out rfl (by simp [Value.oneCell']) (by simp [maxLen]; omega) (by simp; omega) ?_; intro v' w4 ho4 hb4)
          have HO4 : Hid (Ow w4 w.heap.size 131 v' (k + 1) (((List.range (k + 1)).map (winW 1 n)).map gv)) := by
            show Ow _ _ _ _ _ _
            rw [← HN.out]; exact ho4
          have HB4 : Hid (Below w.heap.size w w4) := HB.out.trans hb4
          clear ho4 hb4
          go_roundw
          case rel => first | exact ⟨k + 1, by omega, by go_num, HO4.out, HB4.out⟩ | ((repeat apply Exists.intro); exact ⟨⟨k + 1, by omega, by go_num, HO4.out, HB4.out⟩, rfl⟩)
          case measure => simp [intOf]; omega
      · obtain rfl : k = n := by omega
        have hlN := Int.not_lt.2 (Int.le_of_eq HNn.out)
        obtain ⟨A2, c2, rfl⟩ := HO.out.shape
        have HR : Hid (RetWn w ((List.range k).map (winW 1 k)) (.returned (.slice A2 k c2)) wr) := by
          have e : ((List.range k).map (winW 1 k)).length = k := by rw [List.length_map, List.length_range]
          exact ⟨_, _, by rw [e], by rw [e]; exact HO.out, HB.out⟩
        go_wp2_with fail
        go_ret
        exact HR.out
set_option maxHeartbeats 8000000 in
set_option maxRecDepth 100000 in
theorem sWindow2 (n : Nat) (w : World) (hn : n = 2 ∨ n = 4 ∨ n = 8 ∨ n = 16) : Calls Tryz.prog 118 #[.int .i64 2, .int .i64 n] w (RetWn w ((List.range n).map (winW 2 n))) := by
  have HE : Hid (Ow (w.alloc (.cells #[] 131)) w.heap.size 131 (.slice (some ⟨w.heap.size, 0, none⟩) 0 0) 0 (((List.range 0).map (winW 2 n)).map gv)) := Lib.hid (Ow.empty w 131)
  have HB0 := Lib.hid (below_alloc w (.cells #[] 131))
  obtain ⟨N, hN⟩ : ∃ N : Int, N = (n : Int) := ⟨_, rfl⟩
  have hc : N = 2 ∨ N = 4 ∨ N = 8 ∨ N = 16 := by omega
  have h16 : n ≤ 16 := by omega
  have HK : Hid (∀ k, k < n → WinS n k) := fun k hk => winS hn hk
  obtain ⟨M, hM⟩ : ∃ M : Int, M = 16 / (n : Int) := ⟨_, rfl⟩
  have hc2 : (N = 2 ∧ M = 8) ∨ (N = 4 ∧ M = 4) ∨ (N = 8 ∧ M = 2) ∨ (N = 16 ∧ M = 1) := by rcases hn with rfl | rfl | rfl | rfl <;> simp at hN hM <;> omega
  rw [← hN]
  clear hn hc
  have HTN : Hid (∀ (k : Nat) w1, Calls Tryz.prog 130 #[.int .i64 (M * (k : Int))] w1 (RetQ w1 (turnC (16 / (n : Int) * (k : Int))))) := fun k w1 => by rw [hM]; exact sTurn _ w1
  have HWR : Hid (∀ k : Nat, k < n → IntKind.i64.wrap (M * (k : Int)) = M * (k : Int)) := fun k hk => IntWalk.i64_in _ (by rcases hc2 with ⟨_, rfl⟩ | ⟨_, rfl⟩ | ⟨_, rfl⟩ | ⟨_, rfl⟩ <;> omega)
  rcases hc2 with ⟨rfl, rfl⟩ | ⟨rfl, rfl⟩ | ⟨rfl, rfl⟩ | ⟨rfl, rfl⟩
  all_goals
    have HNn := Lib.hid hN
    clear hN hM
    go_enter Tryz.func118, Tryz.ntmps118
    go_wp2_with fail
    refine (l1In_any _ _ _ _).mono ?_
    rintro e w' ⟨rfl, rfl⟩
    rw [show inB 2 0 2 = true from rfl]
    go_wp2_with fail
    go_loopw [5, 6] (fun v i wr => ∃ k : Nat, k ≤ n ∧ i = .int .i64 k ∧ Ow wr w.heap.size 131 v k (((List.range k).map (winW 2 n)).map gv) ∧ Below w.heap.size w wr) (fun _ i _ => n - (intOf i).toNat)
    case atStart => first | exact ⟨0, by omega, rfl, HE.out, HB0.out⟩ | ((repeat apply Exists.intro); exact ⟨by omega, rfl, HE.out, HB0.out⟩)
    case round =>
      obtain ⟨k, hk, rfl, ho, hb⟩ := hrel
      have HO := Lib.hid ho
      have HB := Lib.hid hb
      have hsz := hb.size
      clear ho hb
      by_cases hlt : k < n
      · have hlN := Int.lt_of_lt_of_le (Int.ofNat_lt.2 hlt) (Int.le_of_eq HNn.out.symm)
        have HN := Lib.hid (win_snoc (winW 2 n) k)
        have hT := HTN.out k
        have e2 := HWR.out k hlt
        try simp only [Int.one_mul] at hT e2
        have HS := Lib.hid (HK.out k hlt)
        obtain ⟨t, ht⟩ : ∃ t, t = turnC (16 / (n : Int) * (k : Int)) := ⟨_, rfl⟩
        have qh := HS.out.h
        rw [← ht] at hT qh
        have HT := Lib.hid hT
        clear hT
        have q1 := fun w => run_float_arith (P := Tryz.prog) w .mul 131 .f32 _ _ _ qh
        have q2 := fun w => run_float_arith (P := Tryz.prog) w .sub 131 .f32 _ _ _ HS.out.w
        have hw : winW 2 n k = smoW n k := by unfold winW; rw [if_neg (by decide), if_neg (by decide)]
        rw [hw] at HN
        clear hw qh ht
        generalize smoW n k = u at *
        generalize smoH n k = v0 at *
        have hkN := h16
        go_wp2_with fail
        refine (HT.out _).mono ?_
        rintro e w3 ⟨rfl, hw3⟩
        have HB3 : Hid (Below w.heap.size w w3) := HB.out.trans (hw3.mono HB.out.size)
        have HO3 := Lib.hid (HO.out.below hw3)
        have hsz3 := HB3.out.size
        clear hw3
        unfold cv
        go_wp2_with (at_builtin; refine wl_appB w.heap.size [.float .f32 u] hsz3 rfl (.tmp 61) (.tmp 63) 134 rfl Tryz.eG _ k _ rfl HO3.out rfl (by simp [Value.oneCell']) (by simp [maxLen]; omega) (by simp; omega) ?_; intro v' w4 ho4 hb4)
        have HO4 : Hid (Ow w4 w.heap.size 131 v' (k + 1) (((List.range (k + 1)).map (winW 2 n)).map gv)) := by
          show Ow _ _ _ _ _ _
          rw [← HN.out]; exact ho4
        have HB4 : Hid (Below w.heap.size w w4) := HB3.out.trans hb4
        clear ho4 hb4
        go_roundw
        case rel => first | exact ⟨k + 1, by omega, by go_num, HO4.out, HB4.out⟩ | ((repeat apply Exists.intro); exact ⟨⟨k + 1, by omega, by go_num, HO4.out, HB4.out⟩, rfl⟩)
        case measure => simp [intOf]; omega
      · obtain rfl : k = n := by omega
        have hlN := Int.not_lt.2 (Int.le_of_eq HNn.out)
        obtain ⟨A2, c2, rfl⟩ := HO.out.shape
        have HR : Hid (RetWn w ((List.range k).map (winW 2 k)) (.returned (.slice A2 k c2)) wr) := by
          have e : ((List.range k).map (winW 2 k)).length = k := by rw [List.length_map, List.length_range]
          exact ⟨_, _, by rw [e], by rw [e]; exact HO.out, HB.out⟩
        go_wp2_with fail
        go_ret
        exact HR.out
theorem sWindow (kind : Int) (n : Nat) (w : World) (hn : n ≤ 1048576) : Calls Tryz.prog 118 #[.int .i64 kind, .int .i64 n] w (RetWn w (winL kind n)) := by
  cases h : winOk kind n
  · rw [winL_no h]; exact sWindow_no kind n w hn h
  · rw [winL_yes h]
    obtain ⟨h1, h2, h3⟩ := winOk_iff.1 h
    have : kind = 0 ∨ kind = 1 ∨ kind = 2 := by omega
    rcases this with rfl | rfl | rfl
    · exact sWindow0 n w h1
    · exact sWindow1 n w h1
    · exact sWindow2 n w h1
end Go.Proofs.YtnomlkkhkacajaaGreatDoor
namespace Go.Proofs.YtnomlkkhkacajaaGreatDoor
open Go.RowKit

theorem pieceSize_any (n : Nat) (w : World) : Calls Tryz.prog 160 #[.int .i64 n] w fun e w' => e = .returned (.bool (winN n)) ∧ w' = w := by
  have HP := Lib.hid (fun w => pow_any n w)
  by_cases h1 : n = 1
  · subst h1
    go_enter Tryz.func160, Tryz.ntmps160
    go_wp2_with fail
    go_ret
    exact ⟨rfl, rfl⟩
  · have c1 : ((n : Int) == 1) = false := by rw [beq_eq_false_iff_ne]; omega
    have c2 : ¬ (n : Int) = 1 := by omega
    have HE : Hid (p2B n = winN n) := by
      show _ = _
      have e : (n == 1) = false := by rw [beq_eq_false_iff_ne]; exact h1
      unfold p2B winN
      rw [e, Bool.false_or]
    rw [HE.out] at HP
    clear h1 HE
    go_enter Tryz.func160, Tryz.ntmps160
    go_wp2_with fail
    refine (HP.out _).mono ?_
    rintro e w2 ⟨rfl, hw2⟩
    obtain rfl := hw2.symm
    go_wp2_with fail
    go_ret
    refine ⟨?_, rfl⟩
    show Ending.returned (.bool ((n : Int) != 1 && winN n)) = _
    rw [show ((n : Int) != 1) = true by unfold bne; rw [c1]; rfl]; rfl
/-- The words of a window, or nil. -/
def RetWi (w : World) (kind : Int) (n : Nat) (e : Ending) (w' : World) : Prop :=
  (winOk kind n = false ∧ e = .returned (.slice none 0 0) ∧ Below w.heap.size w w') ∨
  (winOk kind n = true ∧ ∃ g, e = .returned (.slice (some ⟨g, 0, none⟩) n n) ∧ Ow w' w.heap.size 131 (.slice (some ⟨g, 0, none⟩) n n) n (((List.range n).map (winW kind n)).map gv) ∧ Below w.heap.size w w')
theorem iWindow_no (kind : Int) (n : Nat) (w : World) (h : winOk kind n = false) : Calls Tryz.prog 140 #[.int .i64 kind, .int .i64 n] w (RetWi w kind n) := by
  have HN := Lib.hid h
  have HP := Lib.hid (fun w => pieceSize_any n w)
  cases hw : winN n
  · rw [hw] at HP
    clear h hw
    go_enter Tryz.func140, Tryz.ntmps140
    go_wp2_with fail
    refine (HP.out _).mono ?_
    rintro e w2 ⟨rfl, hw2⟩
    obtain rfl := hw2.symm
    go_wp2_with fail
    go_ret
    exact .inl ⟨HN.out, rfl, Below.refl _ _⟩
  · rw [hw] at HP
    have hk : kind < 0 ∨ (¬ kind < 0 ∧ kind > 2) := by
      unfold winOk at h; rw [hw] at h
      simp only [Bool.true_and, Bool.and_eq_false_iff, decide_eq_false_iff_not] at h
      omega
    clear h hw
    rcases hk with hk | ⟨hk, hk2⟩
    all_goals
      go_enter Tryz.func140, Tryz.ntmps140
      go_wp2_with fail
      refine (HP.out _).mono ?_
      rintro e w2 ⟨rfl, hw2⟩
      obtain rfl := hw2.symm
      go_wp2_with fail
      go_ret
      exact .inl ⟨HN.out, rfl, Below.refl _ _⟩
theorem wif_snoc (f : Nat → Nat) {n k : Nat} (hk : k < n) : ((((List.range k).map f).map gv ++ List.replicate (n - k) (Value.float .f32 0))).set k (gv (f k)) = ((List.range (k + 1)).map f).map gv ++ List.replicate (n - (k + 1)) (Value.float .f32 0) := by
  rw [fil_set _ (by rw [List.length_map, List.length_map, List.length_range]) hk, win_snoc]
theorem wif_get (f : Nat → Nat) {n k : Nat} (hk : k < n) : ((((List.range k).map f).map gv ++ List.replicate (n - k) (Value.float .f32 0)))[k]? = some (.float .f32 0) :=
  fil_get _ (by rw [List.length_map, List.length_map, List.length_range]) hk _

set_option maxHeartbeats 8000000 in
set_option maxRecDepth 100000 in
theorem iWindow0 (n : Nat) (w : World) (hn : n = 2 ∨ n = 4 ∨ n = 8 ∨ n = 16) : Calls Tryz.prog 140 #[.int .i64 0, .int .i64 n] w (RetWi w 0 n) := by
  obtain ⟨N, hN⟩ : ∃ N : Int, N = (n : Int) := ⟨_, rfl⟩
  have h16 : n ≤ 16 := by omega
  have HOK : Hid (winOk 0 n = true) := winOk_iff.2 ⟨hn, by omega, by omega⟩
  have HP : Hid (∀ w, Calls Tryz.prog 160 #[.int .i64 n] w fun e w' => e = .returned (.bool true) ∧ w' = w) := fun w => by rw [← winN_iff.2 hn]; exact pieceSize_any n w
  have HK : Hid (∀ k, k < n → WinS n k) := fun k hk => winS hn hk
  have hc : N = 2 ∨ N = 4 ∨ N = 8 ∨ N = 16 := by omega
  rw [← hN] at HP ⊢
  clear hn
  rcases hc with rfl | rfl | rfl | rfl
  all_goals
    have HNn := Lib.hid hN
    clear hN
    go_enter Tryz.func140, Tryz.ntmps140
    go_wp2_with fail
    refine (HP.out _).mono ?_
    rintro e w2 ⟨rfl, hw2⟩
    obtain rfl := hw2.symm
    go_wp2_with (at_make; refine wl_make (w0 := w) rfl (.tmp 19) (.tmp 19) 134 rfl Tryz.eG .i64 .i64 n _ _ rfl rfl HNn.out HNn.out (by omega) (by unfold maxLen; omega) (Below.refl _ _) ?_; intro w1 hown hb1 _)
    have HO1 : Hid (Ow w1 w.heap.size 131 (.slice (some ⟨w.heap.size, 0, none⟩) n n) n (((List.range 0).map (winW 0 n)).map gv ++ List.replicate (n - 0) (.float .f32 0))) := hown
    have HB1 := Lib.hid hb1
    clear hown hb1
    go_loopw [23] (fun i wr => ∃ k : Nat, k ≤ n ∧ i = .int .i64 k ∧ Ow wr w.heap.size 131 (.slice (some ⟨w.heap.size, 0, none⟩) n n) n (((List.range k).map (winW 0 n)).map gv ++ List.replicate (n - k) (.float .f32 0)) ∧ Below w.heap.size w wr) (fun i _ => n - (intOf i).toNat)
    case atStart => first | exact ⟨0, by omega, rfl, HO1.out, HB1.out⟩ | ((repeat apply Exists.intro); exact ⟨by omega, rfl, HO1.out, HB1.out⟩)
    case round =>
      obtain ⟨k, hk, rfl, ho, hb⟩ := hrel
      have HO := Lib.hid ho
      have HB := Lib.hid hb
      clear ho hb
      by_cases hlt : k < n
      · obtain ⟨g, hg, hge, hgl, hcell, hfr, hst⟩ := Ow.at_ HO.out hlt
        injection hg with hg
        injection hg with hg
        subst hg
        have hck2 : wr.cell? ⟨w.heap.size, k, none⟩ = some (.float .f32 0) := (hcell k hlt).trans (wif_get _ hlt)
        have hfr2 := hfr k
        have hw : winW 0 n k = 1056964608 := rfl
        have hst2 := hst k (gv (winW 0 n k))
        rw [wif_snoc _ hlt] at hst2
        rw [hw] at hst2
        have HS := Lib.hid hst2
        have HBX : Hid (Below w.heap.size w (wr.setCell ⟨w.heap.size, k, none⟩ (.float .f32 1056964608))) := HB.out.setCell (Nat.le_refl _) _
        unfold gv at HS
        clear hst2 hcell hfr hst hw
        go_wp2_with fail
        go_roundw
        case rel => first | exact ⟨k + 1, by omega, by go_num, HS.out, HBX.out⟩ | ((repeat apply Exists.intro); exact ⟨⟨k + 1, by omega, by go_num, HS.out, HBX.out⟩, rfl⟩)
        case measure => simp [intOf]; omega
      · obtain rfl : k = n := by omega
        have HR : Hid (RetWi w 0 k (.returned (.slice (some ⟨w.heap.size, 0, none⟩) k k)) wr) := by
          have h1 := HO.out
          rw [Nat.sub_self, List.replicate_zero, List.append_nil] at h1
          exact .inr ⟨HOK.out, _, rfl, h1, HB.out⟩
        go_wp2_with fail
        go_ret
        exact HR.out
set_option maxHeartbeats 8000000 in
set_option maxRecDepth 100000 in
theorem iWindow1 (n : Nat) (w : World) (hn : n = 2 ∨ n = 4 ∨ n = 8 ∨ n = 16) : Calls Tryz.prog 140 #[.int .i64 1, .int .i64 n] w (RetWi w 1 n) := by
  obtain ⟨N, hN⟩ : ∃ N : Int, N = (n : Int) := ⟨_, rfl⟩
  have h16 : n ≤ 16 := by omega
  have HOK : Hid (winOk 1 n = true) := winOk_iff.2 ⟨hn, by omega, by omega⟩
  have HP : Hid (∀ w, Calls Tryz.prog 160 #[.int .i64 n] w fun e w' => e = .returned (.bool true) ∧ w' = w) := fun w => by rw [← winN_iff.2 hn]; exact pieceSize_any n w
  have HK : Hid (∀ k, k < n → WinS n k) := fun k hk => winS hn hk
  obtain ⟨M, hM⟩ : ∃ M : Int, M = ((n / 2 : Nat) : Int) := ⟨_, rfl⟩
  have hc2 : (N = 2 ∧ M = 1) ∨ (N = 4 ∧ M = 2) ∨ (N = 8 ∧ M = 4) ∨ (N = 16 ∧ M = 8) := by omega
  rw [← hN] at HP ⊢
  clear hn
  rcases hc2 with ⟨rfl, rfl⟩ | ⟨rfl, rfl⟩ | ⟨rfl, rfl⟩ | ⟨rfl, rfl⟩
  all_goals
    have HM2 := Lib.hid hM
    clear hM
    have HNn := Lib.hid hN
    clear hN
    go_enter Tryz.func140, Tryz.ntmps140
    go_wp2_with fail
    refine (HP.out _).mono ?_
    rintro e w2 ⟨rfl, hw2⟩
    obtain rfl := hw2.symm
    go_wp2_with (at_make; refine wl_make (w0 := w) rfl (.tmp 19) (.tmp 19) 134 rfl Tryz.eG .i64 .i64 n _ _ rfl rfl HNn.out HNn.out (by omega) (by unfold maxLen; omega) (Below.refl _ _) ?_; intro w1 hown hb1 _)
    have HO1 : Hid (Ow w1 w.heap.size 131 (.slice (some ⟨w.heap.size, 0, none⟩) n n) n (((List.range 0).map (winW 1 n)).map gv ++ List.replicate (n - 0) (.float .f32 0))) := hown
    have HB1 := Lib.hid hb1
    clear hown hb1
    go_loopw [23] (fun i wr => ∃ k : Nat, k ≤ n ∧ i = .int .i64 k ∧ Ow wr w.heap.size 131 (.slice (some ⟨w.heap.size, 0, none⟩) n n) n (((List.range k).map (winW 1 n)).map gv ++ List.replicate (n - k) (.float .f32 0)) ∧ Below w.heap.size w wr) (fun i _ => n - (intOf i).toNat)
    case atStart => first | exact ⟨0, by omega, rfl, HO1.out, HB1.out⟩ | ((repeat apply Exists.intro); exact ⟨by omega, rfl, HO1.out, HB1.out⟩)
    case round =>
      obtain ⟨k, hk, rfl, ho, hb⟩ := hrel
      have HO := Lib.hid ho
      have HB := Lib.hid hb
      clear ho hb
      by_cases hlt : k < n
      · obtain ⟨g, hg, hge, hgl, hcell, hfr, hst⟩ := Ow.at_ HO.out hlt
        injection hg with hg
        injection hg with hg
        subst hg
        have hck2 : wr.cell? ⟨w.heap.size, k, none⟩ = some (.float .f32 0) := (hcell k hlt).trans (wif_get _ hlt)
        have hfr2 := hfr k
        have e2 : IntKind.i64.wrap (2 * (k : Int)) = 2 * (k : Int) := IntWalk.i64_in _ (by omega)
        obtain ⟨x, hx⟩ : ∃ x, x = triD n k := ⟨_, rfl⟩
        have qd := (HK.out k hlt).d
        rw [← HNn.out, ← hx] at qd
        have q1 := fun w => run_float_arith (P := Tryz.prog) w .quo 131 .f32 _ _ _ qd
        clear qd
        by_cases hh : n / 2 ≤ k
        · have hge := Int.le_trans (Int.le_of_eq HM2.out) (Int.ofNat_le.2 hh)
          have hw : winW 1 n k = triE n k := by unfold winW; rw [if_neg (by decide), if_pos rfl, if_pos hh]
          have qe := (HK.out k hlt).e
          rw [← hx] at qe
          have q2 := fun w => run_float_arith (P := Tryz.prog) w .sub 131 .f32 _ _ _ qe
          obtain ⟨u, hu⟩ : ∃ u, u = triE n k := ⟨_, rfl⟩
          rw [← hu] at hw q2
          obtain ⟨g2, hg2, _, _, hcell2, hfr3, hst3⟩ := Ow.at_ (hst k (.float .f32 x)) hlt
          injection hg2 with hg2
          injection hg2 with hg2
          subst hg2
          have hst4 := hst3 k (gv (winW 1 n k))
          rw [List.set_set, wif_snoc _ hlt, hw] at hst4
          have HS := Lib.hid hst4
          have HBX : Hid (Below w.heap.size w ((wr.setCell ⟨w.heap.size, k, none⟩ (.float .f32 x)).setCell ⟨w.heap.size, k, none⟩ (.float .f32 u))) := (HB.out.setCell (Nat.le_refl _) _).setCell (Nat.le_refl _) _
          unfold gv at HS
          clear hst4 hcell hfr hst hw hcell2 hfr3 hst3 qe hx hh hu
          go_wp2_with fail
          go_roundw
          case rel => first | exact ⟨k + 1, by omega, by go_num, HS.out, HBX.out⟩ | ((repeat apply Exists.intro); exact ⟨⟨k + 1, by omega, by go_num, HS.out, HBX.out⟩, rfl⟩)
          case measure => simp [intOf]; omega
        · have hge := Int.not_le.2 (Int.lt_of_lt_of_le (Int.ofNat_lt.2 (Nat.lt_of_not_le hh)) (Int.le_of_eq HM2.out.symm))
          have hw : winW 1 n k = x := by unfold winW; rw [if_neg (by decide), if_pos rfl, if_neg hh, hx]
          have hst2 := hst k (gv (winW 1 n k))
          rw [wif_snoc _ hlt] at hst2
          rw [hw] at hst2
          have HS := Lib.hid hst2
          have HBX : Hid (Below w.heap.size w (wr.setCell ⟨w.heap.size, k, none⟩ (.float .f32 x))) := HB.out.setCell (Nat.le_refl _) _
          unfold gv at HS
          clear hst2 hcell hfr hst hw hx hh
          go_wp2_with fail
          go_roundw
          case rel => first | exact ⟨k + 1, by omega, by go_num, HS.out, HBX.out⟩ | ((repeat apply Exists.intro); exact ⟨⟨k + 1, by omega, by go_num, HS.out, HBX.out⟩, rfl⟩)
          case measure => simp [intOf]; omega
      · obtain rfl : k = n := by omega
        have HR : Hid (RetWi w 1 k (.returned (.slice (some ⟨w.heap.size, 0, none⟩) k k)) wr) := by
          have h1 := HO.out
          rw [Nat.sub_self, List.replicate_zero, List.append_nil] at h1
          exact .inr ⟨HOK.out, _, rfl, h1, HB.out⟩
        go_wp2_with fail
        go_ret
        exact HR.out
set_option maxHeartbeats 8000000 in
set_option maxRecDepth 100000 in
theorem iWindow2 (n : Nat) (w : World) (hn : n = 2 ∨ n = 4 ∨ n = 8 ∨ n = 16) : Calls Tryz.prog 140 #[.int .i64 2, .int .i64 n] w (RetWi w 2 n) := by
  obtain ⟨N, hN⟩ : ∃ N : Int, N = (n : Int) := ⟨_, rfl⟩
  have h16 : n ≤ 16 := by omega
  have HOK : Hid (winOk 2 n = true) := winOk_iff.2 ⟨hn, by omega, by omega⟩
  have HP : Hid (∀ w, Calls Tryz.prog 160 #[.int .i64 n] w fun e w' => e = .returned (.bool true) ∧ w' = w) := fun w => by rw [← winN_iff.2 hn]; exact pieceSize_any n w
  have HK : Hid (∀ k, k < n → WinS n k) := fun k hk => winS hn hk
  obtain ⟨M, hM⟩ : ∃ M : Int, M = 16 / (n : Int) := ⟨_, rfl⟩
  have hc2 : (N = 2 ∧ M = 8) ∨ (N = 4 ∧ M = 4) ∨ (N = 8 ∧ M = 2) ∨ (N = 16 ∧ M = 1) := by rcases hn with rfl | rfl | rfl | rfl <;> simp at hN hM <;> omega
  have HTN : Hid (∀ (k : Nat) w1, Calls Tryz.prog 148 #[.int .i64 (M * (k : Int))] w1 (RetQ w1 (turnC (16 / (n : Int) * (k : Int))))) := fun k w1 => by rw [hM]; exact iTurn _ w1
  have HWR : Hid (∀ k : Nat, k < n → IntKind.i64.wrap (M * (k : Int)) = M * (k : Int)) := fun k hk => IntWalk.i64_in _ (by rcases hc2 with ⟨_, rfl⟩ | ⟨_, rfl⟩ | ⟨_, rfl⟩ | ⟨_, rfl⟩ <;> omega)
  rw [← hN] at HP ⊢
  clear hn
  rcases hc2 with ⟨rfl, rfl⟩ | ⟨rfl, rfl⟩ | ⟨rfl, rfl⟩ | ⟨rfl, rfl⟩
  all_goals
    clear hM
    have HNn := Lib.hid hN
    clear hN
    go_enter Tryz.func140, Tryz.ntmps140
    go_wp2_with fail
    refine (HP.out _).mono ?_
    rintro e w2 ⟨rfl, hw2⟩
    obtain rfl := hw2.symm
    go_wp2_with (at_make; refine wl_make (w0 := w) rfl (.tmp 19) (.tmp 19) 134 rfl Tryz.eG .i64 .i64 n _ _ rfl rfl HNn.out HNn.out (by omega) (by unfold maxLen; omega) (Below.refl _ _) ?_; intro w1 hown hb1 _)
    have HO1 : Hid (Ow w1 w.heap.size 131 (.slice (some ⟨w.heap.size, 0, none⟩) n n) n (((List.range 0).map (winW 2 n)).map gv ++ List.replicate (n - 0) (.float .f32 0))) := hown
    have HB1 := Lib.hid hb1
    clear hown hb1
    go_loopw [23] (fun i wr => ∃ k : Nat, k ≤ n ∧ i = .int .i64 k ∧ Ow wr w.heap.size 131 (.slice (some ⟨w.heap.size, 0, none⟩) n n) n (((List.range k).map (winW 2 n)).map gv ++ List.replicate (n - k) (.float .f32 0)) ∧ Below w.heap.size w wr) (fun i _ => n - (intOf i).toNat)
    case atStart => first | exact ⟨0, by omega, rfl, HO1.out, HB1.out⟩ | ((repeat apply Exists.intro); exact ⟨by omega, rfl, HO1.out, HB1.out⟩)
    case round =>
      obtain ⟨k, hk, rfl, ho, hb⟩ := hrel
      have HO := Lib.hid ho
      have HB := Lib.hid hb
      clear ho hb
      by_cases hlt : k < n
      · obtain ⟨g, hg, hge, hgl, hcell, hfr, hst⟩ := Ow.at_ HO.out hlt
        injection hg with hg
        injection hg with hg
        subst hg
        have hck2 : wr.cell? ⟨w.heap.size, k, none⟩ = some (.float .f32 0) := (hcell k hlt).trans (wif_get _ hlt)
        have hfr2 := hfr k
        have hT := HTN.out k
        have e2 := HWR.out k hlt
        try simp only [Int.one_mul] at hT e2
        have HSS := Lib.hid (HK.out k hlt)
        obtain ⟨t, ht⟩ : ∃ t, t = turnC (16 / (n : Int) * (k : Int)) := ⟨_, rfl⟩
        have qh := HSS.out.q
        rw [← ht] at hT qh
        have HT := Lib.hid hT
        clear hT
        have q1 := fun w => run_float_arith (P := Tryz.prog) w .quo 131 .f32 _ _ _ qh
        have q2 := fun w => run_float_arith (P := Tryz.prog) w .sub 131 .f32 _ _ _ HSS.out.w
        have hw : winW 2 n k = smoW n k := by unfold winW; rw [if_neg (by decide), if_neg (by decide)]
        obtain ⟨u, hu⟩ : ∃ u, u = smoW n k := ⟨_, rfl⟩
        obtain ⟨v0, hv0⟩ : ∃ v0, v0 = smoH n k := ⟨_, rfl⟩
        rw [← hu] at hw q2
        rw [← hv0] at q1 q2
        clear hst hcell hfr hfr2 hck2 qh ht hu hv0
        go_wp2_with fail
        refine (HT.out _).mono ?_
        rintro e w3 ⟨rfl, hw3⟩
        have HB3 : Hid (Below w.heap.size w w3) := HB.out.trans (hw3.mono HB.out.size)
        have HO3 := Lib.hid (HO.out.below hw3)
        clear hw3
        obtain ⟨g, hg, _, _, hcell, hfr, hst⟩ := Ow.at_ HO3.out hlt
        injection hg with hg
        injection hg with hg
        subst hg
        have hck2 : w3.cell? ⟨w.heap.size, k, none⟩ = some (.float .f32 0) := (hcell k hlt).trans (wif_get _ hlt)
        have hfr2 := hfr k
        have hst2 := hst k (gv (winW 2 n k))
        rw [wif_snoc _ hlt] at hst2
        rw [hw] at hst2
        have HS := Lib.hid hst2
        have HBX : Hid (Below w.heap.size w (w3.setCell ⟨w.heap.size, k, none⟩ (.float .f32 u))) := HB3.out.setCell (Nat.le_refl _) _
        unfold gv at HS
        clear hst2 hcell hfr hst hw
        unfold cv
        go_wp2_with fail
        go_roundw
        case rel => first | exact ⟨k + 1, by omega, by go_num, HS.out, HBX.out⟩ | ((repeat apply Exists.intro); exact ⟨⟨k + 1, by omega, by go_num, HS.out, HBX.out⟩, rfl⟩)
        case measure => simp [intOf]; omega
      · obtain rfl : k = n := by omega
        have HR : Hid (RetWi w 2 k (.returned (.slice (some ⟨w.heap.size, 0, none⟩) k k)) wr) := by
          have h1 := HO.out
          rw [Nat.sub_self, List.replicate_zero, List.append_nil] at h1
          exact .inr ⟨HOK.out, _, rfl, h1, HB.out⟩
        go_wp2_with fail
        go_ret
        exact HR.out
theorem iWindow (kind : Int) (n : Nat) (w : World) : Calls Tryz.prog 140 #[.int .i64 kind, .int .i64 n] w (RetWi w kind n) := by
  cases h : winOk kind n
  · exact iWindow_no kind n w h
  · obtain ⟨h1, h2, h3⟩ := winOk_iff.1 h
    have : kind = 0 ∨ kind = 1 ∨ kind = 2 := by omega
    rcases this with rfl | rfl | rfl
    · exact iWindow0 n w h1
    · exact iWindow1 n w h1
    · exact iWindow2 n w h1
end Go.Proofs.YtnomlkkhkacajaaGreatDoor
