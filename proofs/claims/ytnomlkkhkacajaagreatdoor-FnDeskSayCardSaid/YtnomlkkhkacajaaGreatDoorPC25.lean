/- Texts on the way to a law (O3, H2, O4, O5), each with its own remark. -/
import Derived.Test.YtnomlkkhkacajaaGreatDoorPC24
import Derived.Test.YtnomlkkhkacajaaGreatDoorPC07
import Derived.Test.YtnomlkkhkacajaaGreatDoorPC12
namespace Go.Proofs.YtnomlkkhkacajaaGreatDoor
open Go.RowKit

set_option maxHeartbeats 8000000 in
set_option maxRecDepth 100000 in
theorem sWindow1 (n : Nat) (w : World) (hn : n = 2 ∨ n = 4 ∨ n = 8 ∨ n = 16) : Calls Tryz.prog 118 #[.int .i64 1, .int .i64 n] w (RetWn w ((List.range n).map (winW 1 n))) := by
  have HE : Hid (Ow (w.alloc (.cells #[] 131)) w.heap.size 131 (.slice (some ⟨w.heap.size, 0, none⟩) 0 0) 0 (((List.range 0).map (winW 1 n)).map gv)) := Lib.hid (Ow.empty w 131)
  have HB0 := Lib.hid (below_alloc w (.cells #[] 131))
  obtain ⟨N, hN⟩ : ∃ N : Int, N = (n : Int) := ⟨_, rfl⟩
  have hc : N = 2 ∨ N = 4 ∨ N = 8 ∨ N = 16 := by omega
  have h16 : n ≤ 16 := by omega
  have HK : Hid (∀ k, k < n → WinS n k) := fun k hk => winS hn hk
  obtain ⟨M, hM⟩ : ∃ M : Int, M = ((n / 2 : Nat) : Int) := ⟨_, rfl⟩
  have hc2 : (N = 2 ∧ M = 1) ∨ (N = 4 ∧ M = 2) ∨ (N = 8 ∧ M = 4) ∨ (N = 16 ∧ M = 8) := by omega
  rw [← hN]
  clear hn hc
  rcases hc2 with ⟨rfl, rfl⟩ | ⟨rfl, rfl⟩ | ⟨rfl, rfl⟩ | ⟨rfl, rfl⟩
  all_goals
    have HNn := Lib.hid hN
    have HM2 := Lib.hid hM
    clear hN hM
    go_enter Tryz.func118, Tryz.ntmps118
    go_wp2_with fail
    refine (l1In_any _ _ _ _).mono ?_
    rintro e w' ⟨rfl, rfl⟩
    rw [show inB 1 0 2 = true from rfl]
    go_wp2_with fail
    go_loopw [5, 6] (fun v i wr => ∃ k : Nat, k ≤ n ∧ i = .int .i64 k ∧ Ow wr w.heap.size 131 v k (((List.range k).map (winW 1 n)).map gv) ∧ Below w.heap.size w wr) (fun _ i _ => n - (intOf i).toNat)
    case atStart => first | exact ⟨0, by omega, rfl, HE.out, HB0.out⟩ | ((repeat apply Exists.intro); exact ⟨by omega, rfl, HE.out, HB0.out⟩)
    case round =>
      obtain ⟨k, hk, rfl, ho, hb⟩ := hrel
      have HO := Lib.hid ho
      have HB := Lib.hid hb
      have hsz := hb.size
      clear ho hb
      by_cases hlt : k < n
      · have hlN := Int.lt_of_lt_of_le (Int.ofNat_lt.2 hlt) (Int.le_of_eq HNn.out.symm)
        have HN := Lib.hid (win_snoc (winW 1 n) k)
        have e2 : IntKind.i64.wrap (2 * (k : Int)) = 2 * (k : Int) := IntWalk.i64_in _ (by omega)
        obtain ⟨x, hx⟩ : ∃ x, x = triD n k := ⟨_, rfl⟩
        have qd := (HK.out k hlt).d
        rw [← HNn.out, ← hx] at qd
        have q1 := fun w => run_float_arith (P := Tryz.prog) w .quo 131 .f32 _ _ _ qd
        clear qd
        by_cases hh : n / 2 ≤ k
        · have hge := Int.le_trans (Int.le_of_eq HM2.out) (Int.ofNat_le.2 hh)
          have hw : winW 1 n k = triE n k := by
            unfold winW; rw [if_neg (by decide), if_pos rfl, if_pos hh]
          have qe := (HK.out k hlt).e
          rw [← hx] at qe
          have q2 := fun w => run_float_arith (P := Tryz.prog) w .sub 131 .f32 _ _ _ qe
          rw [hw] at HN
          clear hw qe hx hh
          generalize triE n k = u at *
          go_wp2_with (at_builtin; refine wl_appB w.heap.size [.float .f32 u] hsz rfl (.tmp 61) (.tmp 63) 134 rfl Tryz.eG _ k _ rfl HO.out rfl (by simp [Value.oneCell']) (by simp [maxLen]; omega) (by simp; omega) ?_; intro v' w4 ho4 hb4)
          have HO4 : Hid (Ow w4 w.heap.size 131 v' (k + 1) (((List.range (k + 1)).map (winW 1 n)).map gv)) := by
            show Ow _ _ _ _ _ _
            rw [← HN.out]; exact ho4
          have HB4 : Hid (Below w.heap.size w w4) := HB.out.trans hb4
          clear ho4 hb4
          go_roundw
          case rel => first | exact ⟨k + 1, by omega, by go_num, HO4.out, HB4.out⟩ | ((repeat apply Exists.intro); exact ⟨⟨k + 1, by omega, by go_num, HO4.out, HB4.out⟩, rfl⟩)
          case measure => simp [intOf]; omega
        · have hge := Int.not_le.2 (Int.lt_of_lt_of_le (Int.ofNat_lt.2 (Nat.lt_of_not_le hh)) (Int.le_of_eq HM2.out.symm))
          have hw : winW 1 n k = x := by
            unfold winW; rw [if_neg (by decide), if_pos rfl, if_neg hh, hx]
          rw [hw] at HN
          clear hw hx hh
          go_wp2_with (at_builtin; refine wl_appB w.heap.size [.float .f32 x] hsz rfl (.tmp 61) (.tmp 63) 134 rfl Tryz.eG _ k _ rfl HO.out rfl (by simp [Value.oneCell']) (by simp [maxLen]; omega) (by simp; omega) ?_; intro v' w4 ho4 hb4)
          have HO4 : Hid (Ow w4 w.heap.size 131 v' (k + 1) (((List.range (k + 1)).map (winW 1 n)).map gv)) := by
            show Ow _ _ _ _ _ _
            rw [← HN.out]; exact ho4
          have HB4 : Hid (Below w.heap.size w w4) := HB.out.trans hb4
          clear ho4 hb4
          go_roundw
          case rel => first | exact ⟨k + 1, by omega, by go_num, HO4.out, HB4.out⟩ | ((repeat apply Exists.intro); exact ⟨⟨k + 1, by omega, by go_num, HO4.out, HB4.out⟩, rfl⟩)
          case measure => simp [intOf]; omega
      · obtain rfl : k = n := by omega
        have hlN := Int.not_lt.2 (Int.le_of_eq HNn.out)
        obtain ⟨A2, c2, rfl⟩ := HO.out.shape
        have HR : Hid (RetWn w ((List.range k).map (winW 1 k)) (.returned (.slice A2 k c2)) wr) := by
          have e : ((List.range k).map (winW 1 k)).length = k := by rw [List.length_map, List.length_range]
          exact ⟨_, _, by rw [e], by rw [e]; exact HO.out, HB.out⟩
        go_wp2_with fail
        go_ret
        exact HR.out
set_option maxHeartbeats 8000000 in
set_option maxRecDepth 100000 in
theorem sWindow2 (n : Nat) (w : World) (hn : n = 2 ∨ n = 4 ∨ n = 8 ∨ n = 16) : Calls Tryz.prog 118 #[.int .i64 2, .int .i64 n] w (RetWn w ((List.range n).map (winW 2 n))) := by
  have HE : Hid (Ow (w.alloc (.cells #[] 131)) w.heap.size 131 (.slice (some ⟨w.heap.size, 0, none⟩) 0 0) 0 (((List.range 0).map (winW 2 n)).map gv)) := Lib.hid (Ow.empty w 131)
  have HB0 := Lib.hid (below_alloc w (.cells #[] 131))
  obtain ⟨N, hN⟩ : ∃ N : Int, N = (n : Int) := ⟨_, rfl⟩
  have hc : N = 2 ∨ N = 4 ∨ N = 8 ∨ N = 16 := by omega
  have h16 : n ≤ 16 := by omega
  have HK : Hid (∀ k, k < n → WinS n k) := fun k hk => winS hn hk
  obtain ⟨M, hM⟩ : ∃ M : Int, M = 16 / (n : Int) := ⟨_, rfl⟩
  have hc2 : (N = 2 ∧ M = 8) ∨ (N = 4 ∧ M = 4) ∨ (N = 8 ∧ M = 2) ∨ (N = 16 ∧ M = 1) := by rcases hn with rfl | rfl | rfl | rfl <;> simp at hN hM <;> omega
  rw [← hN]
  clear hn hc
  have HTN : Hid (∀ (k : Nat) w1, Calls Tryz.prog 130 #[.int .i64 (M * (k : Int))] w1 (RetQ w1 (turnC (16 / (n : Int) * (k : Int))))) := fun k w1 => by rw [hM]; exact sTurn _ w1
  have HWR : Hid (∀ k : Nat, k < n → IntKind.i64.wrap (M * (k : Int)) = M * (k : Int)) := fun k hk => IntWalk.i64_in _ (by rcases hc2 with ⟨_, rfl⟩ | ⟨_, rfl⟩ | ⟨_, rfl⟩ | ⟨_, rfl⟩ <;> omega)
  rcases hc2 with ⟨rfl, rfl⟩ | ⟨rfl, rfl⟩ | ⟨rfl, rfl⟩ | ⟨rfl, rfl⟩
  all_goals
    have HNn := Lib.hid hN
    clear hN hM
    go_enter Tryz.func118, Tryz.ntmps118
    go_wp2_with fail
    refine (l1In_any _ _ _ _).mono ?_
    rintro e w' ⟨rfl, rfl⟩
    rw [show inB 2 0 2 = true from rfl]
    go_wp2_with fail
    go_loopw [5, 6] (fun v i wr => ∃ k : Nat, k ≤ n ∧ i = .int .i64 k ∧ Ow wr w.heap.size 131 v k (((List.range k).map (winW 2 n)).map gv) ∧ Below w.heap.size w wr) (fun _ i _ => n - (intOf i).toNat)
    case atStart => first | exact ⟨0, by omega, rfl, HE.out, HB0.out⟩ | ((repeat apply Exists.intro); exact ⟨by omega, rfl, HE.out, HB0.out⟩)
    case round =>
      obtain ⟨k, hk, rfl, ho, hb⟩ := hrel
      have HO := Lib.hid ho
      have HB := Lib.hid hb
      have hsz := hb.size
      clear ho hb
      by_cases hlt : k < n
      · have hlN := Int.lt_of_lt_of_le (Int.ofNat_lt.2 hlt) (Int.le_of_eq HNn.out.symm)
        have HN := Lib.hid (win_snoc (winW 2 n) k)
        have hT := HTN.out k
        have e2 := HWR.out k hlt
        try simp only [Int.one_mul] at hT e2
        have HS := Lib.hid (HK.out k hlt)
        obtain ⟨t, ht⟩ : ∃ t, t = turnC (16 / (n : Int) * (k : Int)) := ⟨_, rfl⟩
        have qh := HS.out.h
        rw [← ht] at hT qh
        have HT := Lib.hid hT
        clear hT
        have q1 := fun w => run_float_arith (P := Tryz.prog) w .mul 131 .f32 _ _ _ qh
        have q2 := fun w => run_float_arith (P := Tryz.prog) w .sub 131 .f32 _ _ _ HS.out.w
        have hw : winW 2 n k = smoW n k := by unfold winW; rw [if_neg (by decide), if_neg (by decide)]
        rw [hw] at HN
        clear hw qh ht
        generalize smoW n k = u at *
        generalize smoH n k = v0 at *
        have hkN := h16
        go_wp2_with fail
        refine (HT.out _).mono ?_
        rintro e w3 ⟨rfl, hw3⟩
        have HB3 : Hid (Below w.heap.size w w3) := HB.out.trans (hw3.mono HB.out.size)
        have HO3 := Lib.hid (HO.out.below hw3)
        have hsz3 := HB3.out.size
        clear hw3
        unfold cv
        go_wp2_with (at_builtin; refine wl_appB w.heap.size [.float .f32 u] hsz3 rfl (.tmp 61) (.tmp 63) 134 rfl Tryz.eG _ k _ rfl HO3.out rfl (by simp [Value.oneCell']) (by simp [maxLen]; omega) (by simp; omega) ?_; intro v' w4 ho4 hb4)
        have HO4 : Hid (Ow w4 w.heap.size 131 v' (k + 1) (((List.range (k + 1)).map (winW 2 n)).map gv)) := by
          show Ow _ _ _ _ _ _
          rw [← HN.out]; exact ho4
        have HB4 : Hid (Below w.heap.size w w4) := HB3.out.trans hb4
        clear ho4 hb4
        go_roundw
        case rel => first | exact ⟨k + 1, by omega, by go_num, HO4.out, HB4.out⟩ | ((repeat apply Exists.intro); exact ⟨⟨k + 1, by omega, by go_num, HO4.out, HB4.out⟩, rfl⟩)
        case measure => simp [intOf]; omega
      · obtain rfl : k = n := by omega
        have hlN := Int.not_lt.2 (Int.le_of_eq HNn.out)
        obtain ⟨A2, c2, rfl⟩ := HO.out.shape
        have HR : Hid (RetWn w ((List.range k).map (winW 2 k)) (.returned (.slice A2 k c2)) wr) := by
          have e : ((List.range k).map (winW 2 k)).length = k := by rw [List.length_map, List.length_range]
          exact ⟨_, _, by rw [e], by rw [e]; exact HO.out, HB.out⟩
        go_wp2_with fail
        go_ret
        exact HR.out
theorem sWindow (kind : Int) (n : Nat) (w : World) (hn : n ≤ 1048576) : Calls Tryz.prog 118 #[.int .i64 kind, .int .i64 n] w (RetWn w (winL kind n)) := by
  cases h : winOk kind n
  · rw [winL_no h]; exact sWindow_no kind n w hn h
  · rw [winL_yes h]
    obtain ⟨h1, h2, h3⟩ := winOk_iff.1 h
    have : kind = 0 ∨ kind = 1 ∨ kind = 2 := by omega
    rcases this with rfl | rfl | rfl
    · exact sWindow0 n w h1
    · exact sWindow1 n w h1
    · exact sWindow2 n w h1
end Go.Proofs.YtnomlkkhkacajaaGreatDoor
namespace Go.Proofs.YtnomlkkhkacajaaGreatDoor
open Go.RowKit

theorem pieceSize_any (n : Nat) (w : World) : Calls Tryz.prog 160 #[.int .i64 n] w fun e w' => e = .returned (.bool (winN n)) ∧ w' = w := by
  have HP := Lib.hid (fun w => pow_any n w)
  by_cases h1 : n = 1
  · subst h1
    go_enter Tryz.func160, Tryz.ntmps160
    go_wp2_with fail
    go_ret
    exact ⟨rfl, rfl⟩
  · have c1 : ((n : Int) == 1) = false := by rw [beq_eq_false_iff_ne]; omega
    have c2 : ¬ (n : Int) = 1 := by omega
    have HE : Hid (p2B n = winN n) := by
      show _ = _
      have e : (n == 1) = false := by rw [beq_eq_false_iff_ne]; exact h1
      unfold p2B winN
      rw [e, Bool.false_or]
    rw [HE.out] at HP
    clear h1 HE
    go_enter Tryz.func160, Tryz.ntmps160
    go_wp2_with fail
    refine (HP.out _).mono ?_
    rintro e w2 ⟨rfl, hw2⟩
    obtain rfl := hw2.symm
    go_wp2_with fail
    go_ret
    refine ⟨?_, rfl⟩
    show Ending.returned (.bool ((n : Int) != 1 && winN n)) = _
    rw [show ((n : Int) != 1) = true by unfold bne; rw [c1]; rfl]; rfl
/-- The words of a window, or nil. -/
def RetWi (w : World) (kind : Int) (n : Nat) (e : Ending) (w' : World) : Prop :=
  (winOk kind n = false ∧ e = .returned (.slice none 0 0) ∧ Below w.heap.size w w') ∨
  (winOk kind n = true ∧ ∃ g, e = .returned (.slice (some ⟨g, 0, none⟩) n n) ∧ Ow w' w.heap.size 131 (.slice (some ⟨g, 0, none⟩) n n) n (((List.range n).map (winW kind n)).map gv) ∧ Below w.heap.size w w')
theorem iWindow_no (kind : Int) (n : Nat) (w : World) (h : winOk kind n = false) : Calls Tryz.prog 140 #[.int .i64 kind, .int .i64 n] w (RetWi w kind n) := by
  have HN := Lib.hid h
  have HP := Lib.hid (fun w => pieceSize_any n w)
  cases hw : winN n
  · rw [hw] at HP
    clear h hw
    go_enter Tryz.func140, Tryz.ntmps140
    go_wp2_with fail
    refine (HP.out _).mono ?_
    rintro e w2 ⟨rfl, hw2⟩
    obtain rfl := hw2.symm
    go_wp2_with fail
    go_ret
    exact .inl ⟨HN.out, rfl, Below.refl _ _⟩
  · rw [hw] at HP
    have hk : kind < 0 ∨ (¬ kind < 0 ∧ kind > 2) := by
      unfold winOk at h; rw [hw] at h
      simp only [Bool.true_and, Bool.and_eq_false_iff, decide_eq_false_iff_not] at h
      omega
    clear h hw
    rcases hk with hk | ⟨hk, hk2⟩
    all_goals
      go_enter Tryz.func140, Tryz.ntmps140
      go_wp2_with fail
      refine (HP.out _).mono ?_
      rintro e w2 ⟨rfl, hw2⟩
      obtain rfl := hw2.symm
      go_wp2_with fail
      go_ret
      exact .inl ⟨HN.out, rfl, Below.refl _ _⟩
theorem wif_snoc (f : Nat → Nat) {n k : Nat} (hk : k < n) : ((((List.range k).map f).map gv ++ List.replicate (n - k) (Value.float .f32 0))).set k (gv (f k)) = ((List.range (k + 1)).map f).map gv ++ List.replicate (n - (k + 1)) (Value.float .f32 0) := by
  rw [fil_set _ (by rw [List.length_map, List.length_map, List.length_range]) hk, win_snoc]
theorem wif_get (f : Nat → Nat) {n k : Nat} (hk : k < n) : ((((List.range k).map f).map gv ++ List.replicate (n - k) (Value.float .f32 0)))[k]? = some (.float .f32 0) :=
  fil_get _ (by rw [List.length_map, List.length_map, List.length_range]) hk _

set_option maxHeartbeats 8000000 in
set_option maxRecDepth 100000 in
theorem iWindow0 (n : Nat) (w : World) (hn : n = 2 ∨ n = 4 ∨ n = 8 ∨ n = 16) : Calls Tryz.prog 140 #[.int .i64 0, .int .i64 n] w (RetWi w 0 n) := by
  obtain ⟨N, hN⟩ : ∃ N : Int, N = (n : Int) := ⟨_, rfl⟩
  have h16 : n ≤ 16 := by omega
  have HOK : Hid (winOk 0 n = true) := winOk_iff.2 ⟨hn, by omega, by omega⟩
  have HP : Hid (∀ w, Calls Tryz.prog 160 #[.int .i64 n] w fun e w' => e = .returned (.bool true) ∧ w' = w) := fun w => by rw [← winN_iff.2 hn]; exact pieceSize_any n w
  have HK : Hid (∀ k, k < n → WinS n k) := fun k hk => winS hn hk
  have hc : N = 2 ∨ N = 4 ∨ N = 8 ∨ N = 16 := by omega
  rw [← hN] at HP ⊢
  clear hn
  rcases hc with rfl | rfl | rfl | rfl
  all_goals
    have HNn := Lib.hid hN
    clear hN
    go_enter Tryz.func140, Tryz.ntmps140
    go_wp2_with fail
    refine (HP.out _).mono ?_
    rintro e w2 ⟨rfl, hw2⟩
    obtain rfl := hw2.symm
    go_wp2_with (at_make; refine wl_make (w0 := w) rfl (.tmp 19) (.tmp 19) 134 rfl Tryz.eG .i64 .i64 n _ _ rfl rfl HNn.out HNn.out (by omega) (by unfold maxLen; omega) (Below.refl _ _) ?_; intro w1 hown hb1 _)
    have HO1 : Hid (Ow w1 w.heap.size 131 (.slice (some ⟨w.heap.size, 0, none⟩) n n) n (((List.range 0).map (winW 0 n)).map gv ++ List.replicate (n - 0) (.float .f32 0))) := hown
    have HB1 := Lib.hid hb1
    clear hown hb1
    go_loopw [23] (fun i wr => ∃ k : Nat, k ≤ n ∧ i = .int .i64 k ∧ Ow wr w.heap.size 131 (.slice (some ⟨w.heap.size, 0, none⟩) n n) n (((List.range k).map (winW 0 n)).map gv ++ List.replicate (n - k) (.float .f32 0)) ∧ Below w.heap.size w wr) (fun i _ => n - (intOf i).toNat)
    case atStart => first | exact ⟨0, by omega, rfl, HO1.out, HB1.out⟩ | ((repeat apply Exists.intro); exact ⟨by omega, rfl, HO1.out, HB1.out⟩)
    case round =>
      obtain ⟨k, hk, rfl, ho, hb⟩ := hrel
      have HO := Lib.hid ho
      have HB := Lib.hid hb
      clear ho hb
      by_cases hlt : k < n
      · obtain ⟨g, hg, hge, hgl, hcell, hfr, hst⟩ := Ow.at_ HO.out hlt
        injection hg with hg
        injection hg with hg
        subst hg
        have hck2 : wr.cell? ⟨w.heap.size, k, none⟩ = some (.float .f32 0) := (hcell k hlt).trans (wif_get _ hlt)
        have hfr2 := hfr k
        have hw : winW 0 n k = 1056964608 := rfl
        have hst2 := hst k (gv (winW 0 n k))
        rw [wif_snoc _ hlt] at hst2
        rw [hw] at hst2
        have HS := Lib.hid hst2
        have HBX : Hid (Below w.heap.size w (wr.setCell ⟨w.heap.size, k, none⟩ (.float .f32 1056964608))) := HB.out.setCell (Nat.le_refl _) _
        unfold gv at HS
        clear hst2 hcell hfr hst hw
        go_wp2_with fail
        go_roundw
        case rel => first | exact ⟨k + 1, by omega, by go_num, HS.out, HBX.out⟩ | ((repeat apply Exists.intro); exact ⟨⟨k + 1, by omega, by go_num, HS.out, HBX.out⟩, rfl⟩)
        case measure => simp [intOf]; omega
      · obtain rfl : k = n := by omega
        have HR : Hid (RetWi w 0 k (.returned (.slice (some ⟨w.heap.size, 0, none⟩) k k)) wr) := by
          have h1 := HO.out
          rw [Nat.sub_self, List.replicate_zero, List.append_nil] at h1
          exact .inr ⟨HOK.out, _, rfl, h1, HB.out⟩
        go_wp2_with fail
        go_ret
        exact HR.out
set_option maxHeartbeats 8000000 in
set_option maxRecDepth 100000 in
theorem iWindow1 (n : Nat) (w : World) (hn : n = 2 ∨ n = 4 ∨ n = 8 ∨ n = 16) : Calls Tryz.prog 140 #[.int .i64 1, .int .i64 n] w (RetWi w 1 n) := by
  obtain ⟨N, hN⟩ : ∃ N : Int, N = (n : Int) := ⟨_, rfl⟩
  have h16 : n ≤ 16 := by omega
  have HOK : Hid (winOk 1 n = true) := winOk_iff.2 ⟨hn, by omega, by omega⟩
  have HP : Hid (∀ w, Calls Tryz.prog 160 #[.int .i64 n] w fun e w' => e = .returned (.bool true) ∧ w' = w) := fun w => by rw [← winN_iff.2 hn]; exact pieceSize_any n w
  have HK : Hid (∀ k, k < n → WinS n k) := fun k hk => winS hn hk
  obtain ⟨M, hM⟩ : ∃ M : Int, M = ((n / 2 : Nat) : Int) := ⟨_, rfl⟩
  have hc2 : (N = 2 ∧ M = 1) ∨ (N = 4 ∧ M = 2) ∨ (N = 8 ∧ M = 4) ∨ (N = 16 ∧ M = 8) := by omega
  rw [← hN] at HP ⊢
  clear hn
  rcases hc2 with ⟨rfl, rfl⟩ | ⟨rfl, rfl⟩ | ⟨rfl, rfl⟩ | ⟨rfl, rfl⟩
  all_goals
    have HM2 := Lib.hid hM
    clear hM
    have HNn := Lib.hid hN
    clear hN
    go_enter Tryz.func140, Tryz.ntmps140
    go_wp2_with fail
    refine (HP.out _).mono ?_
    rintro e w2 ⟨rfl, hw2⟩
    obtain rfl := hw2.symm
    go_wp2_with (at_make; refine wl_make (w0 := w) rfl (.tmp 19) (.tmp 19) 134 rfl Tryz.eG .i64 .i64 n _ _ rfl rfl HNn.out HNn.out (by omega) (by unfold maxLen; omega) (Below.refl _ _) ?_; intro w1 hown hb1 _)
    have HO1 : Hid (Ow w1 w.heap.size 131 (.slice (some ⟨w.heap.size, 0, none⟩) n n) n (((List.range 0).map (winW 1 n)).map gv ++ List.replicate (n - 0) (.float .f32 0))) := hown
    have HB1 := Lib.hid hb1
    clear hown hb1
    go_loopw [23] (fun i wr => ∃ k : Nat, k ≤ n ∧ i = .int .i64 k ∧ Ow wr w.heap.size 131 (.slice (some ⟨w.heap.size, 0, none⟩) n n) n (((List.range k).map (winW 1 n)).map gv ++ List.replicate (n - k) (.float .f32 0)) ∧ Below w.heap.size w wr) (fun i _ => n - (intOf i).toNat)
    case atStart => first | exact ⟨0, by omega, rfl, HO1.out, HB1.out⟩ | ((repeat apply Exists.intro); exact ⟨by omega, rfl, HO1.out, HB1.out⟩)
    case round =>
      obtain ⟨k, hk, rfl, ho, hb⟩ := hrel
      have HO := Lib.hid ho
      have HB := Lib.hid hb
      clear ho hb
      by_cases hlt : k < n
      · obtain ⟨g, hg, hge, hgl, hcell, hfr, hst⟩ := Ow.at_ HO.out hlt
        injection hg with hg
        injection hg with hg
        subst hg
        have hck2 : wr.cell? ⟨w.heap.size, k, none⟩ = some (.float .f32 0) := (hcell k hlt).trans (wif_get _ hlt)
        have hfr2 := hfr k
        have e2 : IntKind.i64.wrap (2 * (k : Int)) = 2 * (k : Int) := IntWalk.i64_in _ (by omega)
        obtain ⟨x, hx⟩ : ∃ x, x = triD n k := ⟨_, rfl⟩
        have qd := (HK.out k hlt).d
        rw [← HNn.out, ← hx] at qd
        have q1 := fun w => run_float_arith (P := Tryz.prog) w .quo 131 .f32 _ _ _ qd
        clear qd
        by_cases hh : n / 2 ≤ k
        · have hge := Int.le_trans (Int.le_of_eq HM2.out) (Int.ofNat_le.2 hh)
          have hw : winW 1 n k = triE n k := by unfold winW; rw [if_neg (by decide), if_pos rfl, if_pos hh]
          have qe := (HK.out k hlt).e
          rw [← hx] at qe
          have q2 := fun w => run_float_arith (P := Tryz.prog) w .sub 131 .f32 _ _ _ qe
          obtain ⟨u, hu⟩ : ∃ u, u = triE n k := ⟨_, rfl⟩
          rw [← hu] at hw q2
          obtain ⟨g2, hg2, _, _, hcell2, hfr3, hst3⟩ := Ow.at_ (hst k (.float .f32 x)) hlt
          injection hg2 with hg2
          injection hg2 with hg2
          subst hg2
          have hst4 := hst3 k (gv (winW 1 n k))
          rw [List.set_set, wif_snoc _ hlt, hw] at hst4
          have HS := Lib.hid hst4
          have HBX : Hid (Below w.heap.size w ((wr.setCell ⟨w.heap.size, k, none⟩ (.float .f32 x)).setCell ⟨w.heap.size, k, none⟩ (.float .f32 u))) := (HB.out.setCell (Nat.le_refl _) _).setCell (Nat.le_refl _) _
          unfold gv at HS
          clear hst4 hcell hfr hst hw hcell2 hfr3 hst3 qe hx hh hu
          go_wp2_with fail
          go_roundw
          case rel => first | exact ⟨k + 1, by omega, by go_num, HS.out, HBX.out⟩ | ((repeat apply Exists.intro); exact ⟨⟨k + 1, by omega, by go_num, HS.out, HBX.out⟩, rfl⟩)
          case measure => simp [intOf]; omega
        · have hge := Int.not_le.2 (Int.lt_of_lt_of_le (Int.ofNat_lt.2 (Nat.lt_of_not_le hh)) (Int.le_of_eq HM2.out.symm))
          have hw : winW 1 n k = x := by unfold winW; rw [if_neg (by decide), if_pos rfl, if_neg hh, hx]
          have hst2 := hst k (gv (winW 1 n k))
          rw [wif_snoc _ hlt] at hst2
          rw [hw] at hst2
          have HS := Lib.hid hst2
          have HBX : Hid (Below w.heap.size w (wr.setCell ⟨w.heap.size, k, none⟩ (.float .f32 x))) := HB.out.setCell (Nat.le_refl _) _
          unfold gv at HS
          clear hst2 hcell hfr hst hw hx hh
          go_wp2_with fail
          go_roundw
          case rel => first | exact ⟨k + 1, by omega, by go_num, HS.out, HBX.out⟩ | ((repeat apply Exists.intro); exact ⟨⟨k + 1, by omega, by go_num, HS.out, HBX.out⟩, rfl⟩)
          case measure => simp [intOf]; omega
      · obtain rfl : k = n := by omega
        have HR : Hid (RetWi w 1 k (.returned (.slice (some ⟨w.heap.size, 0, none⟩) k k)) wr) := by
          have h1 := HO.out
          rw [Nat.sub_self, List.replicate_zero, List.append_nil] at h1
          exact .inr ⟨HOK.out, _, rfl, h1, HB.out⟩
        go_wp2_with fail
        go_ret
        exact HR.out
set_option maxHeartbeats 8000000 in
set_option maxRecDepth 100000 in
theorem iWindow2 (n : Nat) (w : World) (hn : n = 2 ∨ n = 4 ∨ n = 8 ∨ n = 16) : Calls Tryz.prog 140 #[.int .i64 2, .int .i64 n] w (RetWi w 2 n) := by
  obtain ⟨N, hN⟩ : ∃ N : Int, N = (n : Int) := ⟨_, rfl⟩
  have h16 : n ≤ 16 := by omega
  have HOK : Hid (winOk 2 n = true) := winOk_iff.2 ⟨hn, by omega, by omega⟩
  have HP : Hid (∀ w, Calls Tryz.prog 160 #[.int .i64 n] w fun e w' => e = .returned (.bool true) ∧ w' = w) := fun w => by rw [← winN_iff.2 hn]; exact pieceSize_any n w
  have HK : Hid (∀ k, k < n → WinS n k) := fun k hk => winS hn hk
  obtain ⟨M, hM⟩ : ∃ M : Int, M = 16 / (n : Int) := ⟨_, rfl⟩
  have hc2 : (N = 2 ∧ M = 8) ∨ (N = 4 ∧ M = 4) ∨ (N = 8 ∧ M = 2) ∨ (N = 16 ∧ M = 1) := by rcases hn with rfl | rfl | rfl | rfl <;> simp at hN hM <;> omega
  have HTN : Hid (∀ (k : Nat) w1, Calls Tryz.prog 148 #[.int .i64 (M * (k : Int))] w1 (RetQ w1 (turnC (16 / (n : Int) * (k : Int))))) := fun k w1 => by rw [hM]; exact iTurn _ w1
  have HWR : Hid (∀ k : Nat, k < n → IntKind.i64.wrap (M * (k : Int)) = M * (k : Int)) := fun k hk => IntWalk.i64_in _ (by rcases hc2 with ⟨_, rfl⟩ | ⟨_, rfl⟩ | ⟨_, rfl⟩ | ⟨_, rfl⟩ <;> omega)
  rw [← hN] at HP ⊢
  clear hn
  rcases hc2 with ⟨rfl, rfl⟩ | ⟨rfl, rfl⟩ | ⟨rfl, rfl⟩ | ⟨rfl, rfl⟩
  all_goals
    clear hM
    have HNn := Lib.hid hN
    clear hN
    go_enter Tryz.func140, Tryz.ntmps140
    go_wp2_with fail
    refine (HP.out _).mono ?_
    rintro e w2 ⟨rfl, hw2⟩
    obtain rfl := hw2.symm
    go_wp2_with (at_make; refine wl_make (w0 := w) rfl (.tmp 19) (.tmp 19) 134 rfl Tryz.eG .i64 .i64 n _ _ rfl rfl HNn.out HNn.out (by omega) (by unfold maxLen; omega) (Below.refl _ _) ?_; intro w1 hown hb1 _)
    have HO1 : Hid (Ow w1 w.heap.size 131 (.slice (some ⟨w.heap.size, 0, none⟩) n n) n (((List.range 0).map (winW 2 n)).map gv ++ List.replicate (n - 0) (.float .f32 0))) := hown
    have HB1 := Lib.hid hb1
    clear hown hb1
    go_loopw [23] (fun i wr => ∃ k : Nat, k ≤ n ∧ i = .int .i64 k ∧ Ow wr w.heap.size 131 (.slice (some ⟨w.heap.size, 0, none⟩) n n) n (((List.range k).map (winW 2 n)).map gv ++ List.replicate (n - k) (.float .f32 0)) ∧ Below w.heap.size w wr) (fun i _ => n - (intOf i).toNat)
    case atStart => first | exact ⟨0, by omega, rfl, HO1.out, HB1.out⟩ | ((repeat apply Exists.intro); exact ⟨by omega, rfl, HO1.out, HB1.out⟩)
    case round =>
      obtain ⟨k, hk, rfl, ho, hb⟩ := hrel
      have HO := Lib.hid ho
      have HB := Lib.hid hb
      clear ho hb
      by_cases hlt : k < n
      · obtain ⟨g, hg, hge, hgl, hcell, hfr, hst⟩ := Ow.at_ HO.out hlt
        injection hg with hg
        injection hg with hg
        subst hg
        have hck2 : wr.cell? ⟨w.heap.size, k, none⟩ = some (.float .f32 0) := (hcell k hlt).trans (wif_get _ hlt)
        have hfr2 := hfr k
        have hT := HTN.out k
        have e2 := HWR.out k hlt
        try simp only [Int.one_mul] at hT e2
        have HSS := Lib.hid (HK.out k hlt)
        obtain ⟨t, ht⟩ : ∃ t, t = turnC (16 / (n : Int) * (k : Int)) := ⟨_, rfl⟩
        have qh := HSS.out.q
        rw [← ht] at hT qh
        have HT := Lib.hid hT
        clear hT
        have q1 := fun w => run_float_arith (P := Tryz.prog) w .quo 131 .f32 _ _ _ qh
        have q2 := fun w => run_float_arith (P := Tryz.prog) w .sub 131 .f32 _ _ _ HSS.out.w
        have hw : winW 2 n k = smoW n k := by unfold winW; rw [if_neg (by decide), if_neg (by decide)]
        obtain ⟨u, hu⟩ : ∃ u, u = smoW n k := ⟨_, rfl⟩
        obtain ⟨v0, hv0⟩ : ∃ v0, v0 = smoH n k := ⟨_, rfl⟩
        rw [← hu] at hw q2
        rw [← hv0] at q1 q2
        clear hst hcell hfr hfr2 hck2 qh ht hu hv0
        go_wp2_with fail
        refine (HT.out _).mono ?_
        rintro e w3 ⟨rfl, hw3⟩
        have HB3 : Hid (Below w.heap.size w w3) := HB.out.trans (hw3.mono HB.out.size)
        have HO3 := Lib.hid (HO.out.below hw3)
        clear hw3
        obtain ⟨g, hg, _, _, hcell, hfr, hst⟩ := Ow.at_ HO3.out hlt
        injection hg with hg
        injection hg with hg
        subst hg
        have hck2 : w3.cell? ⟨w.heap.size, k, none⟩ = some (.float .f32 0) := (hcell k hlt).trans (wif_get _ hlt)
        have hfr2 := hfr k
        have hst2 := hst k (gv (winW 2 n k))
        rw [wif_snoc _ hlt] at hst2
        rw [hw] at hst2
        have HS := Lib.hid hst2
        have HBX : Hid (Below w.heap.size w (w3.setCell ⟨w.heap.size, k, none⟩ (.float .f32 u))) := HB3.out.setCell (Nat.le_refl _) _
        unfold gv at HS
        clear hst2 hcell hfr hst hw
        unfold cv
        go_wp2_with fail
        go_roundw
        case rel => first | exact ⟨k + 1, by omega, by go_num, HS.out, HBX.out⟩ | ((repeat apply Exists.intro); exact ⟨⟨k + 1, by omega, by go_num, HS.out, HBX.out⟩, rfl⟩)
        case measure => simp [intOf]; omega
      · obtain rfl : k = n := by omega
        have HR : Hid (RetWi w 2 k (.returned (.slice (some ⟨w.heap.size, 0, none⟩) k k)) wr) := by
          have h1 := HO.out
          rw [Nat.sub_self, List.replicate_zero, List.append_nil] at h1
          exact .inr ⟨HOK.out, _, rfl, h1, HB.out⟩
        go_wp2_with fail
        go_ret
        exact HR.out
theorem iWindow (kind : Int) (n : Nat) (w : World) : Calls Tryz.prog 140 #[.int .i64 kind, .int .i64 n] w (RetWi w kind n) := by
  cases h : winOk kind n
  · exact iWindow_no kind n w h
  · obtain ⟨h1, h2, h3⟩ := winOk_iff.1 h
    have : kind = 0 ∨ kind = 1 ∨ kind = 2 := by omega
    rcases this with rfl | rfl | rfl
    · exact iWindow0 n w h1
    · exact iWindow1 n w h1
    · exact iWindow2 n w h1
end Go.Proofs.YtnomlkkhkacajaaGreatDoor
namespace Go.Proofs.YtnomlkkhkacajaaGreatDoor
open Go.RowKit

theorem sLess (z : C) (u : Nat) (hz : finB z = true) (hu : Fin Ieee.single u) (w : World) :
    Calls Tryz.prog 119 #[.complex .f32 z.1 z.2, .float .f32 u] w fun e w' => e = .returned (.complex .f32 (lessC z u).1 (lessC z u).2) ∧ w' = w := by
  obtain ⟨f1, f2⟩ := finB_iff.1 hz
  have q1 := fun w => run_float_arith (P := Tryz.prog) w .mul 131 .f32 _ _ _ (mulS_spec f1 hu).1
  have q2 := fun w => run_float_arith (P := Tryz.prog) w .mul 131 .f32 _ _ _ (mulS_spec f2 hu).1
  unfold lessC
  generalize mulS z.1 u = a at *
  generalize mulS z.2 u = b at *
  clear f1 f2 hz hu
  go_enter Tryz.func119, Tryz.ntmps119
  go_wp2_with fail
  go_ret
  exact ⟨rfl, rfl⟩

set_option maxHeartbeats 4000000 in
set_option maxRecDepth 100000 in
theorem sWindowed (A : Option Addr) (n c : Nat) (xs : List C) (kind : Int) (w : World) (hn : n ≤ 1048576) (hx : Cs w A n xs) :
    Calls Tryz.prog 86 #[.slice A n c, .int .i64 kind] w (RetO w (winF xs kind)) := by
  have hl := hx.len
  have HW : Hid (∀ w, Calls Tryz.prog 118 #[.int .i64 kind, .int .i64 n] w (RetWn w (winL kind n))) := fun w => sWindow kind n w hn
  have HC : Hid (∀ w, Cs w A n xs → Calls Tryz.prog 47 #[.slice A n c] w fun e w' => e = .returned (.bool (sigB xs)) ∧ Dr w w') := fun w h => sSignalOk A n c xs w (by omega) h
  by_cases hno : sigB xs = false ∨ winOk kind n = false
  · have HN := Lib.hid (winF_no (kind := kind) (by rw [hl]; exact hno))
    have key : sigB xs = false ∨ (sigB xs = true ∧ winL kind n = []) := by
      cases hs : sigB xs
      · exact .inl rfl
      · rw [hs] at hno; exact .inr ⟨rfl, winL_no (hno.resolve_left (by decide))⟩
    have hL : (winL kind n).length ≤ 16 := by
      cases h : winOk kind n
      · rw [winL_no h]; decide
      · have h2 := winL_len h
        have h3 := (winOk_iff.1 h).1
        omega
    clear hl hno
    rcases key with hs | ⟨hs, hw⟩
    · rw [hs] at HC
      generalize winL kind n = ws at *
      clear hs
      go_enter Tryz.func86, Tryz.ntmps86
      go_wp2_with fail
      refine (HW.out _).mono ?_
      rintro e w1 ⟨A1, c1, rfl, ho1, hb1⟩
      have HB1 := Lib.hid hb1
      have HX1 := Lib.hid (hx.below hb1)
      clear ho1 hb1 hx
      go_wp2_with fail
      refine (HC.out _ HX1.out).mono ?_
      rintro e w' ⟨rfl, m, rfl⟩
      go_wp2_with fail
      go_ret2
      rw [HN.out]
      exact RetC.empty ((Ow.empty (w1.drewN m) 73).mono HB1.out.size) ((below_drewN HB1.out m).alloc (by exact HB1.out.size) _)
    · rw [hs] at HC
      rw [hw] at HW
      clear hs hw hL
      go_enter Tryz.func86, Tryz.ntmps86
      go_wp2_with fail
      refine (HW.out _).mono ?_
      rintro e w1 ⟨A1, c1, rfl, ho1, hb1⟩
      have HB1 := Lib.hid hb1
      have HX1 := Lib.hid (hx.below hb1)
      clear ho1 hb1 hx
      simp only [List.length_nil]
      go_wp2_with fail
      refine (HC.out _ HX1.out).mono ?_
      rintro e w' ⟨rfl, m, rfl⟩
      go_wp2_with fail
      go_ret2
      rw [HN.out]
      exact RetC.empty ((Ow.empty (w1.drewN m) 73).mono HB1.out.size) ((below_drewN HB1.out m).alloc (by exact HB1.out.size) _)
  have hs : sigB xs = true := eq_true_of_ne_false fun h => hno (.inl h)
  have hk : winOk kind n = true := eq_true_of_ne_false fun h => hno (.inr h)
  have h16 : n ≤ 16 := by rw [← hl]; exact sig_len hs
  have hn0 : ((n : Int) == 0) = false := by have := (winOk_iff.1 hk).1; rw [beq_eq_false_iff_ne]; omega
  have HY := Lib.hid (winF_yes hl hs hk)
  rw [hs] at HC
  rw [winL_yes hk] at HW
  have HL0 : Hid (∀ i, i < n → ∀ w, Calls Tryz.prog 119 #[.complex .f32 (nth xs i).1 (nth xs i).2, .float .f32 (winW kind n i)] w fun e w' => e = .returned (.complex .f32 (lessC (nth xs i) (winW kind n i)).1 (lessC (nth xs i) (winW kind n i)).2) ∧ w' = w) := fun i hi w =>
    sLess _ _ (fin_mk hs (by omega)) (winW_part hk hi).1 w
  have HLN : Hid (((List.range n).map (winW kind n)).length = n) := by show _ = _; rw [List.length_map, List.length_range]
  clear hno hs hk hl
  go_enter Tryz.func86, Tryz.ntmps86
  go_wp2_with fail
  refine (HW.out _).mono ?_
  rintro e w1 ⟨A1, c1, rfl, ho1, hb1⟩
  rw [HLN.out] at ho1 ⊢
  have HB1 := Lib.hid hb1
  have HX1 := Lib.hid (hx.below hb1)
  have HG1 := Lib.hid ho1.sl
  clear ho1 hb1 hx
  go_wp2_with fail
  refine (HC.out _ HX1.out).mono ?_
  rintro e w' ⟨rfl, m, rfl⟩
  obtain ⟨w0, hw0⟩ : ∃ w0, w0 = w1.drewN m := ⟨_, rfl⟩
  have HB0 : Hid (Below w.heap.size w w0) := by rw [hw0]; exact below_drewN HB1.out m
  have HX0 : Hid (Cs w0 A n xs) := by rw [hw0]; exact HX1.out.drewN m
  have HG0 : Hid (Sl w0 A1 n (((List.range n).map (winW kind n)).map gv)) := by rw [hw0]; exact HG1.out.drewN m
  rw [← hw0]
  clear hw0
  have HE : Hid (Ow (w0.alloc (.cells #[] 73)) w0.heap.size 73 (.slice (some ⟨w0.heap.size, 0, none⟩) 0 0) 0 ((rngL (fun i => lessC (nth xs i) (winW kind n i)) 0).map cv)) := Ow.empty w0 73
  have HBE : Hid (Below w0.heap.size w0 (w0.alloc (.cells #[] 73))) := below_alloc _ _
  go_wp2_with fail
  go_loopw [7, 8] (fun v i wr => ∃ k : Nat, k ≤ n ∧ i = .int .i64 k ∧ Ow wr w0.heap.size 73 v k ((rngL (fun i => lessC (nth xs i) (winW kind n i)) k).map cv) ∧ Below w0.heap.size w0 wr) (fun _ i _ => n - (intOf i).toNat)
  case atStart => exact ⟨0, by omega, rfl, HE.out, HBE.out⟩
  case round =>
    obtain ⟨k, hk, rfl, ho, hb⟩ := hrel
    have HO := Lib.hid ho
    have HB := Lib.hid hb
    clear ho
    by_cases hlt : k < n
    · obtain ⟨b, o, rfl, hbl, hc⟩ := HX0.out.at_ hlt
      obtain ⟨b', o', rfl, hbl', hc'⟩ := Sl.at_ HG0.out hlt
      have hck : wr.cell? ⟨b, o + k, none⟩ = some (cv (nth xs k)) := (hb.cell (p := ⟨b, o + k, none⟩) hbl).trans (hc k hlt)
      have hck' : wr.cell? ⟨b', o' + k, none⟩ = some (.float .f32 (winW kind n k)) := (hb.cell (p := ⟨b', o' + k, none⟩) hbl').trans (hc' k _ (by rw [List.getElem?_map, List.getElem?_map, List.getElem?_range hlt]; rfl))
      have HL := Lib.hid (HL0.out k hlt)
      have HN : Hid ((rngL (fun i => lessC (nth xs i) (winW kind n i)) k).map cv ++ [cv (lessC (nth xs k) (winW kind n k))] = (rngL (fun i => lessC (nth xs i) (winW kind n i)) (k + 1)).map cv) := by show _ = _; rw [rngL_succ, List.map_append]; rfl
      have hin : (k : Int) < (n : Int) := by omega
      clear hb hc hc'
      generalize lessC (nth xs k) (winW kind n k) = p at *
      generalize nth xs k = x at *
      generalize winW kind n k = y at *
      unfold cv at hck
      have hkm : k + 1 ≤ maxLen := by unfold maxLen; omega
      have hkb : (k + 1) * 8 ≤ 140737488355328 := by omega
      go_wp2_with fail
      go_region_law ((first
        | (refine st_app1 (w0 := w0) rfl (.tmp 29) (.tmp 39) 23 rfl Tryz.eC u7 k _ rfl (show Ow wr.drew _ _ _ _ _ from HO.out) (.complex .f32 p.1 p.2) rfl rfl hkm hkb HB.out.drew ?_; intro v' w3 hown3 hb3; have HO3 := Lib.hid hown3; have HB3 := Lib.hid hb3; clear hown3 hb3)
        | (go_simp; go_at_call 119; refine (HL.out _).mono ?_; rintro e w' ⟨rfl, rfl⟩)))
      all_goals
        have HO4 : Ow w3 w0.heap.size 73 v' (k + 1) ((rngL (fun i => lessC (nth xs i) (winW kind n i)) k).map cv ++ [cv p]) := HO3.out
        rw [HN.out] at HO4
        have HO5 := Lib.hid HO4
        clear HO4
        go_wp2_with fail
        go_roundw
        case rel => first | exact ⟨k + 1, by omega, by go_num, HO5.out, HB3.out⟩ | ((repeat apply Exists.intro); exact ⟨⟨k + 1, by omega, by go_num, HO5.out, HB3.out⟩, rfl⟩)
        case measure => simp [intOf]; omega
    · obtain rfl : k = n := by omega
      obtain ⟨A2, c2, rfl⟩ := HO.out.shape
      have HR : Hid (RetO w (winF xs kind) (.returned (.tuple #[.slice A2 k c2, .bool true])) wr) := by
        show RetO _ _ _ _
        rw [HY.out]
        exact ⟨_, _, _, rfl, HO.out.mono HB0.out.size, HB0.out.trans (HB.out.mono HB0.out.size)⟩
      clear hb
      go_wp2_with fail
      go_ret2
      exact HR.out
end Go.Proofs.YtnomlkkhkacajaaGreatDoor
namespace Go.Proofs.YtnomlkkhkacajaaGreatDoor
open Go.RowKit

theorem rem2 {x n : Int} (hn : 0 < n) : -n < x.tmod n ∧ x.tmod n < n ∧ (x.tmod n + n).tmod n = x % n := by
  by_cases hx : 0 ≤ x
  · have m1 := Int.emod_nonneg x (show n ≠ 0 by omega)
    have m2 := Int.emod_lt_of_pos x hn
    rw [Int.tmod_eq_emod_of_nonneg hx, Int.tmod_eq_emod_of_nonneg (by omega), show x % n + n = x % n + n * 1 by omega, Int.add_mul_emod_self_left, Int.emod_emod_of_dvd x (Int.dvd_refl n)]
    exact ⟨by omega, by omega, rfl⟩
  · obtain ⟨y, rfl⟩ : ∃ y, x = -y := ⟨-x, by omega⟩
    have m1 := Int.emod_nonneg y (show n ≠ 0 by omega)
    have m2 := Int.emod_lt_of_pos y hn
    rw [Int.neg_tmod, Int.tmod_eq_emod_of_nonneg (show 0 ≤ y by omega), Int.tmod_eq_emod_of_nonneg (by omega), show -(y % n) + n = (0 - y % n) + n * 1 by omega, Int.add_mul_emod_self_left]
    refine ⟨by omega, by omega, ?_⟩
    rw [Int.sub_emod, Int.emod_emod_of_dvd y (Int.dvd_refl n), ← Int.sub_emod, Int.zero_sub]
set_option maxHeartbeats 4000000 in
set_option maxRecDepth 100000 in
theorem sMoved (A : Option Addr) (n c : Nat) (xs : List C) (b : Int) (w : World) (hn : n ≤ 1048576) (hx : Cs w A n xs) :
    Calls Tryz.prog 84 #[.slice A n c, .int .i64 b] w (RetS w (movF xs b)) := by
  have hl := hx.len
  have HC : Hid (∀ w, Cs w A n xs → Calls Tryz.prog 47 #[.slice A n c] w fun e w' => e = .returned (.bool (sigB xs)) ∧ Dr w w') := fun w h => sSignalOk A n c xs w (by omega) h
  cases hs : sigB xs
  · rw [hs] at HC
    have HN := Lib.hid (movF_no (b := b) (.inl hs))
    clear hl hs
    go_enter Tryz.func84, Tryz.ntmps84
    go_wp2_with fail
    refine (HC.out _ hx).mono ?_
    rintro e w' ⟨rfl, m, rfl⟩
    go_wp2_with fail
    go_ret
    rw [HN.out]
    exact RetS.empty (Ow.empty (w.drewN m) 73) ((below_drewN (Below.refl _ _) m).alloc (Nat.le_refl _) _)
  rw [hs] at HC
  by_cases hin : inB b (-99) 99 = true
  case neg =>
    have hin' : inB b (-99) 99 = false := by simpa using hin
    have HN := Lib.hid (movF_no (xs := xs) (.inr hin'))
    have HI := Lib.hid hin'
    clear hl hs hin hin'
    go_enter Tryz.func84, Tryz.ntmps84
    go_wp2_with fail
    refine (HC.out _ hx).mono ?_
    rintro e w' ⟨rfl, m, rfl⟩
    go_wp2_with fail
    refine (l1In_any _ _ _ _).mono ?_
    rintro e w2 ⟨rfl, hw2⟩
    obtain rfl := hw2.symm
    rw [HI.out]
    go_wp2_with fail
    go_ret
    rw [HN.out]
    exact RetS.empty (Ow.empty (w.drewN m) 73) ((below_drewN (Below.refl _ _) m).alloc (Nat.le_refl _) _)
  have HY := Lib.hid (movF_yes hl hs hin)
  have HI := Lib.hid hin
  obtain ⟨h1, h2⟩ := inB_iff.1 hin
  have h16 : n ≤ 16 := by rw [← hl]; exact sig_len hs
  clear hs hl hin
  go_enter Tryz.func84, Tryz.ntmps84
  go_wp2_with fail
  refine (HC.out _ hx).mono ?_
  rintro e w' ⟨rfl, m, rfl⟩
  go_wp2_with fail
  refine (l1In_any _ _ _ _).mono ?_
  rintro e w2 ⟨rfl, hw2⟩
  obtain rfl := hw2.symm
  rw [HI.out]
  go_wp2_with (at_make; refine wl_make (w0 := w.drewN m) rfl (.tmp 17) (.tmp 17) 23 rfl Tryz.eC .i64 .i64 n _ _ rfl rfl rfl rfl (by omega) (by unfold maxLen; omega) (Below.refl _ _) ?_; intro w1 hown hb1 _)
  have HO1 : Hid (Ow w1 w.heap.size 73 (.slice (some ⟨w.heap.size, 0, none⟩) n n) n (movV xs n b 0)) := by
    show Ow _ _ _ _ _ _
    rw [movV_zero]
    exact hown
  have HB1 : Hid (Below w.heap.size w w1) := ⟨hb1.os, hb1.tape, hb1.output, hb1.size, hb1.block⟩
  clear hown hb1
  go_loopw [6] (fun i wr => ∃ k : Nat, k ≤ n ∧ i = .int .i64 k ∧ Ow wr w.heap.size 73 (.slice (some ⟨w.heap.size, 0, none⟩) n n) n (movV xs n b k) ∧ Below w.heap.size w wr) (fun i _ => n - (intOf i).toNat)
  case atStart => exact ⟨0, by omega, rfl, HO1.out, HB1.out⟩
  case round =>
    obtain ⟨k, hk, rfl, ho, hb⟩ := hrel
    have HO := Lib.hid ho
    have HB := Lib.hid hb
    clear ho
    by_cases hlt : k < n
    · obtain ⟨bl, o, rfl, hbl, hc⟩ := hx.at_ hlt
      have hck : wr.cell? ⟨bl, o + k, none⟩ = some (cv (nth xs k)) := (hb.cell (p := ⟨bl, o + k, none⟩) hbl).trans (hc k hlt)
      have hn0 : ((n : Int) == 0) = false := by rw [beq_eq_false_iff_ne]; omega
      have e1 : IntKind.i64.wrap ((k : Int) + b) = (k : Int) + b := IntWalk.i64_in _ (by omega)
      have hset := movV_set xs b hlt
      obtain ⟨r1, r2, r3⟩ := rem2 (x := (k : Int) + b) (n := (n : Int)) (by omega)
      obtain ⟨t, ht⟩ : ∃ t, ((k : Int) + b).tmod (n : Int) = t := ⟨_, rfl⟩
      rw [ht] at r1 r2 r3
      have e2 : IntKind.i64.wrap (t + (n : Int)) = t + (n : Int) := IntWalk.i64_in _ (by omega)
      have p1 := Int.emod_nonneg ((k : Int) + b) (show (n : Int) ≠ 0 by omega)
      have p2 := Int.emod_lt_of_pos ((k : Int) + b) (show 0 < (n : Int) by omega)
      obtain ⟨q, hq⟩ := Int.eq_ofNat_of_zero_le p1
      rw [hq] at hset p2 r3
      have hqn : q < n := by omega
      have hqt : ((q : Nat) : Int).toNat = q := by omega
      rw [hqt] at hset
      obtain ⟨g, hg, hge, hgl, hcell, hfr, hst⟩ := Ow.at_ HO.out hqn
      injection hg with hg
      injection hg with hg
      subst hg
      have hck2 : wr.cell? ⟨w.heap.size, q, none⟩ = some ((movV xs n b k)[q]'(by rw [movV_len]; exact hqn)) := (hcell q hqn).trans (List.getElem?_eq_getElem _)
      generalize (movV xs n b k)[q]'(by rw [movV_len]; exact hqn) = u0 at hck2
      have hfr2 := hfr q
      have hst2 := hst q (cv (nth xs k))
      rw [hset] at hst2
      have HS := Lib.hid hst2
      have hkn : (k : Int) < (n : Int) := by omega
      clear hst2 hcell hfr hst hb hc hset hq p1 hqt hx r1 r2
      generalize nth xs k = x at *
      unfold cv at hck HS
      go_wp2_with fail
      go_region
      go_wp2_with fail
      go_roundw
      case rel => first | exact ⟨k + 1, by omega, by go_num, HS.out, HB.out.setCell (Nat.le_refl _) _⟩ | exact ⟨k + 1, by omega, by go_num, HS.out, (HB.out.setCell (p := ⟨w.heap.size, _, none⟩) (Nat.le_refl _) _).drew⟩
      case measure => simp [intOf]; omega
    · obtain rfl : k = n := by omega
      clear hb hx
      go_wp2_with fail
      go_ret
      rw [HY.out]
      refine ⟨_, _, _, rfl, ?_, HB.out⟩
      have := HO.out
      rw [movV_full] at this
      exact this
end Go.Proofs.YtnomlkkhkacajaaGreatDoor
