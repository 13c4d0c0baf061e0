/- Texts on the way to a law (K7, K8), each with its own remark. -/
import Derived.Test.YtnomlkkhkacajaaGreatDoorPB11
import Derived.Test.YtnomlkkhkacajaaGreatDoorPB12
import Derived.Test.YtnomlkkhkacajaaGreatDoorPB15
namespace Go.Proofs.YtnomlkkhkacajaaGreatDoor
open Go.RowKit

/-- What l1Told hands back of a list whose numbers are finite. -/
theorem told_any (A : Option Addr) (n c : Nat) (xs : List C) (w : World) (hn : n ≤ 1048576) (hx : Cs w A n xs) (hf : xs.all finB = true) :
    Calls Tryz.prog 141 #[.slice A n c] w fun e w' => e = .returned (.tuple #[.slice A n c, .bool true]) ∧ Dr w w' := by
  have HC : Hid (∀ w, Cs w A n xs → Calls Tryz.prog 89 #[.slice A n c] w fun e w' => e = .returned (.bool true) ∧ Dr w w') := fun w h => by
    have := sAll A n c xs w (by omega) h
    rw [hf] at this
    exact this
  clear hf
  go_enter Tryz.func141, Tryz.ntmps141
  go_wp2_with fail
  refine (HC.out _ hx).mono ?_
  rintro e w' ⟨rfl, m, rfl⟩
  go_wp2_with fail
  go_ret2
  exact ⟨rfl, m, rfl⟩
theorem rngL_fin {f : Nat → C} {n : Nat} (h : ∀ i, i < n → finB (f i) = true) : (rngL f n).all finB = true := List.all_eq_true.2 fun z hz => by
  unfold rngL at hz
  obtain ⟨i, hi, rfl⟩ := List.mem_map.1 hz
  exact h i (List.mem_range.1 hi)

set_option maxHeartbeats 2000000 in
set_option maxRecDepth 100000 in
theorem sEach (A A' : Option Addr) (n c c' : Nat) (xs ys : List C) (w : World) (hx : Cs w A n xs) (hy : Cs w A' n ys) (hs : sigB xs = true) (hs2 : sigB ys = true) (hp : ∀ i, i < n → finB (mulC (nth xs i) (nth ys i)) = true) :
    Calls Tryz.prog 116 #[.slice A n c, .slice A' n c'] w (RetC w (rngL (fun i => mulC (nth xs i) (nth ys i)) n) true) := by
  have hl := hx.len
  have hl2 := hy.len
  have h16 : n ≤ 16 := by rw [← hl]; exact sig_len hs
  have HC : Hid (∀ w, Cs w A n xs → Calls Tryz.prog 47 #[.slice A n c] w fun e w' => e = .returned (.bool true) ∧ Dr w w') := fun w h => by rw [← hs]; exact sSignalOk A n c xs w (by omega) h
  have HC2 : Hid (∀ w, Cs w A' n ys → Calls Tryz.prog 47 #[.slice A' n c'] w fun e w' => e = .returned (.bool true) ∧ Dr w w') := fun w h => by rw [← hs2]; exact sSignalOk A' n c' ys w (by omega) h
  have HM : Hid (∀ i, i < n → ∀ w, (binOp .mul 73 (.complex .f32 (nth xs i).1 (nth xs i).2) (.complex .f32 (nth ys i).1 (nth ys i).2)).run Tryz.prog w = .ok (.complex .f32 (mulC (nth xs i) (nth ys i)).1 (mulC (nth xs i) (nth ys i)).2) w) := fun i hi =>
    mulC_run Tryz.prog _ (fin_mk hs (by omega)) (fin_mk hs2 (by omega)) (hp i hi)
  have HFL := Lib.hid (rngL_fin hp)
  clear hs hs2 hp hl hl2
  go_enter Tryz.func116, Tryz.ntmps116
  go_wp2_with fail
  refine (HC.out _ hx).mono ?_
  rintro e w' ⟨rfl, m, rfl⟩
  go_wp2_with fail
  refine (HC2.out _ (hy.drewN m)).mono ?_
  rintro e w' ⟨rfl, m2, rfl⟩
  obtain ⟨w0, hw0⟩ : ∃ w0, w0 = (w.drewN m).drewN m2 := ⟨_, rfl⟩
  have HB0 : Hid (Below w.heap.size w w0) := by rw [hw0]; exact below_drewN (below_drewN (Below.refl _ _) m) m2
  have HX0 : Hid (Cs w0 A n xs) := hx.below HB0.out
  have HY0 : Hid (Cs w0 A' n ys) := hy.below HB0.out
  have HZ0 : Hid (w0.heap.size = w.heap.size) := by rw [hw0]; rfl
  rw [← hw0]
  clear hw0
  have HE : Hid (Ow (w0.alloc (.cells #[] 73)) w0.heap.size 73 (.slice (some ⟨w0.heap.size, 0, none⟩) 0 0) 0 ((rngL (fun i => mulC (nth xs i) (nth ys i)) 0).map cv)) := Ow.empty w0 73
  have HBE : Hid (Below w0.heap.size w0 (w0.alloc (.cells #[] 73))) := below_alloc _ _
  clear hx hy
  go_wp2_with fail
  go_loopw [6, 7] (fun v i wr => ∃ k : Nat, k ≤ n ∧ i = .int .i64 k ∧ Ow wr w0.heap.size 73 v k ((rngL (fun i => mulC (nth xs i) (nth ys i)) k).map cv) ∧ Below w0.heap.size w0 wr) (fun _ i _ => n - (intOf i).toNat)
  case atStart => exact ⟨0, by omega, rfl, HE.out, HBE.out⟩
  case round =>
    obtain ⟨k, hk, rfl, ho, hb⟩ := hrel
    have HO := Lib.hid ho
    have HB := Lib.hid hb
    clear ho
    by_cases hlt : k < n
    · obtain ⟨b, o, rfl, hbl, hc⟩ := HX0.out.at_ hlt
      obtain ⟨b', o', rfl, hbl', hc'⟩ := HY0.out.at_ hlt
      have hck : wr.cell? ⟨b, o + k, none⟩ = some (cv (nth xs k)) := (hb.cell (p := ⟨b, o + k, none⟩) hbl).trans (hc k hlt)
      have hck' : wr.cell? ⟨b', o' + k, none⟩ = some (cv (nth ys k)) := (hb.cell (p := ⟨b', o' + k, none⟩) hbl').trans (hc' k hlt)
      have q1 := HM.out k hlt
      have HN : Hid ((rngL (fun i => mulC (nth xs i) (nth ys i)) k).map cv ++ [cv (mulC (nth xs k) (nth ys k))] = (rngL (fun i => mulC (nth xs i) (nth ys i)) (k + 1)).map cv) := by show _ = _; rw [rngL_succ, List.map_append]; rfl
      have hsz := HB.out.size
      have hin : (k : Int) < (n : Int) := by omega
      clear hb hc hc'
      generalize mulC (nth xs k) (nth ys k) = p at *
      generalize nth xs k = x at *
      generalize nth ys k = y at *
      unfold cv at hck hck'
      have hkm : k + 1 ≤ maxLen := by unfold maxLen; omega
      have hkb : (k + 1) * 8 ≤ 140737488355328 := by omega
      have HBD : Hid (∀ wd, wd = wr ∨ wd = wr.drew → Below w0.heap.size w0 wd) := fun wd h => by
        rcases h with rfl | rfl
        · exact HB.out
        · exact HB.out.drew
      go_wp2_with fail
      go_region_law ((refine st_app1 (w0 := w0) rfl (.tmp 31) (.tmp 41) 23 rfl Tryz.eC u6 k _ rfl (show Ow wr.drew _ _ _ _ _ from HO.out) (.complex .f32 p.1 p.2) rfl rfl hkm hkb HB.out.drew ?_; intro v' w3 hown3 hb3; have HO3 := Lib.hid hown3; have HB3 := Lib.hid hb3; clear hown3 hb3))
      all_goals
        have HO4 : Ow w3 w0.heap.size 73 v' (k + 1) ((rngL (fun i => mulC (nth xs i) (nth ys i)) k).map cv ++ [cv p]) := HO3.out
        rw [HN.out] at HO4
        have HO5 := Lib.hid HO4
        clear HO4
        go_wp2_with fail
        go_roundw
        case rel => exact ⟨k + 1, by omega, by go_num, HO5.out, HB3.out⟩
        case measure => simp [intOf]; omega
    · obtain rfl : k = n := by omega
      obtain ⟨A2, c2, rfl⟩ := HO.out.shape
      have HR : Hid (∀ w', Dr wr w' → RetC w (rngL (fun i => mulC (nth xs i) (nth ys i)) k) true (.returned (.tuple #[.slice A2 k c2, .bool true])) w') := fun w' hd => by
        obtain ⟨m3, rfl⟩ := hd
        have hB := HB0.out.trans (HB.out.mono (by rw [HZ0.out]; exact Nat.le_refl _))
        exact ⟨_, _, _, rfl, (HO.out.mono (by rw [HZ0.out]; exact Nat.le_refl _)).drewN m3, below_drewN hB m3⟩
      clear hb
      go_wp2_with fail
      refine (told_any A2 k c2 _ wr (by omega) HO.out.sl HFL.out).mono ?_
      rintro e w' ⟨rfl, hd⟩
      have HRW := Lib.hid (HR.out w' hd)
      clear hd
      go_wp2_with fail
      go_ret2
      exact HRW.out
end Go.Proofs.YtnomlkkhkacajaaGreatDoor
namespace Go.Proofs.YtnomlkkhkacajaaGreatDoor
open Go.RowKit

theorem RetC.trans' {w w1 w' : World} {ys : List C} {ok : Bool} {e : Ending} (h : RetC w1 ys ok e w') (hb : Below w.heap.size w w1) : RetC w ys ok e w' := by
  obtain ⟨A, n, c, h1, h2, h3⟩ := h
  exact ⟨A, n, c, h1, h2.mono hb.size, hb.trans (h3.mono hb.size)⟩
/-- Numbers that are not too great. -/
def Small (xs : List C) : Prop := ∀ i, i < xs.length → Md (nth xs i) K1
theorem small_drawn {xs : List C} (h : DrawnL xs) (hs : sigB xs = true) : Small xs := fun i hi => by
  have hU := U_pos
  have h16 := sig_len hs
  rcases h with h | ⟨j, h1, h2⟩
  · omega
  · by_cases hij : i = j
    · have := h2 (by omega)
      rw [← hij] at this
      exact (spc_md this (fin_mk hs hi)).mono (by unfold K1; grind)
    · exact (ord_md (h1 i hi hij)).mono (by unfold K1; grind)
theorem Small.turn {xs : List C} (h : Small xs) {i : Nat} (hi : i < xs.length) (t : Int) : finB (mulC (nth xs i) (turnC t)) = true :=
  (mul_md (h i hi) (turnC_fin _) (turn_sq _) (by unfold K1; have := U_pos; grind)).1
def shiL (xs : List C) (n : Nat) (b : Int) : List C := rngL (fun i => mulC (nth xs i) (nth (tonL n b) i)) n
def shiF (xs : List C) (k : Int) : Option (List C) := if sizB xs && decide (0 ≤ k) && decide (k < xs.length) then some (shiL xs xs.length (16 / (xs.length : Int) * k)) else none
theorem shiF_no {xs : List C} {k : Int} (h : sizB xs = false ∨ k < 0 ∨ (xs.length : Int) ≤ k) : shiF xs k = none := by
  unfold shiF
  rcases h with h | h | h
  · rw [h]; rfl
  · rw [decide_eq_false (show ¬ 0 ≤ k by omega), Bool.and_false]; rfl
  · rw [decide_eq_false (show ¬ k < xs.length by omega), Bool.and_false]; rfl
theorem shiF_yes {xs : List C} {n : Nat} {k : Int} (h : sizB xs = true) (hl : xs.length = n) (h0 : 0 ≤ k) (h1 : k < n) : shiF xs k = some (shiL xs n (16 / (n : Int) * k)) := by
  unfold shiF; rw [h, hl, decide_eq_true h0, decide_eq_true h1]; rfl
theorem tonL_sig {n : Nat} (b : Int) (h : n ≤ 16) : sigB (tonL n b) = true := by unfold sigB; rw [tonL_fin, tonL_len, decide_eq_true h]; rfl

set_option maxHeartbeats 2000000 in
set_option maxRecDepth 100000 in
theorem iShifted (A : Option Addr) (n c : Nat) (xs : List C) (k : Int) (w : World) (hn : n ≤ 1048576) (hx : Cs w A n xs) (hm : sigB xs = true → Small xs) :
    Calls Tryz.prog 113 #[.slice A n c, .int .i64 k] w (RetO w (shiF xs k)) := by
  have hl := hx.len
  cases hs : sizB xs
  · have HN := Lib.hid (shiF_no (k := k) (.inl hs))
    have HC : Hid (∀ w, Cs w A n xs → Calls Tryz.prog 125 #[.slice A n c] w fun e w' => e = .returned (.bool false) ∧ Dr w w') := fun w h => by rw [← hs]; exact iSizeOk A n c xs w hn h
    clear hl hs hm
    go_enter Tryz.func113, Tryz.ntmps113
    go_wp2_with fail
    refine (HC.out _ hx).mono ?_
    rintro e w' ⟨rfl, m, rfl⟩
    go_wp2_with fail
    go_ret2
    rw [HN.out]
    exact RetC.nil_ (below_drewN (Below.refl _ _) m)
  have HC : Hid (∀ w, Cs w A n xs → Calls Tryz.prog 125 #[.slice A n c] w fun e w' => e = .returned (.bool true) ∧ Dr w w') := fun w h => by rw [← hs]; exact iSizeOk A n c xs w hn h
  by_cases hk : 0 ≤ k ∧ k < (n : Int)
  case neg =>
    have HN := Lib.hid (shiF_no (xs := xs) (k := k) (by omega))
    have key : k < 0 ∨ (0 ≤ k ∧ (n : Int) ≤ k) := by omega
    clear hl hs hm hk
    rcases key with h0 | ⟨h0, h1⟩
    all_goals
      go_enter Tryz.func113, Tryz.ntmps113
      go_wp2_with fail
      refine (HC.out _ hx).mono ?_
      rintro e w' ⟨rfl, m, rfl⟩
      go_wp2_with fail
      go_ret2
      rw [HN.out]
      exact RetC.nil_ (below_drewN (Below.refl _ _) m)
  obtain ⟨h0, h1⟩ := hk
  obtain ⟨s1, s2, s3, s4, s5⟩ := siz_parts hs
  rw [hl] at s1 s4 s5
  have HY := Lib.hid (shiF_yes hs hl h0 h1)
  obtain ⟨bb, hbk⟩ : ∃ b, b = 16 / (n : Int) * k := ⟨_, rfl⟩
  have HT : Hid (∀ w, Calls Tryz.prog 139 #[.int .i64 n, .int .i64 k] w (RetS w (tonL n bb))) := fun w => by
    have := iTone n k w
    rw [tonF_yes s1 h0 h1, ← hbk] at this
    exact this
  rw [← hbk] at HY
  have HE : Hid (∀ A' c' w', Cs w' A n xs → Cs w' A' n (tonL n bb) → Calls Tryz.prog 138 #[.slice A n c, .slice A' n c'] w' (RetC w' (shiL xs n bb) true)) := fun A' c' w' h1' h2' =>
    iEach A A' n c c' xs (tonL n bb) w' h1' h2' s2 (tonL_sig bb s4) fun i hi => by rw [tonL_nth bb hi]; exact (hm s2).turn (by omega) _
  clear hl hs hm s1 s2 s3 hbk
  go_enter Tryz.func113, Tryz.ntmps113
  go_wp2_with fail
  refine (HC.out _ hx).mono ?_
  rintro e w' ⟨rfl, m, rfl⟩
  have HB0 : Hid (Below w.heap.size w (w.drewN m)) := below_drewN (Below.refl _ _) m
  have HX : Hid (Cs (w.drewN m) A n xs) := hx.drewN m
  clear hx
  go_wp2_with fail
  refine (HT.out _).mono ?_
  rintro e w2 ⟨A2, m2, c2, rfl, ho2, hb2⟩
  obtain rfl : m2 = n := by have h1 := ho2.len; rw [List.length_map, tonL_len] at h1; omega
  have HX2 := Lib.hid (HX.out.below hb2)
  have HB2 : Hid (Below w.heap.size w w2) := HB0.out.trans hb2
  have HO2 := Lib.hid ho2
  clear ho2 hb2
  go_wp2_with fail
  refine (HE.out A2 c2 w2 HX2.out HO2.out.sl).mono ?_
  rintro e w3 hr
  have hr2 := RetC.trans' hr HB2.out
  obtain ⟨A3, m3, c3, rfl, ho3, hb3⟩ := hr2
  have HR : Hid (RetO w (shiF xs k) (.returned (.tuple #[.slice A3 m3 c3, .bool true])) w3) := by
    show RetO _ _ _ _
    rw [HY.out]
    exact ⟨A3, m3, c3, rfl, ho3, hb3⟩
  clear hr ho3 hb3
  go_wp2_with fail
  go_ret2
  exact HR.out
set_option maxHeartbeats 2000000 in
set_option maxRecDepth 100000 in
theorem sShifted (A : Option Addr) (n c : Nat) (xs : List C) (k : Int) (w : World) (hn : n ≤ 1048576) (hx : Cs w A n xs) (hm : sigB xs = true → Small xs) :
    Calls Tryz.prog 85 #[.slice A n c, .int .i64 k] w (RetO w (shiF xs k)) := by
  have hl := hx.len
  cases hs : sizB xs
  · have HN := Lib.hid (shiF_no (k := k) (.inl hs))
    have HC : Hid (∀ w, Cs w A n xs → Calls Tryz.prog 101 #[.slice A n c] w fun e w' => e = .returned (.bool false) ∧ Dr w w') := fun w h => by rw [← hs]; exact sSizeOk A n c xs w hn h
    clear hl hs hm
    go_enter Tryz.func85, Tryz.ntmps85
    go_wp2_with fail
    refine (HC.out _ hx).mono ?_
    rintro e w' ⟨rfl, m, rfl⟩
    go_wp2_with fail
    go_ret2
    rw [HN.out]
    exact RetC.empty ((Ow.empty (w.drewN m) 73)) ((below_drewN (Below.refl _ _) m).alloc (Nat.le_refl _) _)
  have HC : Hid (∀ w, Cs w A n xs → Calls Tryz.prog 101 #[.slice A n c] w fun e w' => e = .returned (.bool true) ∧ Dr w w') := fun w h => by rw [← hs]; exact sSizeOk A n c xs w hn h
  have e0 : IntKind.i64.wrap ((n : Int) - 1) = (n : Int) - 1 := IntWalk.i64_in _ (by omega)
  by_cases hk : 0 ≤ k ∧ k < (n : Int)
  case neg =>
    have HN := Lib.hid (shiF_no (xs := xs) (k := k) (by omega))
    have hin : inB k 0 ((n : Int) - 1) = false := by rw [inB_false_iff]; omega
    clear hl hs hm hk
    go_enter Tryz.func85, Tryz.ntmps85
    go_wp2_with fail
    refine (HC.out _ hx).mono ?_
    rintro e w' ⟨rfl, m, rfl⟩
    go_wp2_with fail
    refine (l1In_any _ _ _ _).mono ?_
    rintro e w2 ⟨rfl, hw2⟩
    obtain rfl := hw2.symm
    go_wp2_with fail
    go_ret2
    rw [HN.out]
    exact RetC.empty ((Ow.empty (w.drewN m) 73)) ((below_drewN (Below.refl _ _) m).alloc (Nat.le_refl _) _)
  obtain ⟨h0, h1⟩ := hk
  have hin : inB k 0 ((n : Int) - 1) = true := inB_true h0 (by omega)
  obtain ⟨s1, s2, s3, s4, s5⟩ := siz_parts hs
  rw [hl] at s1 s4 s5
  have HY := Lib.hid (shiF_yes hs hl h0 h1)
  obtain ⟨bb, hbk⟩ : ∃ b, b = 16 / (n : Int) * k := ⟨_, rfl⟩
  have HT : Hid (∀ w, Calls Tryz.prog 117 #[.int .i64 n, .int .i64 k] w (RetS w (tonL n bb))) := fun w => by
    have := sTone n k w
    rw [tonF_yes s1 h0 h1, ← hbk] at this
    exact this
  rw [← hbk] at HY
  have HE : Hid (∀ A' c' w', Cs w' A n xs → Cs w' A' n (tonL n bb) → Calls Tryz.prog 116 #[.slice A n c, .slice A' n c'] w' (RetC w' (shiL xs n bb) true)) := fun A' c' w' h1' h2' =>
    sEach A A' n c c' xs (tonL n bb) w' h1' h2' s2 (tonL_sig bb s4) fun i hi => by rw [tonL_nth bb hi]; exact (hm s2).turn (by omega) _
  clear hl hs hm s1 s2 s3 hbk
  go_enter Tryz.func85, Tryz.ntmps85
  go_wp2_with fail
  refine (HC.out _ hx).mono ?_
  rintro e w' ⟨rfl, m, rfl⟩
  have HB0 : Hid (Below w.heap.size w (w.drewN m)) := below_drewN (Below.refl _ _) m
  have HX : Hid (Cs (w.drewN m) A n xs) := hx.drewN m
  clear hx
  go_wp2_with fail
  refine (l1In_any _ _ _ _).mono ?_
  rintro e w1 ⟨rfl, hw2⟩
  obtain rfl := hw2.symm
  go_wp2_with fail
  refine (HT.out _).mono ?_
  rintro e w2 ⟨A2, m2, c2, rfl, ho2, hb2⟩
  obtain rfl : m2 = n := by have h1 := ho2.len; rw [List.length_map, tonL_len] at h1; omega
  have HX2 := Lib.hid (HX.out.below hb2)
  have HB2 : Hid (Below w.heap.size w w2) := HB0.out.trans hb2
  have HO2 := Lib.hid ho2
  clear ho2 hb2
  go_wp2_with fail
  refine (HE.out A2 c2 w2 HX2.out HO2.out.sl).mono ?_
  rintro e w3 hr
  have hr2 := RetC.trans' hr HB2.out
  obtain ⟨A3, m3, c3, rfl, ho3, hb3⟩ := hr2
  have HR : Hid (RetO w (shiF xs k) (.returned (.tuple #[.slice A3 m3 c3, .bool true])) w3) := by
    show RetO _ _ _ _
    rw [HY.out]
    exact ⟨A3, m3, c3, rfl, ho3, hb3⟩
  clear hr ho3 hb3
  go_wp2_with fail
  go_ret2
  exact HR.out

/-! Moved round. -/
theorem sub_mod (x y n : Int) : (x % n - y) % n = (x - y) % n := by rw [Int.sub_emod, Int.emod_emod_of_dvd x (Int.dvd_refl n), ← Int.sub_emod]
theorem add_mod (x y n : Int) : (x % n + y) % n = (x + y) % n := by rw [Int.add_emod, Int.emod_emod_of_dvd x (Int.dvd_refl n), ← Int.add_emod]
theorem remG_any (x s : Int) (w : World) (h1 : -9999 ≤ x) (h2 : x ≤ 9999) (h3 : 1 ≤ s) (h4 : s ≤ 9999) : Calls Tryz.prog 137 #[.int .i64 x, .int .i64 s] w fun e w' => e = .returned (.int .i64 (x % s)) ∧ w' = w := by
  have hs : (s == 0) = false := by rw [beq_eq_false_iff_ne]; omega
  by_cases hx : 0 ≤ x
  · have m1 := Int.emod_nonneg x (show s ≠ 0 by omega)
    have m2 := Int.emod_lt_of_pos x (show 0 < s by omega)
    have e0 : x.tmod s = x % s := Int.tmod_eq_emod_of_nonneg hx
    go_enter Tryz.func137, Tryz.ntmps137
    go_wp2_with fail
    go_ret
    exact ⟨rfl, rfl⟩
  · obtain ⟨y, rfl⟩ : ∃ y, x = -y := ⟨-x, by omega⟩
    have e0 : (-y).tmod s = -(y % s) := by rw [Int.neg_tmod, Int.tmod_eq_emod_of_nonneg (by omega)]
    have m1 := Int.emod_nonneg y (show s ≠ 0 by omega)
    have m2 := Int.emod_lt_of_pos y (show 0 < s by omega)
    have HE : Hid ((-y) % s = if y % s = 0 then 0 else s - y % s) := by
      show _ = _
      have h := Int.emod_add_mul_ediv y s
      split
      · rename_i hz
        obtain ⟨d, rfl⟩ := Int.dvd_of_emod_eq_zero hz
        rw [← Int.mul_neg]; exact Int.mul_emod_right _ _
      · rename_i hz
        have e1 : -y = (s - y % s) + s * (-(y / s) - 1) := by
          rw [Int.mul_sub, Int.mul_neg, Int.mul_one]
          generalize s * (y / s) = q at *
          omega
        rw [e1, Int.add_mul_emod_self_left, Int.emod_eq_of_lt (by omega) (by omega)]
    obtain ⟨r, hr⟩ : ∃ r, r = y % s := ⟨_, rfl⟩
    rw [← hr] at e0 HE m1 m2
    have HR := Lib.hid hr
    clear hr hx
    by_cases hz : r = 0
    · have e1 : (-y).tmod s = 0 := by rw [e0, hz]; rfl
      have HE2 : Hid ((-y) % s = 0) := by show _ = _; rw [HE.out, if_pos hz]
      clear e0 hz
      go_enter Tryz.func137, Tryz.ntmps137
      go_wp2_with fail
      go_ret
      exact ⟨ret_int HE2.out.symm, rfl⟩
    · have HE2 : Hid ((-y) % s = s - r) := by show _ = _; rw [HE.out, if_neg hz]
      have hneg : -r < 0 := by omega
      go_enter Tryz.func137, Tryz.ntmps137
      go_wp2_with fail
      go_ret
      exact ⟨ret_int (by have := HE2.out; omega), rfl⟩
/-- A signal moved round. -/
def movL (xs : List C) (n : Nat) (b : Int) : List C := rngL (fun j => nth xs (((j : Int) - b) % (n : Int)).toNat) n
def movV (xs : List C) (n : Nat) (b : Int) (i : Nat) : List Value := (List.range n).map fun j : Nat => if ((j : Int) - b) % (n : Int) < (i : Int) then cv (nth xs (((j : Int) - b) % (n : Int)).toNat) else .complex .f32 0 0
theorem movV_len (xs : List C) (n : Nat) (b : Int) (i : Nat) : (movV xs n b i).length = n := by simp [movV]
theorem movV_zero (xs : List C) (n : Nat) (b : Int) : movV xs n b 0 = List.replicate n (.complex .f32 0 0) := by
  refine List.ext_getElem (by simp [movV]) fun j h1 h2 => ?_
  have hn : 0 < n := by rw [movV_len] at h1; omega
  have := Int.emod_nonneg ((j : Int) - b) (show (n : Int) ≠ 0 by omega)
  simp only [movV, List.getElem_map, List.getElem_range, List.getElem_replicate]
  rw [if_neg (by omega)]
theorem movV_full (xs : List C) (n : Nat) (b : Int) : movV xs n b n = (movL xs n b).map cv := by
  refine List.ext_getElem (by simp [movV, movL, rngL]) fun j h1 h2 => ?_
  have hn : 0 < n := by rw [movV_len] at h1; omega
  have := Int.emod_lt_of_pos ((j : Int) - b) (show 0 < (n : Int) by omega)
  simp only [movV, movL, rngL, List.getElem_map, List.getElem_range]
  rw [if_pos this]
theorem movV_set (xs : List C) {n i : Nat} (b : Int) (hi : i < n) : (movV xs n b i).set (((i : Int) + b) % (n : Int)).toNat (cv (nth xs i)) = movV xs n b (i + 1) := by
  have hn : (n : Int) ≠ 0 := by omega
  have p1 := Int.emod_nonneg ((i : Int) + b) hn
  have p2 := Int.emod_lt_of_pos ((i : Int) + b) (show 0 < (n : Int) by omega)
  refine List.ext_getElem (by simp [movV]) fun j h1 h2 => ?_
  have hj : j < n := by rw [movV_len] at h2; exact h2
  rw [List.getElem_set]
  have q1 := Int.emod_nonneg ((j : Int) - b) hn
  by_cases hij : (((i : Int) + b) % (n : Int)).toNat = j
  · rw [if_pos hij]
    have hje : (j : Int) = ((i : Int) + b) % (n : Int) := by omega
    have e1 : ((j : Int) - b) % (n : Int) = i := by
      rw [hje, sub_mod, show (i : Int) + b - b = i by omega]
      exact Int.emod_eq_of_lt (by omega) (by omega)
    simp only [movV, List.getElem_map, List.getElem_range, e1]
    rw [if_pos (by omega)]
    rfl
  · rw [if_neg hij]
    have hne : ((j : Int) - b) % (n : Int) ≠ i := fun he => by
      apply hij
      rw [← he, add_mod, show (j : Int) - b + b = j by omega, Int.emod_eq_of_lt (by omega) (by omega)]
      rfl
    simp only [movV, List.getElem_map, List.getElem_range]
    by_cases hlt : ((j : Int) - b) % (n : Int) < (i : Int)
    · rw [if_pos hlt, if_pos (by omega)]
    · rw [if_neg hlt, if_neg (by omega)]
set_option maxHeartbeats 2000000 in
set_option maxRecDepth 100000 in
theorem iMoved (A : Option Addr) (n c : Nat) (xs : List C) (b : Int) (w : World) (hx : Cs w A n xs) (hs : sigB xs = true) (h1 : -99 ≤ b) (h2 : b ≤ 99) :
    Calls Tryz.prog 112 #[.slice A n c, .int .i64 b] w (RetS w (movL xs n b)) := by
  have hl := hx.len
  have h16 : n ≤ 16 := by rw [← hl]; exact sig_len hs
  have HC : Hid (∀ w, Cs w A n xs → Calls Tryz.prog 43 #[.slice A n c] w fun e w' => e = .returned (.bool true) ∧ Dr w w') := fun w h => by rw [← hs]; exact iSignalOk A n c xs w (by omega) h
  clear hs hl
  go_enter Tryz.func112, Tryz.ntmps112
  go_wp2_with fail
  refine (HC.out _ hx).mono ?_
  rintro e w' ⟨rfl, m, rfl⟩
  go_wp2_with (at_make; refine wl_make (w0 := w.drewN m) rfl (.tmp 20) (.tmp 20) 23 rfl Tryz.eC .i64 .i64 n _ _ rfl rfl rfl rfl (by omega) (by unfold maxLen; omega) (Below.refl _ _) ?_; intro w1 hown hb1 _)
  have HO1 : Hid (Ow w1 w.heap.size 73 (.slice (some ⟨w.heap.size, 0, none⟩) n n) n (movV xs n b 0)) := by
    show Ow _ _ _ _ _ _
    rw [movV_zero]
    exact hown
  have HB1 : Hid (Below w.heap.size w w1) := ⟨hb1.os, hb1.tape, hb1.output, hb1.size, hb1.block⟩
  clear hown hb1
  go_loopw [24] (fun i wr => ∃ k : Nat, k ≤ n ∧ i = .int .i64 k ∧ Ow wr w.heap.size 73 (.slice (some ⟨w.heap.size, 0, none⟩) n n) n (movV xs n b k) ∧ Below w.heap.size w wr) (fun i _ => n - (intOf i).toNat)
  case atStart => exact ⟨0, by omega, rfl, HO1.out, HB1.out⟩
  case round =>
    obtain ⟨k, hk, rfl, ho, hb⟩ := hrel
    have HO := Lib.hid ho
    have HB := Lib.hid hb
    clear ho
    by_cases hlt : k < n
    · obtain ⟨bl, o, rfl, hbl, hc⟩ := hx.at_ hlt
      have hck : wr.cell? ⟨bl, o + k, none⟩ = some (cv (nth xs k)) := (hb.cell (p := ⟨bl, o + k, none⟩) hbl).trans (hc k hlt)
      have p1 := Int.emod_nonneg ((k : Int) + b) (show (n : Int) ≠ 0 by omega)
      have p2 := Int.emod_lt_of_pos ((k : Int) + b) (show 0 < (n : Int) by omega)
      have e1 : IntKind.i64.wrap ((k : Int) + b) = (k : Int) + b := IntWalk.i64_in _ (by omega)
      have hset := movV_set xs b hlt
      have hRM : ∀ w, Calls Tryz.prog 137 #[.int .i64 ((k : Int) + b), .int .i64 n] w fun e w' => e = .returned (.int .i64 (((k : Int) + b) % (n : Int))) ∧ w' = w := fun w => remG_any _ _ w (by omega) (by omega) (by omega) (by omega)
      obtain ⟨q, hq⟩ := Int.eq_ofNat_of_zero_le p1
      rw [hq] at hRM hset p2
      have HRM := Lib.hid hRM
      have hqn : q < n := by omega
      have hqt : ((q : Nat) : Int).toNat = q := by omega
      rw [hqt] at hset
      obtain ⟨g, hg, hge, hgl, hcell, hfr, hst⟩ := Ow.at_ HO.out hqn
      injection hg with hg
      injection hg with hg
      subst hg
      have hck2 : wr.cell? ⟨w.heap.size, q, none⟩ = some ((movV xs n b k)[q]'(by rw [movV_len]; exact hqn)) := (hcell q hqn).trans (List.getElem?_eq_getElem _)
      generalize (movV xs n b k)[q]'(by rw [movV_len]; exact hqn) = u0 at hck2
      have hfr2 := hfr q
      have hst2 := hst q (cv (nth xs k))
      rw [hset] at hst2
      have HS := Lib.hid hst2
      clear hst2 hcell hfr hst hb hc hset hRM hq p1 hqt hx
      generalize nth xs k = x at *
      unfold cv at hck HS
      go_wp2_with fail
      refine (HRM.out _).mono ?_
      rintro e w3 ⟨rfl, hw3⟩
      obtain rfl := hw3.symm
      go_wp2_with fail
      go_roundw
      case rel => exact ⟨k + 1, by omega, by go_num, HS.out, HB.out.setCell (Nat.le_refl _) _⟩
      case measure => simp [intOf]; omega
    · obtain rfl : k = n := by omega
      clear hb hx
      go_wp2_with fail
      go_ret
      refine ⟨_, _, _, rfl, ?_, HB.out⟩
      have := HO.out
      rw [movV_full] at this
      exact this
end Go.Proofs.YtnomlkkhkacajaaGreatDoor
