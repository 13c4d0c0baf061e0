/- Tones: the program's function. -/
import Derived.Test.YtficlmnjbbpicaaR1
namespace Go.Proofs.Ytficlmnjbbpicaa
open Go.RowKit Go.Shelf
attribute [local go_sem] Oper.semAt_some

def p2I (p : Int) : Bool := p == 1 || p == 2 || p == 4 || p == 8 || p == 16
theorem p2I_iff {p : Int} : p2I p = true ↔ p = 1 ∨ p = 2 ∨ p = 4 ∨ p = 8 ∨ p = 16 := by simp [p2I]; omega
theorem p2I_nat (n : Nat) : p2I (n : Int) = p2B n := by
  rw [Bool.eq_iff_iff, p2I_iff, p2B_iff]; omega
set_option maxHeartbeats 400000 in
theorem powI_any (p : Int) (w : World) : Calls Try.prog 68 #[.int .i64 p] w fun e w' => e = .returned (.bool (p2I p)) ∧ w' = w := by
  by_cases hp : 0 ≤ p
  · obtain ⟨n, rfl⟩ := Int.eq_ofNat_of_zero_le hp
    have := pow_any n w
    rw [← p2I_nat] at this
    exact this
  · have hb : p2I p = false := by
      cases h : p2I p
      · rfl
      · have := p2I_iff.1 h; omega
    rw [hb]
    have c1 : (p == 1) = false := by rw [beq_eq_false_iff_ne]; omega
    have c2 : (p == 2) = false := by rw [beq_eq_false_iff_ne]; omega
    have c3 : (p == 4) = false := by rw [beq_eq_false_iff_ne]; omega
    have c4 : (p == 8) = false := by rw [beq_eq_false_iff_ne]; omega
    have c5 : (p == 16) = false := by rw [beq_eq_false_iff_ne]; omega
    clear hb hp
    go_enter Try.func68, Try.ntmps68
    go_wp2_with fail
    go_ret
    exact ⟨rfl, rfl⟩
theorem turnsOf_any (p k : Int) (w : World) : Calls Try.prog 69 #[.int .i64 p, .int .i64 k] w fun e w' =>
    e = .returned (.func (.func 102) #[] #[.pointer (some ⟨w.heap.size, 0, none⟩), .pointer (some ⟨w.heap.size + 1, 0, none⟩)]) ∧ w' = (w.alloc (.cells #[.int .i64 p] 3)).alloc (.cells #[.int .i64 k] 3) := by
  go_enter Try.func69, Try.ntmps69
  go_wp2_with fail
  go_ret
  exact ⟨rfl, rfl⟩

/-- The numbers of a tone. -/
def tonL (n : Nat) (b : Int) : List C := (List.range n).map fun i : Nat => turnC (b * (i : Int))
theorem tonL_len (n : Nat) (b : Int) : (tonL n b).length = n := by simp [tonL]
theorem tonL_nth {n i : Nat} (b : Int) (h : i < n) : nth (tonL n b) i = turnC (b * (i : Int)) := by
  rw [nth_eq (by rw [tonL_len]; exact h)]; simp [tonL]
def tonB (p k : Int) : Bool := p2I p && decide (0 ≤ k) && decide (k < p)
def tonF (p k : Int) : List C := if tonB p k then tonL p.toNat (16 / p * k) else []
theorem tonF_no {p k : Int} (h : p2I p = false ∨ k < 0 ∨ p ≤ k) : tonF p k = [] := by
  have : tonB p k = false := by
    unfold tonB
    rcases h with h | h | h
    · rw [h]; rfl
    · rw [decide_eq_false (show ¬ 0 ≤ k by omega), Bool.and_false]; rfl
    · rw [decide_eq_false (show ¬ k < p by omega), Bool.and_false]
  unfold tonF; rw [this]; rfl
theorem tonF_yes {n : Nat} {k : Int} (h : p2B n = true) (h0 : 0 ≤ k) (h1 : k < n) : tonF (n : Int) k = tonL n (16 / (n : Int) * k) := by
  unfold tonF tonB
  rw [p2I_nat, h, decide_eq_true h0, decide_eq_true h1]; rfl
/-- What the row holds while it is filled. -/
def tonV (n : Nat) (b : Int) (pre : List (TI n)) : List Value := (List.range n).map fun i : Nat => if i ∈ pre.map (·.1) then cv (turnC (b * (i : Int))) else .complex .f32 0 0
theorem tonV_len (n : Nat) (b : Int) (pre : List (TI n)) : (tonV n b pre).length = n := by simp [tonV]
theorem tonV_nil (n : Nat) (b : Int) : tonV n b [] = List.replicate n (.complex .f32 0 0) := by
  refine List.ext_getElem (by simp [tonV]) fun i h1 h2 => ?_
  simp [tonV]
theorem tonV_set (n : Nat) (b : Int) (pre : List (TI n)) (x : TI n) : (tonV n b pre).set x.1 (cv (turnC (b * (x.1 : Int)))) = tonV n b (pre ++ [x]) := by
  refine List.ext_getElem (by simp [tonV]) fun i h1 h2 => ?_
  rw [List.getElem_set]
  by_cases hx : x.1 = i
  · rw [if_pos hx]
    simp [tonV, ← hx]
  · rw [if_neg hx]
    have hx' : ¬ i = x.1 := fun h => hx h.symm
    simp [tonV, hx']
theorem upT_mem (n : Nat) : ∀ m h i, i < m → i ∈ (upT n m h).map (·.1)
  | 0, _, i, hi => absurd hi (Nat.not_lt_zero _)
  | m + 1, h, i, hi => by
    unfold upT
    rw [List.map_append, List.mem_append]
    by_cases him : i < m
    · exact .inl (upT_mem n m _ i him)
    · exact .inr (by simp; omega)
theorem tonV_all (n : Nat) (b : Int) : tonV n b (upT n n (Nat.le_refl _)) = (tonL n b).map cv := by
  refine List.ext_getElem (by simp [tonV, tonL]) fun i h1 h2 => ?_
  have hi : i < n := by rw [tonV_len] at h1; exact h1
  have := upT_mem n n (Nat.le_refl _) i hi
  simp only [tonV, tonL, List.getElem_map, List.getElem_range, if_pos this]

set_option maxHeartbeats 4000000 in
set_option maxRecDepth 100000 in
theorem iTone (p k : Int) (w : World) : Calls Try.prog 24 #[.int .i64 p, .int .i64 k] w (RetS w (tonF p k)) := by
  have HP : Hid (∀ w, Calls Try.prog 68 #[.int .i64 p] w fun e w' => e = .returned (.bool (p2I p)) ∧ w' = w) := fun w => powI_any p w
  cases hb : p2I p
  · rw [hb] at HP
    have HN := Lib.hid (tonF_no (k := k) (.inl hb))
    clear hb
    go_enter Try.func24, Try.ntmps24
    go_wp2_with fail
    refine (HP.out _).mono ?_
    rintro e w' ⟨rfl, rfl⟩
    go_wp2_with fail
    go_ret
    rw [HN.out]
    exact RetS.nil_ (Below.refl _ _)
  rw [hb] at HP
  by_cases h0 : k < 0
  · have HN := Lib.hid (tonF_no (p := p) (.inr (.inl h0)))
    clear hb
    go_enter Try.func24, Try.ntmps24
    go_wp2_with fail
    refine (HP.out _).mono ?_
    rintro e w' ⟨rfl, rfl⟩
    go_wp2_with fail
    go_ret
    rw [HN.out]
    exact RetS.nil_ (Below.refl _ _)
  by_cases h1 : p ≤ k
  · have HN := Lib.hid (tonF_no (p := p) (.inr (.inr h1)))
    clear hb
    go_enter Try.func24, Try.ntmps24
    go_wp2_with fail
    refine (HP.out _).mono ?_
    rintro e w' ⟨rfl, rfl⟩
    go_wp2_with fail
    go_ret
    rw [HN.out]
    exact RetS.nil_ (Below.refl _ _)
  have hpp := p2I_iff.1 hb
  obtain ⟨n, rfl⟩ := Int.eq_ofNat_of_zero_le (show 0 ≤ p by omega)
  have hn2 : p2B n = true := by rw [← p2I_nat]; exact hb
  have hn16 : n ≤ 16 := by omega
  have HY := Lib.hid (tonF_yes hn2 (show 0 ≤ k by omega) (by omega))
  obtain ⟨b, hbk⟩ : ∃ b, b = 16 / (n : Int) * k := ⟨_, rfl⟩
  rw [← hbk] at HY
  have hbd := bk_bd hn2 (k := k) (by omega) (by omega)
  unfold bk at hbd
  rw [← hbk] at hbd
  have HST : Hid (∀ (Bp Bk : Nat) (w : World), Bp < w.heap.size → Bk < w.heap.size → w.cell? ⟨Bp, 0, none⟩ = some (.int .i64 n) → w.cell? ⟨Bk, 0, none⟩ = some (.int .i64 k) →
      SeqStopsK Fence.wide 2 Try.prog 102 #[.pointer (some ⟨Bp, 0, none⟩), .pointer (some ⟨Bk, 0, none⟩)] (encT n b) (KpT Bp Bk) (fun xs => xs = upT n n (Nat.le_refl _)) (fun _ => True) n w) := fun Bp Bk w a1 a2 a3 a4 =>
    turns_stops n k b hn2 hbk.symm hbd.1 hbd.2 Bp Bk w a1 a2 a3 a4
  have HTO : Hid (∀ w, Calls Try.prog 69 #[.int .i64 n, .int .i64 k] w fun e w' =>
    e = .returned (.func (.func 102) #[] #[.pointer (some ⟨w.heap.size, 0, none⟩), .pointer (some ⟨w.heap.size + 1, 0, none⟩)]) ∧ w' = (w.alloc (.cells #[.int .i64 n] 3)).alloc (.cells #[.int .i64 k] 3)) := fun w => turnsOf_any n k w
  clear hpp hb hn2 hbk hbd
  refine (callsIn_wide (n := 3)).1 ?_
  refine callsIn_of_wp_marks Try.func24 rfl trivial ?_ rfl
  simp only [Try.ntmps24, List.size_toArray, List.length_cons, List.length_nil, Nat.reduceAdd, Nat.reduceSub, Array.replicate_succ, Array.replicate_zero, List.push_toArray, List.append_toArray, List.nil_append, List.cons_append]
  gi_wp2_with (first
    | (refine ⟨trivial, ?_⟩; gi_at_call 68; (with_reducible refine CallsIn.mono (callsIn_wide.2 (HP.out _)) ?_); rintro e w' ⟨rfl, rfl⟩)
    | (gi_at_make; refine wlIn_make_full _ rfl (.tmp 20) (.tmp 20) 23 rfl Try.eC .i64 .i64 n _ _ rfl rfl rfl rfl (by omega) (by unfold maxLen; omega) ?_; intro w1 hown hb1; have HO1 := Lib.hid hown; have HB1 := Lib.hid hb1; clear hown hb1)
    | (refine ⟨trivial, ?_⟩; gi_at_call 69; (with_reducible refine CallsIn.mono (callsIn_wide.2 (HTO.out _)) ?_); rintro e w' ⟨rfl, rfl⟩))
  have hge := (Ow.ge HO1.out _ rfl).2
  have hge' : w'.heap.size < w1.heap.size := hge
  have HRW : Hid (Ow (((w1.alloc (.cells #[.slice (some ⟨w'.heap.size, 0, none⟩) n n] 23)).alloc (.cells #[.int .i64 n] 3)).alloc (.cells #[.int .i64 k] 3)) w'.heap.size 45 (.slice (some ⟨w'.heap.size, 0, none⟩) n n) n (tonV n b [])) := by
    show Ow _ _ _ _ _ _
    rw [tonV_nil]
    exact HO1.out.below ((((Below.refl _ w1).alloc (Nat.le_refl _) _).alloc (by simp) _).alloc (by simp; omega) _)
  have HBX : Hid (Boxed (((w1.alloc (.cells #[.slice (some ⟨w'.heap.size, 0, none⟩) n n] 23)).alloc (.cells #[.int .i64 n] 3)).alloc (.cells #[.int .i64 k] 3)) w1.heap.size 23 (.slice (some ⟨w'.heap.size, 0, none⟩) n n)) := ((Boxed.new _ _ _).alloc _).alloc _
  have HBL : Hid (Below w'.heap.size w' (((w1.alloc (.cells #[.slice (some ⟨w'.heap.size, 0, none⟩) n n] 23)).alloc (.cells #[.int .i64 n] 3)).alloc (.cells #[.int .i64 k] 3))) := ((HB1.out.alloc (by omega) _).alloc (by simp; omega) _).alloc (by simp; omega) _
  have c1 : (((w1.alloc (.cells #[.slice (some ⟨w'.heap.size, 0, none⟩) n n] 23)).alloc (.cells #[.int .i64 n] 3)).alloc (.cells #[.int .i64 k] 3)).cell? ⟨w1.heap.size + 1, 0, none⟩ = some (.int .i64 n) := by
    have := (Boxed.new (w1.alloc (.cells #[.slice (some ⟨w'.heap.size, 0, none⟩) n n] 23)) 3 (.int .i64 n)).alloc (.cells #[.int .i64 k] 3)
    rw [World.size_alloc] at this
    exact this.cell
  have c2 : (((w1.alloc (.cells #[.slice (some ⟨w'.heap.size, 0, none⟩) n n] 23)).alloc (.cells #[.int .i64 n] 3)).alloc (.cells #[.int .i64 k] 3)).cell? ⟨w1.heap.size + 1 + 1, 0, none⟩ = some (.int .i64 k) := by
    have := Boxed.new ((w1.alloc (.cells #[.slice (some ⟨w'.heap.size, 0, none⟩) n n] 23)).alloc (.cells #[.int .i64 n] 3)) 3 (.int .i64 k)
    rw [World.size_alloc, World.size_alloc] at this
    exact this.cell
  have hp : w1.heap.size + 1 < (((w1.alloc (.cells #[.slice (some ⟨w'.heap.size, 0, none⟩) n n] 23)).alloc (.cells #[.int .i64 n] 3)).alloc (.cells #[.int .i64 k] 3)).heap.size := by simp
  have hk : w1.heap.size + 1 + 1 < (((w1.alloc (.cells #[.slice (some ⟨w'.heap.size, 0, none⟩) n n] 23)).alloc (.cells #[.int .i64 n] 3)).alloc (.cells #[.int .i64 k] 3)).heap.size := by simp
  have hsz : w'.heap.size ≤ (((w1.alloc (.cells #[.slice (some ⟨w'.heap.size, 0, none⟩) n n] 23)).alloc (.cells #[.int .i64 n] 3)).alloc (.cells #[.int .i64 k] 3)).heap.size := HBL.out.size
  have HSQ := Lib.hid (HST.out (w1.heap.size + 1) (w1.heap.size + 1 + 1) _ hp hk c1 c2)
  generalize (((w1.alloc (.cells #[.slice (some ⟨w'.heap.size, 0, none⟩) n n] 23)).alloc (.cells #[.int .i64 n] 3)).alloc (.cells #[.int .i64 k] 3)) = W0 at *
  have HC12 : Hid (w'.heap.size ≠ w1.heap.size + 1 ∧ w'.heap.size ≠ w1.heap.size + 1 + 1 ∧ w1.heap.size ≠ w'.heap.size) := ⟨by omega, by omega, by omega⟩
  clear c1 c2
  refine wpIn_rangeFunc_ownF rfl (by omega) (gf := 102) (lb := #[.pointer (some ⟨w1.heap.size + 1, 0, none⟩), .pointer (some ⟨w1.heap.size + 1 + 1, 0, none⟩)]) rfl trivial (enters_of Try.func102 (by kernel_rfl) rfl)
    HSQ.out (fun h k => KpT.trans h k) (KpT.putObj hp hk) (Below.refl _ _) (fun _ => rfl)
    (fun pre W => (∃ v, Boxed W w1.heap.size 23 v ∧ W.ownsRow w'.heap.size 45 1 v n (tonV n b pre) ∧ v = .slice (some ⟨w'.heap.size, 0, none⟩) n n) ∧ Below w'.heap.size w' W)
    (fun _ _ _ => False)
    (OwnFrom.and (Own.from (holdsRow_own w'.heap.size w1.heap.size 23 45 1 (fun _ => n) (fun pre => tonV n b pre) (fun _ v => v = .slice (some ⟨w'.heap.size, 0, none⟩) n n)) _) (ownFrom_below (Nat.le_refl _) hsz))
    (fun _ _ _ _ _ hs _ _ => hs)
    ⟨⟨_, HBX.out, HRW.out, rfl⟩, HBL.out⟩
    (fun x => { tmps := #[.int .i64 n, .int .i64 k, undef, undef, .slice none 0 0, .pointer (some ⟨w1.heap.size, 0, none⟩), .int .i64 x.1, .complex .f32 (turnC (b * x.1)).1 (turnC (b * x.1)).2, .int .i64 n,
      .bool true, .bool false, .bool false, .int .i64 k, .bool (decide (k < 0)), .bool (decide (k < 0)), .bool (decide (k < 0)), .int .i64 k, .int .i64 n, .bool (decide ((n : Int) ≤ k)), .bool (decide (k < 0) || decide ((n : Int) ≤ k)), .int .i64 n,
      .slice (some ⟨w'.heap.size, 0, none⟩) n n, .int .i64 n, .int .i64 k, .func (.func 102) #[] #[.pointer (some ⟨w1.heap.size + 1, 0, none⟩), .pointer (some ⟨w1.heap.size + 1 + 1, 0, none⟩)],
      .int .i64 x.1, .complex .f32 (turnC (b * x.1)).1 (turnC (b * x.1)).2, undef, undef, undef, undef, undef], defers := [] }) ?assign ?body ?done ?stop
  case assign =>
    intro l x W K hK
    unfold encT
    gi_wp2
    exact hK
  case body =>
    rintro l pre ⟨i, hi⟩ W ⟨⟨v, hbx, hrow, rfl⟩, hB⟩ _
    have hc := hbx.cell
    have hOw : Ow W w'.heap.size 45 (.slice (some ⟨w'.heap.size, 0, none⟩) n n) n (tonV n b pre) := hrow
    obtain ⟨g, hg, hge3, hgl, hcell, hfr, hst⟩ := hOw.at_ hi
    injection hg with hg
    injection hg with hg
    subst hg
    have hck : W.cell? ⟨w'.heap.size, i, none⟩ = some ((tonV n b pre)[i]'(by rw [tonV_len]; exact hi)) := (hcell i hi).trans (List.getElem?_eq_getElem _)
    generalize (tonV n b pre)[i]'(by rw [tonV_len]; exact hi) = u0 at hck
    have hfr2 := hfr i
    have hi2 : (i : Int) < (n : Int) := by omega
    have HS : Hid (Ow (W.setCell ⟨w'.heap.size, i, none⟩ (cv (turnC (b * (i : Int))))) w'.heap.size 45 (.slice (some ⟨w'.heap.size, 0, none⟩) n n) n (tonV n b (pre ++ [⟨i, hi⟩]))) := by
      have := hst i (cv (turnC (b * (i : Int))))
      rw [tonV_set n b pre ⟨i, hi⟩] at this
      exact this
    have HBX2 := Lib.hid hbx
    have HB2 := Lib.hid hB
    clear hst hfr hcell hOw hrow hbx hB
    gi_wp2
    refine ⟨KeepsOthers.setCell _ _ _, ?_, ⟨⟨?_, HS.out⟩, HB2.out.setCell (p := ⟨w'.heap.size, i, none⟩) (Nat.le_refl _) _⟩⟩
    · exact ⟨by simp [World.setCell], Below.heap_setCell _ _ _ _ HC12.out.1.symm, Below.heap_setCell _ _ _ _ HC12.out.2.1.symm⟩
    · exact (Below.heap_setCell _ _ _ _ HC12.out.2.2).trans HBX2.out
  case done =>
    rintro D ys W hD rfl ⟨⟨v, hbx, hrow, rfl⟩, hB⟩ hK
    have hc := hbx.cell
    gi_wp2
    refine ⟨by simp, .inl ⟨_, _, rfl, run_takeDeferred hK, ?_⟩⟩
    refine ⟨_, results_tmp rfl _ _ _, ?_⟩
    rw [HY.out]
    refine ⟨_, _, _, rfl, ?_, hB.trans (belowK_b (w := W0) hsz W D _ _ hD hK rfl rfl)⟩
    have := ownsRow_putObj hrow (.deferred none) hK rfl
    rw [tonV_all] at this
    exact this
  case stop =>
    rintro D c pre W _ _ h _
    exact h.elim
end Go.Proofs.Ytficlmnjbbpicaa
