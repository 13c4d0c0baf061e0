/- The law FnExactReadJournal, walked. -/
import Derived.Test.YtemcdeopehdggaaDoorJ16
namespace Go.Proofs.YtemcdeopehdggaaDoor
open Go.RowKit
open Go.Lib hiding intOf

theorem Ds.belowB {w1 w w' : World} {A : Option Addr} {n : Nat} {ds : List Dd} (h : Ds w A n ds) (hb : Below w1.heap.size w w') (h1 : Ds w1 A n ds) : Ds w' A n ds := by
  refine ⟨h.1, ?_⟩
  rcases h.2 with h0 | ⟨b, o, rfl, hlt, hc⟩
  · exact .inl h0
  · rcases h1.2 with h0 | ⟨b', o', hA, hlt', _⟩
    · exact .inl h0
    · injection hA with hA
      injection hA with hA
      subst hA
      refine .inr ⟨b, o, rfl, Nat.lt_of_lt_of_le hlt hb.size, fun k a ha => ?_⟩
      obtain ⟨c0, c1, c2⟩ := hc k a ha
      exact ⟨(hb.cell (p := ⟨b, _, none⟩) hlt').trans c0, (hb.cell (p := ⟨b, _, none⟩) hlt').trans c1, (hb.cell (p := ⟨b, _, none⟩) hlt').trans c2⟩
/-- Deeds that are marked. -/
def mkD (k : Int) (i : Nat) : Dd := ⟨k + 3 * i, k + 3 * i + 1, mT (k + 3 * i + 2)⟩
def mkL (k : Int) (n : Nat) : List Dd := (List.range n).map (mkD k)
theorem mkL_len (k : Int) (n : Nat) : (mkL k n).length = n := by simp [mkL]
theorem mkL_get (k : Int) {n i : Nat} (h : i < n) : (mkL k n)[i]? = some (mkD k i) := by simp [mkL, h]
theorem mkL_succ (k : Int) (n : Nat) : mkL k (n + 1) = mkL k n ++ [mkD k n] := by simp [mkL, List.range_succ]
theorem mk_set (k : Int) (ds : List Dd) {i : Nat} (h : i < ds.length) : (mkL k i ++ ds.drop i).set i (mkD k i) = mkL k (i + 1) ++ ds.drop (i + 1) := by
  rw [List.set_append_right _ _ (by rw [mkL_len]; exact Nat.le_refl _), mkL_len, Nat.sub_self, List.drop_eq_getElem_cons h, List.set_cons_zero, mkL_succ, List.append_assoc]
  rfl
theorem row_below {w w' : World} {B n s : Nat} {E : TypeId} {v : Value} {vs : List Value} (h : w.ownsRow B E s v n vs) (hb : Below w.heap.size w w') : w'.ownsRow B E s v n vs := by
  refine ⟨h.1, ?_⟩
  rcases h.2 with hn | ⟨g, cap, cur, hv, hg, hh, r⟩
  · exact .inl hn
  · exact .inr ⟨g, cap, cur, hv, hg, by rw [hb.block g (Array.getElem?_eq_some_iff.1 hh).1]; exact hh, r⟩
set_option maxHeartbeats 2000000 in
set_option maxRecDepth 100000 in
theorem markDeedS_any (B : Nat) (A : Option Addr) (n c : Nat) (k : Int) (ds : List Dd) (w : World) (hn : n ≤ 16777216) (hk0 : 0 ≤ k) (hk : k ≤ 16777216) (ho : Od w B (.slice A n c) n ds) (hB : B ≤ w.heap.size) :
    Calls Tryd.prog 43 #[.slice A n c, .int .i64 k] w fun e w' => e = .returned (.int .i64 (k + 3 * n)) ∧ Od w' B (.slice A n c) n (mkL k n) ∧ Below B w w' := by
  have hln : ds.length = n := ho.len
  have HO := Lib.hid ho
  have HL := Lib.hid hln
  clear ho hln
  go_enter Tryd.func43, Tryd.ntmps43
  go_wp2_with fail
  go_loopw [1, 5] (fun kv iv wr => ∃ i : Nat, i ≤ n ∧ iv = .int .i64 i ∧ kv = .int .i64 (k + 3 * i) ∧ Od wr B (.slice A n c) n (mkL k i ++ ds.drop i) ∧ Below B w wr) (fun _ iv _ => n - (intOf iv).toNat)
  case atStart => exact ⟨0, by omega, rfl, by simp, by simpa [mkL] using HO.out, Below.refl _ _⟩
  case round =>
    obtain ⟨i, hi, rfl, rfl, ho, hb⟩ := hrel
    have HO2 := Lib.hid ho
    have HB := Lib.hid hb
    clear ho hb
    by_cases hlt : i < n
    · obtain ⟨g, a, hA, ha, c0, c1, c2, hgl⟩ := HO2.out.cells hlt
      subst hA
      have hgB := (World.ownsRow.lt HO2.out g rfl).1
      have f0 : wr.frozen? ⟨g, i * 3, none⟩ = false := World.ownsRow.frozenAt HO2.out _
      have f1 : wr.frozen? ⟨g, i * 3 + 1, none⟩ = false := World.ownsRow.frozenAt HO2.out _
      have HM := Lib.hid (fun w => markText_any (k + 3 * i + 2) w (by omega))
      have e1 : IntKind.i64.wrap (k + 3 * (i : Int) + 1) = k + 3 * i + 1 := IntWalk.i64_in _ (by omega)
      have e2 : IntKind.i64.wrap (k + 3 * (i : Int) + 1 + 1) = k + 3 * i + 2 := by rw [show k + 3 * (i : Int) + 1 + 1 = k + 3 * i + 2 by omega]; exact IntWalk.i64_in _ (by omega)
      have e3 : IntKind.i64.wrap (k + 3 * (i : Int) + 2 + 1) = k + 3 * ((i + 1 : Nat) : Int) := by rw [show k + 3 * (i : Int) + 2 + 1 = k + 3 * ((i + 1 : Nat) : Int) by omega]; exact IntWalk.i64_in _ (by omega)
      have hl3 : ((mkL k i ++ ds.drop i).flatMap dcs).length = n * 3 := by rw [dcs_len, HO2.out.len]
      have h1 := (World.ownsRow.stored HO2.out (i * 3) (.int .i64 (k + 3 * i))).1
      have h2 := (World.ownsRow.stored h1 (i * 3 + 1) (.int .i64 (k + 3 * i + 1))).1
      have HR2 := Lib.hid h2
      have HBS : Hid (Below B w ((wr.setCell ⟨g, i * 3, none⟩ (.int .i64 (k + 3 * i))).setCell ⟨g, i * 3 + 1, none⟩ (.int .i64 (k + 3 * i + 1)))) :=
        (HB.out.setCell (p := ⟨g, i * 3, none⟩) hgB _).setCell (p := ⟨g, i * 3 + 1, none⟩) hgB _
      have HE2 : Hid (((((mkL k i ++ ds.drop i).flatMap dcs).set (i * 3) (.int .i64 (k + 3 * i))).set (i * 3 + 1) (.int .i64 (k + 3 * i + 1)))[i * 3 + 2]? = some (.string (bs a.text))) := by
        show _ = _
        rw [List.getElem?_set_ne (by omega), List.getElem?_set_ne (by omega)]
        exact (dcs_get ha).2.2
      have HNX : Hid (((((mkL k i ++ ds.drop i).flatMap dcs).set (i * 3) (.int .i64 (k + 3 * i))).set (i * 3 + 1) (.int .i64 (k + 3 * i + 1))).set (i * 3 + 2) (.string (bs (mT (k + 3 * i + 2)))) = (mkL k (i + 1) ++ ds.drop (i + 1)).flatMap dcs) := by
        show _ = _
        have := flat_set (ds := mkL k i ++ ds.drop i) (k := i) (by have := HO2.out.len; omega) (mkD k i)
        rw [mk_set k ds (by rw [HL.out]; exact hlt)] at this
        exact this
      clear ha h1 h2 hl3
      go_wp2_with fail
      refine (HM.out _).mono ?_
      rintro e w1 ⟨rfl, hb1⟩
      have h3 := row_below HR2.out hb1
      have d2 : w1.cell? ⟨g, i * 3 + 2, none⟩ = some (.string (bs a.text)) := (World.ownsRow.cellAt h3 _ (by omega)).trans HE2.out
      have f2 : w1.frozen? ⟨g, i * 3 + 2, none⟩ = false := World.ownsRow.frozenAt h3 _
      have HB1 : Hid (Below B w w1) := HBS.out.trans (hb1.mono (Nat.le_trans hB HBS.out.size))
      have h4 := (World.ownsRow.stored h3 (i * 3 + 2) (.string (bs (mT (k + 3 * i + 2))))).1
      rw [HNX.out] at h4
      have HO4 : Hid (Od (w1.setCell ⟨g, i * 3 + 2, none⟩ (.string (bs (mT (k + 3 * i + 2))))) B (.slice (some ⟨g, 0, none⟩) n c) n (mkL k (i + 1) ++ ds.drop (i + 1))) := h4
      have HB4 : Hid (Below B w (w1.setCell ⟨g, i * 3 + 2, none⟩ (.string (bs (mT (k + 3 * i + 2)))))) := HB1.out.setCell (p := ⟨g, i * 3 + 2, none⟩) hgB _
      clear hb1 h3 h4 c0 c1 c2 f0 f1
      go_wp2_with fail
      go_roundw
      case rel => exact ⟨i + 1, by omega, by go_num, by first | rfl | go_num, HO4.out, HB4.out⟩
      case measure => simp [intOf]; omega
    · obtain rfl : i = n := by omega
      have HR := Lib.hid HO2.out
      go_wp2_with fail
      go_ret
      refine ⟨rfl, ?_, HB.out⟩
      have h := HO2.out
      rw [List.drop_of_length_le (by rw [HL.out]; exact Nat.le_refl _), List.append_nil] at h
      exact h
set_option maxHeartbeats 2000000 in
set_option maxRecDepth 100000 in
theorem heldDeedS_any (A : Option Addr) (n c : Nat) (k : Int) (w : World) (hn : n ≤ 16777216) (hk0 : 0 ≤ k) (hk : k ≤ 16777216) (hd : Ds w A n (mkL k n)) :
    Calls Tryd.prog 44 #[.slice A n c, .int .i64 k] w fun e w' => e = .returned (.int .i64 (k + 3 * n)) ∧ Below w.heap.size w w' := by
  have HD := Lib.hid hd
  clear hd
  go_enter Tryd.func44, Tryd.ntmps44
  go_wp2_with fail
  go_loopw [1, 5] (fun kv iv wr => ∃ i : Nat, i ≤ n ∧ iv = .int .i64 i ∧ kv = .int .i64 (k + 3 * i) ∧ Below w.heap.size w wr) (fun _ iv _ => n - (intOf iv).toNat)
  case atStart => exact ⟨0, by omega, rfl, by simp, Below.refl _ _⟩
  case round =>
    obtain ⟨i, hi, rfl, rfl, hb⟩ := hrel
    have HB := Lib.hid hb
    clear hb
    by_cases hlt : i < n
    · obtain ⟨b, o, a, rfl, hbl, ha, x0, x1, x2⟩ := (HD.out.below HB.out).at_ hlt
      rw [mkL_get k hlt] at ha
      obtain rfl : mkD k i = a := by injection ha
      have c0 : wr.cell? ⟨b, o + i * 3, none⟩ = some (.int .i64 (k + 3 * i)) := x0
      have c1 : wr.cell? ⟨b, o + i * 3 + 1, none⟩ = some (.int .i64 (k + 3 * i + 1)) := x1
      have c2 : wr.cell? ⟨b, o + i * 3 + 2, none⟩ = some (.string (bs (mT (k + 3 * i + 2)))) := x2
      have HM := Lib.hid (fun w => markText_any (k + 3 * i + 2) w (by omega))
      have hto := bs_toList (mT (k + 3 * i + 2))
      have e1 : IntKind.i64.wrap (k + 3 * (i : Int) + 1) = k + 3 * i + 1 := IntWalk.i64_in _ (by omega)
      have e2 : IntKind.i64.wrap (k + 3 * (i : Int) + 1 + 1) = k + 3 * i + 2 := by rw [show k + 3 * (i : Int) + 1 + 1 = k + 3 * i + 2 by omega]; exact IntWalk.i64_in _ (by omega)
      have e3 : IntKind.i64.wrap (k + 3 * (i : Int) + 2 + 1) = k + 3 * ((i + 1 : Nat) : Int) := by rw [show k + 3 * (i : Int) + 2 + 1 = k + 3 * ((i + 1 : Nat) : Int) by omega]; exact IntWalk.i64_in _ (by omega)
      have hk0 : (0 : Int) ≤ (i : Int) := by omega
      have hkn : (i : Int) < (n : Int) := by omega
      clear ha x0 x1 x2
      go_wp2_with fail
      go_region_law ((go_simp; go_at_call 79; (with_reducible refine Calls.mono (HM.out _) ?_); rintro e w1 ⟨rfl, hb1⟩; have d2 : w1.cell? ⟨b, o + i * 3 + 2, none⟩ = some (.string (bs (mT (k + 3 * i + 2)))) := ((below_of_drew hb1).cell (p := ⟨b, o + i * 3 + 2, none⟩) hbl).trans c2; have HB1 : Hid (Below w.heap.size w w1) := HB.out.trans ((below_of_drew hb1).mono HB.out.size); clear hb1))
      all_goals
        go_wp2_with fail
        go_roundw
        case rel => exact ⟨i + 1, by omega, by go_num, by first | rfl | go_num, HB1.out⟩
        case measure => simp [intOf]; omega
    · obtain rfl : i = n := by omega
      go_wp2_with fail
      go_ret
      exact ⟨rfl, HB.out⟩
set_option maxHeartbeats 4000000 in
set_option maxRecDepth 100000 in
theorem exactReadJournal (l : Txt) (w : World) (hl : l.length ≤ 9223372036854775807) (hE : EnvX w) :
    Calls Tryd.prog 11 #[.string (bs l)] w fun e w' => e = .returned (.bool true) ∧ Below w.heap.size w w' := by
  have HE := Lib.hid hE
  have hsz := bs_size l
  clear hE
  by_cases hbig : 1048576 < l.length
  · go_enter Tryd.func11, Tryd.ntmps11
    go_wp2_with fail
    go_ret
    exact ⟨rfl, Below.refl _ _⟩
  have HS := Lib.hid (fun w => sReadJournal l (by omega) w)
  have HI := Lib.hid (fun w h => iReadJournal l (by omega) w h)
  have hrl := (rj_back l)
  have hlen : (rj l).1.length ≤ 1048576 := by
    have h1 := congrArg List.length hrl.2.1
    have h2 : ∀ ds : List Dd, ds.length ≤ (jAll ds).length := fun ds => by
      induction ds with
      | nil => simp
      | cons a r ih =>
        have e : jAll (a :: r) = dText a ++ 10 :: jAll r := by simp [jAll]
        rw [e, List.length_append, List.length_cons, List.length_cons]; omega
    have h3 := h2 (rj l).1
    rw [h1, List.length_take] at h3
    omega
  obtain ⟨n, hn⟩ : ∃ n, n = (rj l).1.length := ⟨_, rfl⟩
  rw [← hn] at hlen
  have HN := Lib.hid hn
  have HQ := Lib.hid (fun A A' c c' w h1 h2 => eqDeedS_same A A' n c c' (rj l).1 w (by omega) h1 h2)
  have HM := Lib.hid (fun B A c w h1 h2 => markDeedS_any B A n c 1 (rj l).1 w (by omega) (by omega) (by omega) h1 h2)
  have HH := Lib.hid (fun A c w h1 => heldDeedS_any A n c 1 w (by omega) (by omega) (by omega) h1)
  have hm1 : ¬ (1 + 3 * (n : Int)) < 0 := by omega
  generalize (rj l).2 = q at *
  clear hrl hn
  go_enter Tryd.func11, Tryd.ntmps11
  go_wp2_with fail
  refine (HS.out w).mono ?_
  rintro e w1 ⟨A1, m1, c1, rfl, ho1, hb1⟩
  obtain rfl : m1 = n := by rw [HN.out]; exact ho1.len.symm
  have HX1 := Lib.hid ho1.toDs
  have HB1 := Lib.hid hb1
  clear ho1 hb1
  go_wp2_with fail
  refine (HI.out w1 (HE.out.kp (Kp.below HB1.out))).mono ?_
  rintro e w2 ⟨A2, m2, c2, rfl, ho2, hb2⟩
  obtain rfl : m2 = m1 := by rw [HN.out]; exact ho2.len.symm
  have HX2 := Lib.hid (HX1.out.below hb2)
  have HG2 := Lib.hid ho2
  have HB2 : Hid (Below w.heap.size w w2) := HB1.out.trans (hb2.mono HB1.out.size)
  have HZ2 := Lib.hid hb2.size
  clear ho2 hb2
  go_wp2_with fail
  refine (HQ.out A2 A1 c2 c1 w2 HG2.out.toDs HX2.out).mono ?_
  rintro e w3 ⟨rfl, hb3⟩
  have HX3 := Lib.hid (HX2.out.below hb3)
  have HG3 := Lib.hid (HG2.out.below hb3)
  have HB3 : Hid (Below w.heap.size w w3) := HB2.out.trans (hb3.mono HB2.out.size)
  have HZ3 : Hid (w1.heap.size ≤ w3.heap.size) := Nat.le_trans HZ2.out hb3.size
  clear hb3
  go_wp2_with fail
  refine (HM.out w1.heap.size A2 c2 w3 HG3.out HZ3.out).mono ?_
  rintro e w4 ⟨rfl, ho4, hb4⟩
  have HG4 := Lib.hid ho4
  have HX4 : Hid (Ds w4 A1 m2 (rj l).1) := HX3.out.belowB hb4 HX1.out
  have HB4 : Hid (Below w.heap.size w w4) := HB3.out.trans (hb4.mono HB1.out.size)
  have HZ4 : Hid (w1.heap.size ≤ w4.heap.size) := Nat.le_trans HZ3.out hb4.size
  clear ho4 hb4
  go_wp2_with fail
  refine (HH.out A2 c2 w4 HG4.out.toDs).mono ?_
  rintro e w5 ⟨rfl, hb5⟩
  have HX5 := Lib.hid (HX4.out.below hb5)
  have HG5 := Lib.hid (HG4.out.below hb5)
  have HB5 : Hid (Below w.heap.size w w5) := HB4.out.trans (hb5.mono HB4.out.size)
  clear hb5
  go_wp2_with fail
  refine (HI.out w5 (HE.out.kp (Kp.below HB5.out))).mono ?_
  rintro e w6 ⟨A6, m6, c6, rfl, ho6, hb6⟩
  obtain rfl : m6 = m2 := by rw [HN.out]; exact ho6.len.symm
  have HX6 := Lib.hid (HX5.out.below hb6)
  have HG6 := Lib.hid (HG5.out.below hb6)
  have HH6 := Lib.hid ho6.toDs
  have HB6 : Hid (Below w.heap.size w w6) := HB5.out.trans (hb6.mono HB5.out.size)
  clear ho6 hb6
  go_wp2_with fail
  refine (HQ.out A6 A1 c6 c1 w6 HH6.out HX6.out).mono ?_
  rintro e w7 ⟨rfl, hb7⟩
  have HG7 := Lib.hid (HG6.out.below hb7)
  have HB7 : Hid (Below w.heap.size w w7) := HB6.out.trans (hb7.mono HB6.out.size)
  clear hb7
  go_wp2_with fail
  refine (HH.out A2 c2 w7 HG7.out.toDs).mono ?_
  rintro e w8 ⟨rfl, hb8⟩
  have HB8 : Hid (Below w.heap.size w w8) := HB7.out.trans (hb8.mono HB7.out.size)
  clear hb8
  go_wp2_with fail
  go_ret
  exact ⟨rfl, HB8.out⟩
end Go.Proofs.YtemcdeopehdggaaDoor
