/- Great tones: the program's function and the reference's. -/
import Derived.Test.YtficlmnjbbpicaaV2
namespace Go.Proofs.Ytficlmnjbbpicaa
open Go.RowKit

def fth (ps : List Nat) (k : Nat) : Nat := ps.getD k 0
theorem fth_get {ps : List Nat} {k : Nat} (h : k < ps.length) : (ps.map fv)[k]? = some (.float .f64 (fth ps k)) := by
  unfold fth
  rw [List.getElem?_map, List.getElem?_eq_getElem h, List.getD_eq_getElem?_getD, List.getElem?_eq_getElem h]; rfl
theorem Sl.flt_at {w : World} {A : Option Addr} {n k : Nat} {ps : List Nat} (h : Sl w A n (ps.map fv)) (hk : k < n) :
    ∃ b o, A = some ⟨b, o, none⟩ ∧ b < w.heap.size ∧ ∀ j, j < n → w.cell? ⟨b, o + j, none⟩ = some (.float .f64 (fth ps j)) := by
  obtain ⟨b, o, hA, hb, hc⟩ := Sl.at_ h hk
  have hl := h.len
  rw [List.length_map] at hl
  exact ⟨b, o, hA, hb, fun j hj => hc j _ (fth_get (by omega))⟩
set_option maxHeartbeats 1000000 in
theorem iSumAll (A : Option Addr) (n c : Nat) (ps : List Nat) (w : World) (hn : n ≤ 16) (hx : Sl w A n (ps.map fv)) (hp : ∀ i, i < n → PwOk (fth ps i)) :
    Calls Try.prog 98 #[.slice A n c] w fun e w' => e = .returned (.float .f64 (smT (fth ps) n)) ∧ Dr w w' := by
  have HP := Lib.hid hp
  have HS : Hid (∀ i, i < n → floatBits .add .f64 (smT (fth ps) i) (fth ps i) = some (smT (fth ps) (i + 1))) := fun i hi => (smT_step (smT_ok hn hp i (by omega)).1 (hp i hi).1).1
  clear hp
  go_enter Try.func98, Try.ntmps98
  go_wp2_with fail
  go_loopw [3, 8] (fun s i wr => ∃ k : Nat, k ≤ n ∧ i = .int .i64 k ∧ s = .float .f64 (smT (fth ps) k) ∧ ∃ m, wr = w.drewN m) (fun _ i _ => n - (intOf i).toNat)
  case atStart => exact ⟨0, by omega, rfl, rfl, 0, rfl⟩
  case round =>
    obtain ⟨k, hk, rfl, rfl, m, rfl⟩ := hrel
    by_cases hlt : k < n
    · obtain ⟨b, o, rfl, hb, hc⟩ := hx.flt_at hlt
      have hck : (w.drewN m).cell? ⟨b, o + k, none⟩ = some (.float .f64 (fth ps k)) := hc k hlt
      have q1 := fun w => run_float_arith (P := Try.prog) w .add 48 .f64 _ _ _ (HS.out k hlt)
      clear hc hx
      go_wp2_with fail
      go_roundw
      case rel => exact ⟨k + 1, by omega, by go_num, rfl, m, rfl⟩
      case measure => simp [intOf]; omega
    · obtain rfl : k = n := by omega
      go_wp2_with fail
      go_ret
      exact ⟨rfl, m, rfl⟩

/-- Which tones are great. -/
def tonsL (ps : List Nat) (m : Int) : List Int := (List.range ps.length).map fun k => b2i (tonI (fth ps) ps.length m k)
theorem tonsL_len (ps : List Nat) (m : Int) : (tonsL ps m).length = ps.length := by simp [tonsL]
theorem tonsL_get {ps : List Nat} {n k : Nat} {m : Int} (hl : ps.length = n) (h : k < n) : ((tonsL ps m).map iv)[k]? = some (.int .i64 (b2i (tonI (fth ps) n m k))) := by
  subst hl
  simp [tonsL, h, iv]
def RetIS (w : World) (ys : List Int) (e : Ending) (w' : World) : Prop :=
  ∃ (A : Option Addr) (n c : Nat), n = ys.length ∧ e = .returned (.slice A n c) ∧ Ow w' w.heap.size 3 (.slice A n c) n (ys.map iv) ∧ Below w.heap.size w w'
theorem RetIS.empty {w w' : World} {c g : Nat} (ho : Ow w' w.heap.size 3 (.slice (some ⟨g, 0, none⟩) 0 c) 0 []) (h : Below w.heap.size w w') : RetIS w [] (.returned (.slice (some ⟨g, 0, none⟩) 0 c)) w' := ⟨_, _, _, rfl, rfl, ho, h⟩
/-- What both functions hand back. -/
def tonsO (f : C → Nat) (xs : List C) (m : Int) : List Int := match transF xs with
  | none => []
  | some l => if 0 ≤ m ∧ m ≤ 1000 then tonsL (pwL f l) m else []
theorem pwL_len (f : C → Nat) (l : List C) : (pwL f l).length = l.length := by simp [pwL]
theorem fth_pwL {f : C → Nat} {l : List C} {k : Nat} (h : k < l.length) : fth (pwL f l) k = f (nth l k) := by
  unfold fth pwL
  rw [List.getD_eq_getElem?_getD, List.getElem?_map, List.getElem?_eq_getElem h, nth_eq h]; rfl
theorem tonsO_same {xs : List C} {m : Int} (hg : Good xs) : tonsO pwS xs m = tonsO pwI xs m := by
  unfold tonsO
  cases ht : transF xs with
  | none => rfl
  | some l =>
    have hsz : sizB xs = true := by
      cases hs : sizB xs
      · rw [transF_no hs] at ht; cases ht
      · rfl
    obtain ⟨_, l', e', hl2, hmd⟩ := hg hsz
    rw [ht] at e'
    injection e' with e'
    subst e'
    obtain ⟨s1, s2, s3, s4, s5⟩ := siz_parts hsz
    simp only
    split
    · rename_i hm
      unfold tonsL
      rw [pwL_len, pwL_len]
      refine List.map_congr_left fun k hk => ?_
      have hkl := List.mem_range.1 hk
      rw [tonI_same (ps := fth (pwL pwS l)) (qs := fth (pwL pwI l)) (by omega) (fun i hi => by rw [fth_pwL hi]; exact (pwS_spec (hmd i (by omega)).1).2.2.1) (fun i hi => by rw [fth_pwL hi]; exact (pwI_spec (hmd i (by omega)).1).2.1) (fun i hi => by rw [fth_pwL hi, fth_pwL hi]; exact (pwS_spec (hmd i (by omega)).1).2.2.2) hkl hm.1 hm.2]
    · rfl

set_option maxHeartbeats 2000000 in
set_option maxRecDepth 100000 in
theorem iTones (A : Option Addr) (n c : Nat) (xs : List C) (m : Int) (w : World) (hn : n ≤ 1048576) (hx : Cs w A n xs) (hg : Good xs) :
    Calls Try.prog 56 #[.slice A n c, .int .i64 m] w (RetIS w (tonsO pwI xs m)) := by
  have HP : Hid (∀ w, Cs w A n xs → Calls Try.prog 97 #[.slice A n c] w (RetF w (pwL pwI ((transF xs).getD [])) (transF xs).isSome)) := fun w h => iPowers A n c xs w hn h hg
  cases ht : transF xs with
  | none =>
    have HN : Hid (tonsO pwI xs m = []) := by show _ = _; unfold tonsO; rw [ht]
    rw [ht] at HP
    clear ht hg
    go_enter Try.func56, Try.ntmps56
    go_wp2_with fail
    refine (HP.out w hx).mono ?_
    rintro e w1 ⟨A1, c1, rfl, ho1, hb1⟩
    simp only [Option.isSome_none]
    go_wp2_with fail
    go_ret
    rw [HN.out]
    exact ⟨_, _, _, rfl, rfl, Ow.nil_ _ _ _, hb1⟩
  | some l =>
    have hsz : sizB xs = true := by
      cases hs : sizB xs
      · rw [transF_no hs] at ht; cases ht
      · rfl
    obtain ⟨_, l', e', hl2, hmd⟩ := hg hsz
    rw [ht] at e'
    injection e' with e'
    subst e'
    obtain ⟨s1, s2, s3, s4, s5⟩ := siz_parts hsz
    have hPW : ∀ i, i < l.length → PwOk (fth (pwL pwI l) i) := fun i hi => by rw [fth_pwL hi]; exact (pwI_spec (hmd i (by omega)).1).2.1
    by_cases hm : 0 ≤ m ∧ m ≤ 1000
    case neg =>
      have HN : Hid (tonsO pwI xs m = []) := by show _ = _; unfold tonsO; rw [ht]; exact if_neg hm
      have key : m < 0 ∨ (0 ≤ m ∧ 1000 < m) := by omega
      rw [ht] at HP
      clear ht hg hmd hm hPW s1 s2 s3 s4 s5 hl2 hsz
      rcases key with h0 | ⟨h0, h1⟩
      all_goals
        go_enter Try.func56, Try.ntmps56
        go_wp2_with fail
        refine (HP.out w hx).mono ?_
        rintro e w1 ⟨A1, c1, rfl, ho1, hb1⟩
        simp only [Option.isSome_some]
        go_wp2_with fail
        go_ret
        rw [HN.out]
        exact ⟨_, _, _, rfl, rfl, Ow.nil_ _ _ _, hb1⟩
    obtain ⟨m0, m1⟩ := hm
    have HY : Hid (tonsO pwI xs m = tonsL (pwL pwI l) m) := by show _ = _; unfold tonsO; rw [ht]; exact if_pos ⟨m0, m1⟩
    rw [ht] at HP
    obtain ⟨N, hN⟩ : ∃ N, N = l.length := ⟨_, rfl⟩
    have h16 : N ≤ 16 := by omega
    rw [← hN] at hPW
    obtain ⟨ps, hps⟩ : ∃ ps, ps = pwL pwI l := ⟨_, rfl⟩
    have hpl : ps.length = N := by rw [hps, pwL_len, hN]
    have HPP : Hid (∀ w, Cs w A n xs → Calls Try.prog 97 #[.slice A n c] w (RetF w ps true)) := by
      rw [hps]
      exact HP.out
    rw [← hps] at HY hPW
    have HPW := Lib.hid hPW
    have HPL := Lib.hid hpl
    have hS := sm_274 h16 hPW
    have qT := fun w => run_float_arith (P := Try.prog) w .mul 48 .f64 _ _ _ (tw_spec hS.1 hS.2.1 hS.2.2 m0 m1).1
    have HM : Hid (∀ i, i < N → floatBits .mul .f64 (fth ps i) 4652007308841189376 = some (mw (fth ps i))) := fun i hi => (mw_spec (hPW i hi)).1
    have HTL : Hid (((tonsL ps m).map iv).length = N) := by show _ = _; rw [List.length_map, tonsL_len]; exact hpl
    clear ht hg hmd hPW s1 s2 s3 s4 s5 hl2 hsz hps hN HP hS hpl
    go_enter Try.func56, Try.ntmps56
    go_wp2_with fail
    refine (HPP.out w hx).mono ?_
    rintro e w1 ⟨A1, c1, rfl, ho1, hb1⟩
    rw [HPL.out] at ho1 ⊢
    have HX1 : Hid (Sl w1 A1 N (ps.map fv)) := ho1.sl
    have HB1 := Lib.hid hb1
    clear ho1 hb1 hx
    go_wp2_with fail
    refine (iSumAll A1 N c1 ps w1 h16 HX1.out HPW.out).mono ?_
    rintro e w2 ⟨rfl, k2, hw2⟩
    have HX2 : Hid (Sl w2 A1 N (ps.map fv)) := by rw [hw2]; exact HX1.out.drewN k2
    have HB2 : Hid (Below w.heap.size w w2) := by rw [hw2]; exact below_drewN HB1.out k2
    clear hw2
    have HTI : Hid (∀ k, k < N → ∀ b, tonI (fth ps) N m k = b → (FloatKind.f64.format.order (mw (fth ps k)) (tw (smT (fth ps) N) m) == some .gt) = b) := fun k hk b hb => hb
    generalize tw (smT (fth ps) N) m = tt at *
    go_wp2_with (at_make; refine wl_make (w0 := w2) rfl (.tmp 32) (.tmp 32) 22 rfl Try.eI .i64 .i64 N _ _ rfl rfl rfl rfl (by omega) (by unfold maxLen; omega) (Below.refl _ _) ?_; intro w3 hown hb3 _)
    have HO3 : Hid (Ow w3 w2.heap.size 3 (.slice (some ⟨w2.heap.size, 0, none⟩) N N) N (fill ((tonsL ps m).map iv) N 0 (.int .i64 0))) := by
      show Ow _ _ _ _ _ _
      rw [fill_zero]
      exact hown
    have HB3 := Lib.hid hb3
    clear hown hb3
    go_loopw [36] (fun i wr => ∃ k : Nat, k ≤ N ∧ i = .int .i64 k ∧ Ow wr w2.heap.size 3 (.slice (some ⟨w2.heap.size, 0, none⟩) N N) N (fill ((tonsL ps m).map iv) N k (.int .i64 0)) ∧ Below w2.heap.size w2 wr) (fun i _ => N - (intOf i).toNat)
    case atStart => exact ⟨0, by omega, rfl, HO3.out, HB3.out⟩
    case round =>
      obtain ⟨k, hk, rfl, ho, hb⟩ := hrel
      have HO := Lib.hid ho
      have HB := Lib.hid hb
      clear ho
      by_cases hlt : k < N
      · obtain ⟨b, o, rfl, hbl, hc⟩ := HX2.out.flt_at hlt
        have hck : wr.cell? ⟨b, o + k, none⟩ = some (.float .f64 (fth ps k)) := (hb.cell (p := ⟨b, o + k, none⟩) hbl).trans (hc k hlt)
        have q1 := fun w => run_float_arith (P := Try.prog) w .mul 48 .f64 _ _ _ (HM.out k hlt)
        have HGT := Lib.hid (tonsL_get (ps := ps) (m := m) HPL.out hlt)
        obtain ⟨g, hg, hge, hgl, hcell, hfr, hst⟩ := Ow.at_ HO.out hlt
        injection hg with hg
        injection hg with hg
        subst hg
        have hck2 : wr.cell? ⟨w2.heap.size, k, none⟩ = some (.int .i64 0) := (hcell k hlt).trans (fill_get HTL.out hlt _)
        have hfr2 := hfr k
        have HST := Lib.hid hst
        clear hcell hfr hst hb hc
        cases hti : tonI (fth ps) N m k
        · have o1 := HTI.out k hlt false hti
          have HS : Hid (Ow wr w2.heap.size 3 (.slice (some ⟨w2.heap.size, 0, none⟩) N N) N (fill ((tonsL ps m).map iv) N (k + 1) (.int .i64 0))) := by
            have h2 := HGT.out
            rw [hti] at h2
            have := fill_set HTL.out hlt (.int .i64 0) _ h2
            have e3 : (fill ((tonsL ps m).map iv) N k (.int .i64 0)).set k (.int .i64 (b2i false)) = fill ((tonsL ps m).map iv) N k (.int .i64 0) := by
              refine List.ext_getElem? fun j => ?_
              rw [List.getElem?_set]
              split
              · rename_i hkj
                subst hkj
                have h0 := fill_get HTL.out hlt (.int .i64 0)
                rw [h0]
                have hlen : k < (fill ((tonsL ps m).map iv) N k (.int .i64 0)).length := (List.getElem?_eq_some_iff.1 h0).1
                rw [if_pos hlen]; rfl
              · rfl
            rw [e3] at this
            show Ow _ _ _ _ _ _
            rw [← this]; exact HO.out
          clear hti
          go_wp2_with fail
          go_roundw
          case rel => exact ⟨k + 1, by omega, by go_num, HS.out, HB.out⟩
          case measure => simp [intOf]; omega
        · have o1 := HTI.out k hlt true hti
          have HS : Hid (Ow (wr.setCell ⟨w2.heap.size, k, none⟩ (.int .i64 1)) w2.heap.size 3 (.slice (some ⟨w2.heap.size, 0, none⟩) N N) N (fill ((tonsL ps m).map iv) N (k + 1) (.int .i64 0))) := by
            have h2 := HGT.out
            rw [hti] at h2
            have h3 := HST.out k (.int .i64 1)
            have := fill_set HTL.out hlt (.int .i64 0) (.int .i64 1) h2
            rw [this] at h3
            exact h3
          clear hti
          go_wp2_with fail
          go_roundw
          case rel => exact ⟨k + 1, by omega, by go_num, HS.out, HB.out.setCell (Nat.le_refl _) _⟩
          case measure => simp [intOf]; omega
      · obtain rfl : k = N := by omega
        have HR : Hid (RetIS w (tonsL ps m) (.returned (.slice (some ⟨w2.heap.size, 0, none⟩) k k)) wr) := by
          have h1 := HO.out
          rw [fill_full HTL.out] at h1
          exact ⟨_, _, _, by rw [tonsL_len]; exact HPL.out.symm, rfl, h1.mono HB2.out.size, HB2.out.trans (HB.out.mono HB2.out.size)⟩
        clear hb
        go_wp2_with fail
        go_ret
        rw [HY.out]
        exact HR.out
end Go.Proofs.Ytficlmnjbbpicaa
