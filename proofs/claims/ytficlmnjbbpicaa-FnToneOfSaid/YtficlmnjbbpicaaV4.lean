/- Great tones: the reference's function; the draw of the law. -/
import Derived.Test.YtficlmnjbbpicaaV3
import Derived.Test.YtficlmnjbbpicaaR1
import Derived.Test.YtficlmnjbbpicaaD7
namespace Go.Proofs.Ytficlmnjbbpicaa
open Go.RowKit

section
variable {P : Program} {w : World} {ops : Array Oper} {rest : List Oper} {o : Oper} {a : Act} {Q : Exit → Act → World → Prop}
/-- append(out, us...), where all but the row itself stays. -/
theorem wl_appG (B : Nat) (us : List Value) (hB : B ≤ w.heap.size) (hgd : o.guard = none) (s x : Operand) (t : TypeId) (ho : o.op = .call { callee := .builtin .append, args := #[s, x], argTypes := #[t, t] })
    {E : TypeId} {z : Value} {bytes : Nat} (he : Elem P t E z bytes) (v : Value) (n : Nat) (vs : List Value) (hs : a.eval s = v) (hown : Ow w B E v n vs)
    (hx : a.eval x = .slice (some ⟨w.heap.size, 0, none⟩) us.length us.length) (hu : ∀ u ∈ us, u.oneCell' = true) (h63 : n + us.length ≤ maxLen) (hbytes : (n + us.length) * bytes ≤ 140737488355328)
    (h : ∀ v' w', Ow w' B E v' (n + us.length) (vs ++ us) → Below B w w' → (∀ b, b < w.heap.size → v.ownBlock ≠ some b → w'.heap[b]? = w.heap[b]?) → wpList P ops Q rest (a.put o.dst v') w') : wpList P ops Q (o :: rest) a (w.alloc (.cells us.toArray E)) := by
  obtain ⟨i, h2, h3, h4, h5⟩ := he.info
  subst h5
  refine wpList_append_own (w.alloc (.cells us.toArray E)) hgd s x t ho B E i z 1 i.bytes he.und h2 h3 h4 rfl (by rw [he.one]; rfl) (by decide) v n vs hs (World.ownsRow.alloc hown _) ⟨w.heap.size, 0, none⟩ us.length us.length us hx (by simp) ?_ hu h63 hbytes ?_ ?_
  · intro j u' hj
    have hj' := (List.getElem?_eq_some_iff.1 hj).1
    rw [add_none0, World.cell?_alloc_at _ _ _ _ rfl]
    simpa using hj
  · simp
    omega
  · intro v' w' h1 h2 _
    refine h v' w' h1 (((Below.refl B w).alloc hB _).grown h2 (by simp; omega) ?_) fun b hb hne => ?_
    · intro k hk
      exact (World.ownsRow.lt hown k hk).1
    · rw [h2.block b (by simp; omega) (fun e => hne e.symm)]
      exact (World.grownBy_alloc w _ none).block b hb (by simp)
end
theorem Sl.frame {w w' : World} {g o n : Nat} {vs : List Value} (h : Sl w (some ⟨g, o, none⟩) n vs) (hs : w.heap.size ≤ w'.heap.size) (hf : w'.heap[g]? = w.heap[g]?) : Sl w' (some ⟨g, o, none⟩) n vs := by
  refine ⟨h.1, ?_⟩
  rcases h.2 with h0 | ⟨b, o', h1, hb, hc⟩
  · exact .inl h0
  · injection h1 with h1
    injection h1 with h1 h2
    subst h1
    subst h2
    refine .inr ⟨_, _, rfl, by omega, fun k v hv => ?_⟩
    exact (World.cell?_of_block (a := ⟨g, o + k, none⟩) hf).trans (hc k v hv)
theorem own_ne {w : World} {B k N g : Nat} {v : Value} {ps : List Nat} {us : List Value} {x : Int} (ho : Ow w B 3 v (k + 1) us) (hi : us[0]? = some (.int .i64 x)) (hs : Sl w (some ⟨g, 0, none⟩) N (ps.map fv)) (hN : 1 ≤ N) : v.ownBlock ≠ some g := by
  intro he
  obtain ⟨A, c, rfl⟩ := ho.shape
  obtain ⟨g', rfl, _, _, hcell, _⟩ := Ow.at_ ho (k := 0) (by omega)
  have e : g' = g := by simpa [Value.ownBlock] using he
  subst e
  obtain ⟨b, o, h1, _, hc⟩ := hs.flt_at (k := 0) (by omega)
  injection h1 with h1
  injection h1 with h1 h2
  subst h1
  subst h2
  have e1 := (hcell 0 (by omega)).trans hi
  have e2 := hc 0 (by omega)
  rw [Nat.zero_add, e1] at e2
  cases e2

theorem tonsO_none {f : C → Nat} {xs : List C} {m : Int} (h : transF xs = none) : tonsO f xs m = [] := by unfold tonsO; rw [h]
theorem tonsO_out {f : C → Nat} {xs : List C} {m : Int} (h : ¬ (0 ≤ m ∧ m ≤ 1000)) : tonsO f xs m = [] := by
  unfold tonsO
  cases transF xs with
  | none => rfl
  | some l => exact if_neg h
theorem tonsO_in {f : C → Nat} {xs l : List C} {m : Int} (ht : transF xs = some l) (h : 0 ≤ m ∧ m ≤ 1000) : tonsO f xs m = tonsL (pwL f l) m := by
  unfold tonsO; rw [ht]; exact if_pos h

set_option maxHeartbeats 2000000 in
set_option maxRecDepth 100000 in
theorem sTones (A : Option Addr) (n c : Nat) (xs : List C) (m : Int) (w : World) (hn : n ≤ 1048576) (hx : Cs w A n xs) (hg : Good xs) :
    Calls Try.prog 57 #[.slice A n c, .int .i64 m] w (RetIS w (tonsO pwS xs m)) := by
  have HP : Hid (∀ w, Cs w A n xs → Calls Try.prog 99 #[.slice A n c] w (RetF w (pwL pwS ((transF xs).getD [])) (transF xs).isSome)) := fun w h => sPowers A n c xs w hn h hg
  cases ht : transF xs with
  | none =>
    have HN := Lib.hid (tonsO_none (f := pwS) (m := m) ht)
    rw [ht] at HP
    clear ht hg
    go_enter Try.func57, Try.ntmps57
    go_wp2_with fail
    refine (HP.out _ (hx.below (below_alloc _ _))).mono ?_
    rintro e w1 ⟨A1, c1, rfl, ho1, hb1⟩
    simp only [Option.isSome_none]
    have HR : Hid (RetIS w (tonsO pwS xs m) (.returned (.slice (some ⟨w.heap.size, 0, none⟩) 0 0)) w1) := by
      show RetIS _ _ _ _
      rw [HN.out]
      exact RetIS.empty ((Ow.empty w 3).below hb1) ((below_alloc _ _).trans (hb1.mono (below_alloc w _).size))
    clear ho1 hb1
    go_wp2_with fail
    go_ret
    exact HR.out
  | some l =>
    have hsz : sizB xs = true := by
      cases hs : sizB xs
      · rw [transF_no hs] at ht; cases ht
      · rfl
    obtain ⟨_, l', e', hl2, hmd⟩ := hg hsz
    rw [ht] at e'
    injection e' with e'
    subst e'
    obtain ⟨s1, s2, s3, s4, s5⟩ := siz_parts hsz
    have hPW : ∀ i, i < l.length → PwOk (fth (pwL pwS l) i) := fun i hi => by rw [fth_pwL hi]; exact (pwS_spec (hmd i (by omega)).1).2.2.1
    by_cases hm : 0 ≤ m ∧ m ≤ 1000
    case neg =>
      have HN := Lib.hid (tonsO_out (f := pwS) (xs := xs) hm)
      have hin : inB m 0 1000 = false := by rw [inB_false_iff]; omega
      rw [ht] at HP
      clear ht hg hmd hm hPW s1 s2 s3 s4 s5 hl2 hsz
      go_enter Try.func57, Try.ntmps57
      go_wp2_with fail
      refine (HP.out _ (hx.below (below_alloc _ _))).mono ?_
      rintro e w1 ⟨A1, c1, rfl, ho1, hb1⟩
      simp only [Option.isSome_some]
      have HR : Hid (RetIS w (tonsO pwS xs m) (.returned (.slice (some ⟨w.heap.size, 0, none⟩) 0 0)) w1) := by
        show RetIS _ _ _ _
        rw [HN.out]
        exact RetIS.empty ((Ow.empty w 3).below hb1) ((below_alloc _ _).trans (hb1.mono (below_alloc w _).size))
      clear ho1 hb1
      go_wp2_with fail
      refine (l1In_any _ _ _ _).mono ?_
      rintro e w2 ⟨rfl, hw2⟩
      obtain rfl := hw2.symm
      go_wp2_with fail
      go_ret
      exact HR.out
    have HY := Lib.hid (tonsO_in (f := pwS) ht hm)
    have hin : inB m 0 1000 = true := inB_true hm.1 hm.2
    obtain ⟨m0, m1⟩ := hm
    rw [ht] at HP
    obtain ⟨N, hN⟩ : ∃ N, N = l.length := ⟨_, rfl⟩
    have h16 : N ≤ 16 := by omega
    have h1N : 1 ≤ N := by omega
    rw [← hN] at hPW
    obtain ⟨ps, hps⟩ : ∃ ps, ps = pwL pwS l := ⟨_, rfl⟩
    have hpl : ps.length = N := by rw [hps, pwL_len, hN]
    have HPP : Hid (∀ w, Cs w A n xs → Calls Try.prog 99 #[.slice A n c] w (RetF w ps true)) := by
      rw [hps]
      exact HP.out
    rw [← hps] at HY hPW
    have HPL := Lib.hid hpl
    have hS := sm_274 h16 hPW
    have HSM : Hid (∀ i, i < N → floatBits .add .f64 (smT (fth ps) i) (fth ps i) = some (smT (fth ps) (i + 1))) := fun i hi => (smT_step (smT_ok h16 hPW i (by omega)).1 (hPW i hi).1).1
    have qT := fun w => run_float_arith (P := Try.prog) w .mul 48 .f64 _ _ _ (tw_spec hS.1 hS.2.1 hS.2.2 m0 m1).1
    have HM : Hid (∀ i, i < N → floatBits .mul .f64 (fth ps i) 4652007308841189376 = some (mw (fth ps i))) := fun i hi => (mw_spec (hPW i hi)).1
    have HTL : Hid (((tonsL ps m).map iv).length = N) := by show _ = _; rw [List.length_map, tonsL_len]; exact hpl
    clear ht hg hmd hPW s1 s2 s3 s4 s5 hl2 hsz hps hN HP hS hpl
    go_enter Try.func57, Try.ntmps57
    go_wp2_with fail
    refine (HPP.out _ (hx.below (below_alloc _ _))).mono ?_
    rintro e w1 ⟨A1, c1, rfl, ho1, hb1⟩
    rw [HPL.out] at ho1 ⊢
    obtain ⟨g, rfl, hge, hgl, _⟩ := Ow.at_ ho1 (k := 0) (by omega)
    have HX1 : Hid (Sl w1 (some ⟨g, 0, none⟩) N (ps.map fv)) := ho1.sl
    have HB1 : Hid (Below w.heap.size w w1) := (below_alloc _ _).trans (hb1.mono (below_alloc w _).size)
    have HOE : Hid (Ow w1 w.heap.size 3 (.slice (some ⟨w.heap.size, 0, none⟩) 0 0) 0 (((tonsL ps m).map iv).take 0)) := (Ow.empty w 3).below hb1
    have HGN : Hid ((Value.slice (some ⟨w.heap.size, 0, none⟩) 0 0).ownBlock ≠ some g) := by
      show _ ≠ _
      have : w.heap.size < g := by have h1 := hge; simp at h1; omega
      simp [Value.ownBlock]; omega
    clear ho1 hb1 hx hge hgl
    go_wp2_with fail
    refine (l1In_any _ _ _ _).mono ?_
    rintro e w2 ⟨rfl, hw2⟩
    obtain rfl := hw2.symm
    go_wp2_with fail
    go_loopw [8, 9] (fun s i wr => ∃ k : Nat, k ≤ N ∧ i = .int .i64 k ∧ s = .float .f64 (smT (fth ps) k) ∧ ∃ mm, wr = w1.drewN mm) (fun _ i _ => N - (intOf i).toNat)
    case atStart => exact ⟨0, by omega, rfl, rfl, 0, rfl⟩
    case round =>
      obtain ⟨k, hk, rfl, rfl, mm, rfl⟩ := hrel
      by_cases hlt : k < N
      · obtain ⟨b, o, hbo, hb, hc⟩ := HX1.out.flt_at hlt
        injection hbo with hbo
        injection hbo with hbo1 hbo2
        subst hbo1
        subst hbo2
        have hck : (w1.drewN mm).cell? ⟨g, k, none⟩ = some (.float .f64 (fth ps k)) := by have := hc k hlt; rw [Nat.zero_add] at this; exact this
        have q1 := fun w => run_float_arith (P := Try.prog) w .add 48 .f64 _ _ _ (HSM.out k hlt)
        clear hc
        go_wp2_with fail
        go_roundw
        case rel => exact ⟨k + 1, by omega, by go_num, rfl, mm, rfl⟩
        case measure => simp [intOf]; omega
      · obtain rfl : k = N := by omega
        have HTI : Hid (∀ j, j < k → ∀ b, tonI (fth ps) k m j = b → (FloatKind.f64.format.order (mw (fth ps j)) (tw (smT (fth ps) k) m) == some .gt) = b) := fun j hj b hb => hb
        have HX2 : Hid (Sl (w1.drewN mm) (some ⟨g, 0, none⟩) k (ps.map fv)) := HX1.out.drewN mm
        have HB2 : Hid (Below w.heap.size w (w1.drewN mm)) := below_drewN HB1.out mm
        have HO2 : Hid (Ow (w1.drewN mm) w.heap.size 3 (.slice (some ⟨w.heap.size, 0, none⟩) 0 0) 0 (((tonsL ps m).map iv).take 0)) := HOE.out.drewN mm
        generalize tw (smT (fth ps) k) m = tt at *
        generalize smT (fth ps) k = ss at *
        go_wp2_with fail
        go_loopw [5, 10] (fun v i wr => ∃ j : Nat, j ≤ k ∧ i = .int .i64 j ∧ Ow wr w.heap.size 3 v j (((tonsL ps m).map iv).take j) ∧ Below w.heap.size w wr ∧ Sl wr (some ⟨g, 0, none⟩) k (ps.map fv) ∧ v.ownBlock ≠ some g) (fun _ i _ => k - (intOf i).toNat)
        case atStart => exact ⟨0, by omega, rfl, HO2.out, HB2.out, HX2.out, HGN.out⟩
        case round =>
          obtain ⟨j, hj, rfl, ho, hb, hs, hne⟩ := hrel
          have HO := Lib.hid ho
          have HB := Lib.hid hb
          have HS := Lib.hid hs
          have HNE := Lib.hid hne
          clear ho hne
          by_cases hlt2 : j < k
          · obtain ⟨b, o, hbo, hbl, hc⟩ := hs.flt_at hlt2
            injection hbo with hbo
            injection hbo with hbo1 hbo2
            subst hbo1
            subst hbo2
            have hck : wr.cell? ⟨g, j, none⟩ = some (.float .f64 (fth ps j)) := by have := hc j hlt2; rw [Nat.zero_add] at this; exact this
            have q1 := fun w => run_float_arith (P := Try.prog) w .mul 48 .f64 _ _ _ (HM.out j hlt2)
            have HGT := Lib.hid (tonsL_get (ps := ps) (m := m) HPL.out hlt2)
            have hi0 := tonsL_get (ps := ps) (m := m) HPL.out (show 0 < k by omega)
            have HI0 : Hid ((((tonsL ps m).map iv).take (j + 1))[0]? = some (.int .i64 (b2i (tonI (fth ps) k m 0)))) := by
              show _ = _
              rw [List.getElem?_take, if_pos (by omega)]
              exact hi0
            have hsz := hb.size
            have HGL := Lib.hid hbl
            clear hc hb hs hi0 hbl
            cases hti : tonI (fth ps) k m j
            · have o1 := HTI.out j hlt2 false hti
              have HSN : Hid (((tonsL ps m).map iv).take j ++ [.int .i64 0] = ((tonsL ps m).map iv).take (j + 1)) := take_snoc' (by have h2 := HGT.out; rw [hti] at h2; exact h2)
              clear hti
              go_wp2_with (at_builtin; refine wl_appG w.heap.size [.int .i64 0] hsz rfl (.tmp 56) (.tmp 57) 22 rfl Try.eI u5 j _ rfl HO.out rfl (by simp [Value.oneCell']) (by simp [maxLen]; omega) (by simp; omega) ?_; intro v' w5 ho5 hb5 hf5; have HO5 := Lib.hid ho5; have HB5 := Lib.hid hb5; have HF5 := Lib.hid hf5; clear ho5 hb5 hf5)
              have HO6 : Hid (Ow w5 w.heap.size 3 v' (j + 1) (((tonsL ps m).map iv).take (j + 1))) := by show Ow _ _ _ _ _ _; rw [← HSN.out]; exact HO5.out
              have HS6 : Hid (Sl w5 (some ⟨g, 0, none⟩) k (ps.map fv)) := HS.out.frame HB5.out.size (HF5.out g HGL.out HNE.out)
              have HN6 : Hid (v'.ownBlock ≠ some g) := own_ne HO6.out HI0.out HS6.out h1N
              go_roundw
              case rel => exact ⟨j + 1, by omega, by go_num, HO6.out, HB.out.trans HB5.out, HS6.out, HN6.out⟩
              case measure => simp [intOf]; omega
            · have o1 := HTI.out j hlt2 true hti
              have HSN : Hid (((tonsL ps m).map iv).take j ++ [.int .i64 1] = ((tonsL ps m).map iv).take (j + 1)) := take_snoc' (by have h2 := HGT.out; rw [hti] at h2; exact h2)
              clear hti
              go_wp2_with (at_builtin; refine wl_appG w.heap.size [.int .i64 1] hsz rfl (.tmp 53) (.tmp 54) 22 rfl Try.eI u5 j _ rfl HO.out rfl (by simp [Value.oneCell']) (by simp [maxLen]; omega) (by simp; omega) ?_; intro v' w5 ho5 hb5 hf5; have HO5 := Lib.hid ho5; have HB5 := Lib.hid hb5; have HF5 := Lib.hid hf5; clear ho5 hb5 hf5)
              have HO6 : Hid (Ow w5 w.heap.size 3 v' (j + 1) (((tonsL ps m).map iv).take (j + 1))) := by show Ow _ _ _ _ _ _; rw [← HSN.out]; exact HO5.out
              have HS6 : Hid (Sl w5 (some ⟨g, 0, none⟩) k (ps.map fv)) := HS.out.frame HB5.out.size (HF5.out g HGL.out HNE.out)
              have HN6 : Hid (v'.ownBlock ≠ some g) := own_ne HO6.out HI0.out HS6.out h1N
              go_roundw
              case rel => exact ⟨j + 1, by omega, by go_num, HO6.out, HB.out.trans HB5.out, HS6.out, HN6.out⟩
              case measure => simp [intOf]; omega
          · obtain rfl : j = k := by omega
            obtain ⟨A2, c2, rfl⟩ := HO.out.shape
            have HR : Hid (RetIS w (tonsL ps m) (.returned (.slice A2 j c2)) wr) := by
              have h1 := HO.out
              rw [List.take_of_length_le (by rw [HTL.out]; omega)] at h1
              exact ⟨_, _, _, by rw [tonsL_len]; exact HPL.out.symm, rfl, h1, HB.out⟩
            clear hb hs
            go_wp2_with fail
            go_ret
            rw [HY.out]
            exact HR.out
end Go.Proofs.Ytficlmnjbbpicaa
