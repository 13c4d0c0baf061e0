/- Texts on the way to a law (D6, D7, V4, K5, K7), each with its own remark. -/
import Derived.Test.YtnomlkkhkacajaaGreatDoorPC07
import Derived.Test.YtnomlkkhkacajaaGreatDoorPC04
import Derived.Deep.RegionLaw
import Derived.Test.YtnomlkkhkacajaaGreatDoorPC10
import Derived.Test.YtnomlkkhkacajaaGreatDoorPC09
namespace Go.Proofs.YtnomlkkhkacajaaGreatDoor
open Go.RowKit

/-- The bytes of a code, as an argument. -/
def Code8 (w : World) (A : Option Addr) (n : Nat) : Prop :=
  n = 0 ∨ ∃ b o, A = some ⟨b, o, none⟩ ∧ b < w.heap.size ∧ ∀ k, k < n → ∃ u : Nat, u < 256 ∧ w.cell? ⟨b, o + k, none⟩ = some (.int .u8 u)
/-- A reader that has just been opened. -/
def RetR (w : World) (e : Ending) (w' : World) : Prop := ∃ g, e = .returned (.pointer (some ⟨g, 0, none⟩)) ∧ w.heap.size ≤ g ∧ Rd w' g 0 ∧ Below w.heap.size w w'
theorem rd_new {w : World} {A : Option Addr} {n c : Nat} (hn : n ≤ 2000) (h : Code8 w A n) : Rd (w.alloc (.cells #[.slice A n c, .int .i64 0] 109)) w.heap.size 0 := by
  refine ⟨by simp, ?_, A, n, c, 0, ?_, ?_, by omega, hn, ?_⟩
  · simp
  · rw [World.cell?_alloc_at _ _ _ _ rfl]; rfl
  · rw [World.cell?_alloc_at _ _ _ _ rfl]; rfl
  · rcases h with h | ⟨b, o, h1, h2, h3⟩
    · exact .inl h
    · refine .inr ⟨b, o, h1, h2, fun k hk => ?_⟩
      obtain ⟨u, h4, h5⟩ := h3 k hk
      exact ⟨u, h4, (World.cell?_alloc_lt _ _ _ h2).trans h5⟩

set_option maxHeartbeats 1000000 in
theorem open_any (A : Option Addr) (n c : Nat) (w : World) (hnc : n ≤ c) (hn : n ≤ 1048576) (h : Code8 w A n) :
    Calls Tryz.prog 32 #[.slice A n c] w (RetR w) := by
  by_cases hl : 2000 < n
  · rcases h with h0 | ⟨b, o, rfl, hb, hc⟩
    · omega
    have HC : Hid (Code8 w (some ⟨b, o, none⟩) 2000) := .inr ⟨b, o, rfl, hb, fun k hk => hc k (by omega)⟩
    clear hc
    go_enter Tryz.func32, Tryz.ntmps32
    go_wp2_with fail
    go_ret
    exact ⟨_, rfl, Nat.le_refl _, rd_new (by omega) HC.out, below_alloc _ _⟩
  · have HC := Lib.hid h
    clear h
    go_enter Tryz.func32, Tryz.ntmps32
    go_wp2_with fail
    go_ret
    exact ⟨_, rfl, Nat.le_refl _, rd_new (by omega) HC.out, below_alloc _ _⟩

end Go.Proofs.YtnomlkkhkacajaaGreatDoor
namespace Go.Proofs.YtnomlkkhkacajaaGreatDoor
open Go.RowKit

end Go.Proofs.YtnomlkkhkacajaaGreatDoor
namespace Go.Proofs.YtnomlkkhkacajaaGreatDoor
open Go.RowKit

section
variable {P : Program} {w : World} {ops : Array Oper} {rest : List Oper} {o : Oper} {a : Act} {Q : Exit → Act → World → Prop}
/-- append(out, us...), where all but the row itself stays. -/
theorem wl_appG (B : Nat) (us : List Value) (hB : B ≤ w.heap.size) (hgd : o.guard = none) (s x : Operand) (t : TypeId) (ho : o.op = .call { callee := .builtin .append, args := #[s, x], argTypes := #[t, t] })
    {E : TypeId} {z : Value} {bytes : Nat} (he : Elem P t E z bytes) (v : Value) (n : Nat) (vs : List Value) (hs : a.eval s = v) (hown : Ow w B E v n vs)
    (hx : a.eval x = .slice (some ⟨w.heap.size, 0, none⟩) us.length us.length) (hu : ∀ u ∈ us, u.oneCell' = true) (h63 : n + us.length ≤ maxLen) (hbytes : (n + us.length) * bytes ≤ 140737488355328)
    (h : ∀ v' w', Ow w' B E v' (n + us.length) (vs ++ us) → Below B w w' → (∀ b, b < w.heap.size → v.ownBlock ≠ some b → w'.heap[b]? = w.heap[b]?) → wpList P ops Q rest (a.put o.dst v') w') : wpList P ops Q (o :: rest) a (w.alloc (.cells us.toArray E)) := by
  obtain ⟨i, h2, h3, h4, h5⟩ := he.info
  subst h5
  refine wpList_append_own (w.alloc (.cells us.toArray E)) hgd s x t ho B E i z 1 i.bytes he.und h2 h3 h4 rfl (by rw [he.one]; rfl) (by decide) v n vs hs (World.ownsRow.alloc hown _) ⟨w.heap.size, 0, none⟩ us.length us.length us hx (by simp) ?_ hu h63 hbytes ?_ ?_
  · intro j u' hj
    have hj' := (List.getElem?_eq_some_iff.1 hj).1
    rw [add_none0, World.cell?_alloc_at _ _ _ _ rfl]
    simpa using hj
  · simp
    omega
  · intro v' w' h1 h2 _
    refine h v' w' h1 (((Below.refl B w).alloc hB _).grown h2 (by simp; omega) ?_) fun b hb hne => ?_
    · intro k hk
      exact (World.ownsRow.lt hown k hk).1
    · rw [h2.block b (by simp; omega) (fun e => hne e.symm)]
      exact (World.grownBy_alloc w _ none).block b hb (by simp)
end
theorem Sl.frame {w w' : World} {g o n : Nat} {vs : List Value} (h : Sl w (some ⟨g, o, none⟩) n vs) (hs : w.heap.size ≤ w'.heap.size) (hf : w'.heap[g]? = w.heap[g]?) : Sl w' (some ⟨g, o, none⟩) n vs := by
  refine ⟨h.1, ?_⟩
  rcases h.2 with h0 | ⟨b, o', h1, hb, hc⟩
  · exact .inl h0
  · injection h1 with h1
    injection h1 with h1 h2
    subst h1
    subst h2
    refine .inr ⟨_, _, rfl, by omega, fun k v hv => ?_⟩
    exact (World.cell?_of_block (a := ⟨g, o + k, none⟩) hf).trans (hc k v hv)
theorem own_ne {w : World} {B k N g : Nat} {v : Value} {ps : List Nat} {us : List Value} {x : Int} (ho : Ow w B 3 v (k + 1) us) (hi : us[0]? = some (.int .i64 x)) (hs : Sl w (some ⟨g, 0, none⟩) N (ps.map fv)) (hN : 1 ≤ N) : v.ownBlock ≠ some g := by
  intro he
  obtain ⟨A, c, rfl⟩ := ho.shape
  obtain ⟨g', rfl, _, _, hcell, _⟩ := Ow.at_ ho (k := 0) (by omega)
  have e : g' = g := by simpa [Value.ownBlock] using he
  subst e
  obtain ⟨b, o, h1, _, hc⟩ := hs.flt_at (k := 0) (by omega)
  injection h1 with h1
  injection h1 with h1 h2
  subst h1
  subst h2
  have e1 := (hcell 0 (by omega)).trans hi
  have e2 := hc 0 (by omega)
  rw [Nat.zero_add, e1] at e2
  cases e2

theorem tonsO_none {f : C → Nat} {xs : List C} {m : Int} (h : transF xs = none) : tonsO f xs m = [] := by unfold tonsO; rw [h]
theorem tonsO_out {f : C → Nat} {xs : List C} {m : Int} (h : ¬ (0 ≤ m ∧ m ≤ 1000)) : tonsO f xs m = [] := by
  unfold tonsO
  cases transF xs with
  | none => rfl
  | some l => exact if_neg h
theorem tonsO_in {f : C → Nat} {xs l : List C} {m : Int} (ht : transF xs = some l) (h : 0 ≤ m ∧ m ≤ 1000) : tonsO f xs m = tonsL (pwL f l) m := by
  unfold tonsO; rw [ht]; exact if_pos h

set_option maxHeartbeats 2000000 in
set_option maxRecDepth 100000 in
theorem sTones (A : Option Addr) (n c : Nat) (xs : List C) (m : Int) (w : World) (hn : n ≤ 1048576) (hx : Cs w A n xs) (hg : Good xs) :
    Calls Tryz.prog 61 #[.slice A n c, .int .i64 m] w (RetIS w (tonsO pwS xs m)) := by
  have HP : Hid (∀ w, Cs w A n xs → Calls Tryz.prog 100 #[.slice A n c] w (RetF w (pwL pwS ((transF xs).getD [])) (transF xs).isSome)) := fun w h => sPowers A n c xs w hn h hg
  cases ht : transF xs with
  | none =>
    have HN := Lib.hid (tonsO_none (f := pwS) (m := m) ht)
    rw [ht] at HP
    clear ht hg
    go_enter Tryz.func61, Tryz.ntmps61
    go_wp2_with fail
    refine (HP.out _ (hx.below (below_alloc _ _))).mono ?_
    rintro e w1 ⟨A1, c1, rfl, ho1, hb1⟩
    simp only [Option.isSome_none]
    have HR : Hid (RetIS w (tonsO pwS xs m) (.returned (.slice (some ⟨w.heap.size, 0, none⟩) 0 0)) w1) := by
      show RetIS _ _ _ _
      rw [HN.out]
      exact RetIS.empty ((Ow.empty w 3).below hb1) ((below_alloc _ _).trans (hb1.mono (below_alloc w _).size))
    clear ho1 hb1
    go_wp2_with fail
    go_ret
    exact HR.out
  | some l =>
    have hsz : sizB xs = true := by
      cases hs : sizB xs
      · rw [transF_no hs] at ht; cases ht
      · rfl
    obtain ⟨_, l', e', hl2, hmd⟩ := hg hsz
    rw [ht] at e'
    injection e' with e'
    subst e'
    obtain ⟨s1, s2, s3, s4, s5⟩ := siz_parts hsz
    have hPW : ∀ i, i < l.length → PwOk (fth (pwL pwS l) i) := fun i hi => by rw [fth_pwL hi]; exact (pwS_spec (hmd i (by omega)).1).2.2.1
    by_cases hm : 0 ≤ m ∧ m ≤ 1000
    case neg =>
      have HN := Lib.hid (tonsO_out (f := pwS) (xs := xs) hm)
      have hin : inB m 0 1000 = false := by rw [inB_false_iff]; omega
      rw [ht] at HP
      clear ht hg hmd hm hPW s1 s2 s3 s4 s5 hl2 hsz
      go_enter Tryz.func61, Tryz.ntmps61
      go_wp2_with fail
      refine (HP.out _ (hx.below (below_alloc _ _))).mono ?_
      rintro e w1 ⟨A1, c1, rfl, ho1, hb1⟩
      simp only [Option.isSome_some]
      have HR : Hid (RetIS w (tonsO pwS xs m) (.returned (.slice (some ⟨w.heap.size, 0, none⟩) 0 0)) w1) := by
        show RetIS _ _ _ _
        rw [HN.out]
        exact RetIS.empty ((Ow.empty w 3).below hb1) ((below_alloc _ _).trans (hb1.mono (below_alloc w _).size))
      clear ho1 hb1
      go_wp2_with fail
      refine (l1In_any _ _ _ _).mono ?_
      rintro e w2 ⟨rfl, hw2⟩
      obtain rfl := hw2.symm
      go_wp2_with fail
      go_ret
      exact HR.out
    have HY := Lib.hid (tonsO_in (f := pwS) ht hm)
    have hin : inB m 0 1000 = true := inB_true hm.1 hm.2
    obtain ⟨m0, m1⟩ := hm
    rw [ht] at HP
    obtain ⟨N, hN⟩ : ∃ N, N = l.length := ⟨_, rfl⟩
    have h16 : N ≤ 16 := by omega
    have h1N : 1 ≤ N := by omega
    rw [← hN] at hPW
    obtain ⟨ps, hps⟩ : ∃ ps, ps = pwL pwS l := ⟨_, rfl⟩
    have hpl : ps.length = N := by rw [hps, pwL_len, hN]
    have HPP : Hid (∀ w, Cs w A n xs → Calls Tryz.prog 100 #[.slice A n c] w (RetF w ps true)) := by
      rw [hps]
      exact HP.out
    rw [← hps] at HY hPW
    have HPL := Lib.hid hpl
    have hS := sm_274 h16 hPW
    have HSM : Hid (∀ i, i < N → floatBits .add .f64 (smT (fth ps) i) (fth ps i) = some (smT (fth ps) (i + 1))) := fun i hi => (smT_step (smT_ok h16 hPW i (by omega)).1 (hPW i hi).1).1
    have qT := fun w => run_float_arith (P := Tryz.prog) w .mul 120 .f64 _ _ _ (tw_spec hS.1 hS.2.1 hS.2.2 m0 m1).1
    have HM : Hid (∀ i, i < N → floatBits .mul .f64 (fth ps i) 4652007308841189376 = some (mw (fth ps i))) := fun i hi => (mw_spec (hPW i hi)).1
    have HTL : Hid (((tonsL ps m).map iv).length = N) := by show _ = _; rw [List.length_map, tonsL_len]; exact hpl
    clear ht hg hmd hPW s1 s2 s3 s4 s5 hl2 hsz hps hN HP hS hpl
    go_enter Tryz.func61, Tryz.ntmps61
    go_wp2_with fail
    refine (HPP.out _ (hx.below (below_alloc _ _))).mono ?_
    rintro e w1 ⟨A1, c1, rfl, ho1, hb1⟩
    rw [HPL.out] at ho1 ⊢
    obtain ⟨g, rfl, hge, hgl, _⟩ := Ow.at_ ho1 (k := 0) (by omega)
    have HX1 : Hid (Sl w1 (some ⟨g, 0, none⟩) N (ps.map fv)) := ho1.sl
    have HB1 : Hid (Below w.heap.size w w1) := (below_alloc _ _).trans (hb1.mono (below_alloc w _).size)
    have HOE : Hid (Ow w1 w.heap.size 3 (.slice (some ⟨w.heap.size, 0, none⟩) 0 0) 0 (((tonsL ps m).map iv).take 0)) := (Ow.empty w 3).below hb1
    have HGN : Hid ((Value.slice (some ⟨w.heap.size, 0, none⟩) 0 0).ownBlock ≠ some g) := by
      show _ ≠ _
      have : w.heap.size < g := by have h1 := hge; simp at h1; omega
      simp [Value.ownBlock]; omega
    clear ho1 hb1 hx hge hgl
    go_wp2_with fail
    refine (l1In_any _ _ _ _).mono ?_
    rintro e w2 ⟨rfl, hw2⟩
    obtain rfl := hw2.symm
    go_wp2_with fail
    go_loopw [8, 9] (fun s i wr => ∃ k : Nat, k ≤ N ∧ i = .int .i64 k ∧ s = .float .f64 (smT (fth ps) k) ∧ ∃ mm, wr = w1.drewN mm) (fun _ i _ => N - (intOf i).toNat)
    case atStart => exact ⟨0, by omega, rfl, rfl, 0, rfl⟩
    case round =>
      obtain ⟨k, hk, rfl, rfl, mm, rfl⟩ := hrel
      by_cases hlt : k < N
      · obtain ⟨b, o, hbo, hb, hc⟩ := HX1.out.flt_at hlt
        injection hbo with hbo
        injection hbo with hbo1 hbo2
        subst hbo1
        subst hbo2
        have hck : (w1.drewN mm).cell? ⟨g, k, none⟩ = some (.float .f64 (fth ps k)) := by have := hc k hlt; rw [Nat.zero_add] at this; exact this
        have q1 := fun w => run_float_arith (P := Tryz.prog) w .add 120 .f64 _ _ _ (HSM.out k hlt)
        clear hc
        go_wp2_with fail
        go_roundw
        case rel => exact ⟨k + 1, by omega, by go_num, rfl, mm, rfl⟩
        case measure => simp [intOf]; omega
      · obtain rfl : k = N := by omega
        have HTI : Hid (∀ j, j < k → ∀ b, tonI (fth ps) k m j = b → (FloatKind.f64.format.order (mw (fth ps j)) (tw (smT (fth ps) k) m) == some .gt) = b) := fun j hj b hb => hb
        have HX2 : Hid (Sl (w1.drewN mm) (some ⟨g, 0, none⟩) k (ps.map fv)) := HX1.out.drewN mm
        have HB2 : Hid (Below w.heap.size w (w1.drewN mm)) := below_drewN HB1.out mm
        have HO2 : Hid (Ow (w1.drewN mm) w.heap.size 3 (.slice (some ⟨w.heap.size, 0, none⟩) 0 0) 0 (((tonsL ps m).map iv).take 0)) := HOE.out.drewN mm
        generalize tw (smT (fth ps) k) m = tt at *
        generalize smT (fth ps) k = ss at *
        go_wp2_with fail
        go_loopw [5, 10] (fun v i wr => ∃ j : Nat, j ≤ k ∧ i = .int .i64 j ∧ Ow wr w.heap.size 3 v j (((tonsL ps m).map iv).take j) ∧ Below w.heap.size w wr ∧ Sl wr (some ⟨g, 0, none⟩) k (ps.map fv) ∧ v.ownBlock ≠ some g) (fun _ i _ => k - (intOf i).toNat)
        case atStart => exact ⟨0, by omega, rfl, HO2.out, HB2.out, HX2.out, HGN.out⟩
        case round =>
          obtain ⟨j, hj, rfl, ho, hb, hs, hne⟩ := hrel
          have HO := Lib.hid ho
          have HB := Lib.hid hb
          have HS := Lib.hid hs
          have HNE := Lib.hid hne
          clear ho hne
          by_cases hlt2 : j < k
          · obtain ⟨b, o, hbo, hbl, hc⟩ := hs.flt_at hlt2
            injection hbo with hbo
            injection hbo with hbo1 hbo2
            subst hbo1
            subst hbo2
            have hck : wr.cell? ⟨g, j, none⟩ = some (.float .f64 (fth ps j)) := by have := hc j hlt2; rw [Nat.zero_add] at this; exact this
            have q1 := fun w => run_float_arith (P := Tryz.prog) w .mul 120 .f64 _ _ _ (HM.out j hlt2)
            have HGT := Lib.hid (tonsL_get (ps := ps) (m := m) HPL.out hlt2)
            have hi0 := tonsL_get (ps := ps) (m := m) HPL.out (show 0 < k by omega)
            have HI0 : Hid ((((tonsL ps m).map iv).take (j + 1))[0]? = some (.int .i64 (b2i (tonI (fth ps) k m 0)))) := by
              show _ = _
              rw [List.getElem?_take, if_pos (by omega)]
              exact hi0
            have hsz := hb.size
            have HGL := Lib.hid hbl
            clear hc hb hs hi0 hbl
            cases hti : tonI (fth ps) k m j
            · have o1 := HTI.out j hlt2 false hti
              have HSN : Hid (((tonsL ps m).map iv).take j ++ [.int .i64 0] = ((tonsL ps m).map iv).take (j + 1)) := take_snoc' (by have h2 := HGT.out; rw [hti] at h2; exact h2)
              clear hti
              go_wp2_with (at_builtin; refine wl_appG w.heap.size [.int .i64 0] hsz rfl (.tmp 56) (.tmp 57) 92 rfl Tryz.eI u5 j _ rfl HO.out rfl (by simp [Value.oneCell']) (by simp [maxLen]; omega) (by simp; omega) ?_; intro v' w5 ho5 hb5 hf5; have HO5 := Lib.hid ho5; have HB5 := Lib.hid hb5; have HF5 := Lib.hid hf5; clear ho5 hb5 hf5)
              have HO6 : Hid (Ow w5 w.heap.size 3 v' (j + 1) (((tonsL ps m).map iv).take (j + 1))) := by show Ow _ _ _ _ _ _; rw [← HSN.out]; exact HO5.out
              have HS6 : Hid (Sl w5 (some ⟨g, 0, none⟩) k (ps.map fv)) := HS.out.frame HB5.out.size (HF5.out g HGL.out HNE.out)
              have HN6 : Hid (v'.ownBlock ≠ some g) := own_ne HO6.out HI0.out HS6.out h1N
              go_roundw
              case rel => exact ⟨j + 1, by omega, by go_num, HO6.out, HB.out.trans HB5.out, HS6.out, HN6.out⟩
              case measure => simp [intOf]; omega
            · have o1 := HTI.out j hlt2 true hti
              have HSN : Hid (((tonsL ps m).map iv).take j ++ [.int .i64 1] = ((tonsL ps m).map iv).take (j + 1)) := take_snoc' (by have h2 := HGT.out; rw [hti] at h2; exact h2)
              clear hti
              go_wp2_with (at_builtin; refine wl_appG w.heap.size [.int .i64 1] hsz rfl (.tmp 53) (.tmp 54) 92 rfl Tryz.eI u5 j _ rfl HO.out rfl (by simp [Value.oneCell']) (by simp [maxLen]; omega) (by simp; omega) ?_; intro v' w5 ho5 hb5 hf5; have HO5 := Lib.hid ho5; have HB5 := Lib.hid hb5; have HF5 := Lib.hid hf5; clear ho5 hb5 hf5)
              have HO6 : Hid (Ow w5 w.heap.size 3 v' (j + 1) (((tonsL ps m).map iv).take (j + 1))) := by show Ow _ _ _ _ _ _; rw [← HSN.out]; exact HO5.out
              have HS6 : Hid (Sl w5 (some ⟨g, 0, none⟩) k (ps.map fv)) := HS.out.frame HB5.out.size (HF5.out g HGL.out HNE.out)
              have HN6 : Hid (v'.ownBlock ≠ some g) := own_ne HO6.out HI0.out HS6.out h1N
              go_roundw
              case rel => exact ⟨j + 1, by omega, by go_num, HO6.out, HB.out.trans HB5.out, HS6.out, HN6.out⟩
              case measure => simp [intOf]; omega
          · obtain rfl : j = k := by omega
            obtain ⟨A2, c2, rfl⟩ := HO.out.shape
            have HR : Hid (RetIS w (tonsL ps m) (.returned (.slice A2 j c2)) wr) := by
              have h1 := HO.out
              rw [List.take_of_length_le (by rw [HTL.out]; omega)] at h1
              exact ⟨_, _, _, by rw [tonsL_len]; exact HPL.out.symm, rfl, h1, HB.out⟩
            clear hb hs
            go_wp2_with fail
            go_ret
            rw [HY.out]
            exact HR.out
end Go.Proofs.YtnomlkkhkacajaaGreatDoor
namespace Go.Proofs.YtnomlkkhkacajaaGreatDoor
open Go.RowKit

theorem fin_mk {xs : List C} {i : Nat} (h : sigB xs = true) (hi : i < xs.length) : finB (nth xs i) = true := by
  unfold sigB at h
  rw [Bool.and_eq_true] at h
  exact finB_iff.2 (all_fin_nth h.2 hi)
theorem sig_len {xs : List C} (h : sigB xs = true) : xs.length ≤ 16 := by
  unfold sigB at h
  rw [Bool.and_eq_true, decide_eq_true_eq] at h
  exact h.1
/-- A list that is filled from its head. -/
def rngL (f : Nat → C) (k : Nat) : List C := (List.range k).map f
theorem rngL_len (f : Nat → C) (k : Nat) : (rngL f k).length = k := by simp [rngL]
theorem rngL_succ (f : Nat → C) (k : Nat) : rngL f (k + 1) = rngL f k ++ [f k] := by unfold rngL; rw [List.range_succ, List.map_append]; rfl
theorem rngL_nth {f : Nat → C} {k i : Nat} (h : i < k) : nth (rngL f k) i = f i := by
  rw [nth_eq (by rw [rngL_len]; exact h)]; simp [rngL]

end Go.Proofs.YtnomlkkhkacajaaGreatDoor

namespace Go.Proofs.YtnomlkkhkacajaaGreatDoor
open Go.RowKit

set_option maxHeartbeats 2000000 in
set_option maxRecDepth 100000 in
theorem iEach (A A' : Option Addr) (n c c' : Nat) (xs ys : List C) (w : World) (hx : Cs w A n xs) (hy : Cs w A' n ys) (hs : sigB xs = true) (hs2 : sigB ys = true) (hp : ∀ i, i < n → finB (mulC (nth xs i) (nth ys i)) = true) :
    Calls Tryz.prog 138 #[.slice A n c, .slice A' n c'] w (RetC w (rngL (fun i => mulC (nth xs i) (nth ys i)) n) true) := by
  have hl := hx.len
  have hl2 := hy.len
  have h16 : n ≤ 16 := by rw [← hl]; exact sig_len hs
  have HC : Hid (∀ w, Cs w A n xs → Calls Tryz.prog 43 #[.slice A n c] w fun e w' => e = .returned (.bool true) ∧ Dr w w') := fun w h => by rw [← hs]; exact iSignalOk A n c xs w (by omega) h
  have HC2 : Hid (∀ w, Cs w A' n ys → Calls Tryz.prog 43 #[.slice A' n c'] w fun e w' => e = .returned (.bool true) ∧ Dr w w') := fun w h => by rw [← hs2]; exact iSignalOk A' n c' ys w (by omega) h
  have HM : Hid (∀ i, i < n → (∀ w, (binOp .mul 73 (.complex .f32 (nth xs i).1 (nth xs i).2) (.complex .f32 (nth ys i).1 (nth ys i).2)).run Tryz.prog w = .ok (.complex .f32 (mulC (nth xs i) (nth ys i)).1 (mulC (nth xs i) (nth ys i)).2) w) ∧
      ∀ w, Calls Tryz.prog 88 #[.complex .f32 (mulC (nth xs i) (nth ys i)).1 (mulC (nth xs i) (nth ys i)).2] w fun e w' => e = .returned (.bool true) ∧ Dr w w') := fun i hi =>
    ⟨mulC_run Tryz.prog _ (fin_mk hs (by omega)) (fin_mk hs2 (by omega)) (hp i hi), fun w => by have := iFinite (mulC (nth xs i) (nth ys i)) w; rw [hp i hi] at this; exact this⟩
  clear hs hs2 hp hl hl2
  go_enter Tryz.func138, Tryz.ntmps138
  go_wp2_with fail
  refine (HC.out _ hx).mono ?_
  rintro e w' ⟨rfl, m, rfl⟩
  go_wp2_with fail
  refine (HC2.out _ (hy.drewN m)).mono ?_
  rintro e w' ⟨rfl, m2, rfl⟩
  obtain ⟨w0, hw0⟩ : ∃ w0, w0 = (w.drewN m).drewN m2 := ⟨_, rfl⟩
  have HB0 : Hid (Below w.heap.size w w0) := by rw [hw0]; exact below_drewN (below_drewN (Below.refl _ _) m) m2
  have HX0 : Hid (Cs w0 A n xs) := hx.below HB0.out
  have HY0 : Hid (Cs w0 A' n ys) := hy.below HB0.out
  have HZ0 : Hid (w0.heap.size = w.heap.size) := by rw [hw0]; rfl
  rw [← hw0]
  clear hw0
  go_wp2_with (at_make; refine wl_make (w0 := w0) rfl (.tmp 25) (.tmp 25) 23 rfl Tryz.eC .i64 .i64 n _ _ rfl rfl rfl rfl (by omega) (by unfold maxLen; omega) (Below.refl _ _) ?_; intro w1 hown hb1 _)
  have HO1 : Hid (Ow w1 w0.heap.size 73 (.slice (some ⟨w0.heap.size, 0, none⟩) n n) n ((rngL (fun i => mulC (nth xs i) (nth ys i)) 0).map cv ++ List.replicate (n - 0) (.complex .f32 0 0))) := hown
  have HB1 : Hid (Below w0.heap.size w0 w1) := hb1
  clear hown hb1 hx hy
  go_loopw [29] (fun i wr => ∃ k : Nat, k ≤ n ∧ i = .int .i64 k ∧ Ow wr w0.heap.size 73 (.slice (some ⟨w0.heap.size, 0, none⟩) n n) n ((rngL (fun i => mulC (nth xs i) (nth ys i)) k).map cv ++ List.replicate (n - k) (.complex .f32 0 0)) ∧ Below w0.heap.size w0 wr) (fun i _ => n - (intOf i).toNat)
  case atStart => exact ⟨0, by omega, rfl, HO1.out, HB1.out⟩
  case round =>
    obtain ⟨k, hk, rfl, ho, hb⟩ := hrel
    have HO := Lib.hid ho
    have HB := Lib.hid hb
    clear ho
    by_cases hlt : k < n
    · obtain ⟨b, o, rfl, hbl, hc⟩ := HX0.out.at_ hlt
      obtain ⟨b', o', rfl, hbl', hc'⟩ := HY0.out.at_ hlt
      have hck : wr.cell? ⟨b, o + k, none⟩ = some (cv (nth xs k)) := (hb.cell (p := ⟨b, o + k, none⟩) hbl).trans (hc k hlt)
      have hck' : wr.cell? ⟨b', o' + k, none⟩ = some (cv (nth ys k)) := (hb.cell (p := ⟨b', o' + k, none⟩) hbl').trans (hc' k hlt)
      obtain ⟨q1, q2⟩ := HM.out k hlt
      have C2 := Lib.hid q2
      have HN : Hid (rngL (fun i => mulC (nth xs i) (nth ys i)) (k + 1) = rngL (fun i => mulC (nth xs i) (nth ys i)) k ++ [mulC (nth xs k) (nth ys k)]) := rngL_succ _ _
      have HLL : Hid (((rngL (fun i => mulC (nth xs i) (nth ys i)) k).map cv).length = k) := by show _ = _; rw [List.length_map, rngL_len]
      obtain ⟨g, hg, hge, hgl, hcell, hfr, hst⟩ := Ow.at_ HO.out hlt
      injection hg with hg
      injection hg with hg
      subst hg
      have hck2 : wr.cell? ⟨w0.heap.size, k, none⟩ = some (.complex .f32 0 0) := (hcell k hlt).trans (fil_get _ HLL.out hlt _)
      have hfr2 := hfr k
      have hst2 := hst k (cv (mulC (nth xs k) (nth ys k)))
      rw [fil_set _ HLL.out hlt] at hst2
      have HS := Lib.hid hst2
      clear hst2 hcell hfr hst hb hc hc' q2
      generalize mulC (nth xs k) (nth ys k) = p at *
      generalize nth xs k = x at *
      generalize nth ys k = y at *
      unfold cv at hck hck' HS
      go_wp2_with fail
      refine (C2.out _).mono ?_
      rintro e w' ⟨rfl, m3, rfl⟩
      go_wp2_with fail
      go_roundw
      case rel => exact ⟨k + 1, by omega, by go_num, by rw [HN.out, List.map_append]; exact HS.out.drewN m3, below_drewN (HB.out.setCell (Nat.le_refl _) _) m3⟩
      case measure => simp [intOf]; omega
    · obtain rfl : k = n := by omega
      clear hb
      go_wp2_with fail
      go_ret2
      refine ⟨_, _, _, rfl, ?_, HB0.out.trans (HB.out.mono (by rw [HZ0.out]; exact Nat.le_refl _))⟩
      have := HO.out
      rw [Nat.sub_self, List.replicate_zero, List.append_nil] at this
      exact this.mono (by rw [HZ0.out]; exact Nat.le_refl _)
end Go.Proofs.YtnomlkkhkacajaaGreatDoor
namespace Go.Proofs.YtnomlkkhkacajaaGreatDoor
open Go.RowKit

/-- What l1Told hands back of a list whose numbers are finite. -/
theorem told_any (A : Option Addr) (n c : Nat) (xs : List C) (w : World) (hn : n ≤ 1048576) (hx : Cs w A n xs) (hf : xs.all finB = true) :
    Calls Tryz.prog 141 #[.slice A n c] w fun e w' => e = .returned (.tuple #[.slice A n c, .bool true]) ∧ Dr w w' := by
  have HC : Hid (∀ w, Cs w A n xs → Calls Tryz.prog 89 #[.slice A n c] w fun e w' => e = .returned (.bool true) ∧ Dr w w') := fun w h => by
    have := sAll A n c xs w (by omega) h
    rw [hf] at this
    exact this
  clear hf
  go_enter Tryz.func141, Tryz.ntmps141
  go_wp2_with fail
  refine (HC.out _ hx).mono ?_
  rintro e w' ⟨rfl, m, rfl⟩
  go_wp2_with fail
  go_ret2
  exact ⟨rfl, m, rfl⟩
theorem rngL_fin {f : Nat → C} {n : Nat} (h : ∀ i, i < n → finB (f i) = true) : (rngL f n).all finB = true := List.all_eq_true.2 fun z hz => by
  unfold rngL at hz
  obtain ⟨i, hi, rfl⟩ := List.mem_map.1 hz
  exact h i (List.mem_range.1 hi)

set_option maxHeartbeats 2000000 in
set_option maxRecDepth 100000 in
theorem sEach (A A' : Option Addr) (n c c' : Nat) (xs ys : List C) (w : World) (hx : Cs w A n xs) (hy : Cs w A' n ys) (hs : sigB xs = true) (hs2 : sigB ys = true) (hp : ∀ i, i < n → finB (mulC (nth xs i) (nth ys i)) = true) :
    Calls Tryz.prog 116 #[.slice A n c, .slice A' n c'] w (RetC w (rngL (fun i => mulC (nth xs i) (nth ys i)) n) true) := by
  have hl := hx.len
  have hl2 := hy.len
  have h16 : n ≤ 16 := by rw [← hl]; exact sig_len hs
  have HC : Hid (∀ w, Cs w A n xs → Calls Tryz.prog 47 #[.slice A n c] w fun e w' => e = .returned (.bool true) ∧ Dr w w') := fun w h => by rw [← hs]; exact sSignalOk A n c xs w (by omega) h
  have HC2 : Hid (∀ w, Cs w A' n ys → Calls Tryz.prog 47 #[.slice A' n c'] w fun e w' => e = .returned (.bool true) ∧ Dr w w') := fun w h => by rw [← hs2]; exact sSignalOk A' n c' ys w (by omega) h
  have HM : Hid (∀ i, i < n → ∀ w, (binOp .mul 73 (.complex .f32 (nth xs i).1 (nth xs i).2) (.complex .f32 (nth ys i).1 (nth ys i).2)).run Tryz.prog w = .ok (.complex .f32 (mulC (nth xs i) (nth ys i)).1 (mulC (nth xs i) (nth ys i)).2) w) := fun i hi =>
    mulC_run Tryz.prog _ (fin_mk hs (by omega)) (fin_mk hs2 (by omega)) (hp i hi)
  have HFL := Lib.hid (rngL_fin hp)
  clear hs hs2 hp hl hl2
  go_enter Tryz.func116, Tryz.ntmps116
  go_wp2_with fail
  refine (HC.out _ hx).mono ?_
  rintro e w' ⟨rfl, m, rfl⟩
  go_wp2_with fail
  refine (HC2.out _ (hy.drewN m)).mono ?_
  rintro e w' ⟨rfl, m2, rfl⟩
  obtain ⟨w0, hw0⟩ : ∃ w0, w0 = (w.drewN m).drewN m2 := ⟨_, rfl⟩
  have HB0 : Hid (Below w.heap.size w w0) := by rw [hw0]; exact below_drewN (below_drewN (Below.refl _ _) m) m2
  have HX0 : Hid (Cs w0 A n xs) := hx.below HB0.out
  have HY0 : Hid (Cs w0 A' n ys) := hy.below HB0.out
  have HZ0 : Hid (w0.heap.size = w.heap.size) := by rw [hw0]; rfl
  rw [← hw0]
  clear hw0
  have HE : Hid (Ow (w0.alloc (.cells #[] 73)) w0.heap.size 73 (.slice (some ⟨w0.heap.size, 0, none⟩) 0 0) 0 ((rngL (fun i => mulC (nth xs i) (nth ys i)) 0).map cv)) := Ow.empty w0 73
  have HBE : Hid (Below w0.heap.size w0 (w0.alloc (.cells #[] 73))) := below_alloc _ _
  clear hx hy
  go_wp2_with fail
  go_loopw [6, 7] (fun v i wr => ∃ k : Nat, k ≤ n ∧ i = .int .i64 k ∧ Ow wr w0.heap.size 73 v k ((rngL (fun i => mulC (nth xs i) (nth ys i)) k).map cv) ∧ Below w0.heap.size w0 wr) (fun _ i _ => n - (intOf i).toNat)
  case atStart => exact ⟨0, by omega, rfl, HE.out, HBE.out⟩
  case round =>
    obtain ⟨k, hk, rfl, ho, hb⟩ := hrel
    have HO := Lib.hid ho
    have HB := Lib.hid hb
    clear ho
    by_cases hlt : k < n
    · obtain ⟨b, o, rfl, hbl, hc⟩ := HX0.out.at_ hlt
      obtain ⟨b', o', rfl, hbl', hc'⟩ := HY0.out.at_ hlt
      have hck : wr.cell? ⟨b, o + k, none⟩ = some (cv (nth xs k)) := (hb.cell (p := ⟨b, o + k, none⟩) hbl).trans (hc k hlt)
      have hck' : wr.cell? ⟨b', o' + k, none⟩ = some (cv (nth ys k)) := (hb.cell (p := ⟨b', o' + k, none⟩) hbl').trans (hc' k hlt)
      have q1 := HM.out k hlt
      have HN : Hid ((rngL (fun i => mulC (nth xs i) (nth ys i)) k).map cv ++ [cv (mulC (nth xs k) (nth ys k))] = (rngL (fun i => mulC (nth xs i) (nth ys i)) (k + 1)).map cv) := by show _ = _; rw [rngL_succ, List.map_append]; rfl
      have hsz := HB.out.size
      have hin : (k : Int) < (n : Int) := by omega
      clear hb hc hc'
      generalize mulC (nth xs k) (nth ys k) = p at *
      generalize nth xs k = x at *
      generalize nth ys k = y at *
      unfold cv at hck hck'
      have hkm : k + 1 ≤ maxLen := by unfold maxLen; omega
      have hkb : (k + 1) * 8 ≤ 140737488355328 := by omega
      have HBD : Hid (∀ wd, wd = wr ∨ wd = wr.drew → Below w0.heap.size w0 wd) := fun wd h => by
        rcases h with rfl | rfl
        · exact HB.out
        · exact HB.out.drew
      go_wp2_with fail
      go_region_law ((refine st_app1 (w0 := w0) rfl (.tmp 31) (.tmp 41) 23 rfl Tryz.eC u6 k _ rfl (show Ow wr.drew _ _ _ _ _ from HO.out) (.complex .f32 p.1 p.2) rfl rfl hkm hkb HB.out.drew ?_; intro v' w3 hown3 hb3; have HO3 := Lib.hid hown3; have HB3 := Lib.hid hb3; clear hown3 hb3))
      all_goals
        have HO4 : Ow w3 w0.heap.size 73 v' (k + 1) ((rngL (fun i => mulC (nth xs i) (nth ys i)) k).map cv ++ [cv p]) := HO3.out
        rw [HN.out] at HO4
        have HO5 := Lib.hid HO4
        clear HO4
        go_wp2_with fail
        go_roundw
        case rel => exact ⟨k + 1, by omega, by go_num, HO5.out, HB3.out⟩
        case measure => simp [intOf]; omega
    · obtain rfl : k = n := by omega
      obtain ⟨A2, c2, rfl⟩ := HO.out.shape
      have HR : Hid (∀ w', Dr wr w' → RetC w (rngL (fun i => mulC (nth xs i) (nth ys i)) k) true (.returned (.tuple #[.slice A2 k c2, .bool true])) w') := fun w' hd => by
        obtain ⟨m3, rfl⟩ := hd
        have hB := HB0.out.trans (HB.out.mono (by rw [HZ0.out]; exact Nat.le_refl _))
        exact ⟨_, _, _, rfl, (HO.out.mono (by rw [HZ0.out]; exact Nat.le_refl _)).drewN m3, below_drewN hB m3⟩
      clear hb
      go_wp2_with fail
      refine (told_any A2 k c2 _ wr (by omega) HO.out.sl HFL.out).mono ?_
      rintro e w' ⟨rfl, hd⟩
      have HRW := Lib.hid (HR.out w' hd)
      clear hd
      go_wp2_with fail
      go_ret2
      exact HRW.out
end Go.Proofs.YtnomlkkhkacajaaGreatDoor
