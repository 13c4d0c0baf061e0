/- The draw of the law FnSignalText; plain facts on texts there and back. -/
import Derived.Test.YtemcdeopehdggaaDoorU11
import Derived.Test.YtemcdeopehdggaaDoorP1
import Derived.Test.YtemcdeopehdggaaDoorD9
namespace Go.Proofs.YtemcdeopehdggaaDoor
open Go.RowKit
open Go.Lib hiding intOf

set_option maxHeartbeats 1000000 in
theorem drawSignalText_any (A : Option Addr) (n c : Nat) (w : World) (hnc : n ≤ c) (hn : n ≤ 1048576) (h : Code8 w A n) :
    Calls Tryd.prog 18 #[.slice A n c] w (RetDL w) := by
  go_enter Tryd.func18, Tryd.ntmps18
  go_wp2_with fail
  refine (open_any A n c w hnc hn h).mono ?_
  rintro e w0 ⟨g, rfl, hg, hr0, hb0⟩
  go_wp2_with fail
  refine (points_any g 0 w0 (by omega) hr0).mono ?_
  rintro e w1 ⟨v, rfl, v1, v2, hr1, hp1⟩
  obtain ⟨q, rfl⟩ := Int.eq_ofNat_of_zero_le v1
  go_wp2_with fail
  refine (signal_any g 1 q 6 w1 (by omega) (by omega) (by omega) hr1).mono ?_
  rintro e w2 ⟨A2, m, c2, xs, rfl, ho, hl, hd, _, hr2, hp2⟩
  go_wp2_with fail
  go_ret
  have h0 := ho.len
  rw [List.length_map] at h0
  exact ⟨A2, m, c2, xs, rfl, ho.mono (Nat.le_trans hb0.size hp1.size), by omega, hd, hb0.trans ((hp1.trans hp2).below hg hb0.size)⟩
theorem mils_len (ps : List Pr) : (mils ps).length = ps.length := by unfold mils; rw [List.length_map]
theorem thoAll_mils : ∀ {ps : List Pr}, (∀ p ∈ ps, InR p) → thoAll (mils ps) = some ps
  | [], _ => rfl
  | p :: r, h => by
    have hp := h p List.mem_cons_self
    have hr := thoAll_mils (ps := r) fun q hq => h q (List.mem_cons_of_mem _ hq)
    show thoAll (milli p.1 p.2 :: mils r) = _
    unfold thoAll
    rw [tho_milli hp.1 hp.2.1 hp.2.2.1 hp.2.2.2, hr]
    rfl
theorem sigB_mils {ps : List Pr} (h : ps.length ≤ 16) : sigB (mils ps) = true := by
  unfold sigB
  rw [mils_fin, mils_len, decide_eq_true h]; rfl
theorem sigT_mils {ps : List Pr} (h : ∀ p ∈ ps, InR p) (hl : ps.length ≤ 16) : sigT (mils ps) = some (sigText ps) :=
  sigT_yes (sigB_mils hl) (thoAll_mils h)
def pth (ps : List Pr) (k : Nat) : Pr := ps.getD k (0, 0)
theorem thoAll_nth : ∀ {xs : List C} {ps : List Pr} {k : Nat}, thoAll xs = some ps → k < xs.length → tho (nth xs k) = some (pth ps k)
  | [], ps, k, _, hk => by simp at hk
  | z :: r, ps, k, h, hk => by
    unfold thoAll at h
    split at h
    · cases h
    · rename_i p hp
      cases hr : thoAll r with
      | none => rw [hr] at h; cases h
      | some qs =>
        rw [hr] at h; cases h
        cases k with
        | zero => exact hp
        | succ k => exact thoAll_nth (xs := r) (k := k) hr (by simp at hk; omega)
theorem mils_nth {ps : List Pr} {k : Nat} (h : k < ps.length) : nth (mils ps) k = milli (pth ps k).1 (pth ps k).2 := by
  rw [nth_eq (by rw [mils_len]; exact h)]
  unfold mils pth
  rw [List.getElem_map, List.getD_eq_getElem?_getD, List.getElem?_eq_getElem h]; rfl
theorem sigB_fin {xs : List C} (h : sigB xs = true) {k : Nat} (hk : k < xs.length) : finB (nth xs k) = true := by
  unfold sigB at h
  rw [Bool.and_eq_true] at h
  rw [nth_eq hk]
  exact List.all_eq_true.1 h.2 _ (List.getElem_mem hk)
theorem eqV_of_order {a b : C} (ha : finB a = true) (hb : finB b = true) (h1 : (FloatKind.f32.format.order a.1 b.1 == some .eq) = true) (h2 : (FloatKind.f32.format.order a.2 b.2 == some .eq) = true) : EqV a b := by
  obtain ⟨a1, a2⟩ := finB_iff.1 ha
  obtain ⟨b1, b2⟩ := finB_iff.1 hb
  have e1 : (Ieee.single.order a.1 b.1 == some .eq) = true := h1
  have e2 : (Ieee.single.order a.2 b.2 == some .eq) = true := h2
  rw [eq_iff a1 b1, decide_eq_true_eq] at e1
  rw [eq_iff a2 b2, decide_eq_true_eq] at e2
  exact ⟨a1, a2, b1, b2, e1, e2⟩
end Go.Proofs.YtemcdeopehdggaaDoor
