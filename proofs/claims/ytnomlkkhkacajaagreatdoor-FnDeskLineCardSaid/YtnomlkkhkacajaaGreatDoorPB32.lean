/- Texts on the way to a law (E13), each with its own remark. -/
import Derived.Test.YtnomlkkhkacajaaGreatDoorPB31
namespace Go.Proofs.YtnomlkkhkacajaaGreatDoor
open Go.RowKit
open Go.Lib hiding intOf

theorem Sg.kx {w w' : World} {B : Nat} {X : Nat → Prop} {A : Option Addr} {n c : Nat} {x : List C} (h : Sg w B A n c x) (hX : ∀ b, B ≤ b → b < w.heap.size → ¬ X b) (hk : Kx X w w') : Sg w' B A n c x :=
  h.keep hk.size fun ad e hl => hk.block ad.block hl (hX _ (h.ge ad e).1 hl)
theorem Po.kx {w w' : World} {B : Nat} {X : Nat → Prop} {A : Option Addr} {m c : Nat} {ps : List (List C)} (h : Po w B A m c ps) (hX : ∀ b, B ≤ b → b < w.heap.size → ¬ X b) (hk : Kx X w w') : Po w' B A m c ps := by
  obtain ⟨vs, h1, h2, h3⟩ := h
  have hf : Pf w B X A m c ps := ⟨vs, h1, h2, h3, fun ad e => hX _ (h1.ge ad e).1 (h1.ge ad e).2, fun ad n c hm => by
    obtain ⟨z, hz⟩ := h2.mem hm
    exact hX _ (hz.ge ad rfl).1 (hz.ge ad rfl).2⟩
  exact (hf.kx hk).po
theorem Po.some {w : World} {B : Nat} {A : Option Addr} {m c : Nat} {ps : List (List C)} (h : Po w B A m c ps) (hm : 0 < m) : ∃ g, A = some ⟨g, 0, none⟩ ∧ m ≤ c ∧ c ≤ maxLen ∧ B ≤ g ∧ g < w.heap.size := by
  obtain ⟨vs, h1, _⟩ := h
  have hge := h1.ge
  rcases h1.2 with ⟨_, h0⟩ | ⟨g, cap, cur, hv, hg, hh, hn, hc, _⟩
  · omega
  · injection hv with e1 e2 e3
    exact ⟨g, e1, by omega, by omega, (hge _ e1).1, (hge _ e1).2⟩

set_option maxHeartbeats 4000000 in
set_option maxRecDepth 100000 in
theorem sDeskDo_undo (A A' : Option Addr) (n c m c' : Nat) (d : Dk) (w : World) (hd : DkV w 0 A n c A' m d) (hk : dkB d = true) (hu : undB d ⟨6, 0, []⟩ = true) :
    Calls Tryz.prog 10 #[.agg #[.slice A n c, .slice A' m c'], dv ⟨6, 0, []⟩] w (RetKB w (doF d ⟨6, 0, []⟩)) := by
  have hto := bs_nilB
  have hto2 := bs_toL
  have hl := hd.past.len
  have hnl := hd.now.len
  have hm8 : m ≤ 8 := by have := (dkB_iff.1 hk).2.1; omega
  have hn16 : n ≤ 16 := by have := sig_len (dkB_iff.1 hk).1; omega
  obtain ⟨w0, hw0⟩ : ∃ w0, w0 = ((w.alloc (.cells #[.slice A n c, .slice A' m c'] 26)).alloc (.cells #[.int .i64 6, .int .i64 0, .string (bs [])] 28)).alloc (.cells #[.slice none 0 0, .slice none 0 0] 26) := ⟨_, rfl⟩
  have HD0 : Hid (Do3 w A n c A' m c' 6 0 [] w0) := by rw [hw0]; exact Do3.of w A n c A' m c' 6 0 [] _ _ _
  have HV0 : Hid (DkV w0 0 A n c A' m d) := hd.below HD0.out.below
  have hz := DkS.ok hk
  have HOK : Hid (∀ w, DkV w 0 A n c A' m d → Calls Tryz.prog 17 #[.agg #[.slice A n c, .slice A' m c']] w fun e w' => e = .returned (.bool true) ∧ Below w.heap.size w w') := fun w h => by rw [← hk]; exact sDeskOk A A' n c m c' d w h hz
  have HCP : Hid (∀ w, DkV w 0 A n c A' m d → Calls Tryz.prog 39 #[.agg #[.slice A n c, .slice A' m c']] w (RetK w d)) := fun w h => sCopy A A' n c m c' d w h hz
  have HNL := Lib.hid hnl
  have HL := Lib.hid hl
  obtain ⟨k0, k1, l0, l1, l2⟩ := HD0.out.desk
  obtain ⟨d0, d1, d2, e0, e1, e2, e3⟩ := HD0.out.deed
  have hmp : 0 < m := by
    have := undB_past hu
    rw [← hl]
    exact List.length_pos_iff.2 this
  obtain ⟨p, hp⟩ : ∃ p, m = p + 1 := ⟨m - 1, by omega⟩
  have HP := Lib.hid hp
  have e9 : IntKind.i64.wrap ((m : Int) - 1) = (p : Int) := by rw [IntWalk.i64_in _ (by omega)]; omega
  have hpm : (p : Int) < (m : Int) := by omega
  have HDO := Lib.hid (doF_undo hk hu)
  clear hz hk hu hd hl hnl hp
  unfold dv
  go_enter Tryz.func10, Tryz.ntmps10
  go_wp2_with fail
  rw [← hw0]
  clear hw0
  refine (HOK.out _ HV0.out).mono ?_
  rintro e w1 ⟨rfl, hb1⟩
  have HD1 := Lib.hid (HD0.out.call hb1)
  have HV1 := Lib.hid (HV0.out.below hb1)
  clear hb1 k0 k1 l0 l1 l2 d0 d1 d2 e0 e1 e2 e3
  obtain ⟨k0, k1, l0, l1, l2⟩ := HD1.out.desk
  obtain ⟨d0, d1, d2, e0, e1, e2, e3⟩ := HD1.out.deed
  go_wp2_with fail
  refine (HCP.out _ HV1.out).mono ?_
  rintro e w2 ⟨A2, n2, c2, A3, m3, c3, rfl, hs2, hp2, hb2, hne2⟩
  obtain rfl : n = n2 := by have h1 := hs2.len; have h2 := HNL.out; omega
  obtain rfl : m = m3 := by have h1 := hp2.ps.len; have h2 := HL.out; omega
  have HD2 := Lib.hid (HD1.out.call hb2)
  have HS2 := Lib.hid hs2
  have HP2 := Lib.hid hp2
  have HNE := Lib.hid hne2
  have HB2 := Lib.hid hb2
  have HW1 : Hid (w.heap.size + 1 + 1 < w1.heap.size) := HD1.out.size
  clear hs2 hp2 hb2 hne2 k0 k1 l0 l1 l2 d0 d1 d2 e0 e1 e2 e3
  obtain ⟨k0, k1, l0, l1, l2⟩ := HD2.out.desk
  obtain ⟨d0, d1, d2, e0, e1, e2, e3⟩ := HD2.out.deed
  obtain ⟨gg, hgg, hmc, hcm, hgB, hgl⟩ := HP2.out.some hmp
  subst hgg
  obtain ⟨b, o, x, A7, n7, c7, hbo, hbl, hx, hc, hsx⟩ := HP2.out.ps.at_ (k := p) (by omega)
  injection hbo with hbo
  injection hbo with hb1 hb2
  subst hb1; subst hb2
  rw [Nat.zero_add] at hc
  have HXE := Lib.hid hx
  have HSX := Lib.hid hsx
  have hpc : (p : Int) ≤ (c3 : Int) := by omega
  have hpc2 : p ≤ c3 := by omega
  obtain ⟨w3, hw3⟩ : ∃ w3, w3 = w2.alloc (.cells #[.slice A2 n c2, .slice (some ⟨gg, 0, none⟩) m c3] 26) := ⟨_, rfl⟩
  have HG3 := Lib.hid (KAt.new w2 (.slice A2 n c2) (.slice (some ⟨gg, 0, none⟩) m c3) 26)
  rw [← hw3] at HG3
  have HB3 : Hid (Below w2.heap.size w2 w3) := by rw [hw3]; exact below_alloc _ _
  have hc3 : w3.cell? ⟨gg, p, none⟩ = some (.slice A7 n7 c7) := (HB3.out.cell (p := ⟨gg, p, none⟩) hbl).trans hc
  have HD3 := Lib.hid (HD2.out.call HB3.out)
  have hg2 : w.heap.size + 1 + 1 < w2.heap.size := Nat.lt_of_lt_of_le HW1.out HB2.out.size
  clear hx hc hsx
  go_upto_region 5 with fail
  rw [← hw3]
  clear hw3 k0 k1 l0 l1 l2 d0 d1 d2 e0 e1 e2 e3
  obtain ⟨r0, r1, s0, s1, s2⟩ := HD3.out.res
  obtain ⟨g0, g1, q0, q1, q2⟩ := HG3.out
  have hgr : ¬ w2.heap.size = w.heap.size + 1 + 1 := by omega
  have hgr2 : ¬ w.heap.size + 1 + 1 = w2.heap.size := by omega
  have hgr3 : ¬ w2.heap.size = gg := by omega
  have hgr4 : ¬ gg = w2.heap.size := by omega
  have HR : Hid (RetKB w (⟨(d.past.getLast?).getD [], d.past.take (d.past.length - 1)⟩, true) (.returned (.tuple #[.agg #[.slice A7 n7 c7, .slice (some ⟨gg, 0, none⟩) p c3], .bool true])) ((((w3.setCell ⟨w2.heap.size, 0, none⟩ (.slice A7 n7 c7)).setCell ⟨w2.heap.size, 1, none⟩ (.slice (some ⟨gg, 0, none⟩) p c3)).setCell ⟨w.heap.size + 1 + 1, 0, none⟩ (.slice A7 n7 c7)).setCell ⟨w.heap.size + 1 + 1, 1, none⟩ (.slice (some ⟨gg, 0, none⟩) p c3))) := by
    have hX : ∀ b, w1.heap.size ≤ b → b < w2.heap.size → ¬ (b = w2.heap.size ∨ b = w.heap.size + 1 + 1) := fun b h1 h2 hx => by have := HW1.out; rcases hx with hx | hx <;> omega
    have hkf := ((((Kx.of (X := fun b => b = w2.heap.size ∨ b = w.heap.size + 1 + 1) HB3.out).trans (Kx.set w3 (p := ⟨w2.heap.size, 0, none⟩) (.inl rfl) (.slice A7 n7 c7))).trans (Kx.set _ (p := ⟨w2.heap.size, 1, none⟩) (.inl rfl) (.slice (some ⟨gg, 0, none⟩) p c3))).trans (Kx.set _ (p := ⟨w.heap.size + 1 + 1, 0, none⟩) (.inr rfl) (.slice A7 n7 c7))).trans (Kx.set _ (p := ⟨w.heap.size + 1 + 1, 1, none⟩) (.inr rfl) (.slice (some ⟨gg, 0, none⟩) p c3))
    have hs := HSX.out.kx hX hkf
    have h2 := HP2.out
    rw [HP.out] at h2
    have hq := h2.pop.kx hX hkf
    have e1 : (d.past.getLast?).getD [] = x := by rw [List.getLast?_eq_getElem?, HL.out, HP.out, Nat.add_sub_cancel, HXE.out]; rfl
    have e2 : d.past.take (d.past.length - 1) = d.past.take p := by rw [HL.out, HP.out, Nat.add_sub_cancel]
    rw [e1, e2]
    exact ⟨_, _, _, _, _, _, rfl, hs.mono HD1.out.below.size, hq.ps.mono HD1.out.below.size, fun _ => hq.mono HD1.out.below.size, (((HD3.out.below.setCell (p := ⟨w2.heap.size, 0, none⟩) (by show w.heap.size ≤ w2.heap.size; omega) _).setCell (p := ⟨w2.heap.size, 1, none⟩) (by show w.heap.size ≤ w2.heap.size; omega) _).setCell (p := ⟨w.heap.size + 1 + 1, 0, none⟩) (by show w.heap.size ≤ w.heap.size + 1 + 1; omega) _).setCell (p := ⟨w.heap.size + 1 + 1, 1, none⟩) (by show w.heap.size ≤ w.heap.size + 1 + 1; omega) _⟩
  go_wp2_with fail
  refine bodyPost_ret (v := .tuple #[.agg #[.slice A7 n7 c7, .slice (some ⟨gg, 0, none⟩) p c3], .bool true]) (by simp [results, Tryz.results10, go_sem, r0, r1]) rfl ?_
  rw [HDO.out]
  exact HR.out
theorem sDeskDo (A A' : Option Addr) (n c m c' : Nat) (d : Dk) (a : Dd) (w : World) (hd : DkV w 0 A n c A' m d) (hz : DkS d) (hg : dkB d = true → LvOk d.now) (ht : a.text.length ≤ 1073741824) :
    Calls Tryz.prog 10 #[.agg #[.slice A n c, .slice A' m c'], dv a] w (RetKB w (doF d a)) := by
  obtain ⟨k, i, t⟩ := a
  cases hk : dkB d
  · exact sDeskDo_bad A A' n c m c' d k i t w hd hz hk
  · cases hu : undB d ⟨k, i, t⟩
    · exact sDeskDo_made A A' n c m c' d k i t w hd hk hu (hg hk) ht
    · have h := hu
      unfold undB at h
      simp only [Bool.and_eq_true, decide_eq_true_eq] at h
      obtain ⟨⟨⟨rfl, rfl⟩, rfl⟩, _⟩ := h
      exact sDeskDo_undo A A' n c m c' d w hd hk hu
end Go.Proofs.YtnomlkkhkacajaaGreatDoor
