/- Texts on the way to a law (E8), each with its own remark. -/
import Derived.Test.YtnomlkkhkacajaaPA34
import Derived.Deep.RegionLaw
namespace Go.Proofs.Ytnomlkkhkacajaa
open Go.RowKit

/-- A block of two cells that may be written. -/
structure KAt (w : World) (b : Nat) (x y : Value) : Prop where
  c0 : w.cell? ⟨b, 0, none⟩ = some x
  c1 : w.cell? ⟨b, 1, none⟩ = some y
  f0 : w.frozen? ⟨b, 0, none⟩ = false
  f1 : w.frozen? ⟨b, 1, none⟩ = false
  lt : b < w.heap.size
theorem KAt.keep {w w' : World} {b : Nat} {x y : Value} (h : KAt w b x y) (hs : w.heap.size ≤ w'.heap.size) (hk : w'.heap[b]? = w.heap[b]?) : KAt w' b x y :=
  ⟨(World.cell?_of_block (a := ⟨b, 0, none⟩) hk).trans h.c0, (World.cell?_of_block (a := ⟨b, 1, none⟩) hk).trans h.c1, (frozen_of_block (a := ⟨b, 0, none⟩) hk).trans h.f0, (frozen_of_block (a := ⟨b, 1, none⟩) hk).trans h.f1, Nat.lt_of_lt_of_le h.lt hs⟩
theorem KAt.below {w w' : World} {b B : Nat} {x y : Value} (h : KAt w b x y) (hb : Below B w w') (hB : b < B) : KAt w' b x y := h.keep hb.size (hb.block b hB)
theorem KAt.pk {w w' : World} {b g : Nat} {x y : Value} (h : KAt w b x y) (hp : Pk g w w') (hg : b ≠ g) : KAt w' b x y := h.keep hp.size (hp.block b h.lt hg)
theorem KAt.new (w : World) (x y : Value) (E : TypeId) : KAt (w.alloc (.cells #[x, y] E)) w.heap.size x y :=
  ⟨by rw [World.cell?_alloc_at _ _ _ _ rfl]; rfl, by rw [World.cell?_alloc_at _ _ _ _ rfl]; rfl, by simp, by simp, by simp⟩
theorem KAt.set0 {w : World} {b : Nat} {x y : Value} (h : KAt w b x y) (z : Value) : KAt (w.setCell ⟨b, 0, none⟩ z) b z y :=
  ⟨World.cell?_setCell_same' w _ _ (by rw [h.c0]; rfl), (World.cell?_setCell_other _ _ _ _ (by intro e; injection e with _ e2; cases e2)).trans h.c1, by rw [World.frozen?_setCell]; exact h.f0, by rw [World.frozen?_setCell]; exact h.f1, by rw [World.setCell]; simpa using h.lt⟩
theorem KAt.set1 {w : World} {b : Nat} {x y : Value} (h : KAt w b x y) (z : Value) : KAt (w.setCell ⟨b, 1, none⟩ z) b x z :=
  ⟨(World.cell?_setCell_other _ _ _ _ (by intro e; injection e with _ e2; cases e2)).trans h.c0, World.cell?_setCell_same' w _ _ (by rw [h.c1]; rfl), by rw [World.frozen?_setCell]; exact h.f0, by rw [World.frozen?_setCell]; exact h.f1, by rw [World.setCell]; simpa using h.lt⟩
theorem size_alloc (w : World) (o : Obj) : (w.alloc o).heap.size = w.heap.size + 1 := by simp
/-- A new desk. -/
def RetK (w : World) (d : Dk) (e : Ending) (w' : World) : Prop :=
  ∃ A n c A' m c', e = .returned (.agg #[.slice A n c, .slice A' m c']) ∧ Sg w' w.heap.size A n c d.now ∧ Po w' w.heap.size A' m c' d.past ∧ Below w.heap.size w w' ∧ ∀ ad ad', A = some ad → A' = some ad' → ad.block ≠ ad'.block
/-- One signal more is copied. -/
theorem copy_step {w2 wr w5 w6 : World} {k n4 c3 c5 c6 : Nat} {A2v : Value} {A3 A5 A6 : Option Addr} {vs : List Value} {ps : List (List C)} {x : List C} (hb : Below w2.heap.size w2 wr) (hka : KAt wr w2.heap.size A2v (.slice A3 k c3)) (hb5 : Below wr.heap.size wr w5)
    (ho5 : Ow w5 wr.heap.size 35 (.slice A5 n4 c5) n4 (x.map cv)) (hpv : Pv wr (w2.heap.size + 1) vs ps) (hpn : Pn (.slice A3 k c3) vs) (hgn : ∀ ad, A3 = some ad → w2.heap.size + 1 ≤ ad.block ∧ ad.block < wr.heap.size)
    (ho6 : Ow w6 (w2.heap.size + 1) 23 (.slice A6 (k + 1) c6) (k + 1) (vs ++ [.slice A5 n4 c5])) (hb6 : Below (w2.heap.size + 1) w5 w6)
    (hf6 : ∀ b, b < w5.heap.size → (Value.slice A3 k c3).ownBlock ≠ some b → w6.heap[b]? = w5.heap[b]?) (hl6 : ∀ b, b < w5.heap.size → (Value.slice A3 k c3).ownBlock ≠ some b → (Value.slice A6 (k + 1) c6).ownBlock ≠ some b) :
    KAt w6 w2.heap.size A2v (.slice A3 k c3) ∧ Po w6 (w2.heap.size + 1) A6 (k + 1) c6 (ps ++ [x]) ∧ Below w2.heap.size w2 w6 := by
  have hlt := hka.lt
  have hs5 := hb5.size
  refine ⟨(hka.below hb5 hlt).below hb6 (Nat.lt_succ_self _), ?_, (hb.trans (hb5.mono hb.size)).trans (hb6.mono (Nat.le_succ _))⟩
  refine Po.snoc (hpv.below hb5) hpn ((Sg.of ho5).mono hlt) (fun ad e => ?_) ho6 hb6.size hf6 hl6
  have h1 := (ho5.ge ad e).1
  cases A3 with
  | none => intro e; cases e
  | some a =>
    intro e
    injection e with e
    have := (hgn a rfl).2
    omega
theorem cs_cells (x : List C) : ∀ u ∈ x.map cv, u.oneCell' = true := cvs_one x

set_option maxHeartbeats 4000000 in
set_option maxRecDepth 100000 in
theorem sCopy (A A' : Option Addr) (n c m c' : Nat) (d : Dk) (w : World) (hd : DkV w 0 A n c A' m d) (hz : DkS d) :
    Calls Try.prog 22 #[.agg #[.slice A n c, .slice A' m c']] w (RetK w d) := by
  have HP := Lib.hid hd.past
  have hl := hd.past.len
  have hnl := hd.now.len
  have hm9 : m ≤ 9 := by have := hz.len; omega
  have hn17 : n ≤ 17 := by have := hz.now; omega
  have HZ := Lib.hid hz
  have HL := Lib.hid hl
  obtain ⟨W1, hW1⟩ : ∃ W1, W1 = (w.alloc (.cells #[.slice A n c, .slice A' m c'] 26)).alloc (.cells #[.slice none 0 0, .slice none 0 0] 26) := ⟨_, rfl⟩
  have hs1 : W1.heap.size = w.heap.size + 1 + 1 := by rw [hW1, size_alloc, size_alloc]
  have HB1 : Hid (Below w.heap.size w W1) := by rw [hW1]; exact (below_alloc w _).trans ((below_alloc _ _).mono (by rw [size_alloc]; omega))
  have HK0 : Hid (KAt W1 w.heap.size (.slice A n c) (.slice A' m c')) := by rw [hW1]; exact (KAt.new w _ _ _).below (below_alloc _ _) (by rw [size_alloc]; omega)
  have HK1 : Hid (KAt W1 (w.heap.size + 1) (.slice none 0 0) (.slice none 0 0)) := by
    rw [hW1]
    have h := KAt.new (w.alloc (.cells #[.slice A n c, .slice A' m c'] 26)) (.slice none 0 0) (.slice none 0 0) 26
    rwa [size_alloc] at h
  have HE : Hid (Ow (W1.alloc (.cells #[] 35)) (w.heap.size + 1 + 1) 35 (.slice (some ⟨w.heap.size + 1 + 1, 0, none⟩) 0 0) 0 []) := by
    have h := Ow.empty W1 35
    rwa [hs1] at h
  have HX1 : Hid (Sg (W1.alloc (.cells #[] 35)) 0 A n c d.now) := (hd.now.below HB1.out).below (below_alloc _ _)
  have hz2 : w.heap.size + 1 + 1 ≤ (W1.alloc (.cells #[] 35)).heap.size := by rw [size_alloc, hs1]; omega
  have HBE : Hid (Below (w.heap.size + 1 + 1) W1 (W1.alloc (.cells #[] 35))) := by have h := below_alloc W1 (.cells #[] 35); rwa [hs1] at h
  obtain ⟨k0, k1, _, _, _⟩ := HK0.out
  clear hd hz hl hnl
  go_enter Try.func22, Try.ntmps22
  go_wp2_with (at_builtin; rw [← hW1]; refine wl_appS (w.heap.size + 1 + 1) (d.now.map cv) hz2 rfl (.tmp 5) (.tmp 7) 23 rfl Try.eC _ 0 _ rfl HE.out A n c rfl HX1.out.nil HX1.out.cs (cvs_one _) (by unfold maxLen; omega) (by omega) ?_; intro v' w2 ho2 hb2; rw [Nat.zero_add, List.nil_append] at ho2; obtain ⟨A2, c2, rfl⟩ := ho2.shape; have HO2 := Lib.hid ho2; have HB2 : Hid (Below (w.heap.size + 1 + 1) W1 w2) := HBE.out.trans hb2; clear ho2 hb2)
  have hz3 : w.heap.size + 1 + 1 ≤ w2.heap.size := by have := HB2.out.size; omega
  have HS2 : Hid (Sg w2 (w.heap.size + 1 + 1) A2 n c2 d.now) := Sg.of HO2.out
  have HBW : Hid (Below w.heap.size w w2) := HB1.out.trans (HB2.out.mono (by omega))
  have HD2 : Hid (Ps w2 0 A' m d.past) := HP.out.below HBW.out
  have HK02 : Hid (KAt w2 w.heap.size (.slice A n c) (.slice A' m c')) := HK0.out.below HB2.out (by omega)
  have HK12 : Hid (KAt w2 (w.heap.size + 1) (.slice none 0 0) (.slice none 0 0)) := HK1.out.below HB2.out (by omega)
  have HN : Hid (KAt (w2.alloc (.cells #[.slice A2 n c2, .slice none 0 0] 26)) w2.heap.size (.slice A2 n c2) (.slice none 0 0)) := KAt.new w2 _ _ _
  clear k0 k1 hW1
  go_loopw [4] (fun i wr => ∃ (k : Nat) (A3 : Option Addr) (c3 : Nat), k ≤ m ∧ i = .int .i64 k ∧ KAt wr w2.heap.size (.slice A2 n c2) (.slice A3 k c3) ∧ Po wr (w2.heap.size + 1) A3 k c3 (d.past.take k) ∧ Below w2.heap.size w2 wr) (fun i _ => m - (intOf i).toNat)
  case atStart => exact ⟨0, none, 0, by omega, rfl, HN.out, Po.nil _ _, below_alloc _ _⟩
  case round =>
    obtain ⟨k, A3, c3, hk, rfl, hka, hpo, hb⟩ := hrel
    have HKA := Lib.hid hka
    have HPO := Lib.hid hpo
    have HB := Lib.hid hb
    obtain ⟨g0, g1, q0, q1, hgl⟩ := hka
    obtain ⟨k0, k1, _, _, hkl⟩ := HK02.out.below hb (by omega)
    clear hpo
    by_cases hlt : k < m
    · obtain ⟨b, o, x, A4, n4, c4, rfl, hbl, hx, hc, hcs⟩ := HD2.out.at_ hlt
      have hck := (hb.cell (p := ⟨b, o + k, none⟩) hbl).trans hc
      have HSX := Lib.hid (hcs.below hb)
      have hn4 : n4 ≤ 17 := by have h1 := hcs.len; have h2 := HZ.out.at_ hx; omega
      have HTK : Hid (d.past.take k ++ [x] = d.past.take (k + 1)) := by show _ = _; rw [List.take_add_one, hx]; rfl
      obtain ⟨vs, hov, hpv, hpn⟩ := HPO.out
      have HOV := Lib.hid hov
      have HPV := Lib.hid hpv
      have HPN := Lib.hid hpn
      have hgn : ∀ ad, A3 = some ad → w2.heap.size + 1 ≤ ad.block ∧ ad.block < wr.heap.size := hov.ge
      have HGN := Lib.hid hgn
      clear hb hc hcs hx hov hpv hpn hgn
      have HGW : Hid (w2.heap.size < wr.heap.size) := hgl
      have hbl2 : b < wr.heap.size := Nat.lt_trans hbl hgl
      have HEM : Hid (Ow (wr.drew.alloc (.cells #[] 35)) wr.heap.size 35 (.slice (some ⟨wr.heap.size, 0, none⟩) 0 0) 0 []) := Ow.empty wr.drew 35
      have HBD : Hid (Below wr.heap.size wr (wr.drew.alloc (.cells #[] 35))) := ((Below.refl _ wr).drew).alloc (Nat.le_refl _) _
      have HSD := Lib.hid (HSX.out.below HBD.out)
      have hsz5 := HBD.out.size
      go_wp2_with fail
      go_region_law ((first
        | (refine st_appS wr.heap.size (x.map cv) hsz5 rfl (.tmp 19) (.tmp 24) 23 rfl Try.eC _ 0 _ rfl HEM.out A4 n4 c4 rfl HSD.out.nil HSD.out.cs (cvs_one _) (by unfold maxLen; omega) (by omega) ?_; intro v5 w5 ho5 hb5; rw [Nat.zero_add, List.nil_append] at ho5; obtain ⟨A5, c5, rfl⟩ := ho5.shape; have HO5 := Lib.hid ho5; have HB5 : Hid (Below wr.heap.size wr w5) := HBD.out.trans hb5; clear ho5 hb5; obtain ⟨p0, p1, s0, s1, pl⟩ := HKA.out.below HB5.out HGW.out; have HOV5 := Lib.hid (HOV.out.below HB5.out); have hsz6 : w2.heap.size + 1 ≤ w5.heap.size := (Nat.le_trans HGW.out HB5.out.size))
        | (refine st_appW (w2.heap.size + 1) (.slice A5 n4 c5) hsz6 rfl (.tmp 18) (.tmp 26) 24 rfl Try.ePs _ k vs rfl HOV5.out rfl rfl (by unfold maxLen; omega) (by omega) ?_; intro v6 w6 ho6 hb6 hf6 hl6; obtain ⟨A6, c6, rfl⟩ := ho6.shape; have HST := Lib.hid (copy_step HB.out HKA.out HB5.out HO5.out HPV.out HPN.out HGN.out ho6 hb6 hf6 hl6); clear ho6 hb6 hf6 hl6 p0 p1 s0 s1 pl; obtain ⟨p0, p1, s0, s1, pl⟩ := HST.out.1)))
      all_goals
        have HK7 := Lib.hid (HST.out.1.set1 (.slice A6 (k + 1) c6))
        have HP7 := Lib.hid (HST.out.2.1.pk ((Pk.refl w2.heap.size w6).setCell 1 (.slice A6 (k + 1) c6)) (Nat.lt_succ_self _))
        have HB7 := Lib.hid (HST.out.2.2.setCell (p := ⟨w2.heap.size, 1, none⟩) (Nat.le_refl _) (.slice A6 (k + 1) c6))
        rw [HTK.out] at HP7
        go_wp2_with fail
        go_roundw
        case rel => exact ⟨k + 1, A6, c6, by omega, by go_num, HK7.out, HP7.out, HB7.out⟩
        case measure => simp [intOf]; omega
    · obtain rfl : k = m := by omega
      obtain ⟨r0, r1, s0, s1, rl⟩ := HK12.out.below hb (by omega)
      have HPK : Hid (Pk (w.heap.size + 1) wr ((wr.setCell ⟨w.heap.size + 1, 0, none⟩ (.slice A2 n c2)).setCell ⟨w.heap.size + 1, 1, none⟩ (.slice A3 k c3))) := ((Pk.refl _ wr).setCell 0 _).setCell 1 _
      have HR : Hid (RetK w d (.returned (.agg #[.slice A2 n c2, .slice A3 k c3])) ((wr.setCell ⟨w.heap.size + 1, 0, none⟩ (.slice A2 n c2)).setCell ⟨w.heap.size + 1, 1, none⟩ (.slice A3 k c3))) := by
        have h1 := HPO.out
        rw [List.take_of_length_le (by have := HL.out; omega)] at h1
        exact ⟨_, _, _, _, _, _, rfl, ((HS2.out.below HB.out).pk HPK.out (by omega)).mono (by omega), (h1.pk HPK.out (by omega)).mono (by omega), (((HBW.out.trans (HB.out.mono (by omega))).setCell (p := ⟨w.heap.size + 1, 0, none⟩) (by show w.heap.size ≤ w.heap.size + 1; omega) _).setCell (p := ⟨w.heap.size + 1, 1, none⟩) (by show w.heap.size ≤ w.heap.size + 1; omega) _), fun ad ad' e1 e2 => (by have q1 := (HS2.out.ge ad e1).2; obtain ⟨_, q2, _⟩ := h1; have q3 := (q2.ge ad' e2).1; omega)⟩
      clear hb
      go_wp2_with fail
      refine bodyPost_ret (v := .agg #[.slice A2 n c2, .slice A3 k c3]) (by simp [results, Try.results22, go_sem, r0, r1]) rfl ?_
      exact HR.out
end Go.Proofs.Ytnomlkkhkacajaa
