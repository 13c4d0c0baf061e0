/- Texts on the way to a law (E8, T1, B2, B3, B4, A5), each with its own remark. -/
import Derived.Test.YtnomlkkhkacajaaGreatDoorPB07
import Derived.Deep.RegionLaw
import Derived.Test.YtnomlkkhkacajaaGreatDoorPB06
import Derived.Test.YtnomlkkhkacajaaGreatDoorPB04
namespace Go.Proofs.YtnomlkkhkacajaaGreatDoor
open Go.RowKit

/-- A block of two cells that may be written. -/
structure KAt (w : World) (b : Nat) (x y : Value) : Prop where
  c0 : w.cell? ⟨b, 0, none⟩ = some x
  c1 : w.cell? ⟨b, 1, none⟩ = some y
  f0 : w.frozen? ⟨b, 0, none⟩ = false
  f1 : w.frozen? ⟨b, 1, none⟩ = false
  lt : b < w.heap.size
theorem KAt.keep {w w' : World} {b : Nat} {x y : Value} (h : KAt w b x y) (hs : w.heap.size ≤ w'.heap.size) (hk : w'.heap[b]? = w.heap[b]?) : KAt w' b x y :=
  ⟨(World.cell?_of_block (a := ⟨b, 0, none⟩) hk).trans h.c0, (World.cell?_of_block (a := ⟨b, 1, none⟩) hk).trans h.c1, (frozen_of_block (a := ⟨b, 0, none⟩) hk).trans h.f0, (frozen_of_block (a := ⟨b, 1, none⟩) hk).trans h.f1, Nat.lt_of_lt_of_le h.lt hs⟩
theorem KAt.below {w w' : World} {b B : Nat} {x y : Value} (h : KAt w b x y) (hb : Below B w w') (hB : b < B) : KAt w' b x y := h.keep hb.size (hb.block b hB)
theorem KAt.pk {w w' : World} {b g : Nat} {x y : Value} (h : KAt w b x y) (hp : Pk g w w') (hg : b ≠ g) : KAt w' b x y := h.keep hp.size (hp.block b h.lt hg)
theorem KAt.new (w : World) (x y : Value) (E : TypeId) : KAt (w.alloc (.cells #[x, y] E)) w.heap.size x y :=
  ⟨by rw [World.cell?_alloc_at _ _ _ _ rfl]; rfl, by rw [World.cell?_alloc_at _ _ _ _ rfl]; rfl, by simp, by simp, by simp⟩
theorem KAt.set0 {w : World} {b : Nat} {x y : Value} (h : KAt w b x y) (z : Value) : KAt (w.setCell ⟨b, 0, none⟩ z) b z y :=
  ⟨World.cell?_setCell_same' w _ _ (by rw [h.c0]; rfl), (World.cell?_setCell_other _ _ _ _ (by intro e; injection e with _ e2; cases e2)).trans h.c1, by rw [World.frozen?_setCell]; exact h.f0, by rw [World.frozen?_setCell]; exact h.f1, by rw [World.setCell]; simpa using h.lt⟩
theorem KAt.set1 {w : World} {b : Nat} {x y : Value} (h : KAt w b x y) (z : Value) : KAt (w.setCell ⟨b, 1, none⟩ z) b x z :=
  ⟨(World.cell?_setCell_other _ _ _ _ (by intro e; injection e with _ e2; cases e2)).trans h.c0, World.cell?_setCell_same' w _ _ (by rw [h.c1]; rfl), by rw [World.frozen?_setCell]; exact h.f0, by rw [World.frozen?_setCell]; exact h.f1, by rw [World.setCell]; simpa using h.lt⟩
theorem size_alloc (w : World) (o : Obj) : (w.alloc o).heap.size = w.heap.size + 1 := by simp
/-- A new desk. -/
def RetK (w : World) (d : Dk) (e : Ending) (w' : World) : Prop :=
  ∃ A n c A' m c', e = .returned (.agg #[.slice A n c, .slice A' m c']) ∧ Sg w' w.heap.size A n c d.now ∧ Po w' w.heap.size A' m c' d.past ∧ Below w.heap.size w w' ∧ ∀ ad ad', A = some ad → A' = some ad' → ad.block ≠ ad'.block
/-- One signal more is copied. -/
theorem copy_step {w2 wr w5 w6 : World} {k n4 c3 c5 c6 : Nat} {A2v : Value} {A3 A5 A6 : Option Addr} {vs : List Value} {ps : List (List C)} {x : List C} (hb : Below w2.heap.size w2 wr) (hka : KAt wr w2.heap.size A2v (.slice A3 k c3)) (hb5 : Below wr.heap.size wr w5)
    (ho5 : Ow w5 wr.heap.size 73 (.slice A5 n4 c5) n4 (x.map cv)) (hpv : Pv wr (w2.heap.size + 1) vs ps) (hpn : Pn (.slice A3 k c3) vs) (hgn : ∀ ad, A3 = some ad → w2.heap.size + 1 ≤ ad.block ∧ ad.block < wr.heap.size)
    (ho6 : Ow w6 (w2.heap.size + 1) 23 (.slice A6 (k + 1) c6) (k + 1) (vs ++ [.slice A5 n4 c5])) (hb6 : Below (w2.heap.size + 1) w5 w6)
    (hf6 : ∀ b, b < w5.heap.size → (Value.slice A3 k c3).ownBlock ≠ some b → w6.heap[b]? = w5.heap[b]?) (hl6 : ∀ b, b < w5.heap.size → (Value.slice A3 k c3).ownBlock ≠ some b → (Value.slice A6 (k + 1) c6).ownBlock ≠ some b) :
    KAt w6 w2.heap.size A2v (.slice A3 k c3) ∧ Po w6 (w2.heap.size + 1) A6 (k + 1) c6 (ps ++ [x]) ∧ Below w2.heap.size w2 w6 := by
  have hlt := hka.lt
  have hs5 := hb5.size
  refine ⟨(hka.below hb5 hlt).below hb6 (Nat.lt_succ_self _), ?_, (hb.trans (hb5.mono hb.size)).trans (hb6.mono (Nat.le_succ _))⟩
  refine Po.snoc (hpv.below hb5) hpn ((Sg.of ho5).mono hlt) (fun ad e => ?_) ho6 hb6.size hf6 hl6
  have h1 := (ho5.ge ad e).1
  cases A3 with
  | none => intro e; cases e
  | some a =>
    intro e
    injection e with e
    have := (hgn a rfl).2
    omega
theorem cs_cells (x : List C) : ∀ u ∈ x.map cv, u.oneCell' = true := cvs_one x

set_option maxHeartbeats 4000000 in
set_option maxRecDepth 100000 in
theorem sCopy (A A' : Option Addr) (n c m c' : Nat) (d : Dk) (w : World) (hd : DkV w 0 A n c A' m d) (hz : DkS d) :
    Calls Tryz.prog 39 #[.agg #[.slice A n c, .slice A' m c']] w (RetK w d) := by
  have HP := Lib.hid hd.past
  have hl := hd.past.len
  have hnl := hd.now.len
  have hm9 : m ≤ 9 := by have := hz.len; omega
  have hn17 : n ≤ 17 := by have := hz.now; omega
  have HZ := Lib.hid hz
  have HL := Lib.hid hl
  obtain ⟨W1, hW1⟩ : ∃ W1, W1 = (w.alloc (.cells #[.slice A n c, .slice A' m c'] 26)).alloc (.cells #[.slice none 0 0, .slice none 0 0] 26) := ⟨_, rfl⟩
  have hs1 : W1.heap.size = w.heap.size + 1 + 1 := by rw [hW1, size_alloc, size_alloc]
  have HB1 : Hid (Below w.heap.size w W1) := by rw [hW1]; exact (below_alloc w _).trans ((below_alloc _ _).mono (by rw [size_alloc]; omega))
  have HK0 : Hid (KAt W1 w.heap.size (.slice A n c) (.slice A' m c')) := by rw [hW1]; exact (KAt.new w _ _ _).below (below_alloc _ _) (by rw [size_alloc]; omega)
  have HK1 : Hid (KAt W1 (w.heap.size + 1) (.slice none 0 0) (.slice none 0 0)) := by
    rw [hW1]
    have h := KAt.new (w.alloc (.cells #[.slice A n c, .slice A' m c'] 26)) (.slice none 0 0) (.slice none 0 0) 26
    rwa [size_alloc] at h
  have HE : Hid (Ow (W1.alloc (.cells #[] 73)) (w.heap.size + 1 + 1) 73 (.slice (some ⟨w.heap.size + 1 + 1, 0, none⟩) 0 0) 0 []) := by
    have h := Ow.empty W1 73
    rwa [hs1] at h
  have HX1 : Hid (Sg (W1.alloc (.cells #[] 73)) 0 A n c d.now) := (hd.now.below HB1.out).below (below_alloc _ _)
  have hz2 : w.heap.size + 1 + 1 ≤ (W1.alloc (.cells #[] 73)).heap.size := by rw [size_alloc, hs1]; omega
  have HBE : Hid (Below (w.heap.size + 1 + 1) W1 (W1.alloc (.cells #[] 73))) := by have h := below_alloc W1 (.cells #[] 73); rwa [hs1] at h
  obtain ⟨k0, k1, _, _, _⟩ := HK0.out
  clear hd hz hl hnl
  go_enter Tryz.func39, Tryz.ntmps39
  go_wp2_with (at_builtin; rw [← hW1]; refine wl_appS (w.heap.size + 1 + 1) (d.now.map cv) hz2 rfl (.tmp 5) (.tmp 7) 23 rfl Tryz.eC _ 0 _ rfl HE.out A n c rfl HX1.out.nil HX1.out.cs (cvs_one _) (by unfold maxLen; omega) (by omega) ?_; intro v' w2 ho2 hb2; rw [Nat.zero_add, List.nil_append] at ho2; obtain ⟨A2, c2, rfl⟩ := ho2.shape; have HO2 := Lib.hid ho2; have HB2 : Hid (Below (w.heap.size + 1 + 1) W1 w2) := HBE.out.trans hb2; clear ho2 hb2)
  have hz3 : w.heap.size + 1 + 1 ≤ w2.heap.size := by have := HB2.out.size; omega
  have HS2 : Hid (Sg w2 (w.heap.size + 1 + 1) A2 n c2 d.now) := Sg.of HO2.out
  have HBW : Hid (Below w.heap.size w w2) := HB1.out.trans (HB2.out.mono (by omega))
  have HD2 : Hid (Ps w2 0 A' m d.past) := HP.out.below HBW.out
  have HK02 : Hid (KAt w2 w.heap.size (.slice A n c) (.slice A' m c')) := HK0.out.below HB2.out (by omega)
  have HK12 : Hid (KAt w2 (w.heap.size + 1) (.slice none 0 0) (.slice none 0 0)) := HK1.out.below HB2.out (by omega)
  have HN : Hid (KAt (w2.alloc (.cells #[.slice A2 n c2, .slice none 0 0] 26)) w2.heap.size (.slice A2 n c2) (.slice none 0 0)) := KAt.new w2 _ _ _
  clear k0 k1 hW1
  go_loopw [4] (fun i wr => ∃ (k : Nat) (A3 : Option Addr) (c3 : Nat), k ≤ m ∧ i = .int .i64 k ∧ KAt wr w2.heap.size (.slice A2 n c2) (.slice A3 k c3) ∧ Po wr (w2.heap.size + 1) A3 k c3 (d.past.take k) ∧ Below w2.heap.size w2 wr) (fun i _ => m - (intOf i).toNat)
  case atStart => exact ⟨0, none, 0, by omega, rfl, HN.out, Po.nil _ _, below_alloc _ _⟩
  case round =>
    obtain ⟨k, A3, c3, hk, rfl, hka, hpo, hb⟩ := hrel
    have HKA := Lib.hid hka
    have HPO := Lib.hid hpo
    have HB := Lib.hid hb
    obtain ⟨g0, g1, q0, q1, hgl⟩ := hka
    obtain ⟨k0, k1, _, _, hkl⟩ := HK02.out.below hb (by omega)
    clear hpo
    by_cases hlt : k < m
    · obtain ⟨b, o, x, A4, n4, c4, rfl, hbl, hx, hc, hcs⟩ := HD2.out.at_ hlt
      have hck := (hb.cell (p := ⟨b, o + k, none⟩) hbl).trans hc
      have HSX := Lib.hid (hcs.below hb)
      have hn4 : n4 ≤ 17 := by have h1 := hcs.len; have h2 := HZ.out.at_ hx; omega
      have HTK : Hid (d.past.take k ++ [x] = d.past.take (k + 1)) := by show _ = _; rw [List.take_add_one, hx]; rfl
      obtain ⟨vs, hov, hpv, hpn⟩ := HPO.out
      have HOV := Lib.hid hov
      have HPV := Lib.hid hpv
      have HPN := Lib.hid hpn
      have hgn : ∀ ad, A3 = some ad → w2.heap.size + 1 ≤ ad.block ∧ ad.block < wr.heap.size := hov.ge
      have HGN := Lib.hid hgn
      clear hb hc hcs hx hov hpv hpn hgn
      have HGW : Hid (w2.heap.size < wr.heap.size) := hgl
      have hbl2 : b < wr.heap.size := Nat.lt_trans hbl hgl
      have HEM : Hid (Ow (wr.drew.alloc (.cells #[] 73)) wr.heap.size 73 (.slice (some ⟨wr.heap.size, 0, none⟩) 0 0) 0 []) := Ow.empty wr.drew 73
      have HBD : Hid (Below wr.heap.size wr (wr.drew.alloc (.cells #[] 73))) := ((Below.refl _ wr).drew).alloc (Nat.le_refl _) _
      have HSD := Lib.hid (HSX.out.below HBD.out)
      have hsz5 := HBD.out.size
      go_wp2_with fail
      go_region_law ((first
        | (refine st_appS wr.heap.size (x.map cv) hsz5 rfl (.tmp 19) (.tmp 24) 23 rfl Tryz.eC _ 0 _ rfl HEM.out A4 n4 c4 rfl HSD.out.nil HSD.out.cs (cvs_one _) (by unfold maxLen; omega) (by omega) ?_; intro v5 w5 ho5 hb5; rw [Nat.zero_add, List.nil_append] at ho5; obtain ⟨A5, c5, rfl⟩ := ho5.shape; have HO5 := Lib.hid ho5; have HB5 : Hid (Below wr.heap.size wr w5) := HBD.out.trans hb5; clear ho5 hb5; obtain ⟨p0, p1, s0, s1, pl⟩ := HKA.out.below HB5.out HGW.out; have HOV5 := Lib.hid (HOV.out.below HB5.out); have hsz6 : w2.heap.size + 1 ≤ w5.heap.size := (Nat.le_trans HGW.out HB5.out.size))
        | (refine st_appW (w2.heap.size + 1) (.slice A5 n4 c5) hsz6 rfl (.tmp 18) (.tmp 26) 24 rfl Tryz.ePs _ k vs rfl HOV5.out rfl rfl (by unfold maxLen; omega) (by omega) ?_; intro v6 w6 ho6 hb6 hf6 hl6; obtain ⟨A6, c6, rfl⟩ := ho6.shape; have HST := Lib.hid (copy_step HB.out HKA.out HB5.out HO5.out HPV.out HPN.out HGN.out ho6 hb6 hf6 hl6); clear ho6 hb6 hf6 hl6 p0 p1 s0 s1 pl; obtain ⟨p0, p1, s0, s1, pl⟩ := HST.out.1)))
      all_goals
        have HK7 := Lib.hid (HST.out.1.set1 (.slice A6 (k + 1) c6))
        have HP7 := Lib.hid (HST.out.2.1.pk ((Pk.refl w2.heap.size w6).setCell 1 (.slice A6 (k + 1) c6)) (Nat.lt_succ_self _))
        have HB7 := Lib.hid (HST.out.2.2.setCell (p := ⟨w2.heap.size, 1, none⟩) (Nat.le_refl _) (.slice A6 (k + 1) c6))
        rw [HTK.out] at HP7
        go_wp2_with fail
        go_roundw
        case rel => exact ⟨k + 1, A6, c6, by omega, by go_num, HK7.out, HP7.out, HB7.out⟩
        case measure => simp [intOf]; omega
    · obtain rfl : k = m := by omega
      obtain ⟨r0, r1, s0, s1, rl⟩ := HK12.out.below hb (by omega)
      have HPK : Hid (Pk (w.heap.size + 1) wr ((wr.setCell ⟨w.heap.size + 1, 0, none⟩ (.slice A2 n c2)).setCell ⟨w.heap.size + 1, 1, none⟩ (.slice A3 k c3))) := ((Pk.refl _ wr).setCell 0 _).setCell 1 _
      have HR : Hid (RetK w d (.returned (.agg #[.slice A2 n c2, .slice A3 k c3])) ((wr.setCell ⟨w.heap.size + 1, 0, none⟩ (.slice A2 n c2)).setCell ⟨w.heap.size + 1, 1, none⟩ (.slice A3 k c3))) := by
        have h1 := HPO.out
        rw [List.take_of_length_le (by have := HL.out; omega)] at h1
        exact ⟨_, _, _, _, _, _, rfl, ((HS2.out.below HB.out).pk HPK.out (by omega)).mono (by omega), (h1.pk HPK.out (by omega)).mono (by omega), (((HBW.out.trans (HB.out.mono (by omega))).setCell (p := ⟨w.heap.size + 1, 0, none⟩) (by show w.heap.size ≤ w.heap.size + 1; omega) _).setCell (p := ⟨w.heap.size + 1, 1, none⟩) (by show w.heap.size ≤ w.heap.size + 1; omega) _), fun ad ad' e1 e2 => (by have q1 := (HS2.out.ge ad e1).2; obtain ⟨_, q2, _⟩ := h1; have q3 := (q2.ge ad' e2).1; omega)⟩
      clear hb
      go_wp2_with fail
      refine bodyPost_ret (v := .agg #[.slice A2 n c2, .slice A3 k c3]) (by simp [results, Tryz.results39, go_sem, r0, r1]) rfl ?_
      exact HR.out
end Go.Proofs.YtnomlkkhkacajaaGreatDoor
namespace Go.Proofs.YtnomlkkhkacajaaGreatDoor
open Go.RowKit

def turnA : Array Value := #[.complex .f32 1065353216 0, .complex .f32 1064076126 1053028117, .complex .f32 1060439283 1060439283, .complex .f32 1053028117 1064076126, .complex .f32 0 1065353216, .complex .f32 3200511765 1064076126, .complex .f32 3207922931 1060439283, .complex .f32 3211559774 1053028117, .complex .f32 3212836864 0, .complex .f32 3211559774 3200511765, .complex .f32 3207922931 3207922931, .complex .f32 3200511765 3211559774, .complex .f32 0 3212836864, .complex .f32 1053028117 3211559774, .complex .f32 1060439283 3207922931, .complex .f32 1064076126 3200511765]
def turnL : List C := [(1065353216, 0), (1064076126, 1053028117), (1060439283, 1060439283), (1053028117, 1064076126), (0, 1065353216), (3200511765, 1064076126), (3207922931, 1060439283), (3211559774, 1053028117), (3212836864, 0), (3211559774, 3200511765), (3207922931, 3207922931), (3200511765, 3211559774), (0, 3212836864), (1053028117, 3211559774), (1060439283, 3207922931), (1064076126, 3200511765)]
theorem turnA_get (j : Nat) (h : j < 16) : turnA[j]? = some (.complex .f32 (nth turnL j).1 (nth turnL j).2) := by
  have : j = 0 ∨ j = 1 ∨ j = 2 ∨ j = 3 ∨ j = 4 ∨ j = 5 ∨ j = 6 ∨ j = 7 ∨ j = 8 ∨ j = 9 ∨ j = 10 ∨ j = 11 ∨ j = 12 ∨ j = 13 ∨ j = 14 ∨ j = 15 := by omega
  rcases this with rfl | rfl | rfl | rfl | rfl | rfl | rfl | rfl | rfl | rfl | rfl | rfl | rfl | rfl | rfl | rfl <;> rfl
/-- The turn by so many sixteenths. -/
def turnC (k : Int) : C := if inB k (-9999) 9999 then nth turnL (k % 16).toNat else (0, 0)
theorem tmod_neg {n : Int} (h : n < 0) : n.tmod 16 = -((-n) % 16) := by
  obtain ⟨m, rfl⟩ : ∃ m : Int, n = -m := ⟨-n, by omega⟩
  rw [Int.neg_tmod, Int.tmod_eq_emod_of_nonneg (by omega), Int.neg_neg]
theorem rem_any (n : Int) (w : World) (h1 : -9999 ≤ n) (h2 : n ≤ 9999) : Calls Tryz.prog 137 #[.int .i64 n, .int .i64 16] w fun e w' => e = .returned (.int .i64 (n % 16)) ∧ w' = w := by
  by_cases hn : 0 ≤ n
  · have h0 := Int.emod_nonneg n (show (16 : Int) ≠ 0 by decide)
    go_enter Tryz.func137, Tryz.ntmps137
    go_wp2_with fail
    go_ret
    exact ⟨rfl, rfl⟩
  · obtain ⟨t, ht⟩ : ∃ t, t = n.tmod 16 := ⟨_, rfl⟩
    have et : n.tmod 16 = t := ht.symm
    rw [tmod_neg (by omega)] at ht
    by_cases h0 : t < 0
    · have e1 : IntKind.i64.wrap (t + 16) = t + 16 := IntWalk.i64_in _ (by omega)
      have HE : Hid (t + 16 = n % 16) := by show _ = _; omega
      clear ht
      go_enter Tryz.func137, Tryz.ntmps137
      go_wp2_with fail
      go_ret
      exact ⟨ret_int HE.out, rfl⟩
    · have HE : Hid (t = n % 16) := by show _ = _; omega
      clear ht
      go_enter Tryz.func137, Tryz.ntmps137
      go_wp2_with fail
      go_ret
      exact ⟨ret_int HE.out, rfl⟩
/-- A number, in memory of the call's own or not: what lies below stays. -/
def RetQ (w : World) (z : C) (e : Ending) (w' : World) : Prop := e = .returned (cv z) ∧ Below w.heap.size w w'
theorem turnA_cell {w w2 : World} (E : TypeId) (h : Below (w.heap.size + 1) (w.alloc (.cells turnA E)) w2) {j : Nat} (hj : j < 16) :
    w2.cell? ⟨w.heap.size, j, none⟩ = some (.complex .f32 (nth turnL j).1 (nth turnL j).2) := by
  rw [h.cell (p := ⟨w.heap.size, j, none⟩) (by simp), World.cell?_alloc_at _ _ _ _ rfl]
  exact turnA_get j hj
theorem table_any (w : World) : Calls Tryz.prog 150 #[] w fun e w' => e = .returned (.slice (some ⟨w.heap.size, 0, none⟩) 16 16) ∧ w' = w.alloc (.cells turnA 73) := by
  go_enter Tryz.func150, Tryz.ntmps150
  go_wp2_with fail
  go_ret
  exact ⟨rfl, rfl⟩
set_option maxHeartbeats 1000000 in
theorem sTurn (k : Int) (w : World) : Calls Tryz.prog 130 #[.int .i64 k] w (RetQ w (turnC k)) := by
  by_cases hb : inB k (-9999) 9999 = true
  · obtain ⟨b1, b2⟩ := inB_iff.1 hb
    obtain ⟨t, ht⟩ : ∃ t, t = k.tmod 16 := ⟨_, rfl⟩
    have et : k.tmod 16 = t := ht.symm
    have ht2 : t = k % 16 ∨ t = k % 16 - 16 := by
      by_cases hn : 0 ≤ k
      · rw [Int.tmod_eq_emod_of_nonneg hn] at ht; omega
      · rw [tmod_neg (by omega)] at ht; omega
    have m1 := Int.emod_nonneg k (show (16 : Int) ≠ 0 by decide)
    have m2 := Int.emod_lt_of_pos k (show (0 : Int) < 16 by decide)
    obtain ⟨j, hj⟩ := Int.eq_ofNat_of_zero_le m1
    have hj16 : j < 16 := by omega
    have e1 : IntKind.i64.wrap (t + 16) = t + 16 := IntWalk.i64_in _ (by omega)
    have e2 : (t + 16) % 16 = (j : Int) := by omega
    have e3 : 0 ≤ t + 16 := by omega
    have e4 : (j : Int) < 16 := by omega
    have hc := turnA_cell 73 (Below.refl _ (w.alloc (.cells turnA 73))) hj16
    have HT : Hid (turnC k = nth turnL j) := by show _ = _; unfold turnC; rw [hb, hj]; rfl
    clear ht ht2 m1 m2 hj
    generalize nth turnL j = z at *
    go_enter Tryz.func130, Tryz.ntmps130
    go_wp2_with fail
    refine (l1In_any _ _ _ _).mono ?_
    rw [hb]
    rintro e w' ⟨rfl, rfl⟩
    go_wp2_with fail
    refine (table_any _).mono ?_
    rintro e w1 ⟨rfl, hw⟩
    rw [← hw] at hc
    have HW := Lib.hid hw
    clear hw
    go_wp2_with fail
    go_ret
    unfold RetQ
    rw [HT.out]
    exact ⟨rfl, by rw [HW.out]; exact below_alloc _ _⟩
  · have hb' : inB k (-9999) 9999 = false := by simpa using hb
    have HT : Hid (turnC k = (0, 0)) := by show _ = _; unfold turnC; rw [hb']; rfl
    clear hb
    go_enter Tryz.func130, Tryz.ntmps130
    go_wp2_with fail
    refine (l1In_any _ _ _ _).mono ?_
    rw [hb']
    rintro e w' ⟨rfl, rfl⟩
    go_wp2_with fail
    go_ret
    unfold RetQ
    rw [HT.out]
    exact ⟨rfl, Below.refl _ _⟩
set_option maxHeartbeats 1000000 in
theorem iTurn (k : Int) (w : World) : Calls Tryz.prog 148 #[.int .i64 k] w (RetQ w (turnC k)) := by
  by_cases hb : inB k (-9999) 9999 = true
  · obtain ⟨b1, b2⟩ := inB_iff.1 hb
    have m1 := Int.emod_nonneg k (show (16 : Int) ≠ 0 by decide)
    have m2 := Int.emod_lt_of_pos k (show (0 : Int) < 16 by decide)
    obtain ⟨j, hj⟩ := Int.eq_ofNat_of_zero_le m1
    have hj16 : j < 16 := by omega
    have e4 : (j : Int) < 16 := by omega
    have HT : Hid (turnC k = nth turnL j) := by show _ = _; unfold turnC; rw [hb, hj]; rfl
    have HJ := Lib.hid hj
    clear m1 m2 hj hb
    go_enter Tryz.func148, Tryz.ntmps148
    go_wp2_with fail
    refine (rem_any k _ b1 b2).mono ?_
    rw [HJ.out]
    rintro e w1 ⟨rfl, hw⟩
    have hw' : w1 = w.alloc (.cells turnA 174) := hw
    have hc := turnA_cell 174 (Below.refl _ (w.alloc (.cells turnA 174))) hj16
    rw [← hw'] at hc
    have HW := Lib.hid hw'
    clear hw hw'
    generalize nth turnL j = z at *
    go_wp2_with fail
    go_ret
    unfold RetQ
    rw [HT.out]
    exact ⟨rfl, by rw [HW.out]; exact below_alloc _ _⟩
  · have hb' : inB k (-9999) 9999 = false := by simpa using hb
    have HT : Hid (turnC k = (0, 0)) := by show _ = _; unfold turnC; rw [hb']; rfl
    clear hb
    rcases inB_false_iff.1 hb' with h | h
    all_goals
      clear hb'
      go_enter Tryz.func148, Tryz.ntmps148
      go_wp2_with fail
      go_ret
      unfold RetQ
      rw [HT.out]
      exact ⟨rfl, Below.refl _ _⟩
end Go.Proofs.YtnomlkkhkacajaaGreatDoor
namespace Go.Proofs.YtnomlkkhkacajaaGreatDoor
open Go.RowKit

noncomputable def pairS (z : C) (step : Int) : List Int := [stp ((tho z).getD (0, 0)).1 step, stp ((tho z).getD (0, 0)).2 step]
noncomputable def stepsL (xs : List C) (step : Int) : List Int := xs.flatMap fun z => pairS z step
noncomputable def stepsOk (xs : List C) (step : Int) : Bool := sigB xs && inB step 1 10000 && xs.all fun z => (tho z).isSome
noncomputable def stepsOf (xs : List C) (step : Int) : Option (List Int) := if stepsOk xs step then some (stepsL xs step) else none
theorem stepsOf_no {xs : List C} {step : Int} (h : stepsOk xs step = false) : stepsOf xs step = none := by unfold stepsOf; rw [h]; rfl
theorem stepsOf_yes {xs : List C} {step : Int} (h : stepsOk xs step = true) : stepsOf xs step = some (stepsL xs step) := by unfold stepsOf; rw [h]; rfl
theorem stepsL_len (xs : List C) (step : Int) : (stepsL xs step).length = 2 * xs.length := by
  induction xs with
  | nil => rfl
  | cons z xs ih => unfold stepsL at ih ⊢; rw [List.flatMap_cons, List.length_append, ih]; simp [pairS]; omega
theorem stepsL_take {xs : List C} {k : Nat} (hk : k < xs.length) (step : Int) : stepsL (xs.take (k + 1)) step = stepsL (xs.take k) step ++ pairS (nth xs k) step := by
  unfold stepsL
  rw [List.take_succ_eq_append_getElem hk, List.flatMap_append, nth_eq hk]
  simp
theorem tho_some {z : C} {a b : Int} (h : tho z = some (a, b)) : thou z.1 = some a ∧ thou z.2 = some b := by
  unfold tho at h
  cases h1 : thou z.1 with
  | none => rw [h1] at h; simp at h
  | some x =>
    cases h2 : thou z.2 with
    | none => rw [h1, h2] at h; simp at h
    | some y => rw [h1, h2] at h; simp at h; rw [h.1, h.2]; exact ⟨rfl, rfl⟩
theorem tho_bd {z : C} {a b : Int} (h : tho z = some (a, b)) : -9999999 ≤ a ∧ a ≤ 9999999 ∧ -9999999 ≤ b ∧ b ≤ 9999999 := by
  obtain ⟨h1, h2⟩ := tho_some h
  obtain ⟨_, a1, a2, _⟩ := thou_is h1
  obtain ⟨_, b1, b2, _⟩ := thou_is h2
  exact ⟨a1, a2, b1, b2⟩
theorem pairS_eq {z : C} {a b : Int} (h : tho z = some (a, b)) (step : Int) : pairS z step = [stp a step, stp b step] := by unfold pairS; rw [h]; rfl
theorem all_c_take {xs : List C} {k : Nat} {p : C → Bool} (hk : k < xs.length) (h : p (nth xs k) = false) : xs.all p = false := all_false_of hk h

/-- A new slice of whole numbers, and whether there is one. -/
def RetI (w : World) (o : Option (List Int)) (e : Ending) (w' : World) : Prop :=
  ∃ A m c, e = .returned (.tuple #[.slice A m c, .bool o.isSome]) ∧ Ow w' w.heap.size 3 (.slice A m c) m ((o.getD []).map iv) ∧ Below w.heap.size w w'
theorem RetI.nil_ {w w' : World} (h : Below w.heap.size w w') : RetI w none (.returned (.tuple #[.slice none 0 0, .bool false])) w' := ⟨_, _, _, rfl, Ow.nil_ _ _ _, h⟩

end Go.Proofs.YtnomlkkhkacajaaGreatDoor
namespace Go.Proofs.YtnomlkkhkacajaaGreatDoor
open Go.RowKit

set_option maxHeartbeats 400000 in
theorem sAll (A : Option Addr) (n c : Nat) (xs : List C) (w : World) (hn : n ≤ 9223372036854775807) (hx : Cs w A n xs) :
    Calls Tryz.prog 89 #[.slice A n c] w fun e w' => e = .returned (.bool (xs.all finB)) ∧ Dr w w' := by
  have HL := Lib.hid hx.len
  go_enter Tryz.func89, Tryz.ntmps89
  go_wp2_with fail
  go_loopw [3] (fun i wr => ∃ k : Nat, k ≤ n ∧ i = .int .i64 k ∧ (xs.take k).all finB = true ∧ ∃ m, wr = w.drewN m) (fun i _ => n - (intOf i).toNat)
  case atStart => exact ⟨0, by omega, rfl, rfl, 0, rfl⟩
  case round =>
    obtain ⟨k, hk, rfl, hf, m, rfl⟩ := hrel
    have HF := Lib.hid hf
    clear hf
    by_cases hlt : k < n
    · obtain ⟨b, o, rfl, hb, hc⟩ := hx.at_ hlt
      have hck := hc k hlt
      clear hc hx
      by_cases hfin : finB (nth xs k) = true
      · go_wp2_with (go_at_call 115; refine (sFinite _ _).mono ?_; rintro e w' ⟨rfl, m', rfl⟩)
        go_roundw
        case rel => exact ⟨k + 1, by omega, by go_num, by rw [all_take_succ (by rw [HL.out]; omega), HF.out, hfin]; rfl, _, rfl⟩
        case measure => simp [intOf]; omega
      · have hfin' : finB (nth xs k) = false := by simpa using hfin
        clear hfin
        go_wp2_with (go_at_call 115; refine (sFinite _ _).mono ?_; rintro e w' ⟨rfl, m', rfl⟩)
        go_ret
        exact ⟨ret_bool (all_false_of (by rw [HL.out]; omega) hfin').symm, _, rfl⟩
    · go_wp2_with fail
      go_ret
      exact ⟨ret_bool (by rw [← HF.out, List.take_of_length_le (by rw [HL.out]; omega)]), _, rfl⟩
set_option maxHeartbeats 400000 in
theorem sSignalOk (A : Option Addr) (n c : Nat) (xs : List C) (w : World) (hn : n ≤ 9223372036854775807) (hx : Cs w A n xs) :
    Calls Tryz.prog 47 #[.slice A n c] w fun e w' => e = .returned (.bool (sigB xs)) ∧ Dr w w' := by
  have hl := hx.len
  by_cases h16 : n ≤ 16
  · have HS : Hid (sigB xs = xs.all finB) := by show _ = _; unfold sigB; simp [hl, h16]
    clear hl
    go_enter Tryz.func47, Tryz.ntmps47
    go_wp2_with fail
    refine (sAll A n c xs w hn hx).mono ?_
    rintro e w' ⟨rfl, m, rfl⟩
    go_wp2_with fail
    go_ret
    exact ⟨ret_bool HS.out.symm, _, rfl⟩
  · have HS : Hid (sigB xs = false) := by show _ = _; unfold sigB; simp [hl, h16]
    clear hl hx
    go_enter Tryz.func47, Tryz.ntmps47
    go_wp2_with fail
    go_ret
    exact ⟨ret_bool HS.out.symm, 0, rfl⟩
theorem RetI.empty {w w' : World} {c : Nat} {g : Nat} (ho : Ow w' w.heap.size 3 (.slice (some ⟨g, 0, none⟩) 0 c) 0 []) (h : Below w.heap.size w w') : RetI w none (.returned (.tuple #[.slice (some ⟨g, 0, none⟩) 0 c, .bool false])) w' := ⟨_, _, _, rfl, ho, h⟩

end Go.Proofs.YtnomlkkhkacajaaGreatDoor
namespace Go.Proofs.YtnomlkkhkacajaaGreatDoor
open Go.RowKit

/-- Two numbers of the same value. -/
def EqV (a b : C) : Prop := Fin Ieee.single a.1 ∧ Fin Ieee.single a.2 ∧ Fin Ieee.single b.1 ∧ Fin Ieee.single b.2 ∧ val Ieee.single a.1 = val Ieee.single b.1 ∧ val Ieee.single a.2 = val Ieee.single b.2
theorem EqV.refl {a : C} (h : finB a = true) : EqV a a := by
  obtain ⟨h1, h2⟩ := finB_iff.1 h
  exact ⟨h1, h2, h1, h2, rfl, rfl⟩
theorem samePart_true {x y : Nat} (hx : Fin Ieee.double x) (hy : Fin Ieee.double y) (h : val Ieee.double x = val Ieee.double y) (w : World) :
    Calls Tryz.prog 120 #[.float .f64 x, .float .f64 y] w fun e w' => e = .returned (.bool true) ∧ w' = w := by
  have o1 : (FloatKind.f64.format.order x y == some .eq) = true := by
    have := eq_iff hx hy
    rw [decide_eq_true h] at this; exact this
  clear hx hy h
  go_enter Tryz.func120, Tryz.ntmps120
  go_wp2_with fail
  go_ret
  exact ⟨rfl, rfl⟩
theorem sameBits_true {a b : C} (h : EqV a b) (w : World) :
    Calls Tryz.prog 87 #[cv a, cv b] w fun e w' => e = .returned (.bool true) ∧ w' = w := by
  obtain ⟨h1, h2, h3, h4, h5, h6⟩ := h
  obtain ⟨x, y⟩ := a
  obtain ⟨u, v⟩ := b
  have q1 := fun w => run_convert_float_float (P := Tryz.prog) (w := w) 131 120 .f32 .f64 x (wide x) (by kernel_rfl) Tryz.underlying120 (conv_wide h1)
  have q2 := fun w => run_convert_float_float (P := Tryz.prog) (w := w) 131 120 .f32 .f64 y (wide y) (by kernel_rfl) Tryz.underlying120 (conv_wide h2)
  have q3 := fun w => run_convert_float_float (P := Tryz.prog) (w := w) 131 120 .f32 .f64 u (wide u) (by kernel_rfl) Tryz.underlying120 (conv_wide h3)
  have q4 := fun w => run_convert_float_float (P := Tryz.prog) (w := w) 131 120 .f32 .f64 v (wide v) (by kernel_rfl) Tryz.underlying120 (conv_wide h4)
  have s1 : ∀ w, Calls Tryz.prog 120 #[.float .f64 (wide x), .float .f64 (wide u)] w fun e w' => e = .returned (.bool true) ∧ w' = w := fun w =>
    samePart_true (wide_spec h1).1 (wide_spec h3).1 ((wide_spec h1).2.trans (Eq.trans h5 (wide_spec h3).2.symm)) w
  have s2 : ∀ w, Calls Tryz.prog 120 #[.float .f64 (wide y), .float .f64 (wide v)] w fun e w' => e = .returned (.bool true) ∧ w' = w := fun w =>
    samePart_true (wide_spec h2).1 (wide_spec h4).1 ((wide_spec h2).2.trans (Eq.trans h6 (wide_spec h4).2.symm)) w
  have S1 := Lib.hid s1
  have S2 := Lib.hid s2
  clear h1 h2 h3 h4 h5 h6 s1 s2
  unfold cv
  go_enter Tryz.func87, Tryz.ntmps87
  go_wp2_with fail
  refine (S1.out _).mono ?_
  rintro e w' ⟨rfl, rfl⟩
  go_wp2_with fail
  refine (S2.out _).mono ?_
  rintro e w' ⟨rfl, rfl⟩
  go_wp2_with fail
  go_ret
  exact ⟨rfl, rfl⟩

set_option maxHeartbeats 400000 in
theorem sameSignal_true (A A' : Option Addr) (n c c' : Nat) (xs ys : List C) (w : World) (hn : n ≤ 1048576) (hx : Cs w A n xs) (hy : Cs w A' n ys) (he : ∀ i, i < n → EqV (nth xs i) (nth ys i)) :
    Calls Tryz.prog 41 #[.slice A n c, .slice A' n c'] w fun e w' => e = .returned (.bool true) ∧ Dr w w' := by
  have HE := Lib.hid he
  clear he
  go_enter Tryz.func41, Tryz.ntmps41
  go_wp2_with fail
  go_loopw [5] (fun i wr => ∃ k : Nat, k ≤ n ∧ i = .int .i64 k ∧ ∃ m, wr = w.drewN m) (fun i _ => n - (intOf i).toNat)
  case atStart => exact ⟨0, by omega, rfl, 0, rfl⟩
  case round =>
    obtain ⟨k, hk, rfl, m, rfl⟩ := hrel
    by_cases hlt : k < n
    · obtain ⟨b, o, rfl, hb, hc⟩ := hx.at_ hlt
      obtain ⟨b', o', rfl, hb', hc'⟩ := hy.at_ hlt
      have h1 : (w.drewN m).cell? ⟨b, o + k, none⟩ = some (cv (nth xs k)) := hc k hlt
      have h2 : (w.drewN m).cell? ⟨b', o' + k, none⟩ = some (cv (nth ys k)) := hc' k hlt
      have HV := Lib.hid (HE.out k hlt)
      generalize nth xs k = z at *
      generalize nth ys k = z' at *
      clear hc hc' hx hy
      obtain ⟨wr, hwr⟩ : ∃ wr, wr = w.drewN m := ⟨_, rfl⟩
      rw [← hwr] at h1 h2 ⊢
      have HW := Lib.hid hwr
      clear hwr
      go_wp2_with fail
      go_quiet ((go_at_call 87; exact Calls.quiet_of_same (sameBits_true HV.out _)))
      go_wp2_with fail
      go_roundw
      case rel => exact ⟨k + 1, by omega, by go_num, m + nq, by rw [HW.out, World.drewN_drewN]⟩
      case measure => simp [intOf]; omega
    · go_wp2_with fail
      go_ret
      exact ⟨rfl, m, rfl⟩
theorem mp_1500 : mp 1500 = 1069547520 := by decide +kernel
theorem mp_0 : mp 0 = 0 := by decide +kernel
theorem alive_true (w : World) : Calls Tryz.prog 13 #[] w fun e w' => e = .returned (.bool true) ∧ w' = w := by
  have h1 := milli_yes (a := 1500) (b := 0) (by decide) (by decide)
  rw [mp_1500, mp_0] at h1
  have HM : ∀ w, Calls Tryz.prog 44 #[.int .i64 1500, .int .i64 0] w fun e w' => e = .returned (.complex .f32 1069547520 0) ∧ w' = w := fun w => by rw [← h1]; exact iMilli 1500 0 w
  have HM' := Lib.hid HM
  clear HM h1
  go_enter Tryz.func13, Tryz.ntmps13
  go_wp2_with fail
  refine (HM'.out _).mono ?_
  rintro e w' ⟨rfl, rfl⟩
  have k1 : (FloatKind.f32.format.order 1069547520 1069547520 == some .eq) = true := by decide +kernel
  have k2 : (FloatKind.f32.format.order 0 0 == some .eq) = true := by decide +kernel
  go_wp2_with fail
  go_ret
  exact ⟨rfl, rfl⟩
end Go.Proofs.YtnomlkkhkacajaaGreatDoor
namespace Go.Proofs.YtnomlkkhkacajaaGreatDoor
open Go.RowKit

theorem RetC.empty {w w' : World} {c : Nat} {g : Nat} (ho : Ow w' w.heap.size 73 (.slice (some ⟨g, 0, none⟩) 0 c) 0 []) (h : Below w.heap.size w w') : RetC w [] false (.returned (.tuple #[.slice (some ⟨g, 0, none⟩) 0 c, .bool false])) w' := ⟨_, _, _, rfl, ho, h⟩
theorem take_snoc' {vs : List Value} {k : Nat} {u : Value} (h : vs[k]? = some u) : vs.take k ++ [u] = vs.take (k + 1) := by
  have hk : k < vs.length := (List.getElem?_eq_some_iff.1 h).1
  rw [List.getElem?_eq_getElem hk] at h
  injection h with h
  rw [List.take_succ_eq_append_getElem hk, h]

end Go.Proofs.YtnomlkkhkacajaaGreatDoor
