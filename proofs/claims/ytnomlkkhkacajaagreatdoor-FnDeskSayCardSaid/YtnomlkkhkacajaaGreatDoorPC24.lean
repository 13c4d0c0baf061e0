/- Texts on the way to a law (E8, H1, O1, O2), each with its own remark. -/
import Derived.Test.YtnomlkkhkacajaaGreatDoorPC23
import Derived.Deep.RegionLaw
import Derived.Laws.CopyOwn
import Derived.Test.YtnomlkkhkacajaaGreatDoorPC07
import Derived.Test.YtnomlkkhkacajaaGreatDoorPC13
import Derived.Test.YtnomlkkhkacajaaGreatDoorPC10
namespace Go.Proofs.YtnomlkkhkacajaaGreatDoor
open Go.RowKit

/-- A block of two cells that may be written. -/
structure KAt (w : World) (b : Nat) (x y : Value) : Prop where
  c0 : w.cell? ⟨b, 0, none⟩ = some x
  c1 : w.cell? ⟨b, 1, none⟩ = some y
  f0 : w.frozen? ⟨b, 0, none⟩ = false
  f1 : w.frozen? ⟨b, 1, none⟩ = false
  lt : b < w.heap.size
theorem KAt.keep {w w' : World} {b : Nat} {x y : Value} (h : KAt w b x y) (hs : w.heap.size ≤ w'.heap.size) (hk : w'.heap[b]? = w.heap[b]?) : KAt w' b x y :=
  ⟨(World.cell?_of_block (a := ⟨b, 0, none⟩) hk).trans h.c0, (World.cell?_of_block (a := ⟨b, 1, none⟩) hk).trans h.c1, (frozen_of_block (a := ⟨b, 0, none⟩) hk).trans h.f0, (frozen_of_block (a := ⟨b, 1, none⟩) hk).trans h.f1, Nat.lt_of_lt_of_le h.lt hs⟩
theorem KAt.below {w w' : World} {b B : Nat} {x y : Value} (h : KAt w b x y) (hb : Below B w w') (hB : b < B) : KAt w' b x y := h.keep hb.size (hb.block b hB)
theorem KAt.pk {w w' : World} {b g : Nat} {x y : Value} (h : KAt w b x y) (hp : Pk g w w') (hg : b ≠ g) : KAt w' b x y := h.keep hp.size (hp.block b h.lt hg)
theorem KAt.new (w : World) (x y : Value) (E : TypeId) : KAt (w.alloc (.cells #[x, y] E)) w.heap.size x y :=
  ⟨by rw [World.cell?_alloc_at _ _ _ _ rfl]; rfl, by rw [World.cell?_alloc_at _ _ _ _ rfl]; rfl, by simp, by simp, by simp⟩
theorem KAt.set0 {w : World} {b : Nat} {x y : Value} (h : KAt w b x y) (z : Value) : KAt (w.setCell ⟨b, 0, none⟩ z) b z y :=
  ⟨World.cell?_setCell_same' w _ _ (by rw [h.c0]; rfl), (World.cell?_setCell_other _ _ _ _ (by intro e; injection e with _ e2; cases e2)).trans h.c1, by rw [World.frozen?_setCell]; exact h.f0, by rw [World.frozen?_setCell]; exact h.f1, by rw [World.setCell]; simpa using h.lt⟩
theorem KAt.set1 {w : World} {b : Nat} {x y : Value} (h : KAt w b x y) (z : Value) : KAt (w.setCell ⟨b, 1, none⟩ z) b x z :=
  ⟨(World.cell?_setCell_other _ _ _ _ (by intro e; injection e with _ e2; cases e2)).trans h.c0, World.cell?_setCell_same' w _ _ (by rw [h.c1]; rfl), by rw [World.frozen?_setCell]; exact h.f0, by rw [World.frozen?_setCell]; exact h.f1, by rw [World.setCell]; simpa using h.lt⟩
theorem size_alloc (w : World) (o : Obj) : (w.alloc o).heap.size = w.heap.size + 1 := by simp
/-- A new desk. -/
def RetK (w : World) (d : Dk) (e : Ending) (w' : World) : Prop :=
  ∃ A n c A' m c', e = .returned (.agg #[.slice A n c, .slice A' m c']) ∧ Sg w' w.heap.size A n c d.now ∧ Po w' w.heap.size A' m c' d.past ∧ Below w.heap.size w w' ∧ ∀ ad ad', A = some ad → A' = some ad' → ad.block ≠ ad'.block
/-- One signal more is copied. -/
theorem copy_step {w2 wr w5 w6 : World} {k n4 c3 c5 c6 : Nat} {A2v : Value} {A3 A5 A6 : Option Addr} {vs : List Value} {ps : List (List C)} {x : List C} (hb : Below w2.heap.size w2 wr) (hka : KAt wr w2.heap.size A2v (.slice A3 k c3)) (hb5 : Below wr.heap.size wr w5)
    (ho5 : Ow w5 wr.heap.size 73 (.slice A5 n4 c5) n4 (x.map cv)) (hpv : Pv wr (w2.heap.size + 1) vs ps) (hpn : Pn (.slice A3 k c3) vs) (hgn : ∀ ad, A3 = some ad → w2.heap.size + 1 ≤ ad.block ∧ ad.block < wr.heap.size)
    (ho6 : Ow w6 (w2.heap.size + 1) 23 (.slice A6 (k + 1) c6) (k + 1) (vs ++ [.slice A5 n4 c5])) (hb6 : Below (w2.heap.size + 1) w5 w6)
    (hf6 : ∀ b, b < w5.heap.size → (Value.slice A3 k c3).ownBlock ≠ some b → w6.heap[b]? = w5.heap[b]?) (hl6 : ∀ b, b < w5.heap.size → (Value.slice A3 k c3).ownBlock ≠ some b → (Value.slice A6 (k + 1) c6).ownBlock ≠ some b) :
    KAt w6 w2.heap.size A2v (.slice A3 k c3) ∧ Po w6 (w2.heap.size + 1) A6 (k + 1) c6 (ps ++ [x]) ∧ Below w2.heap.size w2 w6 := by
  have hlt := hka.lt
  have hs5 := hb5.size
  refine ⟨(hka.below hb5 hlt).below hb6 (Nat.lt_succ_self _), ?_, (hb.trans (hb5.mono hb.size)).trans (hb6.mono (Nat.le_succ _))⟩
  refine Po.snoc (hpv.below hb5) hpn ((Sg.of ho5).mono hlt) (fun ad e => ?_) ho6 hb6.size hf6 hl6
  have h1 := (ho5.ge ad e).1
  cases A3 with
  | none => intro e; cases e
  | some a =>
    intro e
    injection e with e
    have := (hgn a rfl).2
    omega
set_option maxHeartbeats 4000000 in
set_option maxRecDepth 100000 in
theorem sCopy (A A' : Option Addr) (n c m c' : Nat) (d : Dk) (w : World) (hd : DkV w 0 A n c A' m d) (hz : DkS d) :
    Calls Tryz.prog 39 #[.agg #[.slice A n c, .slice A' m c']] w (RetK w d) := by
  have HP := Lib.hid hd.past
  have hl := hd.past.len
  have hnl := hd.now.len
  have hm9 : m ≤ 9 := by have := hz.len; omega
  have hn17 : n ≤ 17 := by have := hz.now; omega
  have HZ := Lib.hid hz
  have HL := Lib.hid hl
  obtain ⟨W1, hW1⟩ : ∃ W1, W1 = (w.alloc (.cells #[.slice A n c, .slice A' m c'] 26)).alloc (.cells #[.slice none 0 0, .slice none 0 0] 26) := ⟨_, rfl⟩
  have hs1 : W1.heap.size = w.heap.size + 1 + 1 := by rw [hW1, size_alloc, size_alloc]
  have HB1 : Hid (Below w.heap.size w W1) := by rw [hW1]; exact (below_alloc w _).trans ((below_alloc _ _).mono (by rw [size_alloc]; omega))
  have HK0 : Hid (KAt W1 w.heap.size (.slice A n c) (.slice A' m c')) := by rw [hW1]; exact (KAt.new w _ _ _).below (below_alloc _ _) (by rw [size_alloc]; omega)
  have HK1 : Hid (KAt W1 (w.heap.size + 1) (.slice none 0 0) (.slice none 0 0)) := by
    rw [hW1]
    have h := KAt.new (w.alloc (.cells #[.slice A n c, .slice A' m c'] 26)) (.slice none 0 0) (.slice none 0 0) 26
    rwa [size_alloc] at h
  have HE : Hid (Ow (W1.alloc (.cells #[] 73)) (w.heap.size + 1 + 1) 73 (.slice (some ⟨w.heap.size + 1 + 1, 0, none⟩) 0 0) 0 []) := by
    have h := Ow.empty W1 73
    rwa [hs1] at h
  have HX1 : Hid (Sg (W1.alloc (.cells #[] 73)) 0 A n c d.now) := (hd.now.below HB1.out).below (below_alloc _ _)
  have hz2 : w.heap.size + 1 + 1 ≤ (W1.alloc (.cells #[] 73)).heap.size := by rw [size_alloc, hs1]; omega
  have HBE : Hid (Below (w.heap.size + 1 + 1) W1 (W1.alloc (.cells #[] 73))) := by have h := below_alloc W1 (.cells #[] 73); rwa [hs1] at h
  obtain ⟨k0, k1, _, _, _⟩ := HK0.out
  clear hd hz hl hnl
  go_enter Tryz.func39, Tryz.ntmps39
  go_wp2_with (at_builtin; rw [← hW1]; refine wl_appS (w.heap.size + 1 + 1) (d.now.map cv) hz2 rfl (.tmp 5) (.tmp 7) 23 rfl Tryz.eC _ 0 _ rfl HE.out A n c rfl HX1.out.nil HX1.out.cs (cvs_one _) (by unfold maxLen; omega) (by omega) ?_; intro v' w2 ho2 hb2; rw [Nat.zero_add, List.nil_append] at ho2; obtain ⟨A2, c2, rfl⟩ := ho2.shape; have HO2 := Lib.hid ho2; have HB2 : Hid (Below (w.heap.size + 1 + 1) W1 w2) := HBE.out.trans hb2; clear ho2 hb2)
  have hz3 : w.heap.size + 1 + 1 ≤ w2.heap.size := by have := HB2.out.size; omega
  have HS2 : Hid (Sg w2 (w.heap.size + 1 + 1) A2 n c2 d.now) := Sg.of HO2.out
  have HBW : Hid (Below w.heap.size w w2) := HB1.out.trans (HB2.out.mono (by omega))
  have HD2 : Hid (Ps w2 0 A' m d.past) := HP.out.below HBW.out
  have HK02 : Hid (KAt w2 w.heap.size (.slice A n c) (.slice A' m c')) := HK0.out.below HB2.out (by omega)
  have HK12 : Hid (KAt w2 (w.heap.size + 1) (.slice none 0 0) (.slice none 0 0)) := HK1.out.below HB2.out (by omega)
  have HN : Hid (KAt (w2.alloc (.cells #[.slice A2 n c2, .slice none 0 0] 26)) w2.heap.size (.slice A2 n c2) (.slice none 0 0)) := KAt.new w2 _ _ _
  clear k0 k1 hW1
  go_loopw [4] (fun i wr => ∃ (k : Nat) (A3 : Option Addr) (c3 : Nat), k ≤ m ∧ i = .int .i64 k ∧ KAt wr w2.heap.size (.slice A2 n c2) (.slice A3 k c3) ∧ Po wr (w2.heap.size + 1) A3 k c3 (d.past.take k) ∧ Below w2.heap.size w2 wr) (fun i _ => m - (intOf i).toNat)
  case atStart => exact ⟨0, none, 0, by omega, rfl, HN.out, Po.nil _ _, below_alloc _ _⟩
  case round =>
    obtain ⟨k, A3, c3, hk, rfl, hka, hpo, hb⟩ := hrel
    have HKA := Lib.hid hka
    have HPO := Lib.hid hpo
    have HB := Lib.hid hb
    obtain ⟨g0, g1, q0, q1, hgl⟩ := hka
    obtain ⟨k0, k1, _, _, hkl⟩ := HK02.out.below hb (by omega)
    clear hpo
    by_cases hlt : k < m
    · obtain ⟨b, o, x, A4, n4, c4, rfl, hbl, hx, hc, hcs⟩ := HD2.out.at_ hlt
      have hck := (hb.cell (p := ⟨b, o + k, none⟩) hbl).trans hc
      have HSX := Lib.hid (hcs.below hb)
      have hn4 : n4 ≤ 17 := by have h1 := hcs.len; have h2 := HZ.out.at_ hx; omega
      have HTK : Hid (d.past.take k ++ [x] = d.past.take (k + 1)) := by show _ = _; rw [List.take_add_one, hx]; rfl
      obtain ⟨vs, hov, hpv, hpn⟩ := HPO.out
      have HOV := Lib.hid hov
      have HPV := Lib.hid hpv
      have HPN := Lib.hid hpn
      have hgn : ∀ ad, A3 = some ad → w2.heap.size + 1 ≤ ad.block ∧ ad.block < wr.heap.size := hov.ge
      have HGN := Lib.hid hgn
      clear hb hc hcs hx hov hpv hpn hgn
      have HGW : Hid (w2.heap.size < wr.heap.size) := hgl
      have hbl2 : b < wr.heap.size := Nat.lt_trans hbl hgl
      have HEM : Hid (Ow (wr.drew.alloc (.cells #[] 73)) wr.heap.size 73 (.slice (some ⟨wr.heap.size, 0, none⟩) 0 0) 0 []) := Ow.empty wr.drew 73
      have HBD : Hid (Below wr.heap.size wr (wr.drew.alloc (.cells #[] 73))) := ((Below.refl _ wr).drew).alloc (Nat.le_refl _) _
      have HSD := Lib.hid (HSX.out.below HBD.out)
      have hsz5 := HBD.out.size
      go_wp2_with fail
      go_region_law ((first
        | (refine st_appS wr.heap.size (x.map cv) hsz5 rfl (.tmp 19) (.tmp 24) 23 rfl Tryz.eC _ 0 _ rfl HEM.out A4 n4 c4 rfl HSD.out.nil HSD.out.cs (cvs_one _) (by unfold maxLen; omega) (by omega) ?_; intro v5 w5 ho5 hb5; rw [Nat.zero_add, List.nil_append] at ho5; obtain ⟨A5, c5, rfl⟩ := ho5.shape; have HO5 := Lib.hid ho5; have HB5 : Hid (Below wr.heap.size wr w5) := HBD.out.trans hb5; clear ho5 hb5; obtain ⟨p0, p1, s0, s1, pl⟩ := HKA.out.below HB5.out HGW.out; have HOV5 := Lib.hid (HOV.out.below HB5.out); have hsz6 : w2.heap.size + 1 ≤ w5.heap.size := (Nat.le_trans HGW.out HB5.out.size))
        | (refine st_appW (w2.heap.size + 1) (.slice A5 n4 c5) hsz6 rfl (.tmp 18) (.tmp 26) 24 rfl Tryz.ePs _ k vs rfl HOV5.out rfl rfl (by unfold maxLen; omega) (by omega) ?_; intro v6 w6 ho6 hb6 hf6 hl6; obtain ⟨A6, c6, rfl⟩ := ho6.shape; have HST := Lib.hid (copy_step HB.out HKA.out HB5.out HO5.out HPV.out HPN.out HGN.out ho6 hb6 hf6 hl6); clear ho6 hb6 hf6 hl6 p0 p1 s0 s1 pl; obtain ⟨p0, p1, s0, s1, pl⟩ := HST.out.1)))
      all_goals
        have HK7 := Lib.hid (HST.out.1.set1 (.slice A6 (k + 1) c6))
        have HP7 := Lib.hid (HST.out.2.1.pk ((Pk.refl w2.heap.size w6).setCell 1 (.slice A6 (k + 1) c6)) (Nat.lt_succ_self _))
        have HB7 := Lib.hid (HST.out.2.2.setCell (p := ⟨w2.heap.size, 1, none⟩) (Nat.le_refl _) (.slice A6 (k + 1) c6))
        rw [HTK.out] at HP7
        go_wp2_with fail
        go_roundw
        case rel => exact ⟨k + 1, A6, c6, by omega, by go_num, HK7.out, HP7.out, HB7.out⟩
        case measure => simp [intOf]; omega
    · obtain rfl : k = m := by omega
      obtain ⟨r0, r1, s0, s1, rl⟩ := HK12.out.below hb (by omega)
      have HPK : Hid (Pk (w.heap.size + 1) wr ((wr.setCell ⟨w.heap.size + 1, 0, none⟩ (.slice A2 n c2)).setCell ⟨w.heap.size + 1, 1, none⟩ (.slice A3 k c3))) := ((Pk.refl _ wr).setCell 0 _).setCell 1 _
      have HR : Hid (RetK w d (.returned (.agg #[.slice A2 n c2, .slice A3 k c3])) ((wr.setCell ⟨w.heap.size + 1, 0, none⟩ (.slice A2 n c2)).setCell ⟨w.heap.size + 1, 1, none⟩ (.slice A3 k c3))) := by
        have h1 := HPO.out
        rw [List.take_of_length_le (by have := HL.out; omega)] at h1
        exact ⟨_, _, _, _, _, _, rfl, ((HS2.out.below HB.out).pk HPK.out (by omega)).mono (by omega), (h1.pk HPK.out (by omega)).mono (by omega), (((HBW.out.trans (HB.out.mono (by omega))).setCell (p := ⟨w.heap.size + 1, 0, none⟩) (by show w.heap.size ≤ w.heap.size + 1; omega) _).setCell (p := ⟨w.heap.size + 1, 1, none⟩) (by show w.heap.size ≤ w.heap.size + 1; omega) _), fun ad ad' e1 e2 => (by have q1 := (HS2.out.ge ad e1).2; obtain ⟨_, q2, _⟩ := h1; have q3 := (q2.ge ad' e2).1; omega)⟩
      clear hb
      go_wp2_with fail
      refine bodyPost_ret (v := .agg #[.slice A2 n c2, .slice A3 k c3]) (by simp [results, Tryz.results39, go_sem, r0, r1]) rfl ?_
      exact HR.out
end Go.Proofs.YtnomlkkhkacajaaGreatDoor
namespace Go.Proofs.YtnomlkkhkacajaaGreatDoor
open Go.RowKit

/-- copy(out, x), out of the call's own, both of the same number of elements. -/
theorem wl_copyA {P : Program} {w : World} {ops : Array Oper} {rest : List Oper} {o : Oper} {a : Act} {Q : Exit → Act → World → Prop} (hgd : o.guard = none) (d s : Operand) (t : TypeId) (ho : o.op = .call { callee := .builtin .copy, args := #[d, s], argTypes := #[t, t] })
    {B : Nat} {E : TypeId} {z : Value} {bytes : Nat} (he : Elem P t E z bytes) (hsz : (P.info? E).map (·.size) = some 1) (g n : Nat) (vs us : List Value) (hd : a.eval d = .slice (some ⟨g, 0, none⟩) n n) (hown : Ow w B E (.slice (some ⟨g, 0, none⟩) n n) n vs)
    (A : Option Addr) (c : Nat) (hs : a.eval s = .slice A n c) (hsl : Sl w A n us) (hu : ∀ u ∈ us, u.oneCell' = true)
    (h : ∀ w', Ow w' B E (.slice (some ⟨g, 0, none⟩) n n) n us → Below B w w' → wpList P ops Q rest (a.put o.dst (goInt n)) w') : wpList P ops Q (o :: rest) a w := by
  have hl := hsl.len
  rcases hown.2 with ⟨h0, _⟩ | ⟨g', cap, cur, hv, hB, hh, hn, hcap, hcs, htk⟩
  · cases h0
  · injection hv with e1 _ e3
    injection e1 with e1
    injection e1 with e1
    subst e1; subst e3
    rw [Nat.mul_one] at hcs
    refine wpList_copy_splice hgd d s t t ho E he.und hsz (some ⟨g, 0, none⟩) A n n n c hd hs g 0 cur.toList E hh us (by rw [hl]; exact (Nat.min_self n).symm) (fun hp => ⟨rfl, ?_⟩) (by rw [Nat.zero_add, hl, Array.length_toList, hcs]; exact Nat.le_refl _) hu B w (Below.refl _ _) hB ?_
    · obtain ⟨b, o', h1, _, h2⟩ := hsl.at_ (k := 0) (by omega)
      refine ⟨_, h1, fun j u hj => ?_⟩
      rw [show (⟨b, o', none⟩ : Addr).add j = ⟨b, o' + j, none⟩ by unfold Addr.add; split <;> first | rfl | (rename_i h; subst h; rfl)]
      exact h2 j u hj
    · intro w' h1 h2
      have h1 := h1.out
      have e : splice cur.toList 0 us = us := by
        unfold splice
        rw [List.take_zero, List.nil_append, Nat.zero_add, List.drop_of_length_le (by rw [hl, Array.length_toList, hcs]; exact Nat.le_refl _), List.append_nil]
      rw [e] at h1
      have hgi : goInt us.length = goInt n := by rw [hl]
      rw [hgi]
      refine h w' ⟨by rw [Nat.mul_one]; exact hl, .inr ⟨g, n, us.toArray, rfl, hB, h1, Nat.le_refl _, hcap, by rw [Nat.mul_one]; simpa using hl, ?_⟩⟩ h2
      rw [Nat.mul_one]
      simpa using List.take_of_length_le (Nat.le_of_eq hl)

set_option maxHeartbeats 2000000 in
set_option maxRecDepth 100000 in
theorem iCopyOf (A : Option Addr) (n c : Nat) (x : List C) (w : World) (hn : n ≤ 1048576) (hx : Cs w A n x) :
    Calls Tryz.prog 73 #[.slice A n c] w (RetS w x) := by
  go_enter Tryz.func73, Tryz.ntmps73
  go_wp2_with (first | (at_make; refine wl_make (w0 := w) rfl (.tmp 5) (.tmp 5) 23 rfl Tryz.eC .i64 .i64 n _ _ rfl rfl rfl rfl (by omega) (by unfold maxLen; omega) (Below.refl _ _) ?_; intro w1 hown hb1 _; have HO := Lib.hid hown; have HB := Lib.hid hb1; have HX := Lib.hid (Sl.below hx hb1); clear hown hb1 hx) | (refine wl_copyA (B := w.heap.size) rfl (.tmp 7) (.tmp 8) 23 rfl Tryz.eC (by kernel_rfl) w.heap.size n _ (x.map cv) rfl HO.out A c rfl HX.out (cvs_one _) ?_; intro w2 ho2 hb2))
  have HR : Hid (RetS w x (.returned (.slice (some ⟨w.heap.size, 0, none⟩) n n)) w2) := ⟨_, _, _, rfl, ho2, HB.out.trans hb2⟩
  clear ho2 hb2
  go_wp2_with fail
  go_ret
  exact HR.out

set_option maxHeartbeats 4000000 in
set_option maxRecDepth 100000 in
theorem iCopied (A A' : Option Addr) (n c m c' : Nat) (d : Dk) (w : World) (hd : DkV w 0 A n c A' m d) (hz : DkS d) :
    Calls Tryz.prog 35 #[.agg #[.slice A n c, .slice A' m c']] w (RetK w d) := by
  have HP := Lib.hid hd.past
  have hl := hd.past.len
  have hnl := hd.now.len
  have hm9 : m ≤ 9 := by have := hz.len; omega
  have hn17 : n ≤ 17 := by have := hz.now; omega
  have HZ := Lib.hid hz
  have HL := Lib.hid hl
  have HNL := Lib.hid hnl
  obtain ⟨W1, hW1⟩ : ∃ W1, W1 = (w.alloc (.cells #[.slice A n c, .slice A' m c'] 26)).alloc (.cells #[.slice none 0 0, .slice none 0 0] 26) := ⟨_, rfl⟩
  have HSZ : Hid (W1.heap.size = w.heap.size + 1 + 1) := by show _ = _; rw [hW1, size_alloc, size_alloc]
  have HB1 : Hid (Below w.heap.size w W1) := by rw [hW1]; exact (below_alloc w _).trans ((below_alloc _ _).mono (by rw [size_alloc]; omega))
  have HK0 : Hid (KAt W1 w.heap.size (.slice A n c) (.slice A' m c')) := by rw [hW1]; exact (KAt.new w _ _ _).below (below_alloc _ _) (by rw [size_alloc]; omega)
  have HK1 : Hid (KAt W1 (w.heap.size + 1) (.slice none 0 0) (.slice none 0 0)) := by
    rw [hW1]
    have h := KAt.new (w.alloc (.cells #[.slice A n c, .slice A' m c'] 26)) (.slice none 0 0) (.slice none 0 0) 26
    rwa [size_alloc] at h
  have HN : Hid (Sg w 0 A n c d.now) := hd.now
  have HCO : Hid (∀ (A : Option Addr) (n c : Nat) (x : List C) (w : World), n ≤ 17 → Cs w A n x → Calls Tryz.prog 73 #[.slice A n c] w (RetS w x)) := fun A n c x w h1 h2 => iCopyOf A n c x w (by omega) h2
  obtain ⟨k0, k1, _, _, _⟩ := HK0.out
  clear hd hz hl hnl
  go_enter Tryz.func35, Tryz.ntmps35
  go_wp2_with (at_make; rw [← hW1]; refine wl_make (w0 := W1) rfl (.tmp 8) (.tmp 8) 24 rfl Tryz.ePs .i64 .i64 m _ _ rfl rfl rfl rfl (by omega) (by unfold maxLen; omega) (Below.refl _ _) ?_; intro w2 ho2 hb2 _; have HO2 := Lib.hid ho2; have HB2 := Lib.hid hb2; clear ho2 hb2 k0 k1 hW1; obtain ⟨k0, k1, _, _, _⟩ := HK0.out.below HB2.out (by rw [HSZ.out]; omega))
  clear k0 k1
  go_loopw [13] (fun i wr => ∃ (k : Nat) (vs : List Value), k ≤ m ∧ i = .int .i64 k ∧ vs.length = k ∧ Ow wr W1.heap.size 23 (.slice (some ⟨W1.heap.size, 0, none⟩) m m) m (vs ++ List.replicate (m - k) (.slice none 0 0)) ∧ Pv wr (W1.heap.size + 1) vs (d.past.take k) ∧ Below W1.heap.size W1 wr) (fun i _ => m - (intOf i).toNat)
  case atStart => first | exact ⟨0, [], by omega, rfl, rfl, HO2.out, Pv.nil _ _, HB2.out⟩ | ((repeat apply Exists.intro); exact ⟨by omega, rfl, rfl, HO2.out, Pv.nil _ _, HB2.out⟩)
  case round =>
    obtain ⟨k, vs, hk, rfl, hvl, ho, hpv, hb⟩ := hrel
    have HO := Lib.hid ho
    have HPV := Lib.hid hpv
    have HB := Lib.hid hb
    have HVL := Lib.hid hvl
    have HBW : Hid (Below w.heap.size w wr) := HB1.out.trans (hb.mono (by rw [HSZ.out]; omega))
    clear ho hpv hvl
    by_cases hlt : k < m
    · obtain ⟨b, o, x, A4, n4, c4, rfl, hbl, hx, hc, hcs⟩ := HP.out.at_ hlt
      have hck := (HBW.out.cell (p := ⟨b, o + k, none⟩) hbl).trans hc
      have HSX := Lib.hid (hcs.below HBW.out)
      have hn4 : n4 ≤ 17 := by have h1 := hcs.len; have h2 := HZ.out.at_ hx; omega
      have HTK : Hid (d.past.take k ++ [x] = d.past.take (k + 1)) := by show _ = _; rw [List.take_add_one, hx]; rfl
      clear hb hc hcs hx
      go_wp2_with fail
      refine (HCO.out A4 n4 c4 x wr hn4 HSX.out.cs).mono ?_
      rintro e w3 ⟨A5, n5, c5, rfl, ho5, hb5⟩
      have HO3 := Lib.hid (HO.out.below hb5)
      have hgr : W1.heap.size < wr.heap.size := by obtain ⟨g, hg, _, hgl, _⟩ := Ow.at_ HO.out hlt; injection hg with hg; injection hg with hg; omega
      have HPV3 : Hid (Pv w3 (W1.heap.size + 1) (vs ++ [.slice A5 n5 c5]) (d.past.take (k + 1))) := by
        show Pv _ _ _ _
        rw [← HTK.out]
        exact (HPV.out.below hb5).snoc ((Sg.of (by have h1 := ho5.len; rw [List.length_map] at h1; exact ho5)).mono (by omega))
      have HB3 : Hid (Below W1.heap.size W1 w3) := HB.out.trans (hb5.mono HB.out.size)
      obtain ⟨g, hg, hge, hgl, hcell, hfr, hst⟩ := Ow.at_ HO3.out hlt
      injection hg with hg
      injection hg with hg
      subst hg
      have hck2 : w3.cell? ⟨W1.heap.size, k, none⟩ = some (.slice none 0 0) := (hcell k hlt).trans (fil_get _ HVL.out hlt _)
      have hfr2 := hfr k
      have hst2 := hst k (.slice A5 n5 c5)
      rw [fil_set _ HVL.out hlt] at hst2
      have HS := Lib.hid hst2
      clear hst2 hcell hfr hst ho5 hb5
      go_wp2_with fail
      go_roundw
      case rel => exact ⟨k + 1, vs ++ [.slice A5 n5 c5], by omega, by go_num, by rw [List.length_append, HVL.out]; rfl, HS.out, HPV3.out.pk ((Pk.refl W1.heap.size w3).setCell k _) (Nat.lt_succ_self _), HB3.out.setCell (Nat.le_refl _) _⟩
      case measure => simp [intOf]; omega
    · obtain rfl : k = m := by omega
      obtain ⟨k0, k1, _, _, _⟩ := HK0.out.below hb (by rw [HSZ.out]; omega)
      have HNX := Lib.hid (HN.out.below HBW.out)
      clear hb
      go_wp2_with fail
      refine (HCO.out A n c d.now wr hn17 HNX.out.cs).mono ?_
      rintro e w3 ⟨A5, n5, c5, rfl, ho5, hb5⟩
      have HB3 : Hid (Below W1.heap.size W1 w3) := HB.out.trans (hb5.mono HB.out.size)
      have HO3 := Lib.hid (HO.out.below hb5)
      have HPV3 := Lib.hid (HPV.out.below hb5)
      have HS5 : Hid (Sg w3 W1.heap.size A5 n5 c5 d.now) := (Sg.of (by have h1 := ho5.len; rw [List.length_map] at h1; exact ho5)).mono HB.out.size
      have HK3 := Lib.hid (HK1.out.below HB3.out (by rw [HSZ.out]; omega))
      clear ho5 hb5 k0 k1
      obtain ⟨r0, r1, s0, s1, rl⟩ := HK3.out
      have HR : Hid (RetK w d (.returned (.agg #[.slice A5 n5 c5, .slice (some ⟨W1.heap.size, 0, none⟩) k k])) ((w3.setCell ⟨w.heap.size + 1, 0, none⟩ (.slice A5 n5 c5)).setCell ⟨w.heap.size + 1, 1, none⟩ (.slice (some ⟨W1.heap.size, 0, none⟩) k k))) := by
        have HPK : Pk (w.heap.size + 1) w3 ((w3.setCell ⟨w.heap.size + 1, 0, none⟩ (.slice A5 n5 c5)).setCell ⟨w.heap.size + 1, 1, none⟩ (.slice (some ⟨W1.heap.size, 0, none⟩) k k)) := ((Pk.refl _ w3).setCell 0 _).setCell 1 _
        have hpo : Po w3 W1.heap.size (some ⟨W1.heap.size, 0, none⟩) k k d.past := by
          have h1 := HO3.out
          rw [Nat.sub_self, List.replicate_zero, List.append_nil] at h1
          have h2 := HPV3.out
          rw [List.take_of_length_le (by have := HL.out; omega)] at h2
          refine ⟨vs, h1, h2.mono (Nat.le_succ _), fun ad n' c' hm he => ?_⟩
          obtain ⟨y, hy⟩ := h2.mem hm
          have := (hy.ge ad rfl).1
          injection he with he
          have he2 : W1.heap.size = ad.block := he
          omega
        refine ⟨_, _, _, _, _, _, rfl, (HS5.out.pk HPK (by rw [HSZ.out]; omega)).mono (by rw [HSZ.out]; omega), (hpo.pk HPK (by rw [HSZ.out]; omega)).mono (by rw [HSZ.out]; omega), (((HB1.out.trans (HB3.out.mono (by rw [HSZ.out]; omega))).setCell (p := ⟨w.heap.size + 1, 0, none⟩) (by show w.heap.size ≤ w.heap.size + 1; omega) _).setCell (p := ⟨w.heap.size + 1, 1, none⟩) (by show w.heap.size ≤ w.heap.size + 1; omega) _), fun ad ad' e1 e2 => ?_⟩
        obtain ⟨vs', q1, _⟩ := hpo
        have h3 := HS5.out.ne_own q1 ad e1
        intro he
        injection e2 with e2
        subst e2
        exact h3 (by rw [he]; rfl)
      go_wp2_with fail
      refine bodyPost_ret (v := .agg #[.slice A5 n5 c5, .slice (some ⟨W1.heap.size, 0, none⟩) k k]) (by simp [results, Tryz.results35, go_sem, r0, r1]) rfl ?_
      exact HR.out
end Go.Proofs.YtnomlkkhkacajaaGreatDoor
namespace Go.Proofs.YtnomlkkhkacajaaGreatDoor
open Go.RowKit

def triD (n k : Nat) : Nat := (floatBits .quo .f32 (floatOfInt .f32 (2 * (k : Int))) (floatOfInt .f32 (n : Int))).getD 0
def triE (n k : Nat) : Nat := (floatBits .sub .f32 1073741824 (triD n k)).getD 0
def smoH (n k : Nat) : Nat := (floatBits .mul .f32 (turnC (16 / (n : Int) * (k : Int))).1 1056964608).getD 0
def smoW (n k : Nat) : Nat := (floatBits .sub .f32 1056964608 (smoH n k)).getD 0
/-- The words of a window. -/
def winW (kind : Int) (n k : Nat) : Nat := if kind = 0 then 1056964608 else if kind = 1 then (if n / 2 ≤ k then triE n k else triD n k) else smoW n k
def winN (n : Nat) : Bool := n == 2 || n == 4 || n == 8 || n == 16
theorem winN_iff {n : Nat} : winN n = true ↔ n = 2 ∨ n = 4 ∨ n = 8 ∨ n = 16 := by unfold winN; simp [or_assoc]
def winOk (kind : Int) (n : Nat) : Bool := winN n && decide (0 ≤ kind) && decide (kind ≤ 2)
theorem winOk_iff {kind : Int} {n : Nat} : winOk kind n = true ↔ (n = 2 ∨ n = 4 ∨ n = 8 ∨ n = 16) ∧ 0 ≤ kind ∧ kind ≤ 2 := by
  unfold winOk; rw [Bool.and_eq_true, Bool.and_eq_true, winN_iff, decide_eq_true_eq, decide_eq_true_eq]
  exact ⟨fun h => ⟨h.1.1, h.1.2, h.2⟩, fun h => ⟨⟨h.1, h.2.1⟩, h.2.2⟩⟩
def winChk (n k : Nat) : Bool :=
  floatBits .quo .f32 (floatOfInt .f32 (2 * (k : Int))) (floatOfInt .f32 (n : Int)) == some (triD n k) &&
  floatBits .sub .f32 1073741824 (triD n k) == some (triE n k) &&
  floatBits .mul .f32 (turnC (16 / (n : Int) * (k : Int))).1 1056964608 == some (smoH n k) &&
  floatBits .quo .f32 (turnC (16 / (n : Int) * (k : Int))).1 1073741824 == some (smoH n k) &&
  floatBits .sub .f32 1056964608 (smoH n k) == some (smoW n k) &&
  decide (rg Ieee.single (winW 0 n k) ≤ 1065353216) && decide (rg Ieee.single (winW 1 n k) ≤ 1065353216) && decide (rg Ieee.single (winW 2 n k) ≤ 1065353216)
theorem win_tab : ([2, 4, 8, 16].all fun n => (List.range n).all (winChk n)) = true := by decide +kernel
/-- How a word of a window comes. -/
structure WinS (n k : Nat) : Prop where
  d : floatBits .quo .f32 (floatOfInt .f32 (2 * (k : Int))) (floatOfInt .f32 (n : Int)) = some (triD n k)
  e : floatBits .sub .f32 1073741824 (triD n k) = some (triE n k)
  h : floatBits .mul .f32 (turnC (16 / (n : Int) * (k : Int))).1 1056964608 = some (smoH n k)
  q : floatBits .quo .f32 (turnC (16 / (n : Int) * (k : Int))).1 1073741824 = some (smoH n k)
  w : floatBits .sub .f32 1056964608 (smoH n k) = some (smoW n k)
  b0 : rg Ieee.single (winW 0 n k) ≤ 1065353216
  b1 : rg Ieee.single (winW 1 n k) ≤ 1065353216
  b2 : rg Ieee.single (winW 2 n k) ≤ 1065353216
theorem winS {n k : Nat} (hn : n = 2 ∨ n = 4 ∨ n = 8 ∨ n = 16) (hk : k < n) : WinS n k := by
  have h1 := List.all_eq_true.1 win_tab n (by rcases hn with rfl | rfl | rfl | rfl <;> decide)
  have h2 := List.all_eq_true.1 h1 k (List.mem_range.2 hk)
  simp only [winChk, Bool.and_eq_true, beq_iff_eq, decide_eq_true_eq] at h2
  obtain ⟨⟨⟨⟨⟨⟨⟨a, b⟩, c⟩, d⟩, e⟩, f⟩, g⟩, h⟩ := h2
  exact ⟨a, b, c, d, e, f, g, h⟩
theorem part_of_rg {x : Nat} (h : rg Ieee.single x ≤ 1065353216) : Fin Ieee.single x ∧ val Ieee.single x ≤ 1 ∧ -1 ≤ val Ieee.single x := by
  have h1 : rv Ieee.single (rg Ieee.single x) ≤ rv Ieee.single 1065353216 := rv_le _ h
  have h2 : rv Ieee.single 1065353216 = 1 := w_one.2
  have h3 := rv_nonneg Ieee.single (rg Ieee.single x)
  rw [h2] at h1
  refine ⟨Nat.lt_of_le_of_lt h (by decide), ?_⟩
  unfold val
  cases sg Ieee.single x
  · rw [sr_false]; constructor <;> grind
  · rw [sr_true]; constructor <;> grind
theorem winW_part {kind : Int} {n k : Nat} (h : winOk kind n = true) (hk : k < n) : Fin Ieee.single (winW kind n k) ∧ val Ieee.single (winW kind n k) ≤ 1 ∧ -1 ≤ val Ieee.single (winW kind n k) := by
  obtain ⟨hn, k0, k1⟩ := winOk_iff.1 h
  have hs := winS hn hk
  refine part_of_rg ?_
  have : kind = 0 ∨ kind = 1 ∨ kind = 2 := by omega
  rcases this with rfl | rfl | rfl
  · exact hs.b0
  · exact hs.b1
  · exact hs.b2
/-- The words of a window, if there is one. -/
def winL (kind : Int) (n : Nat) : List Nat := if winOk kind n then (List.range n).map (winW kind n) else []
theorem winL_no {kind : Int} {n : Nat} (h : winOk kind n = false) : winL kind n = [] := by unfold winL; rw [h]; rfl
theorem winL_yes {kind : Int} {n : Nat} (h : winOk kind n = true) : winL kind n = (List.range n).map (winW kind n) := by unfold winL; rw [h]; rfl
theorem winL_len {kind : Int} {n : Nat} (h : winOk kind n = true) : (winL kind n).length = n := by rw [winL_yes h, List.length_map, List.length_range]
def mulS (x u : Nat) : Nat := (floatBits .mul .f32 x u).getD 0
theorem mulS_spec {x u : Nat} (hx : Fin Ieee.single x) (hu : Fin Ieee.single u) : floatBits .mul .f32 x u = some (mulS x u) ∧ Rnd Ieee.single (val Ieee.single x * val Ieee.single u) (mulS x u) := by
  obtain ⟨r, e, hr⟩ := mul_spec hx hu
  have e' : floatBits .mul .f32 x u = some r := e
  unfold mulS
  rw [e']
  exact ⟨rfl, hr⟩
def lessC (z : C) (u : Nat) : C := (mulS z.1 u, mulS z.2 u)
/-- A signal times a window. -/
def winM (xs : List C) (kind : Int) (n : Nat) : List C := rngL (fun i => lessC (nth xs i) (winW kind n i)) n
def winF (xs : List C) (kind : Int) : Option (List C) := if sigB xs && winOk kind xs.length then some (winM xs kind xs.length) else none
theorem winF_no {xs : List C} {kind : Int} (h : sigB xs = false ∨ winOk kind xs.length = false) : winF xs kind = none := by
  unfold winF
  rcases h with h | h
  · rw [h]; rfl
  · rw [h, Bool.and_false]; rfl
theorem winF_yes {xs : List C} {kind : Int} {n : Nat} (hl : xs.length = n) (h : sigB xs = true) (h2 : winOk kind n = true) : winF xs kind = some (winM xs kind n) := by
  unfold winF; rw [hl, h, h2]; rfl
/-- A product with a part of at most 1 is a word. -/
theorem mulS_pb {x u : Nat} {a : Int} (hx : Fin Ieee.single x) (hu : Fin Ieee.single u) (h1 : val Ieee.single x ≤ p2 a) (h2 : -p2 a ≤ val Ieee.single x) (u1 : val Ieee.single u ≤ 1) (u2 : -1 ≤ val Ieee.single u) (ha : -149 ≤ a) (hb : a ≤ 123) :
    Fin Ieee.single (mulS x u) ∧ val Ieee.single (mulS x u) ≤ p2 a ∧ -p2 a ≤ val Ieee.single (mulS x u) := by
  obtain ⟨_, r⟩ := mulS_spec hx hu
  obtain ⟨q1, q2⟩ := mul_part h1 h2 u1 u2
  have := rnd_le (n := 1) (e := a) r (by decide) (Int.le_trans (by decide) ha) (lt_inf32 (by decide) hb) (by rw [one_mul_p2]; exact q1) (by rw [one_mul_p2]; exact q2)
  rw [one_mul_p2] at this
  exact this
theorem Lv.win {xs l : List C} {a kind : Int} (h : Lv xs a) (h1 : -149 ≤ a) (h2 : a ≤ 123) (he : winF xs kind = some l) : l.length = xs.length ∧ Lv l a := by
  unfold winF at he
  split at he
  · rename_i hc
    cases he
    rw [Bool.and_eq_true] at hc
    refine ⟨by unfold winM; rw [rngL_len], ?_⟩
    unfold winM
    refine Lv.rng fun i hi => ?_
    obtain ⟨hf, ⟨z1, z2⟩, ⟨z3, z4⟩⟩ := h i hi
    rw [one_mul_p2] at z1 z2 z3 z4
    obtain ⟨fa, fb⟩ := finB_iff.1 hf
    obtain ⟨u0, u1, u2⟩ := winW_part hc.2 hi
    obtain ⟨a1, a2, a3⟩ := mulS_pb fa u0 z1 z2 u1 u2 h1 h2
    obtain ⟨b1, b2, b3⟩ := mulS_pb fb u0 z3 z4 u1 u2 h1 h2
    unfold Pb
    rw [one_mul_p2]
    exact ⟨finB_iff.2 ⟨a1, b1⟩, ⟨a2, a3⟩, ⟨b2, b3⟩⟩
  · cases he
/-- The signal moved round, where that is told. -/
def movF (xs : List C) (b : Int) : List C := if sigB xs && inB b (-99) 99 then movL xs xs.length b else []
theorem movF_no {xs : List C} {b : Int} (h : sigB xs = false ∨ inB b (-99) 99 = false) : movF xs b = [] := by
  unfold movF
  rcases h with h | h
  · rw [h]; rfl
  · rw [h, Bool.and_false]; rfl
theorem movF_yes {xs : List C} {b : Int} {n : Nat} (hl : xs.length = n) (h : sigB xs = true) (h2 : inB b (-99) 99 = true) : movF xs b = movL xs n b := by
  unfold movF; rw [h, h2, hl]; rfl
end Go.Proofs.YtnomlkkhkacajaaGreatDoor
namespace Go.Proofs.YtnomlkkhkacajaaGreatDoor
open Go.RowKit

theorem Tryz.eG : Elem Tryz.prog 134 131 (.float .f32 0) 4 := Elem.mk' Tryz.underlying134 (by kernel_rfl) rfl
def gv (x : Nat) : Value := .float .f32 x
/-- A list of words of single precision. -/
def RetWn (w : World) (ws : List Nat) (e : Ending) (w' : World) : Prop :=
  ∃ (A : Option Addr) (c : Nat), e = .returned (.slice A ws.length c) ∧ Ow w' w.heap.size 131 (.slice A ws.length c) ws.length (ws.map gv) ∧ Below w.heap.size w w'
theorem win_snoc (f : Nat → Nat) (k : Nat) : ((List.range k).map f).map gv ++ [gv (f k)] = ((List.range (k + 1)).map f).map gv := by rw [List.range_succ, List.map_append, List.map_append]; rfl
theorem sWindow_no (kind : Int) (n : Nat) (w : World) (hn : n ≤ 1048576) (h : winOk kind n = false) : Calls Tryz.prog 118 #[.int .i64 kind, .int .i64 n] w (RetWn w []) := by
  have HE := Lib.hid (Ow.empty w 131)
  have HB0 := Lib.hid (below_alloc w (.cells #[] 131))
  cases hw : winN n
  · have h2 : ¬ (n : Int) = 2 := by intro e; rw [show n = 2 by omega] at hw; exact absurd hw (by decide)
    have h4 : ¬ (n : Int) = 4 := by intro e; rw [show n = 4 by omega] at hw; exact absurd hw (by decide)
    have h8 : ¬ (n : Int) = 8 := by intro e; rw [show n = 8 by omega] at hw; exact absurd hw (by decide)
    have h16 : ¬ (n : Int) = 16 := by intro e; rw [show n = 16 by omega] at hw; exact absurd hw (by decide)
    clear h hw hn
    go_enter Tryz.func118, Tryz.ntmps118
    go_wp2_with fail
    go_ret
    exact ⟨_, _, rfl, HE.out, HB0.out⟩
  · have hin : inB kind 0 2 = false := by
      unfold winOk at h; rw [hw] at h
      rw [inB_false_iff]
      simp only [Bool.true_and, Bool.and_eq_false_iff, decide_eq_false_iff_not] at h
      omega
    have HIN := Lib.hid hin
    obtain ⟨N, hN⟩ : ∃ N : Int, N = (n : Int) := ⟨_, rfl⟩
    have hc : N = 2 ∨ N = 4 ∨ N = 8 ∨ N = 16 := by have := winN_iff.1 hw; omega
    rw [← hN]
    clear h hw hn hin hN
    rcases hc with rfl | rfl | rfl | rfl
    all_goals
      go_enter Tryz.func118, Tryz.ntmps118
      go_wp2_with fail
      refine (l1In_any _ _ _ _).mono ?_
      rintro e w' ⟨rfl, rfl⟩
      rw [HIN.out]
      go_wp2_with fail
      go_ret
      exact ⟨_, _, rfl, HE.out, HB0.out⟩

set_option maxHeartbeats 8000000 in
set_option maxRecDepth 100000 in
theorem sWindow0 (n : Nat) (w : World) (hn : n = 2 ∨ n = 4 ∨ n = 8 ∨ n = 16) : Calls Tryz.prog 118 #[.int .i64 0, .int .i64 n] w (RetWn w ((List.range n).map (winW 0 n))) := by
  have HE : Hid (Ow (w.alloc (.cells #[] 131)) w.heap.size 131 (.slice (some ⟨w.heap.size, 0, none⟩) 0 0) 0 (((List.range 0).map (winW 0 n)).map gv)) := Lib.hid (Ow.empty w 131)
  have HB0 := Lib.hid (below_alloc w (.cells #[] 131))
  obtain ⟨N, hN⟩ : ∃ N : Int, N = (n : Int) := ⟨_, rfl⟩
  have hc : N = 2 ∨ N = 4 ∨ N = 8 ∨ N = 16 := by omega
  have h16 : n ≤ 16 := by omega
  rw [← hN]
  clear hn
  rcases hc with rfl | rfl | rfl | rfl
  all_goals
    have HNn := Lib.hid hN
    clear hN
    go_enter Tryz.func118, Tryz.ntmps118
    go_wp2_with fail
    refine (l1In_any _ _ _ _).mono ?_
    rintro e w' ⟨rfl, rfl⟩
    rw [show inB 0 0 2 = true from rfl]
    go_wp2_with fail
    go_loopw [5, 6] (fun v i wr => ∃ k : Nat, k ≤ n ∧ i = .int .i64 k ∧ Ow wr w.heap.size 131 v k (((List.range k).map (winW 0 n)).map gv) ∧ Below w.heap.size w wr) (fun _ i _ => n - (intOf i).toNat)
    case atStart => first | exact ⟨0, by omega, rfl, HE.out, HB0.out⟩ | ((repeat apply Exists.intro); exact ⟨by omega, rfl, HE.out, HB0.out⟩)
    case round =>
      obtain ⟨k, hk, rfl, ho, hb⟩ := hrel
      have HO := Lib.hid ho
      have HB := Lib.hid hb
      have hsz := hb.size
      clear ho hb
      by_cases hlt : k < n
      · have hlN := Int.lt_of_lt_of_le (Int.ofNat_lt.2 hlt) (Int.le_of_eq HNn.out.symm)
        have HN := Lib.hid (win_snoc (winW 0 n) k)
        have hw : winW 0 n k = 1056964608 := rfl
        rw [hw] at HN
        clear hw
        go_wp2_with (at_builtin; refine wl_appB w.heap.size [.float .f32 1056964608] hsz rfl (.tmp 61) (.tmp 63) 134 rfl Tryz.eG _ k _ rfl HO.out rfl (by simp [Value.oneCell']) (by simp [maxLen]; omega) (by simp; omega) ?_; intro v' w4 ho4 hb4)
        have HO4 : Hid (Ow w4 w.heap.size 131 v' (k + 1) (((List.range (k + 1)).map (winW 0 n)).map gv)) := by
          show Ow _ _ _ _ _ _
          rw [← HN.out]; exact ho4
        have HB4 : Hid (Below w.heap.size w w4) := HB.out.trans hb4
        clear ho4 hb4
        go_roundw
        case rel => first | exact ⟨k + 1, by omega, by go_num, HO4.out, HB4.out⟩ | ((repeat apply Exists.intro); exact ⟨⟨k + 1, by omega, by go_num, HO4.out, HB4.out⟩, rfl⟩)
        case measure => simp [intOf]; omega
      · obtain rfl : k = n := by omega
        have hlN := Int.not_lt.2 (Int.le_of_eq HNn.out)
        obtain ⟨A2, c2, rfl⟩ := HO.out.shape
        have HR : Hid (RetWn w ((List.range k).map (winW 0 k)) (.returned (.slice A2 k c2)) wr) := by
          have e : ((List.range k).map (winW 0 k)).length = k := by rw [List.length_map, List.length_range]
          exact ⟨_, _, by rw [e], by rw [e]; exact HO.out, HB.out⟩
        go_wp2_with fail
        go_ret
        exact HR.out
end Go.Proofs.YtnomlkkhkacajaaGreatDoor
