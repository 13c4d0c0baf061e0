/- Texts on the way to a law (D12), each with its own remark. -/
import Derived.Test.YtnomlkkhkacajaaGreatDoorPC26
import Derived.Test.YtnomlkkhkacajaaGreatDoorPC17
import Derived.Deep.DeepCutAuto
namespace Go.Proofs.YtnomlkkhkacajaaGreatDoor
open Go.RowKit
open Go.Lib hiding intOf

theorem DAt.belowB {w w' : World} {b B : Nat} {k n : Int} {t : ByteArray} (h : DAt w b k n t) (hb : Below B w w') (hB : b < B) : DAt w' b k n t :=
  ⟨(hb.cell (p := ⟨b, 0, none⟩) hB).trans h.c0, (hb.cell (p := ⟨b, 1, none⟩) hB).trans h.c1, (hb.cell (p := ⟨b, 2, none⟩) hB).trans h.c2,
    (hb.frozen (p := ⟨b, 0, none⟩) hB).trans h.f0, (hb.frozen (p := ⟨b, 1, none⟩) hB).trans h.f1, (hb.frozen (p := ⟨b, 2, none⟩) hB).trans h.f2, Nat.lt_of_lt_of_le h.lt hb.size⟩
theorem DAt.pk {w w' : World} {b g : Nat} {k n : Int} {t : ByteArray} (h : DAt w b k n t) (hp : Pk g w w') (hg : b ≠ g) : DAt w' b k n t := by
  have f : ∀ o, w'.frozen? ⟨b, o, none⟩ = w.frozen? ⟨b, o, none⟩ := fun o => frozen_of_block (a := ⟨b, o, none⟩) (hp.block b h.lt hg)
  exact ⟨(hp.cell (p := ⟨b, 0, none⟩) h.lt hg).trans h.c0, (hp.cell (p := ⟨b, 1, none⟩) h.lt hg).trans h.c1, (hp.cell (p := ⟨b, 2, none⟩) h.lt hg).trans h.c2,
    (f 0).trans h.f0, (f 1).trans h.f1, (f 2).trans h.f2, Nat.lt_of_lt_of_le h.lt hp.size⟩
theorem DAt.new (w : World) (k n : Int) (t : ByteArray) (E : TypeId) : DAt (w.alloc (.cells #[.int .i64 k, .int .i64 n, .string t] E)) w.heap.size k n t :=
  DAt.box (Below.refl _ _)
theorem DAt.set0 {w : World} {b : Nat} {k n : Int} {t : ByteArray} (h : DAt w b k n t) (m : Int) : DAt (w.setCell ⟨b, 0, none⟩ (.int .i64 m)) b m n t := by
  have e : ∀ o, o ≠ 0 → (w.setCell ⟨b, 0, none⟩ (.int .i64 m)).cell? ⟨b, o, none⟩ = w.cell? ⟨b, o, none⟩ := fun o ho => World.cell?_setCell_other _ _ _ _ (by intro e; injection e with e1 e2; exact ho e2.symm)
  exact ⟨World.cell?_setCell_same' w _ _ (by rw [h.c0]; rfl), (e 1 (by omega)).trans h.c1, (e 2 (by omega)).trans h.c2, by rw [World.frozen?_setCell]; exact h.f0, by rw [World.frozen?_setCell]; exact h.f1, by rw [World.frozen?_setCell]; exact h.f2, by rw [World.setCell]; simpa using h.lt⟩
theorem DAt.set2 {w : World} {b : Nat} {k n : Int} {t : ByteArray} (h : DAt w b k n t) (u : ByteArray) : DAt (w.setCell ⟨b, 2, none⟩ (.string u)) b k n u := by
  have e : ∀ o, o ≠ 2 → (w.setCell ⟨b, 2, none⟩ (.string u)).cell? ⟨b, o, none⟩ = w.cell? ⟨b, o, none⟩ := fun o ho => World.cell?_setCell_other _ _ _ _ (by intro e; injection e with e1 e2; exact ho e2.symm)
  exact ⟨(e 0 (by omega)).trans h.c0, (e 1 (by omega)).trans h.c1, World.cell?_setCell_same' w _ _ (by rw [h.c2]; rfl), by rw [World.frozen?_setCell]; exact h.f0, by rw [World.frozen?_setCell]; exact h.f1, by rw [World.frozen?_setCell]; exact h.f2, by rw [World.setCell]; simpa using h.lt⟩
/-- A deed being drawn, in its own block; the result's block. -/
structure LD (w wx : World) (g p b : Nat) (k n : Int) (t : Txt) : Prop where
  rd : Rd wx g p
  at_ : DAt wx b k n (bs t)
  res : DAt wx w.heap.size 0 0 ⟨#[]⟩
  pk : Pk g w wx
  gt : w.heap.size < b
  lt : g < w.heap.size
section
variable {w wx w' : World} {g p p' b : Nat} {k n : Int} {t : Txt}
theorem LD.call (h : LD w wx g p b k n t) (hp : Pk g wx w') (hr : Rd w' g p') : LD w w' g p' b k n t :=
  ⟨hr, h.at_.pk hp (by have := h.gt; have := h.lt; omega), h.res.pk hp (by have := h.lt; omega), h.pk.trans hp, h.gt, h.lt⟩
theorem LD.below (h : LD w wx g p b k n t) (hb : Below wx.heap.size wx w') : LD w w' g p b k n t := h.call (Pk.of_below hb) (h.rd.below hb)
theorem LD.num (h : LD w wx g p b k n t) (m : Int) : LD w (wx.setCell ⟨b, 1, none⟩ (.int .i64 m)) g p b k m t := by
  have hb : Below b wx (wx.setCell ⟨b, 1, none⟩ (.int .i64 m)) := (Below.refl b wx).setCell (p := ⟨b, 1, none⟩) (Nat.le_refl b) _
  exact ⟨h.rd.belowB hb (by have := h.gt; have := h.lt; omega), h.at_.num m, h.res.belowB hb h.gt, h.pk.belowB hb (by have := h.gt; omega), h.gt, h.lt⟩
theorem LD.text (h : LD w wx g p b k n t) (u : Txt) : LD w (wx.setCell ⟨b, 2, none⟩ (.string (bs u))) g p b k n u := by
  have hb : Below b wx (wx.setCell ⟨b, 2, none⟩ (.string (bs u))) := (Below.refl b wx).setCell (p := ⟨b, 2, none⟩) (Nat.le_refl b) _
  exact ⟨h.rd.belowB hb (by have := h.gt; have := h.lt; omega), h.at_.set2 _, h.res.belowB hb h.gt, h.pk.belowB hb (by have := h.gt; omega), h.gt, h.lt⟩
theorem LD.mono (h : LD w wx g p b k n t) (hp : p ≤ p') : LD w wx g p' b k n t := ⟨h.rd.mono hp, h.at_, h.res, h.pk, h.gt, h.lt⟩
end
theorem below2 (w : World) (o o' : Obj) : Below w.heap.size w ((w.alloc o).alloc o') := (below_alloc w o).trans ((below_alloc _ _).mono (below_alloc w o).size)
theorem below3 (w : World) (o o' o'' : Obj) : Below w.heap.size w (((w.alloc o).alloc o').alloc o'') := (below2 w o o').trans ((below_alloc _ _).mono (below2 w o o').size)
/-- The same without the deed. -/
structure LB (w wx : World) (g p : Nat) : Prop where
  rd : Rd wx g p
  res : DAt wx w.heap.size 0 0 ⟨#[]⟩
  pk : Pk g w wx
  lt : g < w.heap.size
theorem LB.alloc {w wx : World} {g p : Nat} (h : LB w wx g p) (o : Obj) : LB w (wx.alloc o) g p :=
  ⟨h.rd.below (below_alloc _ _), h.res.below (below_alloc _ _), h.pk.trans (Pk.of_below (below_alloc _ _)), h.lt⟩
theorem LB.new {w wx : World} {g p : Nat} (h : LB w wx g p) (k n : Int) (t : Txt) (E : TypeId) : LD w (wx.alloc (.cells #[.int .i64 k, .int .i64 n, .string (bs t)] E)) g p wx.heap.size k n t :=
  ⟨(h.alloc _).rd, DAt.new _ _ _ _ _, (h.alloc _).res, (h.alloc _).pk, h.res.lt, h.lt⟩
theorem LB.set {w wx : World} {g p b : Nat} {k0 n0 : Int} {t0 : ByteArray} (h : LB w wx g p) (hd : DAt wx b k0 n0 t0) (hb : w.heap.size < b) (k n : Int) (t : Txt) :
    LD w (((wx.setCell ⟨b, 0, none⟩ (.int .i64 k)).setCell ⟨b, 1, none⟩ (.int .i64 n)).setCell ⟨b, 2, none⟩ (.string (bs t))) g p b k n t := by
  have hs : Below b wx (((wx.setCell ⟨b, 0, none⟩ (.int .i64 k)).setCell ⟨b, 1, none⟩ (.int .i64 n)).setCell ⟨b, 2, none⟩ (.string (bs t))) :=
    (((Below.refl b wx).setCell (p := ⟨b, 0, none⟩) (Nat.le_refl b) _).setCell (p := ⟨b, 1, none⟩) (Nat.le_refl b) _).setCell (p := ⟨b, 2, none⟩) (Nat.le_refl b) _
  exact ⟨h.rd.belowB hs (by have := h.lt; omega), ((hd.set0 k).num n).set2 _, h.res.belowB hs hb, h.pk.belowB hs (by omega), hb, h.lt⟩
theorem DAt.new2 (w : World) (o : Obj) (k n : Int) (t : ByteArray) (E : TypeId) : DAt ((w.alloc o).alloc (.cells #[.int .i64 k, .int .i64 n, .string t] E)) (w.heap.size + 1) k n t := by
  have h := DAt.new (w.alloc o) k n t E
  rwa [show (w.alloc o).heap.size = w.heap.size + 1 by simp] at h
theorem DAt.new3 (w : World) (o o' : Obj) (k n : Int) (t : ByteArray) (E : TypeId) : DAt (((w.alloc o).alloc o').alloc (.cells #[.int .i64 k, .int .i64 n, .string t] E)) (w.heap.size + 1 + 1) k n t := by
  have h := DAt.new2 (w.alloc o) o' k n t E
  rwa [show (w.alloc o).heap.size = w.heap.size + 1 by simp] at h
theorem LB.new2 {w wx : World} {g p : Nat} (h : LB w wx g p) (o : Obj) (k n : Int) (t : Txt) (E : TypeId) : LD w ((wx.alloc o).alloc (.cells #[.int .i64 k, .int .i64 n, .string (bs t)] E)) g p (wx.heap.size + 1) k n t := by
  have h2 := (h.alloc o).new k n t E
  rwa [show (wx.alloc o).heap.size = wx.heap.size + 1 by simp] at h2
/-- A deed that is drawn: its text is short. -/
def RetLD (w : World) (g p : Nat) (e : Ending) (w' : World) : Prop := ∃ a : Dd, e = .returned (dv a) ∧ a.text.length ≤ 706 ∧ -1000 ≤ a.num ∧ a.num ≤ 1000 ∧ Rd w' g p ∧ Pk g w w'
theorem pk_cells {g : Nat} {W w1 : World} (h : Pk g W w1) : (∀ b o, b < W.heap.size → b ≠ g → w1.cell? ⟨b, o, none⟩ = W.cell? ⟨b, o, none⟩) ∧ (∀ b o, b < W.heap.size → b ≠ g → w1.frozen? ⟨b, o, none⟩ = W.frozen? ⟨b, o, none⟩) :=
  ⟨fun b o hb hg => h.cell (p := ⟨b, o, none⟩) hb hg, fun b o hb hg => frozen_of_block (a := ⟨b, o, none⟩) (h.block b hb hg)⟩
def kinV (j : Nat) : Int := inth [0, 0, 1, 2, 3, 4, 5, 6] j
theorem kinV_get (j : Nat) (h : j < 8) : (#[.int .i64 0, .int .i64 0, .int .i64 1, .int .i64 2, .int .i64 3, .int .i64 4, .int .i64 5, .int .i64 6] : Array Value)[j]? = some (.int .i64 (kinV j)) ∧ (∀ h, ([.int .i64 0, .int .i64 0, .int .i64 1, .int .i64 2, .int .i64 3, .int .i64 4, .int .i64 5, .int .i64 6] : List Value)[j]'h = .int .i64 (kinV j)) ∧ 0 ≤ kinV j ∧ kinV j ≤ 6 := by
  have : j = 0 ∨ j = 1 ∨ j = 2 ∨ j = 3 ∨ j = 4 ∨ j = 5 ∨ j = 6 ∨ j = 7 := by omega
  rcases this with rfl | rfl | rfl | rfl | rfl | rfl | rfl | rfl <;> exact ⟨rfl, fun _ => rfl, by decide, by decide⟩

theorem RetLD.mk {w wx : World} {g p b : Nat} {k n : Int} {t : Txt} {x y z : Value} (h : LD w wx g (p + 64) b k n t) (ht : t.length ≤ 706) (hn : -1000 ≤ n ∧ n ≤ 1000) :
    RetLD w g (p + 70) (.returned (dv ⟨k, n, t⟩)) (((wx.setCell ⟨w.heap.size, 0, none⟩ x).setCell ⟨w.heap.size, 1, none⟩ y).setCell ⟨w.heap.size, 2, none⟩ z) := by
  have hb : Below w.heap.size wx (((wx.setCell ⟨w.heap.size, 0, none⟩ x).setCell ⟨w.heap.size, 1, none⟩ y).setCell ⟨w.heap.size, 2, none⟩ z) :=
    (((Below.refl _ wx).setCell (p := ⟨w.heap.size, 0, none⟩) (Nat.le_refl _) _).setCell (p := ⟨w.heap.size, 1, none⟩) (Nat.le_refl _) _).setCell (p := ⟨w.heap.size, 2, none⟩) (Nat.le_refl _) _
  exact ⟨⟨k, n, t⟩, rfl, ht, hn.1, hn.2, (h.rd.belowB hb h.lt).mono (by omega), h.pk.belowB hb (Nat.le_refl _)⟩
def ptsV (j : Nat) : Nat := ([1, 2, 4, 4, 4, 8, 3] : List Nat).getD j 0
theorem pts_cell {w w2 : World} {g : Nat} (h : Pk g (w.alloc (.cells #[.int .i64 1, .int .i64 2, .int .i64 4, .int .i64 4, .int .i64 4, .int .i64 8, .int .i64 3] 3)) w2) (hg : g < w.heap.size) {j : Nat} (hj : j < 7) :
    ∃ pts : Nat, pts ≤ 8 ∧ w2.cell? ⟨w.heap.size, j, none⟩ = some (.int .i64 pts) := by
  refine ⟨ptsV j, ?_, lit_cell _ 3 h hg ?_⟩
  · have : j = 0 ∨ j = 1 ∨ j = 2 ∨ j = 3 ∨ j = 4 ∨ j = 5 ∨ j = 6 := by omega
    rcases this with rfl | rfl | rfl | rfl | rfl | rfl | rfl <;> decide
  · have : j = 0 ∨ j = 1 ∨ j = 2 ∨ j = 3 ∨ j = 4 ∨ j = 5 ∨ j = 6 := by omega
    rcases this with rfl | rfl | rfl | rfl | rfl | rfl | rfl <;> rfl

set_option maxHeartbeats 4000000 in
set_option maxRecDepth 100000 in
theorem deed_any (g p : Nat) (w : World) (hp : p ≤ 600000) (hr : Rd w g p) :
    Calls Tryz.prog 34 #[.pointer (some ⟨g, 0, none⟩)] w (RetLD w g (p + 70)) := by
  have hlt := hr.lt
  have HR0 := Lib.hid hr
  have K8 : Hid (∀ w', Rd w' g p → Calls Tryz.prog 62 #[.pointer (some ⟨g, 0, none⟩), .int .i64 8] w' (RetP w' g p 8)) := fun w' h => pick_any g p 8 w' (by omega) (by omega) h
  have K60 : Hid (∀ w', Rd w' g (p + 1) → Calls Tryz.prog 62 #[.pointer (some ⟨g, 0, none⟩), .int .i64 60] w' (RetP w' g (p + 1) 60)) := fun w' h => pick_any g (p + 1) 60 w' (by omega) (by omega) h
  have hg0 : ¬ w.heap.size = g := by omega
  have hg1 : ¬ w.heap.size + 1 = g := by omega
  have hg2 : ¬ w.heap.size + 1 + 1 = g := by omega
  clear hr
  go_enter Tryz.func34, Tryz.ntmps34
  go_upto_region 1 with fail
  go_cut [3] (fun s3 wx => ∃ (b : Nat) (k : Int), s3 = .pointer (some ⟨b, 0, none⟩) ∧ 0 ≤ k ∧ k ≤ 13 ∧ LD w wx g (p + 2) b k 0 [])
  case first =>
    go_region_law ((go_simp; go_at_call 62; first
      | ((with_reducible refine Calls.mono (K8.out _ (by first
            | exact Rd.drew (HR0.out.below (below_alloc _ _))
            | exact Rd.drew ((HR0.out.below (below_alloc _ _)).below (below_alloc _ _))
            | exact Rd.drew (((HR0.out.below (below_alloc _ _)).below (below_alloc _ _)).below (below_alloc _ _)))) ?_); rintro e w1 ⟨j, rfl, ⟨j1, j2, _⟩, hr1, hp1⟩; obtain ⟨j, rfl⟩ := Int.eq_ofNat_of_zero_le j1; (have j3 : j < 8 := (by have := j2 (by omega); omega)); (have j4 : (j : Int) < 8 := (by omega)); (have j5 : (0 : Int) ≤ (j : Int) := (by omega)); obtain ⟨_, hlit, kv0, kv6⟩ := kinV_get j j3; generalize kinV j = kv at *; obtain ⟨hc1, hf1⟩ := pk_cells hp1; (have hz1 := hp1.size); (try simp at hz1); (have hy0 : w.heap.size < w1.heap.size := (by omega)); (try (have hy1 : w.heap.size + 1 < w1.heap.size := (by omega))); (try (have hy2 : w.heap.size + 1 + 1 < w1.heap.size := (by omega))); (have hn1 : ¬ w1.heap.size = g := (by omega)); (have hn2 : ¬ w1.heap.size + 1 = g := (by omega)); have HR1 := Lib.hid hr1; have HP1 := Lib.hid hp1; clear hr1 hp1 j2 j1)
      | ((with_reducible refine Calls.mono (K60.out _ (by first
            | exact HR1.out
            | exact HR1.out.below (below_alloc _ _)
            | exact (HR1.out.below (below_alloc _ _)).below (below_alloc _ _))) ?_); rintro e w2 ⟨i, rfl, ⟨i1, i2, _⟩, hr2, hp2⟩; (have i3 := i2 (by omega)); (have i4 : 0 ≤ i / 59 := Int.ediv_nonneg i1 (by omega)); (have i5 : i / 59 ≤ 1 := (by omega)); (have s1 : IntKind.i64.wrap (i.tdiv 59) = i / 59 := (by rw [Int.tdiv_eq_ediv_of_nonneg i1]; exact IntWalk.i64_in _ (by omega))); (have s2 : IntKind.i64.wrap (i / 59 * 7) = i / 59 * 7 := IntWalk.i64_in _ (by omega)); (have s3 : IntKind.i64.wrap (kv + i / 59 * 7) = kv + i / 59 * 7 := IntWalk.i64_in _ (by omega)); obtain ⟨hc2, hf2⟩ := pk_cells hp2; (have hz2 := hp2.size); (try simp at hz2); (have hu0 : w.heap.size < w2.heap.size := (by omega)); (try (have hu1 : w.heap.size + 1 < w2.heap.size := (by omega))); (try (have hu2 : w.heap.size + 1 + 1 < w2.heap.size := (by omega))); (try (have hu3 : w1.heap.size < w2.heap.size := (by omega))); (try (have hu4 : w1.heap.size + 1 < w2.heap.size := (by omega))); have HR2 := Lib.hid hr2; have HP2 := Lib.hid hp2; clear hr2 hp2 i2)))
    all_goals
      go_wp2_with fail
      have HQ2 : Hid (Pk g w1 w2) := (Pk.of_below (by first | exact Below.refl _ _ | exact below_alloc _ _ | exact below2 _ _ _)).trans HP2.out
      have HQ1 : Hid (Pk g w w1) := (Pk.of_below (by first | exact below_alloc _ _ | exact below2 _ _ _ | exact below3 _ _ _ _)).trans (Pk.of_drewN (m := 1) HP1.out)
      have HRS : Hid (DAt w2 w.heap.size 0 0 ⟨#[]⟩) := DAt.pk (DAt.below (DAt.pk (DAt.below (DAt.new w 0 0 ⟨#[]⟩ 28) (by first | exact Below.refl _ _ | exact below_alloc _ _ | exact below2 _ _ _)) (Pk.of_drewN (m := 1) HP1.out) hg0) (by first | exact Below.refl _ _ | exact below_alloc _ _ | exact below2 _ _ _)) HP2.out hg0
      have HLB : Hid (LB w w2 g (p + 2)) := ⟨HR2.out, HRS.out, HQ1.out.trans HQ2.out, hlt⟩
      have hgt1 : w.heap.size < w.heap.size + 1 := by omega
      have hgt2 : w.heap.size < w.heap.size + 1 + 1 := by omega
      have hgt3 : w.heap.size < w1.heap.size + 1 := by omega
      go_meet
      first
        | exact ⟨_, _, rfl, by omega, by omega, HLB.out.new _ 0 [] _⟩
        | exact ⟨_, _, rfl, by omega, by omega, (HLB.out.new _ 0 [] _).below (below_alloc _ _)⟩
        | exact ⟨_, _, rfl, by omega, by omega, HLB.out.new2 _ _ 0 [] _⟩
        | exact ⟨_, _, rfl, by omega, by omega, HLB.out.set (DAt.pk (DAt.new w1 0 0 ⟨#[]⟩ 28) HP2.out hn1) hy0 _ 0 []⟩
        | exact ⟨_, _, rfl, by omega, by omega, (HLB.out.set (DAt.pk (DAt.new w1 0 0 ⟨#[]⟩ 28) HP2.out hn1) hy0 _ 0 []).below (below_alloc _ _)⟩
        | exact ⟨_, _, rfl, by omega, by omega, HLB.out.set (DAt.pk (DAt.below (DAt.new w1 0 0 ⟨#[]⟩ 28) (below_alloc _ _)) HP2.out hn1) hy0 _ 0 []⟩
        | exact ⟨_, _, rfl, by omega, by omega, HLB.out.set (DAt.pk (DAt.new2 w1 _ 0 0 ⟨#[]⟩ 28) HP2.out hn2) hgt3 _ 0 []⟩
        | exact ⟨_, _, rfl, by omega, by omega, HLB.out.set (DAt.pk (DAt.below (DAt.pk (DAt.below (DAt.new2 w _ 0 0 ⟨#[]⟩ 28) (by first | exact Below.refl _ _ | exact below_alloc _ _)) (Pk.of_drewN (m := 1) HP1.out) hg1) (by first | exact Below.refl _ _ | exact below_alloc _ _ | exact below2 _ _ _)) HP2.out hg1) hgt1 _ 0 []⟩
        | exact ⟨_, _, rfl, by omega, by omega, (HLB.out.set (DAt.pk (DAt.below (DAt.pk (DAt.below (DAt.new2 w _ 0 0 ⟨#[]⟩ 28) (by first | exact Below.refl _ _ | exact below_alloc _ _)) (Pk.of_drewN (m := 1) HP1.out) hg1) (by first | exact Below.refl _ _ | exact below_alloc _ _ | exact below2 _ _ _)) HP2.out hg1) hgt1 _ 0 []).below (below_alloc _ _)⟩
        | exact ⟨_, _, rfl, by omega, by omega, HLB.out.set (DAt.pk (DAt.below (DAt.pk (DAt.new3 w _ _ 0 0 ⟨#[]⟩ 28) (Pk.of_drewN (m := 1) HP1.out) hg2) (by first | exact Below.refl _ _ | exact below_alloc _ _ | exact below2 _ _ _)) HP2.out hg2) hgt2 _ 0 []⟩
  case rest =>
    obtain ⟨b, k, rfl, hk0, hk13, hld⟩ := hcut
    have HL := Lib.hid hld
    obtain ⟨c0, c1, c2, f0, f1, f2, hbl⟩ := hld.at_
    have hbw := hld.gt
    have hbg : ¬ b = g := by have := hld.lt; omega
    clear hld hg0 hg1 hg2
    have hkk : k = 0 ∨ (k = 3 ∨ k = 4) ∨ k = 5 ∨ ((k == 0) = false ∧ (k == 3) = false ∧ (k == 4) = false ∧ (k == 5) = false) := by
      by_cases h : k = 0 ∨ k = 3 ∨ k = 4 ∨ k = 5
      · omega
      · right; right; right
        refine ⟨?_, ?_, ?_, ?_⟩ <;> rw [beq_eq_false_iff_ne] <;> omega
    rcases hkk with rfl | hk34 | rfl | ⟨k0, k3, k4, k5⟩
    · go_wp2_with fail
      refine (pick_any g (p + 2) 7 _ (by omega) (by omega) (HL.out.rd.below (below_alloc _ _))).mono ?_
      rintro e w3 ⟨j, rfl, ⟨j1, j2, _⟩, hr3, hp3⟩
      have j3 := j2 (by omega)
      obtain ⟨j, rfl⟩ := Int.eq_ofNat_of_zero_le j1
      have j4 : j < 7 := by omega
      obtain ⟨pts, hpt, hcell⟩ := pts_cell hp3 HL.out.rd.lt j4
      have HL3 : Hid (LD w w3 g (p + 3) b 0 0 []) := (HL.out.below (below_alloc _ _)).call hp3 hr3
      clear hr3 hp3 j1 j2 c0 c1 c2 f0 f1 f2 hbl
      go_wp2_with fail
      refine (signal_any g (p + 3) pts 0 w3 (by omega) (by omega) (by omega) HL3.out.rd).mono ?_
      rintro e w4 ⟨A4, m4, c4, xs, rfl, ho4, hl4, _, _, hr4, hp4⟩
      have HL4 : Hid (LD w w4 g (p + 61) b 0 0 []) := (HL3.out.call hp4 hr4).mono (by omega)
      have hm4 : m4 ≤ 17 := by have := ho4.len; rw [List.length_map] at this; omega
      have HX4 := Lib.hid ho4.sl
      clear hr4 hp4 ho4 hl4 hcell
      go_wp2_with fail
      refine (sSignalText A4 m4 c4 xs w4 (by omega) HX4.out).mono ?_
      rintro e w5 ⟨rfl, hb5⟩
      have ht := sigT_len xs
      generalize (sigT xs).getD [] = t at *
      generalize (sigT xs).isSome = okk at *
      have HL5 := Lib.hid (HL4.out.below hb5)
      obtain ⟨c0, c1, c2, f0, f1, f2, hbl⟩ := HL5.out.at_
      clear hb5
      obtain ⟨n, hn, hn1, hn2⟩ : ∃ n : Int, n = 0 ∧ -1 ≤ n ∧ n ≤ 6 := ⟨_, rfl, by omega, by omega⟩
      have HLA : Hid (LD w (w5.setCell ⟨b, 2, none⟩ (.string (bs t))) g (p + 61) b 0 n t) := by show LD _ _ _ _ _ _ _ _; rw [hn]; exact HL5.out.text t
      clear hn
      go_wp2_with fail
      clear c0 c1 c2 f0 f1 f2 hbl
      refine (odd_any g (p + 61) 40 _ (by omega) (by omega) HLA.out.rd).mono ?_
      rintro e wB ⟨v1, rfl, _, hrB, hpB⟩
      have HLB : Hid (LD w wB g (p + 62) b 0 n t) := HLA.out.call hpB hrB
      clear hpB hrB
      cases v1 with
      | false =>
        have HLC : Hid (LD w wB g (p + 63) b 0 n t) := HLB.out.mono (by omega)
        go_wp2_with fail
        refine (odd_any g (p + 63) 40 _ (by omega) (by omega) HLC.out.rd).mono ?_
        rintro e wD ⟨v2, rfl, _, hrD, hpD⟩
        have HLD : Hid (LD w wD g (p + 64) b 0 n t) := HLC.out.call hpD hrD
        obtain ⟨c0, c1, c2, f0, f1, f2, hbl⟩ := HLD.out.at_
        obtain ⟨r0, r1, r2, s0, s1, s2, hrl⟩ := HLD.out.res
        clear hpD hrD
        cases v2 with
        | false =>
          go_wp2_with fail
          refine bodyPost_ret (v := dv ⟨0, n, t⟩) (by simp [results, Tryz.results34, go_sem, r0, r1, r2, dv]) rfl ?_
          exact RetLD.mk HLD.out (by show t.length ≤ 706; omega) (by show -1000 ≤ (n : Int) ∧ (n : Int) ≤ 1000; omega)
        | true =>
          have z1 : (bs t).size ≤ 705 := by rw [bs_size]; exact ht
          have e1 : bs t ++ { data := #[49] } = bs (t ++ [49]) := by show bs t ++ bs [49] = _; rw [bs_append]
          have HLE : Hid (LD w (wD.setCell ⟨b, 2, none⟩ (.string (bs (t ++ [49])))) g (p + 64) b 0 n (t ++ [49])) := HLD.out.text (t ++ [49])
          have hbw : ¬ b = w.heap.size := by have := HLD.out.gt; omega
          go_wp2_with fail
          refine bodyPost_ret (v := dv ⟨0, n, t ++ [49]⟩) (by simp [results, Tryz.results34, go_sem, r0, r1, r2, dv]) rfl ?_
          exact RetLD.mk HLE.out (by show (t ++ [49]).length ≤ 706; rw [List.length_append]; simp; omega) (by show -1000 ≤ (n : Int) ∧ (n : Int) ≤ 1000; omega)
      | true =>
        obtain ⟨c0, c1, c2, f0, f1, f2, hbl⟩ := HLB.out.at_
        have hbg : ¬ b = g := by have := HLB.out.lt; have := HLB.out.gt; omega
        have K200 : Hid (∀ w', Rd w' g (p + 62) → Calls Tryz.prog 62 #[.pointer (some ⟨g, 0, none⟩), .int .i64 200] w' (RetP w' g (p + 62) 200)) := fun w' h => pick_any g (p + 62) 200 w' (by omega) (by omega) h
        go_wp2_with fail
        go_region_law ((go_simp; go_at_call 62; (with_reducible refine Calls.mono (K200.out _ (Rd.drew HLB.out.rd)) ?_); rintro e wC ⟨v, rfl, ⟨y1, y2, _⟩, hrC, hpC⟩; (have y3 := y2 (by omega)); have HLV : Hid (LD w wC g (p + 63) b 0 n t) := HLB.out.call (Pk.of_drewN (m := 1) hpC) hrC; clear hpC hrC y2; obtain ⟨d0, d1, d2, q0, q1, q2, hbl2⟩ := HLV.out.at_; (have i1 : IntKind.i64.wrap (n + v) = n + v := IntWalk.i64_in _ (by omega)); (have i2 : IntKind.i64.wrap (n + v - 50) = n + v - 50 := IntWalk.i64_in _ (by omega))))
        all_goals
          have HLC : Hid (LD w (wC.setCell ⟨b, 1, none⟩ (.int .i64 (n + v - 50))) g (p + 63) b 0 (n + v - 50) t) := HLV.out.num (n + v - 50)
          clear c0 c1 c2 f0 f1 f2 hbl d0 d1 d2 q0 q1 q2 hbl2
          go_wp2_with fail
          refine (odd_any g (p + 63) 40 _ (by omega) (by omega) HLC.out.rd).mono ?_
          rintro e wD ⟨v2, rfl, _, hrD, hpD⟩
          have HLD : Hid (LD w wD g (p + 64) b 0 (n + v - 50) t) := HLC.out.call hpD hrD
          obtain ⟨c0, c1, c2, f0, f1, f2, hbl⟩ := HLD.out.at_
          obtain ⟨r0, r1, r2, s0, s1, s2, hrl⟩ := HLD.out.res
          clear hpD hrD
          cases v2 with
          | false =>
            go_wp2_with fail
            refine bodyPost_ret (v := dv ⟨0, (n + v - 50), t⟩) (by simp [results, Tryz.results34, go_sem, r0, r1, r2, dv]) rfl ?_
            exact RetLD.mk HLD.out (by show t.length ≤ 706; omega) (by show -1000 ≤ ((n + v - 50) : Int) ∧ ((n + v - 50) : Int) ≤ 1000; omega)
          | true =>
            have z1 : (bs t).size ≤ 705 := by rw [bs_size]; exact ht
            have e1 : bs t ++ { data := #[49] } = bs (t ++ [49]) := by show bs t ++ bs [49] = _; rw [bs_append]
            have HLE : Hid (LD w (wD.setCell ⟨b, 2, none⟩ (.string (bs (t ++ [49])))) g (p + 64) b 0 (n + v - 50) (t ++ [49])) := HLD.out.text (t ++ [49])
            have hbw : ¬ b = w.heap.size := by have := HLD.out.gt; omega
            go_wp2_with fail
            refine bodyPost_ret (v := dv ⟨0, (n + v - 50), t ++ [49]⟩) (by simp [results, Tryz.results34, go_sem, r0, r1, r2, dv]) rfl ?_
            exact RetLD.mk HLE.out (by show (t ++ [49]).length ≤ 706; rw [List.length_append]; simp; omega) (by show -1000 ≤ ((n + v - 50) : Int) ∧ ((n + v - 50) : Int) ≤ 1000; omega)
    · have t0 : ([] : Txt).length ≤ 705 := by simp
      obtain ⟨t, ht', ht⟩ : ∃ t : Txt, t = [] ∧ t.length ≤ 705 := ⟨_, rfl, t0⟩
      rcases hk34 with rfl | rfl
      · go_wp2_with fail
        refine (pick_any g (p + 2) 7 _ (by omega) (by omega) HL.out.rd).mono ?_
        rintro e w3 ⟨j, rfl, ⟨j1, j2, _⟩, hr3, hp3⟩
        have j3 := j2 (by omega)
        have e1 : IntKind.i64.wrap (j - 1) = j - 1 := IntWalk.i64_in _ (by omega)
        have HL3 := Lib.hid (HL.out.call hp3 hr3)
        clear hr3 hp3 c0 c1 c2 f0 f1 f2 hbl
        obtain ⟨c0, c1, c2, f0, f1, f2, hbl⟩ := HL3.out.at_
        have HLA : Hid (LD w (w3.setCell ⟨b, 1, none⟩ (.int .i64 (j - 1))) g (p + 61) b 3 (j - 1) t) := by show LD _ _ _ _ _ _ _ _; rw [ht']; exact (HL3.out.num (j - 1)).mono (by omega)
        go_wp2_with fail
        obtain ⟨n, hn, hn1, hn2⟩ : ∃ n : Int, n = j - 1 ∧ -1 ≤ n ∧ n ≤ 6 := ⟨_, rfl, by omega, by omega⟩
        rw [← hn] at HLA ⊢
        clear c0 c1 c2 f0 f1 f2 hbl hn ht'
        refine (odd_any g (p + 61) 40 _ (by omega) (by omega) HLA.out.rd).mono ?_
        rintro e wB ⟨v1, rfl, _, hrB, hpB⟩
        have HLB : Hid (LD w wB g (p + 62) b 3 n t) := HLA.out.call hpB hrB
        clear hpB hrB
        cases v1 with
        | false =>
          have HLC : Hid (LD w wB g (p + 63) b 3 n t) := HLB.out.mono (by omega)
          go_wp2_with fail
          refine (odd_any g (p + 63) 40 _ (by omega) (by omega) HLC.out.rd).mono ?_
          rintro e wD ⟨v2, rfl, _, hrD, hpD⟩
          have HLD : Hid (LD w wD g (p + 64) b 3 n t) := HLC.out.call hpD hrD
          obtain ⟨c0, c1, c2, f0, f1, f2, hbl⟩ := HLD.out.at_
          obtain ⟨r0, r1, r2, s0, s1, s2, hrl⟩ := HLD.out.res
          clear hpD hrD
          cases v2 with
          | false =>
            go_wp2_with fail
            refine bodyPost_ret (v := dv ⟨3, n, t⟩) (by simp [results, Tryz.results34, go_sem, r0, r1, r2, dv]) rfl ?_
            exact RetLD.mk HLD.out (by show t.length ≤ 706; omega) (by show -1000 ≤ (n : Int) ∧ (n : Int) ≤ 1000; omega)
          | true =>
            have z1 : (bs t).size ≤ 705 := by rw [bs_size]; exact ht
            have e1 : bs t ++ { data := #[49] } = bs (t ++ [49]) := by show bs t ++ bs [49] = _; rw [bs_append]
            have HLE : Hid (LD w (wD.setCell ⟨b, 2, none⟩ (.string (bs (t ++ [49])))) g (p + 64) b 3 n (t ++ [49])) := HLD.out.text (t ++ [49])
            have hbw : ¬ b = w.heap.size := by have := HLD.out.gt; omega
            go_wp2_with fail
            refine bodyPost_ret (v := dv ⟨3, n, t ++ [49]⟩) (by simp [results, Tryz.results34, go_sem, r0, r1, r2, dv]) rfl ?_
            exact RetLD.mk HLE.out (by show (t ++ [49]).length ≤ 706; rw [List.length_append]; simp; omega) (by show -1000 ≤ (n : Int) ∧ (n : Int) ≤ 1000; omega)
        | true =>
          obtain ⟨c0, c1, c2, f0, f1, f2, hbl⟩ := HLB.out.at_
          have hbg : ¬ b = g := by have := HLB.out.lt; have := HLB.out.gt; omega
          have K200 : Hid (∀ w', Rd w' g (p + 62) → Calls Tryz.prog 62 #[.pointer (some ⟨g, 0, none⟩), .int .i64 200] w' (RetP w' g (p + 62) 200)) := fun w' h => pick_any g (p + 62) 200 w' (by omega) (by omega) h
          go_wp2_with fail
          go_region_law ((go_simp; go_at_call 62; (with_reducible refine Calls.mono (K200.out _ (Rd.drew HLB.out.rd)) ?_); rintro e wC ⟨v, rfl, ⟨y1, y2, _⟩, hrC, hpC⟩; (have y3 := y2 (by omega)); have HLV : Hid (LD w wC g (p + 63) b 3 n t) := HLB.out.call (Pk.of_drewN (m := 1) hpC) hrC; clear hpC hrC y2; obtain ⟨d0, d1, d2, q0, q1, q2, hbl2⟩ := HLV.out.at_; (have i1 : IntKind.i64.wrap (n + v) = n + v := IntWalk.i64_in _ (by omega)); (have i2 : IntKind.i64.wrap (n + v - 50) = n + v - 50 := IntWalk.i64_in _ (by omega))))
          all_goals
            have HLC : Hid (LD w (wC.setCell ⟨b, 1, none⟩ (.int .i64 (n + v - 50))) g (p + 63) b 3 (n + v - 50) t) := HLV.out.num (n + v - 50)
            clear c0 c1 c2 f0 f1 f2 hbl d0 d1 d2 q0 q1 q2 hbl2
            go_wp2_with fail
            refine (odd_any g (p + 63) 40 _ (by omega) (by omega) HLC.out.rd).mono ?_
            rintro e wD ⟨v2, rfl, _, hrD, hpD⟩
            have HLD : Hid (LD w wD g (p + 64) b 3 (n + v - 50) t) := HLC.out.call hpD hrD
            obtain ⟨c0, c1, c2, f0, f1, f2, hbl⟩ := HLD.out.at_
            obtain ⟨r0, r1, r2, s0, s1, s2, hrl⟩ := HLD.out.res
            clear hpD hrD
            cases v2 with
            | false =>
              go_wp2_with fail
              refine bodyPost_ret (v := dv ⟨3, (n + v - 50), t⟩) (by simp [results, Tryz.results34, go_sem, r0, r1, r2, dv]) rfl ?_
              exact RetLD.mk HLD.out (by show t.length ≤ 706; omega) (by show -1000 ≤ ((n + v - 50) : Int) ∧ ((n + v - 50) : Int) ≤ 1000; omega)
            | true =>
              have z1 : (bs t).size ≤ 705 := by rw [bs_size]; exact ht
              have e1 : bs t ++ { data := #[49] } = bs (t ++ [49]) := by show bs t ++ bs [49] = _; rw [bs_append]
              have HLE : Hid (LD w (wD.setCell ⟨b, 2, none⟩ (.string (bs (t ++ [49])))) g (p + 64) b 3 (n + v - 50) (t ++ [49])) := HLD.out.text (t ++ [49])
              have hbw : ¬ b = w.heap.size := by have := HLD.out.gt; omega
              go_wp2_with fail
              refine bodyPost_ret (v := dv ⟨3, (n + v - 50), t ++ [49]⟩) (by simp [results, Tryz.results34, go_sem, r0, r1, r2, dv]) rfl ?_
              exact RetLD.mk HLE.out (by show (t ++ [49]).length ≤ 706; rw [List.length_append]; simp; omega) (by show -1000 ≤ ((n + v - 50) : Int) ∧ ((n + v - 50) : Int) ≤ 1000; omega)
      · go_wp2_with fail
        refine (pick_any g (p + 2) 7 _ (by omega) (by omega) HL.out.rd).mono ?_
        rintro e w3 ⟨j, rfl, ⟨j1, j2, _⟩, hr3, hp3⟩
        have j3 := j2 (by omega)
        have e1 : IntKind.i64.wrap (j - 1) = j - 1 := IntWalk.i64_in _ (by omega)
        have HL3 := Lib.hid (HL.out.call hp3 hr3)
        clear hr3 hp3 c0 c1 c2 f0 f1 f2 hbl
        obtain ⟨c0, c1, c2, f0, f1, f2, hbl⟩ := HL3.out.at_
        have HLA : Hid (LD w (w3.setCell ⟨b, 1, none⟩ (.int .i64 (j - 1))) g (p + 61) b 4 (j - 1) t) := by show LD _ _ _ _ _ _ _ _; rw [ht']; exact (HL3.out.num (j - 1)).mono (by omega)
        go_wp2_with fail
        obtain ⟨n, hn, hn1, hn2⟩ : ∃ n : Int, n = j - 1 ∧ -1 ≤ n ∧ n ≤ 6 := ⟨_, rfl, by omega, by omega⟩
        rw [← hn] at HLA ⊢
        clear c0 c1 c2 f0 f1 f2 hbl hn ht'
        refine (odd_any g (p + 61) 40 _ (by omega) (by omega) HLA.out.rd).mono ?_
        rintro e wB ⟨v1, rfl, _, hrB, hpB⟩
        have HLB : Hid (LD w wB g (p + 62) b 4 n t) := HLA.out.call hpB hrB
        clear hpB hrB
        cases v1 with
        | false =>
          have HLC : Hid (LD w wB g (p + 63) b 4 n t) := HLB.out.mono (by omega)
          go_wp2_with fail
          refine (odd_any g (p + 63) 40 _ (by omega) (by omega) HLC.out.rd).mono ?_
          rintro e wD ⟨v2, rfl, _, hrD, hpD⟩
          have HLD : Hid (LD w wD g (p + 64) b 4 n t) := HLC.out.call hpD hrD
          obtain ⟨c0, c1, c2, f0, f1, f2, hbl⟩ := HLD.out.at_
          obtain ⟨r0, r1, r2, s0, s1, s2, hrl⟩ := HLD.out.res
          clear hpD hrD
          cases v2 with
          | false =>
            go_wp2_with fail
            refine bodyPost_ret (v := dv ⟨4, n, t⟩) (by simp [results, Tryz.results34, go_sem, r0, r1, r2, dv]) rfl ?_
            exact RetLD.mk HLD.out (by show t.length ≤ 706; omega) (by show -1000 ≤ (n : Int) ∧ (n : Int) ≤ 1000; omega)
          | true =>
            have z1 : (bs t).size ≤ 705 := by rw [bs_size]; exact ht
            have e1 : bs t ++ { data := #[49] } = bs (t ++ [49]) := by show bs t ++ bs [49] = _; rw [bs_append]
            have HLE : Hid (LD w (wD.setCell ⟨b, 2, none⟩ (.string (bs (t ++ [49])))) g (p + 64) b 4 n (t ++ [49])) := HLD.out.text (t ++ [49])
            have hbw : ¬ b = w.heap.size := by have := HLD.out.gt; omega
            go_wp2_with fail
            refine bodyPost_ret (v := dv ⟨4, n, t ++ [49]⟩) (by simp [results, Tryz.results34, go_sem, r0, r1, r2, dv]) rfl ?_
            exact RetLD.mk HLE.out (by show (t ++ [49]).length ≤ 706; rw [List.length_append]; simp; omega) (by show -1000 ≤ (n : Int) ∧ (n : Int) ≤ 1000; omega)
        | true =>
          obtain ⟨c0, c1, c2, f0, f1, f2, hbl⟩ := HLB.out.at_
          have hbg : ¬ b = g := by have := HLB.out.lt; have := HLB.out.gt; omega
          have K200 : Hid (∀ w', Rd w' g (p + 62) → Calls Tryz.prog 62 #[.pointer (some ⟨g, 0, none⟩), .int .i64 200] w' (RetP w' g (p + 62) 200)) := fun w' h => pick_any g (p + 62) 200 w' (by omega) (by omega) h
          go_wp2_with fail
          go_region_law ((go_simp; go_at_call 62; (with_reducible refine Calls.mono (K200.out _ (Rd.drew HLB.out.rd)) ?_); rintro e wC ⟨v, rfl, ⟨y1, y2, _⟩, hrC, hpC⟩; (have y3 := y2 (by omega)); have HLV : Hid (LD w wC g (p + 63) b 4 n t) := HLB.out.call (Pk.of_drewN (m := 1) hpC) hrC; clear hpC hrC y2; obtain ⟨d0, d1, d2, q0, q1, q2, hbl2⟩ := HLV.out.at_; (have i1 : IntKind.i64.wrap (n + v) = n + v := IntWalk.i64_in _ (by omega)); (have i2 : IntKind.i64.wrap (n + v - 50) = n + v - 50 := IntWalk.i64_in _ (by omega))))
          all_goals
            have HLC : Hid (LD w (wC.setCell ⟨b, 1, none⟩ (.int .i64 (n + v - 50))) g (p + 63) b 4 (n + v - 50) t) := HLV.out.num (n + v - 50)
            clear c0 c1 c2 f0 f1 f2 hbl d0 d1 d2 q0 q1 q2 hbl2
            go_wp2_with fail
            refine (odd_any g (p + 63) 40 _ (by omega) (by omega) HLC.out.rd).mono ?_
            rintro e wD ⟨v2, rfl, _, hrD, hpD⟩
            have HLD : Hid (LD w wD g (p + 64) b 4 (n + v - 50) t) := HLC.out.call hpD hrD
            obtain ⟨c0, c1, c2, f0, f1, f2, hbl⟩ := HLD.out.at_
            obtain ⟨r0, r1, r2, s0, s1, s2, hrl⟩ := HLD.out.res
            clear hpD hrD
            cases v2 with
            | false =>
              go_wp2_with fail
              refine bodyPost_ret (v := dv ⟨4, (n + v - 50), t⟩) (by simp [results, Tryz.results34, go_sem, r0, r1, r2, dv]) rfl ?_
              exact RetLD.mk HLD.out (by show t.length ≤ 706; omega) (by show -1000 ≤ ((n + v - 50) : Int) ∧ ((n + v - 50) : Int) ≤ 1000; omega)
            | true =>
              have z1 : (bs t).size ≤ 705 := by rw [bs_size]; exact ht
              have e1 : bs t ++ { data := #[49] } = bs (t ++ [49]) := by show bs t ++ bs [49] = _; rw [bs_append]
              have HLE : Hid (LD w (wD.setCell ⟨b, 2, none⟩ (.string (bs (t ++ [49])))) g (p + 64) b 4 (n + v - 50) (t ++ [49])) := HLD.out.text (t ++ [49])
              have hbw : ¬ b = w.heap.size := by have := HLD.out.gt; omega
              go_wp2_with fail
              refine bodyPost_ret (v := dv ⟨4, (n + v - 50), t ++ [49]⟩) (by simp [results, Tryz.results34, go_sem, r0, r1, r2, dv]) rfl ?_
              exact RetLD.mk HLE.out (by show (t ++ [49]).length ≤ 706; rw [List.length_append]; simp; omega) (by show -1000 ≤ ((n + v - 50) : Int) ∧ ((n + v - 50) : Int) ≤ 1000; omega)
    · obtain ⟨t, ht', ht⟩ : ∃ t : Txt, t = [] ∧ t.length ≤ 705 := ⟨_, rfl, by simp⟩
      go_wp2_with fail
      refine (pick_any g (p + 2) 4 _ (by omega) (by omega) HL.out.rd).mono ?_
      rintro e w3 ⟨j, rfl, ⟨j1, j2, _⟩, hr3, hp3⟩
      have j3 := j2 (by omega)
      have HL3 := Lib.hid (HL.out.call hp3 hr3)
      clear hr3 hp3 c0 c1 c2 f0 f1 f2 hbl
      obtain ⟨c0, c1, c2, f0, f1, f2, hbl⟩ := HL3.out.at_
      have HLA : Hid (LD w (w3.setCell ⟨b, 1, none⟩ (.int .i64 j)) g (p + 61) b 5 j t) := by show LD _ _ _ _ _ _ _ _; rw [ht']; exact (HL3.out.num j).mono (by omega)
      go_wp2_with fail
      obtain ⟨n, hn, hn1, hn2⟩ : ∃ n : Int, n = j ∧ -1 ≤ n ∧ n ≤ 6 := ⟨_, rfl, by omega, by omega⟩
      rw [← hn] at HLA ⊢
      clear c0 c1 c2 f0 f1 f2 hbl hn ht'
      refine (odd_any g (p + 61) 40 _ (by omega) (by omega) HLA.out.rd).mono ?_
      rintro e wB ⟨v1, rfl, _, hrB, hpB⟩
      have HLB : Hid (LD w wB g (p + 62) b 5 n t) := HLA.out.call hpB hrB
      clear hpB hrB
      cases v1 with
      | false =>
        have HLC : Hid (LD w wB g (p + 63) b 5 n t) := HLB.out.mono (by omega)
        go_wp2_with fail
        refine (odd_any g (p + 63) 40 _ (by omega) (by omega) HLC.out.rd).mono ?_
        rintro e wD ⟨v2, rfl, _, hrD, hpD⟩
        have HLD : Hid (LD w wD g (p + 64) b 5 n t) := HLC.out.call hpD hrD
        obtain ⟨c0, c1, c2, f0, f1, f2, hbl⟩ := HLD.out.at_
        obtain ⟨r0, r1, r2, s0, s1, s2, hrl⟩ := HLD.out.res
        clear hpD hrD
        cases v2 with
        | false =>
          go_wp2_with fail
          refine bodyPost_ret (v := dv ⟨5, n, t⟩) (by simp [results, Tryz.results34, go_sem, r0, r1, r2, dv]) rfl ?_
          exact RetLD.mk HLD.out (by show t.length ≤ 706; omega) (by show -1000 ≤ (n : Int) ∧ (n : Int) ≤ 1000; omega)
        | true =>
          have z1 : (bs t).size ≤ 705 := by rw [bs_size]; exact ht
          have e1 : bs t ++ { data := #[49] } = bs (t ++ [49]) := by show bs t ++ bs [49] = _; rw [bs_append]
          have HLE : Hid (LD w (wD.setCell ⟨b, 2, none⟩ (.string (bs (t ++ [49])))) g (p + 64) b 5 n (t ++ [49])) := HLD.out.text (t ++ [49])
          have hbw : ¬ b = w.heap.size := by have := HLD.out.gt; omega
          go_wp2_with fail
          refine bodyPost_ret (v := dv ⟨5, n, t ++ [49]⟩) (by simp [results, Tryz.results34, go_sem, r0, r1, r2, dv]) rfl ?_
          exact RetLD.mk HLE.out (by show (t ++ [49]).length ≤ 706; rw [List.length_append]; simp; omega) (by show -1000 ≤ (n : Int) ∧ (n : Int) ≤ 1000; omega)
      | true =>
        obtain ⟨c0, c1, c2, f0, f1, f2, hbl⟩ := HLB.out.at_
        have hbg : ¬ b = g := by have := HLB.out.lt; have := HLB.out.gt; omega
        have K200 : Hid (∀ w', Rd w' g (p + 62) → Calls Tryz.prog 62 #[.pointer (some ⟨g, 0, none⟩), .int .i64 200] w' (RetP w' g (p + 62) 200)) := fun w' h => pick_any g (p + 62) 200 w' (by omega) (by omega) h
        go_wp2_with fail
        go_region_law ((go_simp; go_at_call 62; (with_reducible refine Calls.mono (K200.out _ (Rd.drew HLB.out.rd)) ?_); rintro e wC ⟨v, rfl, ⟨y1, y2, _⟩, hrC, hpC⟩; (have y3 := y2 (by omega)); have HLV : Hid (LD w wC g (p + 63) b 5 n t) := HLB.out.call (Pk.of_drewN (m := 1) hpC) hrC; clear hpC hrC y2; obtain ⟨d0, d1, d2, q0, q1, q2, hbl2⟩ := HLV.out.at_; (have i1 : IntKind.i64.wrap (n + v) = n + v := IntWalk.i64_in _ (by omega)); (have i2 : IntKind.i64.wrap (n + v - 50) = n + v - 50 := IntWalk.i64_in _ (by omega))))
        all_goals
          have HLC : Hid (LD w (wC.setCell ⟨b, 1, none⟩ (.int .i64 (n + v - 50))) g (p + 63) b 5 (n + v - 50) t) := HLV.out.num (n + v - 50)
          clear c0 c1 c2 f0 f1 f2 hbl d0 d1 d2 q0 q1 q2 hbl2
          go_wp2_with fail
          refine (odd_any g (p + 63) 40 _ (by omega) (by omega) HLC.out.rd).mono ?_
          rintro e wD ⟨v2, rfl, _, hrD, hpD⟩
          have HLD : Hid (LD w wD g (p + 64) b 5 (n + v - 50) t) := HLC.out.call hpD hrD
          obtain ⟨c0, c1, c2, f0, f1, f2, hbl⟩ := HLD.out.at_
          obtain ⟨r0, r1, r2, s0, s1, s2, hrl⟩ := HLD.out.res
          clear hpD hrD
          cases v2 with
          | false =>
            go_wp2_with fail
            refine bodyPost_ret (v := dv ⟨5, (n + v - 50), t⟩) (by simp [results, Tryz.results34, go_sem, r0, r1, r2, dv]) rfl ?_
            exact RetLD.mk HLD.out (by show t.length ≤ 706; omega) (by show -1000 ≤ ((n + v - 50) : Int) ∧ ((n + v - 50) : Int) ≤ 1000; omega)
          | true =>
            have z1 : (bs t).size ≤ 705 := by rw [bs_size]; exact ht
            have e1 : bs t ++ { data := #[49] } = bs (t ++ [49]) := by show bs t ++ bs [49] = _; rw [bs_append]
            have HLE : Hid (LD w (wD.setCell ⟨b, 2, none⟩ (.string (bs (t ++ [49])))) g (p + 64) b 5 (n + v - 50) (t ++ [49])) := HLD.out.text (t ++ [49])
            have hbw : ¬ b = w.heap.size := by have := HLD.out.gt; omega
            go_wp2_with fail
            refine bodyPost_ret (v := dv ⟨5, (n + v - 50), t ++ [49]⟩) (by simp [results, Tryz.results34, go_sem, r0, r1, r2, dv]) rfl ?_
            exact RetLD.mk HLE.out (by show (t ++ [49]).length ≤ 706; rw [List.length_append]; simp; omega) (by show -1000 ≤ ((n + v - 50) : Int) ∧ ((n + v - 50) : Int) ≤ 1000; omega)
    · obtain ⟨t, ht', ht⟩ : ∃ t : Txt, t = [] ∧ t.length ≤ 705 := ⟨_, rfl, by simp⟩
      obtain ⟨n, hn, hn1, hn2⟩ : ∃ n : Int, n = 0 ∧ -1 ≤ n ∧ n ≤ 6 := ⟨_, rfl, by omega, by omega⟩
      go_wp2_with fail
      have HLA : Hid (LD w wc g (p + 61) b k n t) := by show LD _ _ _ _ _ _ _ _; rw [ht', hn]; exact HL.out.mono (by omega)
      clear c0 c1 c2 f0 f1 f2 hbl hn ht'
      refine (odd_any g (p + 61) 40 _ (by omega) (by omega) HLA.out.rd).mono ?_
      rintro e wB ⟨v1, rfl, _, hrB, hpB⟩
      have HLB : Hid (LD w wB g (p + 62) b k n t) := HLA.out.call hpB hrB
      clear hpB hrB
      cases v1 with
      | false =>
        have HLC : Hid (LD w wB g (p + 63) b k n t) := HLB.out.mono (by omega)
        go_wp2_with fail
        refine (odd_any g (p + 63) 40 _ (by omega) (by omega) HLC.out.rd).mono ?_
        rintro e wD ⟨v2, rfl, _, hrD, hpD⟩
        have HLD : Hid (LD w wD g (p + 64) b k n t) := HLC.out.call hpD hrD
        obtain ⟨c0, c1, c2, f0, f1, f2, hbl⟩ := HLD.out.at_
        obtain ⟨r0, r1, r2, s0, s1, s2, hrl⟩ := HLD.out.res
        clear hpD hrD
        cases v2 with
        | false =>
          go_wp2_with fail
          refine bodyPost_ret (v := dv ⟨k, n, t⟩) (by simp [results, Tryz.results34, go_sem, r0, r1, r2, dv]) rfl ?_
          exact RetLD.mk HLD.out (by show t.length ≤ 706; omega) (by show -1000 ≤ (n : Int) ∧ (n : Int) ≤ 1000; omega)
        | true =>
          have z1 : (bs t).size ≤ 705 := by rw [bs_size]; exact ht
          have e1 : bs t ++ { data := #[49] } = bs (t ++ [49]) := by show bs t ++ bs [49] = _; rw [bs_append]
          have HLE : Hid (LD w (wD.setCell ⟨b, 2, none⟩ (.string (bs (t ++ [49])))) g (p + 64) b k n (t ++ [49])) := HLD.out.text (t ++ [49])
          have hbw : ¬ b = w.heap.size := by have := HLD.out.gt; omega
          go_wp2_with fail
          refine bodyPost_ret (v := dv ⟨k, n, t ++ [49]⟩) (by simp [results, Tryz.results34, go_sem, r0, r1, r2, dv]) rfl ?_
          exact RetLD.mk HLE.out (by show (t ++ [49]).length ≤ 706; rw [List.length_append]; simp; omega) (by show -1000 ≤ (n : Int) ∧ (n : Int) ≤ 1000; omega)
      | true =>
        obtain ⟨c0, c1, c2, f0, f1, f2, hbl⟩ := HLB.out.at_
        have hbg : ¬ b = g := by have := HLB.out.lt; have := HLB.out.gt; omega
        have K200 : Hid (∀ w', Rd w' g (p + 62) → Calls Tryz.prog 62 #[.pointer (some ⟨g, 0, none⟩), .int .i64 200] w' (RetP w' g (p + 62) 200)) := fun w' h => pick_any g (p + 62) 200 w' (by omega) (by omega) h
        go_wp2_with fail
        go_region_law ((go_simp; go_at_call 62; (with_reducible refine Calls.mono (K200.out _ (Rd.drew HLB.out.rd)) ?_); rintro e wC ⟨v, rfl, ⟨y1, y2, _⟩, hrC, hpC⟩; (have y3 := y2 (by omega)); have HLV : Hid (LD w wC g (p + 63) b k n t) := HLB.out.call (Pk.of_drewN (m := 1) hpC) hrC; clear hpC hrC y2; obtain ⟨d0, d1, d2, q0, q1, q2, hbl2⟩ := HLV.out.at_; (have i1 : IntKind.i64.wrap (n + v) = n + v := IntWalk.i64_in _ (by omega)); (have i2 : IntKind.i64.wrap (n + v - 50) = n + v - 50 := IntWalk.i64_in _ (by omega))))
        all_goals
          have HLC : Hid (LD w (wC.setCell ⟨b, 1, none⟩ (.int .i64 (n + v - 50))) g (p + 63) b k (n + v - 50) t) := HLV.out.num (n + v - 50)
          clear c0 c1 c2 f0 f1 f2 hbl d0 d1 d2 q0 q1 q2 hbl2
          go_wp2_with fail
          refine (odd_any g (p + 63) 40 _ (by omega) (by omega) HLC.out.rd).mono ?_
          rintro e wD ⟨v2, rfl, _, hrD, hpD⟩
          have HLD : Hid (LD w wD g (p + 64) b k (n + v - 50) t) := HLC.out.call hpD hrD
          obtain ⟨c0, c1, c2, f0, f1, f2, hbl⟩ := HLD.out.at_
          obtain ⟨r0, r1, r2, s0, s1, s2, hrl⟩ := HLD.out.res
          clear hpD hrD
          cases v2 with
          | false =>
            go_wp2_with fail
            refine bodyPost_ret (v := dv ⟨k, (n + v - 50), t⟩) (by simp [results, Tryz.results34, go_sem, r0, r1, r2, dv]) rfl ?_
            exact RetLD.mk HLD.out (by show t.length ≤ 706; omega) (by show -1000 ≤ ((n + v - 50) : Int) ∧ ((n + v - 50) : Int) ≤ 1000; omega)
          | true =>
            have z1 : (bs t).size ≤ 705 := by rw [bs_size]; exact ht
            have e1 : bs t ++ { data := #[49] } = bs (t ++ [49]) := by show bs t ++ bs [49] = _; rw [bs_append]
            have HLE : Hid (LD w (wD.setCell ⟨b, 2, none⟩ (.string (bs (t ++ [49])))) g (p + 64) b k (n + v - 50) (t ++ [49])) := HLD.out.text (t ++ [49])
            have hbw : ¬ b = w.heap.size := by have := HLD.out.gt; omega
            go_wp2_with fail
            refine bodyPost_ret (v := dv ⟨k, (n + v - 50), t ++ [49]⟩) (by simp [results, Tryz.results34, go_sem, r0, r1, r2, dv]) rfl ?_
            exact RetLD.mk HLE.out (by show (t ++ [49]).length ≤ 706; rw [List.length_append]; simp; omega) (by show -1000 ≤ ((n + v - 50) : Int) ∧ ((n + v - 50) : Int) ≤ 1000; omega)
end Go.Proofs.YtnomlkkhkacajaaGreatDoor
