/- Texts on the way to a law (E14, H10, H17, H18), each with its own remark. -/
import Derived.Test.YtnomlkkhkacajaaGreatDoorPC29
import Derived.Test.YtnomlkkhkacajaaGreatDoorPC07
import Derived.Test.YtnomlkkhkacajaaGreatDoorPC17
import Derived.Test.YtnomlkkhkacajaaGreatDoorPC31
import Derived.Test.YtnomlkkhkacajaaGreatDoorPC19
import Derived.Deep.RegionHeld3
import Derived.Test.YtnomlkkhkacajaaGreatDoorPC21
import Derived.Test.YtnomlkkhkacajaaGreatDoorPC11
import Derived.Test.YtnomlkkhkacajaaGreatDoorPC20
namespace Go.Proofs.YtnomlkkhkacajaaGreatDoor
open Go.RowKit
open Go.Lib hiding intOf

theorem Po.pf {w : World} {B : Nat} {X : Nat → Prop} {A : Option Addr} {m c : Nat} {ps : List (List C)} (h : Po w B A m c ps) (hX : ∀ b, B ≤ b → b < w.heap.size → ¬ X b) : Pf w B X A m c ps := by
  obtain ⟨vs, h1, h2, h3⟩ := h
  exact ⟨vs, h1, h2, h3, fun ad e => hX _ (h1.ge ad e).1 (h1.ge ad e).2, fun ad n c hm => by
    obtain ⟨z, hz⟩ := h2.mem hm
    exact hX _ (hz.ge ad rfl).1 (hz.ge ad rfl).2⟩
theorem Pf.mono {w : World} {B B' : Nat} {X : Nat → Prop} {A : Option Addr} {m c : Nat} {ps : List (List C)} (h : Pf w B X A m c ps) (hB : B' ≤ B) : Pf w B' X A m c ps := by
  obtain ⟨vs, h1, h2, h3, h4, h5⟩ := h
  exact ⟨vs, h1.mono hB, h2.mono hB, h3, h4, h5⟩
theorem Pf.nil (w : World) (B : Nat) (X : Nat → Prop) : Pf w B X none 0 0 [] := by
  refine ⟨[], Ow.nil_ w B _, Pv.nil w B, ?_, ?_, ?_⟩
  · intro ad n c h; cases h
  · intro ad e; cases e
  · intro ad n c h; cases h
/-- A signal that lies in none of some blocks. -/
structure Sf (w : World) (B : Nat) (X : Nat → Prop) (A : Option Addr) (n c : Nat) (x : List C) : Prop where
  sg : Sg w B A n c x
  ne : ∀ ad, A = some ad → ¬ X ad.block
theorem Sf.kx {w w' : World} {B : Nat} {X : Nat → Prop} {A : Option Addr} {n c : Nat} {x : List C} (h : Sf w B X A n c x) (hk : Kx X w w') : Sf w' B X A n c x :=
  ⟨h.sg.keep hk.size fun ad e hl => hk.block ad.block hl (h.ne ad e), h.ne⟩
theorem Sg.sf {w : World} {B : Nat} {X : Nat → Prop} {A : Option Addr} {n c : Nat} {x : List C} (h : Sg w B A n c x) (hX : ∀ b, B ≤ b → b < w.heap.size → ¬ X b) : Sf w B X A n c x := ⟨h, fun ad e => hX _ (h.ge ad e).1 (h.ge ad e).2⟩
theorem Sf.mono {w : World} {B B' : Nat} {X : Nat → Prop} {A : Option Addr} {n c : Nat} {x : List C} (h : Sf w B X A n c x) (hB : B' ≤ B) : Sf w B' X A n c x := ⟨h.sg.mono hB, h.ne⟩
theorem Kx.pk {X : Nat → Prop} {g : Nat} {w w' : World} (h : Pk g w w') (hg : X g) : Kx X w w' := ⟨h.size, fun b hb hx => h.block b hb fun e => hx (e ▸ hg)⟩
/-- A desk as it is drawn: its block, and what it holds. -/
structure Dr3 (w : World) (g gd p k : Nat) (wr : World) (A : Option Addr) (n c : Nat) (A' : Option Addr) (m c' : Nat) (d : Dk) : Prop where
  at_ : KAt wr gd (.slice A n c) (.slice A' m c')
  res : KAt wr w.heap.size (.slice none 0 0) (.slice none 0 0)
  now : Sf wr w.heap.size (fun b => b = gd ∨ b = w.heap.size ∨ b = g) A n c d.now
  past : Pf wr w.heap.size (fun b => b = gd ∨ b = w.heap.size ∨ b = g) A' m c' d.past
  ok : DkS d
  lv : dkB d = true → DkL d (14 + 5 * (k : Int))
  len : d.past.length ≤ k
  rd : Rd wr g (p + 71 * k)
  pk : Pk g w wr
  gt : w.heap.size < gd
  lt : g < w.heap.size
/-- A desk that is drawn. -/
def RetDk (w : World) (g p : Nat) (e : Ending) (w' : World) : Prop :=
  ∃ A n c A' m c' d, e = .returned (.agg #[.slice A n c, .slice A' m c']) ∧ DkV w' w.heap.size A n c A' m d ∧ DkS d ∧ (dkB d = true → DkL d 39) ∧ Rd w' g p ∧ Pk g w w'
theorem Dr3.mono {w wr : World} {g gd p k k' : Nat} {A A' : Option Addr} {n c m c' : Nat} {d : Dk} (h : Dr3 w g gd p k wr A n c A' m c' d) (hk : k ≤ k') : Dr3 w g gd p k' wr A n c A' m c' d :=
  ⟨h.at_, h.res, h.now, h.past, h.ok, fun hk => (h.lv hk).mono (by omega), Nat.le_trans h.len hk, h.rd.mono (by omega), h.pk, h.gt, h.lt⟩
theorem pts_get (j : Nat) (h : j < 5) : ∃ q : Nat, q ≤ 8 ∧ (#[.int .i64 0, .int .i64 4, .int .i64 4, .int .i64 2, .int .i64 8] : Array Value)[j]? = some (.int .i64 (q : Int)) := by
  have : j = 0 ∨ j = 1 ∨ j = 2 ∨ j = 3 ∨ j = 4 := by omega
  rcases this with rfl | rfl | rfl | rfl | rfl
  · exact ⟨0, by decide, rfl⟩
  · exact ⟨4, by decide, rfl⟩
  · exact ⟨4, by decide, rfl⟩
  · exact ⟨2, by decide, rfl⟩
  · exact ⟨8, by decide, rfl⟩
theorem dk_start {x : List C} (h : ∀ z ∈ x, Ord z) (hl : x.length ≤ 17) : DkS ⟨x, []⟩ ∧ DkL ⟨x, []⟩ 14 :=
  ⟨⟨hl, Nat.zero_le _, fun y hy => by cases hy⟩, Lv.ord h, fun y hy => by cases hy⟩
/-- A deed is done to the desk that is drawn. -/
theorem Dr3.step {w wr w5 w6 : World} {g gd p k : Nat} {A A' A2 A3 : Option Addr} {n c m c' n2 c2 m2 c3 : Nat} {d : Dk} {a : Dd} (h : Dr3 w g gd p k wr A n c A' m c' d) (hk : k ≤ 3) (hk5 : Kx (fun b => b = gd ∨ b = w.heap.size ∨ b = g) wr w5) (hd : (doF d a).2 = true)
    (hs : Sg w6 w5.heap.size A2 n2 c2 (doF d a).1.now) (hp : (doF d a).1.past.length < 8 → Po w6 w5.heap.size A3 m2 c3 (doF d a).1.past) (ha : KAt w6 gd (.slice A2 n2 c2) (.slice A3 m2 c3)) (hr : KAt w6 w.heap.size (.slice none 0 0) (.slice none 0 0)) (hrd : Rd w6 g (p + 71 * (k + 1))) (hpk : Pk g w w6) :
    Dr3 w g gd p (k + 1) w6 A2 n2 c2 A3 m2 c3 (doF d a).1 := by
  have hX : ∀ b, w5.heap.size ≤ b → b < w6.heap.size → ¬ (b = gd ∨ b = w.heap.size ∨ b = g) := fun b h1 h2 hx => by
    have := h.at_.lt
    have := hk5.size
    have := h.gt
    have := h.lt
    omega
  have hB : w.heap.size ≤ w5.heap.size := Nat.le_trans h.pk.size hk5.size
  cases hb : dkB d
  · rw [doF_bad a hb] at hd; cases hd
  · obtain ⟨l1, l2, l3⟩ := doF_ok a hb (h.lv hb) (by omega) (by omega)
    have hl := h.len
    exact ⟨ha, hr, (hs.sf hX).mono hB, ((hp (by omega)).pf hX).mono hB, DkS.ok l1, fun _ => l2.mono (by omega), by omega, hrd, hpk, h.gt, h.lt⟩
/-- The desk that is drawn stays. -/
theorem Dr3.keep {w wr w' : World} {g gd p k : Nat} {A A' : Option Addr} {n c m c' : Nat} {d : Dk} (h : Dr3 w g gd p k wr A n c A' m c' d) (hpk : Pk g wr w') (hrd : Rd w' g (p + 71 * (k + 1))) : Dr3 w g gd p (k + 1) w' A n c A' m c' d :=
  ⟨h.at_.pk hpk (by have := h.gt; have := h.lt; omega), h.res.pk hpk (by have := h.lt; omega), h.now.kx (Kx.pk hpk (.inr (.inr rfl))), h.past.kx (Kx.pk hpk (.inr (.inr rfl))), h.ok, fun hk => (h.lv hk).mono (by omega), Nat.le_succ_of_le h.len, hrd, h.pk.trans hpk, h.gt, h.lt⟩
theorem Dr3.dkv {w wr : World} {g gd p k : Nat} {A A' : Option Addr} {n c m c' : Nat} {d : Dk} (h : Dr3 w g gd p k wr A n c A' m c' d) : DkV wr w.heap.size A n c A' m d := ⟨h.now.sg, h.past.po.ps⟩
theorem Dr3.below {w wr w' : World} {g gd p k : Nat} {A A' : Option Addr} {n c m c' : Nat} {d : Dk} (h : Dr3 w g gd p k wr A n c A' m c' d) (hb : Below wr.heap.size wr w') : Dr3 w g gd p k w' A n c A' m c' d :=
  ⟨h.at_.below hb h.at_.lt, h.res.below hb h.res.lt, h.now.kx (Kx.of hb), h.past.kx (Kx.of hb), h.ok, h.lv, h.len, h.rd.below hb, h.pk.trans (Pk.of_below hb), h.gt, h.lt⟩
theorem Dr3.done {w wr w5 w6 : World} {g gd p k : Nat} {A A' A2 A3 : Option Addr} {n c m c' n2 c2 m2 c3 : Nat} {d : Dk} {a : Dd} (h : Dr3 w g gd p k wr A n c A' m c' d) (hk : k ≤ 3) (h5 : Dr3 w g gd p (k + 1) w5 A n c A' m c' d) (hp5 : Pk g wr w5) (hok : (doF d a).2 = true)
    (hs6 : Sg w6 w5.heap.size A2 n2 c2 (doF d a).1.now) (hpo6 : (doF d a).1.past.length < 8 → Po w6 w5.heap.size A3 m2 c3 (doF d a).1.past) (hb6 : Below w5.heap.size w5 w6) (o : Obj) :
    Dr3 w g gd p (k + 1) (((w6.alloc o).setCell ⟨gd, 0, none⟩ (.slice A2 n2 c2)).setCell ⟨gd, 1, none⟩ (.slice A3 m2 c3)) A2 n2 c2 A3 m2 c3 (doF d a).1 := by
  have h7 := (h5.below hb6).below (below_alloc w6 o)
  have hlt5 := h5.at_.lt
  have hpk : Pk gd (w6.alloc o) (((w6.alloc o).setCell ⟨gd, 0, none⟩ (.slice A2 n2 c2)).setCell ⟨gd, 1, none⟩ (.slice A3 m2 c3)) := ((Pk.refl gd _).setCell 0 _).setCell 1 _
  have hbl : Below gd (w6.alloc o) (((w6.alloc o).setCell ⟨gd, 0, none⟩ (.slice A2 n2 c2)).setCell ⟨gd, 1, none⟩ (.slice A3 m2 c3)) := ((Below.refl gd _).setCell (p := ⟨gd, 0, none⟩) (Nat.le_refl _) _).setCell (p := ⟨gd, 1, none⟩) (Nat.le_refl _) _
  have hgt := h.gt
  have hlt := h.lt
  exact h.step hk (Kx.pk hp5 (.inr (.inr rfl))) hok ((hs6.below (below_alloc _ _)).pk hpk hlt5) (fun hl => ((hpo6 hl).below (below_alloc _ _)).pk hpk hlt5) ((h7.at_.set0 _).set1 _) (h7.res.pk hpk (by omega)) (h7.rd.belowB hbl (by omega)) (h7.pk.belowB hbl (by omega))
theorem Dr3.done2 {w wr w7 : World} {g gd p k B2 : Nat} {A A' A2 A3 : Option Addr} {n c m c' n2 c2 m2 c3 : Nat} {d : Dk} {a : Dd} (h : Dr3 w g gd p k wr A n c A' m c' d) (hk : k ≤ 3) (h7 : Dr3 w g gd p (k + 1) w7 A n c A' m c' d) (hok : (doF d a).2 = true) (hB : gd < B2)
    (hs : Sg w7 B2 A2 n2 c2 (doF d a).1.now) (hpo : (doF d a).1.past.length < 8 → Po w7 B2 A3 m2 c3 (doF d a).1.past) :
    Dr3 w g gd p (k + 1) ((w7.setCell ⟨gd, 0, none⟩ (.slice A2 n2 c2)).setCell ⟨gd, 1, none⟩ (.slice A3 m2 c3)) A2 n2 c2 A3 m2 c3 (doF d a).1 := by
  have hgt := h.gt
  have hlt := h.lt
  have hpk : Pk gd w7 ((w7.setCell ⟨gd, 0, none⟩ (.slice A2 n2 c2)).setCell ⟨gd, 1, none⟩ (.slice A3 m2 c3)) := ((Pk.refl gd _).setCell 0 _).setCell 1 _
  have hbl : Below gd w7 ((w7.setCell ⟨gd, 0, none⟩ (.slice A2 n2 c2)).setCell ⟨gd, 1, none⟩ (.slice A3 m2 c3)) := ((Below.refl gd _).setCell (p := ⟨gd, 0, none⟩) (Nat.le_refl _) _).setCell (p := ⟨gd, 1, none⟩) (Nat.le_refl _) _
  have hX : ∀ b, B2 ≤ b → b < ((w7.setCell ⟨gd, 0, none⟩ (.slice A2 n2 c2)).setCell ⟨gd, 1, none⟩ (.slice A3 m2 c3)).heap.size → ¬ (b = gd ∨ b = w.heap.size ∨ b = g) := fun b h1 h2 hx => by omega
  cases hb : dkB d
  · rw [doF_bad a hb] at hok; cases hok
  · obtain ⟨l1, l2, l3⟩ := doF_ok a hb (h.lv hb) (by omega) (by omega)
    have hl := h.len
    exact ⟨(h7.at_.set0 _).set1 _, h7.res.pk hpk (by omega), ((hs.pk hpk hB).sf hX).mono (by omega), (((hpo (by omega)).pk hpk hB).pf hX).mono (by omega), DkS.ok l1, fun _ => l2.mono (by omega), by omega, h7.rd.belowB hbl (by omega), h7.pk.belowB hbl (by omega), hgt, hlt⟩
theorem pk_two {g xb : Nat} {wr w6 : World} (h : Pk g wr w6) (hx : wr.heap.size ≤ xb) (x y : Value) : Pk g wr ((w6.setCell ⟨xb, 0, none⟩ x).setCell ⟨xb, 1, none⟩ y) :=
  h.belowB (((Below.refl xb w6).setCell (p := ⟨xb, 0, none⟩) (Nat.le_refl _) x).setCell (p := ⟨xb, 1, none⟩) (Nat.le_refl _) y) hx
theorem Dr3.formS {w wr w6 : World} {g gd p k xb : Nat} {A A' : Option Addr} {n c m c' : Nat} {d : Dk} (h : Dr3 w g gd p k wr A n c A' m c' d) (hp : Pk g wr w6) (hr : Rd w6 g (p + 71 * (k + 1))) (hx : wr.heap.size ≤ xb) (x y : Value) : Dr3 w g gd p (k + 1) ((w6.setCell ⟨xb, 0, none⟩ x).setCell ⟨xb, 1, none⟩ y) A n c A' m c' d :=
  h.keep (pk_two hp hx x y) (hr.belowB (((Below.refl xb w6).setCell (p := ⟨xb, 0, none⟩) (Nat.le_refl _) x).setCell (p := ⟨xb, 1, none⟩) (Nat.le_refl _) y) (by have := h.lt; have := h.pk.size; omega))
theorem Dr3.formA {w wr w6 : World} {g gd p k : Nat} {A A' : Option Addr} {n c m c' : Nat} {d : Dk} (h : Dr3 w g gd p k wr A n c A' m c' d) (hp : Pk g wr w6) (hr : Rd w6 g (p + 71 * (k + 1))) (o : Obj) : Dr3 w g gd p (k + 1) (w6.alloc o) A n c A' m c' d :=
  h.keep (hp.trans (Pk.of_below (below_alloc _ _))) (hr.below (below_alloc _ _))
/-- The desk is given back. -/
theorem ret_dk {w wq : World} {g p q : Nat} {X : Nat → Prop} {A A' : Option Addr} {n c m c' : Nat} {d : Dk} (hX : X w.heap.size) (hn : Sf wq w.heap.size X A n c d.now) (hp : Pf wq w.heap.size X A' m c' d.past) (hs : DkS d) (hl : dkB d = true → DkL d 39) (hr : Rd wq g q) (hq : q ≤ p) (hpk : Pk g w wq) (hlt : g < w.heap.size) :
    RetDk w g p (.returned (.agg #[.slice A n c, .slice A' m c'])) ((wq.setCell ⟨w.heap.size, 0, none⟩ (.slice A n c)).setCell ⟨w.heap.size, 1, none⟩ (.slice A' m c')) := by
  have hk : Kx X wq ((wq.setCell ⟨w.heap.size, 0, none⟩ (.slice A n c)).setCell ⟨w.heap.size, 1, none⟩ (.slice A' m c')) := (Kx.set wq (p := ⟨w.heap.size, 0, none⟩) hX _).trans (Kx.set _ (p := ⟨w.heap.size, 1, none⟩) hX _)
  have hbl : Below w.heap.size wq ((wq.setCell ⟨w.heap.size, 0, none⟩ (.slice A n c)).setCell ⟨w.heap.size, 1, none⟩ (.slice A' m c')) := ((Below.refl _ wq).setCell (p := ⟨w.heap.size, 0, none⟩) (Nat.le_refl _) _).setCell (p := ⟨w.heap.size, 1, none⟩) (Nat.le_refl _) _
  exact ⟨A, n, c, A', m, c', d, rfl, ⟨(hn.kx hk).sg, (hp.kx hk).po.ps⟩, hs, hl, (hr.belowB hbl hlt).mono hq, hpk.belowB hbl (Nat.le_refl _)⟩
theorem made17 {w7 : World} {B : Nat} {A : Option Addr} (h : Ow w7 B 73 (.slice A 17 17) 17 (List.replicate 17 (.complex .f32 0 0))) : Sg w7 B A 17 17 (List.replicate 17 (0, 0)) := Sg.of (by rw [List.map_replicate]; exact h)
theorem bad17 : sigB (List.replicate 17 ((0, 0) : C)) = false := by decide
theorem made9 {w7 : World} {B : Nat} {X : Nat → Prop} {A : Option Addr} (h : Ow w7 B 23 (.slice A 9 9) 9 (List.replicate 9 (.slice none 0 0))) (hX : ∀ b, B ≤ b → b < w7.heap.size → ¬ X b) : Pf w7 B X A 9 9 (List.replicate 9 []) := by
  have hm : ∀ ad n c, ¬ Value.slice (some ad) n c ∈ List.replicate 9 (Value.slice none 0 0) := fun ad n c hm => by
    have := (List.mem_replicate.1 hm).2
    cases this
  refine ⟨_, h, ⟨by simp, fun k x hx => ?_⟩, fun ad n c h => absurd h (hm ad n c), fun ad e => hX _ (h.ge ad e).1 (h.ge ad e).2, fun ad n c h => absurd h (hm ad n c)⟩
  have hk : k < 9 := by have := (List.getElem?_eq_some_iff.1 hx).1; simpa using this
  rw [List.getElem?_replicate, if_pos hk] at hx
  injection hx with hx
  subst hx
  exact ⟨none, 0, 0, by rw [List.getElem?_replicate, if_pos hk], Sg.nil_ _ _⟩
end Go.Proofs.YtnomlkkhkacajaaGreatDoor
namespace Go.Proofs.YtnomlkkhkacajaaGreatDoor
open Go.RowKit
open Go.Lib hiding intOf

/-- One deed more, and how many were done. -/
def runS (r : Dk × Nat) (a : Dd) : Dk × Nat := if (doF r.1 a).2 then ((doF r.1 a).1, r.2 + 1) else r
def runG (r : Dk × Nat) (ds : List Dd) : Dk × Nat := ds.foldl runS r
theorem runG_app (r : Dk × Nat) (l1 l2 : List Dd) : runG r (l1 ++ l2) = runG (runG r l1) l2 := List.foldl_append
theorem runG_snoc (r : Dk × Nat) (l1 : List Dd) (a : Dd) : runG r (l1 ++ [a]) = runS (runG r l1) a := by rw [runG_app]; rfl
theorem runS_yes {r : Dk × Nat} {a : Dd} (h : (doF r.1 a).2 = true) : runS r a = ((doF r.1 a).1, r.2 + 1) := by unfold runS; rw [if_pos h]
theorem runS_no {r : Dk × Nat} {a : Dd} (h : (doF r.1 a).2 = false) : runS r a = r := by unfold runS; rw [if_neg (by rw [h]; decide)]
theorem runG_take {r : Dk × Nat} {ds : List Dd} {k : Nat} {a : Dd} (h : ds[k]? = some a) : runG r (ds.take (k + 1)) = runS (runG r (ds.take k)) a := by
  rw [List.take_add_one, h]; exact runG_snoc _ _ _
theorem runG_ok {d : Dk} {a0 : Int} (hk : dkB d = true) (hl : DkL d a0) (h1 : 14 ≤ a0) : ∀ (n : Nat) (ds : List Dd), a0 + 5 * (ds.length : Int) ≤ 122 → dkB (runG (d, n) ds).1 = true ∧ DkL (runG (d, n) ds).1 (a0 + 5 * (ds.length : Int)) := fun n ds => by
  induction ds generalizing d a0 n with
  | nil => intro _; exact ⟨hk, hl.mono (by simp)⟩
  | cons a l ih =>
    intro h2
    have h3 : ((a :: l).length : Int) = (l.length : Int) + 1 := by rw [List.length_cons]; omega
    rw [h3] at h2 ⊢
    show dkB (runG (runS (d, n) a) l).1 = true ∧ DkL (runG (runS (d, n) a) l).1 _
    obtain ⟨l1, l2, _⟩ := doF_ok a hk hl h1 (by omega)
    cases h : (doF d a).2
    · rw [runS_no (r := (d, n)) h]
      obtain ⟨q1, q2⟩ := ih hk (hl.mono (show a0 ≤ a0 + 5 by omega)) (by omega) n (by omega)
      exact ⟨q1, q2.mono (by omega)⟩
    · rw [runS_yes (r := (d, n)) h]
      obtain ⟨q1, q2⟩ := ih l1 l2 (by omega) (n + 1) (by omega)
      exact ⟨q1, q2.mono (by omega)⟩
/-- A desk after deeds, and how many were done. -/
def runF (d : Dk) (ds : List Dd) : Dk × Nat := if dkB d && decide (ds.length ≤ 40) then runG (d, 0) ds else (dk0, 0)
theorem runF_no {d : Dk} {ds : List Dd} (h : dkB d = false ∨ 40 < ds.length) : runF d ds = (dk0, 0) := by
  unfold runF
  rcases h with h | h
  · rw [h]; rfl
  · rw [decide_eq_false (by omega), Bool.and_false]; rfl
theorem runF_yes {d : Dk} {ds : List Dd} (h : dkB d = true) (hl : ds.length ≤ 40) : runF d ds = runG (d, 0) ds := by
  unfold runF; rw [h, decide_eq_true hl]; rfl
/-- A list of signals that lies in none of some blocks. -/
def Px (w : World) (B : Nat) (X : Nat → Prop) (A : Option Addr) (m : Nat) (ps : List (List C)) : Prop :=
  ∃ vs, Sl w A m vs ∧ Pv w B vs ps ∧ (∀ ad, A = some ad → B ≤ ad.block ∧ ad.block < w.heap.size) ∧ (∀ ad, A = some ad → ¬ X ad.block) ∧ ∀ ad n c, Value.slice (some ad) n c ∈ vs → ¬ X ad.block
theorem Px.kx {w w' : World} {B : Nat} {X : Nat → Prop} {A : Option Addr} {m : Nat} {ps : List (List C)} (h : Px w B X A m ps) (hk : Kx X w w') : Px w' B X A m ps := by
  obtain ⟨vs, h1, h2, h3, h4, h5⟩ := h
  exact ⟨vs, Sl.kept h1 hk.size fun ad e hl => hk.block ad.block hl (h4 ad e), h2.keep hk.size fun ad n c hm hb => hk.block ad.block hb (h5 ad n c hm), fun ad e => ⟨(h3 ad e).1, Nat.lt_of_lt_of_le (h3 ad e).2 hk.size⟩, h4, h5⟩
theorem Px.ps {w : World} {B : Nat} {X : Nat → Prop} {A : Option Addr} {m : Nat} {ps : List (List C)} (h : Px w B X A m ps) : Ps w B A m ps := by
  obtain ⟨vs, h1, h2, h3, _⟩ := h
  exact ⟨vs, h1, h2, h3⟩
theorem Ps.px {w : World} {B : Nat} {X : Nat → Prop} {A : Option Addr} {m : Nat} {ps : List (List C)} (h : Ps w B A m ps) (hX : ∀ b, B ≤ b → b < w.heap.size → ¬ X b) : Px w B X A m ps := by
  obtain ⟨vs, h1, h2, h3⟩ := h
  exact ⟨vs, h1, h2, h3, fun ad e => hX _ (h3 ad e).1 (h3 ad e).2, fun ad n c hm => by
    obtain ⟨z, hz⟩ := h2.mem hm
    exact hX _ (hz.ge ad rfl).1 (hz.ge ad rfl).2⟩
theorem Px.mono {w : World} {B B' : Nat} {X : Nat → Prop} {A : Option Addr} {m : Nat} {ps : List (List C)} (h : Px w B X A m ps) (hB : B' ≤ B) : Px w B' X A m ps := by
  obtain ⟨vs, h1, h2, h3, h4, h5⟩ := h
  exact ⟨vs, h1, h2.mono hB, fun ad e => ⟨Nat.le_trans hB (h3 ad e).1, (h3 ad e).2⟩, h4, h5⟩
/-- A desk that lies in none of some blocks. -/
structure DkX (w : World) (B : Nat) (X : Nat → Prop) (A : Option Addr) (n c : Nat) (A' : Option Addr) (m : Nat) (d : Dk) : Prop where
  now : Sf w B X A n c d.now
  past : Px w B X A' m d.past
theorem DkX.kx {w w' : World} {B : Nat} {X : Nat → Prop} {A A' : Option Addr} {n c m : Nat} {d : Dk} (h : DkX w B X A n c A' m d) (hk : Kx X w w') : DkX w' B X A n c A' m d := ⟨h.now.kx hk, h.past.kx hk⟩
theorem DkX.dkv {w : World} {B : Nat} {X : Nat → Prop} {A A' : Option Addr} {n c m : Nat} {d : Dk} (h : DkX w B X A n c A' m d) : DkV w B A n c A' m d := ⟨h.now.sg, h.past.ps⟩
theorem DkV.dkx {w : World} {B : Nat} {X : Nat → Prop} {A A' : Option Addr} {n c m : Nat} {d : Dk} (h : DkV w B A n c A' m d) (hX : ∀ b, B ≤ b → b < w.heap.size → ¬ X b) : DkX w B X A n c A' m d := ⟨h.now.sf hX, h.past.px hX⟩
theorem DkX.mono {w : World} {B B' : Nat} {X : Nat → Prop} {A A' : Option Addr} {n c m : Nat} {d : Dk} (h : DkX w B X A n c A' m d) (hB : B' ≤ B) : DkX w B' X A n c A' m d := ⟨h.now.mono hB, h.past.mono hB⟩
/-- A desk that is being changed, in its own block; the result's block. -/
structure RunI (w : World) (gb : Nat) (wr : World) (A : Option Addr) (n c : Nat) (A' : Option Addr) (m c' : Nat) (d : Dk) : Prop where
  at_ : KAt wr gb (.slice A n c) (.slice A' m c')
  res : KAt wr (w.heap.size + 1) (.slice none 0 0) (.slice none 0 0)
  dk : DkX wr w.heap.size (fun b => b = gb ∨ b = w.heap.size + 1) A n c A' m d
  below : Below w.heap.size w wr
  gt : w.heap.size + 1 < gb
theorem RunI.step {w wr w' : World} {gb : Nat} {A A' : Option Addr} {n c m c' : Nat} {d : Dk} (h : RunI w gb wr A n c A' m c' d) (hb : Below wr.heap.size wr w') : RunI w gb w' A n c A' m c' d :=
  ⟨h.at_.below hb h.at_.lt, h.res.below hb h.res.lt, h.dk.kx (Kx.of hb), h.below.trans (hb.mono h.below.size), h.gt⟩
theorem RunI.new {w wr w7 : World} {gb : Nat} {A A' A6 A7 : Option Addr} {n c m c' n6 c6 m7 c7 : Nat} {d y : Dk} (h : RunI w gb wr A n c A' m c' d) (hb : Below wr.heap.size wr w7) (hn : DkV w7 wr.heap.size A6 n6 c6 A7 m7 y) :
    RunI w gb ((w7.setCell ⟨gb, 0, none⟩ (.slice A6 n6 c6)).setCell ⟨gb, 1, none⟩ (.slice A7 m7 c7)) A6 n6 c6 A7 m7 c7 y := by
  have h7 := h.step hb
  have hgt := h.gt
  have hlt := h.at_.lt
  have hpk : Pk gb w7 ((w7.setCell ⟨gb, 0, none⟩ (.slice A6 n6 c6)).setCell ⟨gb, 1, none⟩ (.slice A7 m7 c7)) := ((Pk.refl gb _).setCell 0 _).setCell 1 _
  have hX : ∀ b, wr.heap.size ≤ b → b < w7.heap.size → ¬ (b = gb ∨ b = w.heap.size + 1) := fun b h1 h2 hx => by rcases hx with hx | hx <;> omega
  have hk : Kx (fun b => b = gb ∨ b = w.heap.size + 1) w7 ((w7.setCell ⟨gb, 0, none⟩ (.slice A6 n6 c6)).setCell ⟨gb, 1, none⟩ (.slice A7 m7 c7)) := Kx.pk hpk (.inl rfl)
  exact ⟨(h7.at_.set0 _).set1 _, h7.res.pk hpk (by omega), ((hn.dkx hX).kx hk).mono h.below.size, (h7.below.setCell (p := ⟨gb, 0, none⟩) (by show w.heap.size ≤ gb; omega) _).setCell (p := ⟨gb, 1, none⟩) (by show w.heap.size ≤ gb; omega) _, h.gt⟩
/-- A desk, and a number. -/
def RetKN (w : World) (r : Dk × Nat) (e : Ending) (w' : World) : Prop :=
  ∃ A n c A' m c', e = .returned (.tuple #[.agg #[.slice A n c, .slice A' m c'], .int .i64 r.2]) ∧ DkV w' w.heap.size A n c A' m r.1 ∧ Below w.heap.size w w'
theorem RunI.ret {w wr : World} {gb : Nat} {A A' : Option Addr} {n c m c' : Nat} {d : Dk} {q : Nat} (h : RunI w gb wr A n c A' m c' d) :
    RetKN w (d, q) (.returned (.tuple #[.agg #[.slice A n c, .slice A' m c'], .int .i64 q])) ((wr.setCell ⟨w.heap.size + 1, 0, none⟩ (.slice A n c)).setCell ⟨w.heap.size + 1, 1, none⟩ (.slice A' m c')) := by
  have hk : Kx (fun b => b = gb ∨ b = w.heap.size + 1) wr ((wr.setCell ⟨w.heap.size + 1, 0, none⟩ (.slice A n c)).setCell ⟨w.heap.size + 1, 1, none⟩ (.slice A' m c')) := (Kx.set wr (p := ⟨w.heap.size + 1, 0, none⟩) (.inr rfl) _).trans (Kx.set _ (p := ⟨w.heap.size + 1, 1, none⟩) (.inr rfl) _)
  exact ⟨_, _, _, _, _, _, rfl, (h.dk.kx hk).dkv, (h.below.setCell (p := ⟨w.heap.size + 1, 0, none⟩) (by show w.heap.size ≤ w.heap.size + 1; omega) _).setCell (p := ⟨w.heap.size + 1, 1, none⟩) (by show w.heap.size ≤ w.heap.size + 1; omega) _⟩
end Go.Proofs.YtnomlkkhkacajaaGreatDoor
namespace Go.Proofs.YtnomlkkhkacajaaGreatDoor
open Go.RowKit
open Go.Lib hiding intOf

def tOk : Txt := [111, 107]
def tNo : Txt := [110, 111]
/-- A desk after a line, and the answer. -/
noncomputable def lineF (d : Dk) (l : Txt) : Dk × Txt :=
  if dkB d = true then match readDd l with
    | some a => ((doF d a).1, if (doF d a).2 = true then tOk else tNo)
    | none => (d, ansF d l)
  else (dk0, [])
theorem lineF_bad {d : Dk} (l : Txt) (h : dkB d = false) : lineF d l = (dk0, []) := by unfold lineF; rw [h]; rfl
theorem lineF_do {d : Dk} {l : Txt} {a : Dd} (h : dkB d = true) (ha : readDd l = some a) : lineF d l = ((doF d a).1, if (doF d a).2 = true then tOk else tNo) := by unfold lineF; rw [h, ha]; rfl
theorem lineF_ask {d : Dk} {l : Txt} (h : dkB d = true) (ha : readDd l = none) : lineF d l = (d, ansF d l) := by unfold lineF; rw [h, ha]; rfl
/-- A desk, and a text. -/
def RetKT (w : World) (r : Dk × Txt) (e : Ending) (w' : World) : Prop :=
  ∃ A n c A' m c', e = .returned (.tuple #[.agg #[.slice A n c, .slice A' m c'], .string (bs r.2)]) ∧ DkV w' w.heap.size A n c A' m r.1 ∧ Below w.heap.size w w'
theorem dText_text {a : Dd} {l : Txt} (h : readDd l = some a) : a.text.length ≤ l.length := by
  obtain ⟨h1, h2⟩ := readDd_iff.1 h
  have h0 : dText a ≠ [] := by rw [h2]; exact h1
  rcases dText_cases h0 with ⟨_, _, _, e⟩ | ⟨_, e1, _, _, _⟩ | ⟨_, _, e1, _⟩
  · rw [← h2, e, List.length_append, List.length_cons]; omega
  · rw [e1]; exact Nat.zero_le _
  · rw [e1]; exact Nat.zero_le _

set_option maxHeartbeats 4000000 in
set_option maxRecDepth 100000 in
theorem iDeskLine (A A' : Option Addr) (n c m c' : Nat) (d : Dk) (l : Txt) (w : World) (hd : DkV w 0 A n c A' m d) (hz : DkS d) (hg : dkB d = true → LvOk d.now) (hl : l.length ≤ 1048576) (hE : EnvX w) :
    Calls Tryz.prog 20 #[.agg #[.slice A n c, .slice A' m c'], .string (bs l)] w (RetKT w (lineF d l)) := by
  obtain ⟨w0, hw0⟩ : ∃ w0, w0 = (w.alloc (.cells #[.slice A n c, .slice A' m c'] 26)).alloc (.cells #[.slice none 0 0, .slice none 0 0] 26) := ⟨_, rfl⟩
  have HB0 : Hid (Below w.heap.size w w0) := by rw [hw0]; exact below2 _ _ _
  have HK0 : Hid (KAt w0 w.heap.size (.slice A n c) (.slice A' m c')) := by rw [hw0]; exact (KAt.new w _ _ _).below (below_alloc _ _) (by rw [size_alloc]; omega)
  have HR0 : Hid (KAt w0 (w.heap.size + 1) (.slice none 0 0) (.slice none 0 0)) := by
    have h := KAt.new (w.alloc (.cells #[.slice A n c, .slice A' m c'] 26)) (.slice none 0 0) (.slice none 0 0) 26
    rw [size_alloc] at h
    rw [hw0]; exact h
  have HX0 : Hid (DkX w0 0 (fun b => b = w.heap.size + 1) A n c A' m d) := (hd.dkx (X := fun b => b = w.heap.size + 1) fun b _ h2 hx => by omega).kx (Kx.of HB0.out)
  have HOK : Hid (∀ w, DkV w 0 A n c A' m d → Calls Tryz.prog 12 #[.agg #[.slice A n c, .slice A' m c']] w fun e w' => e = .returned (.bool (dkB d)) ∧ Below w.heap.size w w') := fun w h => iDeskOk A A' n c m c' d w h hz
  obtain ⟨k0, k1, l0, l1, l2⟩ := HK0.out
  cases hb : dkB d
  · have HF := Lib.hid (lineF_bad l hb)
    rw [hb] at HOK
    clear hb hd hz hg hE
    go_enter Tryz.func20, Tryz.ntmps20
    go_wp2_with fail
    rw [← hw0]
    clear hw0
    refine (HOK.out _ HX0.out.dkv).mono ?_
    rintro e w1 ⟨rfl, hb1⟩
    have HB1 : Hid (Below w.heap.size w w1) := HB0.out.trans (hb1.mono HB0.out.size)
    obtain ⟨r0, r1, s0, s1, s2⟩ := HR0.out.below hb1 HR0.out.lt
    clear hb1 k0 k1 l0 l1 l2
    go_wp2_with fail
    refine bodyPost_ret (v := .tuple #[.agg #[.slice none 0 0, .slice none 0 0], .string (bs [])]) (by simp [results, Tryz.results20, go_sem, r0, r1]; rfl) rfl ?_
    rw [HF.out]
    exact ⟨_, _, _, _, _, _, rfl, DkV.zero _ _, (HB1.out.setCell (p := ⟨w.heap.size + 1, 0, none⟩) (by show w.heap.size ≤ w.heap.size + 1; omega) _).setCell (p := ⟨w.heap.size + 1, 1, none⟩) (by show w.heap.size ≤ w.heap.size + 1; omega) _⟩
  have hgd := hg hb
  have HDO : Hid (∀ (a : Dd) w', DkV w' 0 A n c A' m d → EnvA w' → a.text.length ≤ 1048576 → Calls Tryz.prog 9 #[.agg #[.slice A n c, .slice A' m c'], .agg #[.int .i64 a.kind, .int .i64 a.num, .string (bs a.text)]] w' (RetKB w' (doF d a))) := fun a w' h he ht => iDeskDo A A' n c m c' d a w' h hz (fun _ => hgd) (by omega) he
  have HCP : Hid (∀ w, DkV w 0 A n c A' m d → Calls Tryz.prog 35 #[.agg #[.slice A n c, .slice A' m c']] w (RetK w d)) := fun w h => iCopied A A' n c m c' d w h hz
  have HAN : Hid (∀ w, DkV w 0 A n c A' m d → EnvX w → Calls Tryz.prog 50 #[.agg #[.slice A n c, .slice A' m c'], .string (bs l)] w fun e w' => e = .returned (.string (bs (ansF d l))) ∧ Below w.heap.size w w') := fun w h he => iAnswer A A' n c m c' d l w h hz hgd hl he
  have HE := Lib.hid hE
  have HRD := Lib.hid (fun w' h => iReadDeed l (by omega) w' h)
  have hbb := Lib.hid hb
  rw [hb] at HOK
  clear hb hd hz hg hE hgd
  go_enter Tryz.func20, Tryz.ntmps20
  go_wp2_with fail
  rw [← hw0]
  clear hw0
  refine (HOK.out _ HX0.out.dkv).mono ?_
  rintro e w1 ⟨rfl, hb1⟩
  have HB1 : Hid (Below w.heap.size w w1) := HB0.out.trans (hb1.mono HB0.out.size)
  have HK1 := Lib.hid (HK0.out.below hb1 HK0.out.lt)
  have HR1 := Lib.hid (HR0.out.below hb1 HR0.out.lt)
  have HX1 := Lib.hid (HX0.out.kx (Kx.of hb1))
  clear hb1 k0 k1 l0 l1 l2
  go_wp2_with fail
  refine (HRD.out _ (HE.out.kp (Kp.below HB1.out))).mono ?_
  rintro e w2 ⟨rfl, hb2⟩
  have HB2 : Hid (Below w.heap.size w w2) := HB1.out.trans (hb2.mono HB1.out.size)
  have HK2 := Lib.hid (HK1.out.below hb2 HK1.out.lt)
  have HR2 := Lib.hid (HR1.out.below hb2 HR1.out.lt)
  have HX2 := Lib.hid (HX1.out.kx (Kx.of hb2))
  have hrl := HR2.out.lt
  clear hb2
  have hne1 : ¬ w.heap.size = w.heap.size + 1 := by omega
  have hne2 : ¬ w.heap.size + 1 = w.heap.size := by omega
  cases hrd : readDd l with
  | none =>
    have HF := Lib.hid (lineF_ask hbb.out hrd)
    clear hrd
    unfold od dv
    simp only [Option.getD_none, Option.isSome_none]
    obtain ⟨wb, hwb⟩ : ∃ wb, wb = w2.alloc (.cells #[.int .i64 0, .int .i64 0, .string (bs [])] 28) := ⟨_, rfl⟩
    have HBB : Hid (Below w2.heap.size w2 wb) := by rw [hwb]; exact below_alloc _ _
    have HKB := Lib.hid (HK2.out.below HBB.out HK2.out.lt)
    have HRB := Lib.hid (HR2.out.below HBB.out HR2.out.lt)
    have HXB := Lib.hid (HX2.out.kx (Kx.of HBB.out))
    have HWB : Hid (Below w.heap.size w wb) := HB2.out.trans (HBB.out.mono HB2.out.size)
    obtain ⟨k0, k1, l0, l1, l2⟩ := HKB.out
    obtain ⟨r0, r1, s0, s1, s2⟩ := HRB.out
    go_upto_region 5 with fail
    rw [← hwb]
    clear hwb
    go_region_held3 (fun w' => w'.cell? ⟨w.heap.size, 0, none⟩ = some (.slice A n c) ∧ w'.cell? ⟨w.heap.size, 1, none⟩ = some (.slice A' m c'))
      (first | exact ⟨k8, k9⟩ | exact ⟨k6, k7⟩ | exact ⟨k4, k5⟩ | exact ⟨k2, k3⟩ | exact ⟨k0, k1⟩ | go_keep)
      ((first
        | (go_at_call 35; (with_reducible refine Calls.mono (HCP.out _ (HXB.out.kx (Kx.of (Below.refl _ wb).drew)).dkv) ?_); rintro e w3 ⟨A2, n2, c2, A3, m2, c3, rfl, hs3, hp3, hb3, _⟩; have HB3 := Lib.hid (below_d hb3); have HK3 := Lib.hid (HKB.out.below HB3.out HKB.out.lt); have HR3 := Lib.hid (HRB.out.below HB3.out HRB.out.lt); have HX3 := Lib.hid (HXB.out.kx (Kx.of HB3.out)); have HN3 : Hid (DkV w3 wb.heap.size A2 n2 c2 A3 m2 d) := ⟨hs3, hp3.ps⟩; have HW3 : Hid (Below w.heap.size w w3) := HWB.out.trans (HB3.out.mono HWB.out.size); clear hs3 hp3 hb3; obtain ⟨k2, k3, _, _, _⟩ := HK3.out; obtain ⟨r2, r3, s3, s4, s5⟩ := HR3.out; have HPK : Hid (Pk (w.heap.size + 1) w3 ((w3.setCell ⟨w.heap.size + 1, 0, none⟩ (.slice A2 n2 c2)).setCell ⟨w.heap.size + 1, 1, none⟩ (.slice A3 m2 c3))) := ((Pk.refl _ _).setCell 0 _).setCell 1 _; have HKS := Lib.hid (HK3.out.pk HPK.out hne1); have HRS := Lib.hid ((HR3.out.set0 (.slice A2 n2 c2)).set1 (.slice A3 m2 c3)); have HXS := Lib.hid (HX3.out.kx (Kx.pk HPK.out rfl)); have HWS : Hid (Below w.heap.size w ((w3.setCell ⟨w.heap.size + 1, 0, none⟩ (.slice A2 n2 c2)).setCell ⟨w.heap.size + 1, 1, none⟩ (.slice A3 m2 c3))) := (HW3.out.setCell (p := ⟨w.heap.size + 1, 0, none⟩) (by show w.heap.size ≤ w.heap.size + 1; omega) _).setCell (p := ⟨w.heap.size + 1, 1, none⟩) (by show w.heap.size ≤ w.heap.size + 1; omega) _; have HNS : Hid (DkV ((w3.setCell ⟨w.heap.size + 1, 0, none⟩ (.slice A2 n2 c2)).setCell ⟨w.heap.size + 1, 1, none⟩ (.slice A3 m2 c3)) wb.heap.size A2 n2 c2 A3 m2 d) := HN3.out.pk HPK.out HRB.out.lt; obtain ⟨k4, k5, _, _, _⟩ := HKS.out)
        | (go_at_call 50; first
            | ((with_reducible refine Calls.mono (HAN.out w3 HX3.out.dkv (HE.out.kp (Kp.below HW3.out))) ?_); rintro e w4 ⟨rfl, hb4⟩; have HRF := Lib.hid (HR3.out.below hb4 HR3.out.lt); have HNF := Lib.hid (HN3.out.below hb4); have HWF : Hid (Below w.heap.size w w4) := HW3.out.trans (hb4.mono HW3.out.size); have HKF := Lib.hid (HK3.out.below hb4 HK3.out.lt); clear hb4; obtain ⟨k6, k7, _, _, _⟩ := HKF.out; have HPF : Hid (Pk (w.heap.size + 1) w4 ((w4.setCell ⟨w.heap.size + 1, 0, none⟩ (.slice A2 n2 c2)).setCell ⟨w.heap.size + 1, 1, none⟩ (.slice A3 m2 c3))) := ((Pk.refl _ _).setCell 0 _).setCell 1 _; obtain ⟨k8, k9, _, _, _⟩ := HKF.out.pk HPF.out hne1; obtain ⟨r6, r7, s6, s7, s8⟩ := HRF.out; have HFIN : Hid (RetKT w (d, ansF d l) (.returned (.tuple #[.agg #[.slice A2 n2 c2, .slice A3 m2 c3], .string (bs (ansF d l))])) ((w4.setCell ⟨w.heap.size + 1, 0, none⟩ (.slice A2 n2 c2)).setCell ⟨w.heap.size + 1, 1, none⟩ (.slice A3 m2 c3))) := ⟨_, _, _, _, _, _, rfl, (HNF.out.pk HPF.out HRB.out.lt).mono HWB.out.size, (HWF.out.setCell (p := ⟨w.heap.size + 1, 0, none⟩) (by show w.heap.size ≤ w.heap.size + 1; omega) _).setCell (p := ⟨w.heap.size + 1, 1, none⟩) (by show w.heap.size ≤ w.heap.size + 1; omega) _⟩)
            | ((with_reducible refine Calls.mono (HAN.out _ HXS.out.dkv (HE.out.kp (Kp.below HWS.out))) ?_); rintro e w4 ⟨rfl, hb4⟩; have HRF := Lib.hid (HRS.out.below hb4 HRS.out.lt); have HWF : Hid (Below w.heap.size w w4) := HWS.out.trans (hb4.mono HWS.out.size); have HKF := Lib.hid (HKS.out.below hb4 HKS.out.lt); have HFIN : Hid (RetKT w (d, ansF d l) (.returned (.tuple #[.agg #[.slice A2 n2 c2, .slice A3 m2 c3], .string (bs (ansF d l))])) w4) := ⟨_, _, _, _, _, _, rfl, (HNS.out.below hb4).mono HWB.out.size, HWF.out⟩; clear hb4; obtain ⟨k6, k7, _, _, _⟩ := HKF.out; obtain ⟨r6, r7, s6, s7, s8⟩ := HRF.out))))
    all_goals
      go_wp2_with fail
      refine bodyPost_ret (v := .tuple #[.agg #[.slice A2 n2 c2, .slice A3 m2 c3], .string (bs (ansF d l))]) (by simp [results, Tryz.results20, go_sem, r6, r7]) rfl ?_
      rw [HF.out]
      exact HFIN.out
  | some a =>
    have HF := Lib.hid (lineF_do hbb.out hrd)
    have htx : a.text.length ≤ 1048576 := by have := dText_text hrd; omega
    clear hrd
    unfold od dv
    simp only [Option.getD_some, Option.isSome_some]
    obtain ⟨wb, hwb⟩ : ∃ wb, wb = w2.alloc (.cells #[.int .i64 a.kind, .int .i64 a.num, .string (bs a.text)] 28) := ⟨_, rfl⟩
    have HBB : Hid (Below w2.heap.size w2 wb) := by rw [hwb]; exact below_alloc _ _
    have HRB := Lib.hid (HR2.out.below HBB.out HR2.out.lt)
    have HXB := Lib.hid (HX2.out.kx (Kx.of HBB.out))
    have HWB : Hid (Below w.heap.size w wb) := HB2.out.trans (HBB.out.mono HB2.out.size)
    obtain ⟨k0, k1, l0, l1, l2⟩ := HK2.out
    go_wp2_with fail
    rw [← hwb]
    clear hwb k0 k1 l0 l1 l2
    refine (HDO.out a wb HXB.out.dkv (HE.out.kp (Kp.below HWB.out)).a htx).mono ?_
    rintro e w3 ⟨A2, n2, c2, A3, m2, c3, rfl, hs3, hp3, _, hb3⟩
    have HN3 : Hid (DkV w3 wb.heap.size A2 n2 c2 A3 m2 (doF d a).1) := ⟨hs3, hp3⟩
    have HR3 := Lib.hid (HRB.out.below hb3 HRB.out.lt)
    have HW3 : Hid (Below w.heap.size w w3) := HWB.out.trans (hb3.mono HWB.out.size)
    obtain ⟨r0, r1, s0, s1, s2⟩ := HR3.out
    have hgt7 : ¬ w.heap.size + 1 = w3.heap.size := by omega
    have hgt8 : ¬ w3.heap.size = w.heap.size + 1 := by omega
    clear hs3 hp3 hb3
    have HPK : Hid (Pk (w.heap.size + 1) w3 ((w3.setCell ⟨w.heap.size + 1, 0, none⟩ (.slice A2 n2 c2)).setCell ⟨w.heap.size + 1, 1, none⟩ (.slice A3 m2 c3))) := ((Pk.refl _ _).setCell 0 _).setCell 1 _
    have HFV : Hid (∀ t o, RetKT w ((doF d a).1, t) (.returned (.tuple #[.agg #[.slice A2 n2 c2, .slice A3 m2 c3], .string (bs t)])) (((w3.setCell ⟨w.heap.size + 1, 0, none⟩ (.slice A2 n2 c2)).setCell ⟨w.heap.size + 1, 1, none⟩ (.slice A3 m2 c3)).alloc o)) := fun t o =>
      ⟨_, _, _, _, _, _, rfl, ((HN3.out.pk HPK.out HRB.out.lt).below (below_alloc _ _)).mono HWB.out.size, ((HW3.out.setCell (p := ⟨w.heap.size + 1, 0, none⟩) (by show w.heap.size ≤ w.heap.size + 1; omega) _).setCell (p := ⟨w.heap.size + 1, 1, none⟩) (by show w.heap.size ≤ w.heap.size + 1; omega) _).trans ((below_alloc _ _).mono (by rw [size_set, size_set]; exact HW3.out.size))⟩
    cases hok : (doF d a).2
    · have HT : Hid (lineF d l = ((doF d a).1, tNo)) := by show _ = _; rw [HF.out, hok]; rfl
      clear hok
      go_wp2_with fail
      obtain ⟨z0, z1, _, _, _⟩ := ((HR3.out.set0 (.slice A2 n2 c2)).set1 (.slice A3 m2 c3)).below (below_alloc _ (.cells #[.slice A2 n2 c2, .slice A3 m2 c3] 26)) ((HR3.out.set0 (.slice A2 n2 c2)).set1 (.slice A3 m2 c3)).lt
      refine bodyPost_ret (v := .tuple #[.agg #[.slice A2 n2 c2, .slice A3 m2 c3], .string (bs tNo)]) (by simp [results, Tryz.results20, go_sem, z0, z1]; rfl) rfl ?_
      rw [HT.out]
      exact HFV.out _ _
    · have HT : Hid (lineF d l = ((doF d a).1, tOk)) := by show _ = _; rw [HF.out, hok]; rfl
      clear hok
      go_wp2_with fail
      obtain ⟨z0, z1, _, _, _⟩ := ((HR3.out.set0 (.slice A2 n2 c2)).set1 (.slice A3 m2 c3)).below (below_alloc _ (.cells #[.slice A2 n2 c2, .slice A3 m2 c3] 26)) ((HR3.out.set0 (.slice A2 n2 c2)).set1 (.slice A3 m2 c3)).lt
      refine bodyPost_ret (v := .tuple #[.agg #[.slice A2 n2 c2, .slice A3 m2 c3], .string (bs tOk)]) (by simp [results, Tryz.results20, go_sem, z0, z1]; rfl) rfl ?_
      rw [HT.out]
      exact HFV.out _ _
end Go.Proofs.YtnomlkkhkacajaaGreatDoor
namespace Go.Proofs.YtnomlkkhkacajaaGreatDoor
open Go.RowKit
open Go.Lib hiding intOf

theorem itoa_no32 (n : Int) : (32 : UInt8) ∉ itoa n := fun h => by
  have := itoa_byte n 32 h
  have e : (32 : UInt8).toNat = 32 := rfl
  omega
theorem whole_nil : whole? [] 0 9999 = none := by
  cases h : whole? [] 0 9999 with
  | none => rfl
  | some v => exact absurd ((whole?_iff (by omega) (by omega)).1 h).1.symm (itoa_ne v)
/-- A line of another number of words than two asks for nothing. -/
theorem words_not {l : Txt} (h : (cutAll 32 l).length ≠ 2) : whole? (cut1 32 l).2.1 0 9999 = none := by
  rcases cut_cases 32 l with h1 | ⟨a, b, rfl, h1⟩
  · rw [cut1_no h1]; exact whole_nil
  · rw [cut1_at _ h1]
    show whole? b 0 9999 = none
    cases hw : whole? b 0 9999 with
    | none => rfl
    | some v =>
      obtain ⟨e, _⟩ := (whole?_iff (by omega) (by omega)).1 hw
      exact absurd (by rw [cutAll_at _ h1, cutAll_no (by rw [e]; exact itoa_no32 v)]; rfl) h
theorem words_two {l a b : Txt} (h : cutAll 32 l = [a, b]) : (cut1 32 l).1 = a ∧ (cut1 32 l).2.1 = b := by
  rcases cut_cases 32 l with h1 | ⟨x, y, rfl, h1⟩
  · rw [cutAll_no h1] at h; cases h
  · rw [cutAll_at _ h1] at h
    rw [cut1_at _ h1]
    injection h with h2 h3
    subst h2
    rcases cut_cases 32 y with h4 | ⟨x2, y2, rfl, h4⟩
    · rw [cutAll_no h4] at h3
      injection h3 with h5 _
      exact ⟨rfl, h5⟩
    · rw [cutAll_at _ h4] at h3
      injection h3 with _ h6
      exact absurd h6 (cutAll_ne _ _)
theorem words_cases (l : Txt) : (cutAll 32 l).length ≠ 2 ∨ ∃ a b, cutAll 32 l = [a, b] := by
  match h : cutAll 32 l with
  | [] => exact .inl (by simp)
  | [a] => exact .inl (by simp)
  | [a, b] => exact .inr ⟨a, b, rfl⟩
  | a :: b :: c :: r => exact .inl (by simp)
/-- The same number, read by the reference. -/
theorem whole_digs (b : Txt) : whole? b 0 9999 = (digs b).bind fun v => if inB v 0 9999 = true then some v else none := by
  cases hd : digs b with
  | none =>
    cases hw : whole? b 0 9999 with
    | none => rfl
    | some v =>
      obtain ⟨e, h1, h2⟩ := (whole?_iff (by omega) (by omega)).1 hw
      have := (digs_iff (n := v)).2 ⟨e, by omega, by omega⟩
      rw [hd] at this; cases this
  | some v =>
    obtain ⟨e, _, _⟩ := digs_iff.1 hd
    show _ = if inB v 0 9999 = true then some v else none
    by_cases hin : 0 ≤ v ∧ v ≤ 9999
    · rw [inB_true hin.1 hin.2, if_pos rfl]
      exact (whole?_iff (by omega) (by omega)).2 ⟨e, hin.1, hin.2⟩
    · have hf : ¬ inB v 0 9999 = true := fun h => hin (by unfold inB at h; simpa using h)
      rw [if_neg hf]
      cases hw : whole? b 0 9999 with
      | none => rfl
      | some u =>
        obtain ⟨e2, h1, h2⟩ := (whole?_iff (by omega) (by omega)).1 hw
        have h3 := (digs_iff (n := u)).2 ⟨e2, by omega, by omega⟩
        rw [hd] at h3
        injection h3 with h3
        exact absurd ⟨by omega, by omega⟩ hin
/-- The blocks of the reference before its answer. -/
structure LnI (w : World) (gb : Nat) (wr : World) (A : Option Addr) (n c : Nat) (A' : Option Addr) (m c' : Nat) (A2 : Option Addr) (n2 c2 : Nat) (A3 : Option Addr) (m3 c3 : Nat) (d : Dk) : Prop where
  old : KAt wr w.heap.size (.slice A n c) (.slice A' m c')
  src : DkV wr 0 A n c A' m d
  run : RunI w gb wr A2 n2 c2 A3 m3 c3 d
/-- The blocks of the reference when its result is laid. -/
structure LnF (w : World) (gb : Nat) (wr : World) (A : Option Addr) (n c : Nat) (A' : Option Addr) (m c' : Nat) (A2 : Option Addr) (n2 c2 : Nat) (A3 : Option Addr) (m3 c3 : Nat) (d : Dk) : Prop where
  old : KAt wr w.heap.size (.slice A n c) (.slice A' m c')
  at_ : KAt wr gb (.slice A2 n2 c2) (.slice A3 m3 c3)
  res : KAt wr (w.heap.size + 1) (.slice A2 n2 c2) (.slice A3 m3 c3)
  dk : DkV wr w.heap.size A2 n2 c2 A3 m3 d
  below : Below w.heap.size w wr
variable {w wr w' : World} {gb : Nat} {A A' A2 A3 : Option Addr} {n c m c' n2 c2 m3 c3 : Nat} {d : Dk}
theorem LnI.step (h : LnI w gb wr A n c A' m c' A2 n2 c2 A3 m3 c3 d) (hb : Below wr.heap.size wr w') : LnI w gb w' A n c A' m c' A2 n2 c2 A3 m3 c3 d :=
  ⟨h.old.below hb h.old.lt, h.src.below hb, h.run.step hb⟩
theorem LnI.fin (h : LnI w gb wr A n c A' m c' A2 n2 c2 A3 m3 c3 d) : LnF w gb ((wr.setCell ⟨w.heap.size + 1, 0, none⟩ (.slice A2 n2 c2)).setCell ⟨w.heap.size + 1, 1, none⟩ (.slice A3 m3 c3)) A n c A' m c' A2 n2 c2 A3 m3 c3 d := by
  obtain ⟨A4, n4, c4, A5, m5, c5, he, h1, h2⟩ := h.run.ret (q := 0)
  injection he with he
  injection he with he
  have he := congrArg (·.toList) he
  simp only [List.cons.injEq, Value.agg.injEq] at he
  have h3 := congrArg (·.toList) he.1
  simp only [List.cons.injEq, Value.slice.injEq, and_true] at h3
  obtain ⟨⟨rfl, rfl, rfl⟩, rfl, rfl, rfl⟩ := h3
  have hgt := h.run.gt
  have hpk : Pk (w.heap.size + 1) wr ((wr.setCell ⟨w.heap.size + 1, 0, none⟩ (.slice A2 n2 c2)).setCell ⟨w.heap.size + 1, 1, none⟩ (.slice A3 m3 c3)) := ((Pk.refl _ _).setCell 0 _).setCell 1 _
  exact ⟨h.old.pk hpk (by omega), h.run.at_.pk hpk (by omega), (h.run.res.set0 _).set1 _, h1, h2⟩
theorem LnF.step (h : LnF w gb wr A n c A' m c' A2 n2 c2 A3 m3 c3 d) (hb : Below wr.heap.size wr w') : LnF w gb w' A n c A' m c' A2 n2 c2 A3 m3 c3 d :=
  ⟨h.old.below hb h.old.lt, h.at_.below hb h.at_.lt, h.res.below hb h.res.lt, h.dk.below hb, h.below.trans (hb.mono h.below.size)⟩
theorem LnF.ret (h : LnF w gb wr A n c A' m c' A2 n2 c2 A3 m3 c3 d) (t : Txt) : RetKT w (d, t) (.returned (.tuple #[.agg #[.slice A2 n2 c2, .slice A3 m3 c3], .string (bs t)])) wr := ⟨_, _, _, _, _, _, rfl, h.dk, h.below⟩
end Go.Proofs.YtnomlkkhkacajaaGreatDoor
