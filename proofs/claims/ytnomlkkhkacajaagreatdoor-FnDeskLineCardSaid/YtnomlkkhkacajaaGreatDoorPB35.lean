/- Texts on the way to a law (E14), each with its own remark. -/
import Derived.Test.YtnomlkkhkacajaaGreatDoorPB32
import Derived.Test.YtnomlkkhkacajaaGreatDoorPB14
namespace Go.Proofs.YtnomlkkhkacajaaGreatDoor
open Go.RowKit
open Go.Lib hiding intOf

theorem Po.pf {w : World} {B : Nat} {X : Nat → Prop} {A : Option Addr} {m c : Nat} {ps : List (List C)} (h : Po w B A m c ps) (hX : ∀ b, B ≤ b → b < w.heap.size → ¬ X b) : Pf w B X A m c ps := by
  obtain ⟨vs, h1, h2, h3⟩ := h
  exact ⟨vs, h1, h2, h3, fun ad e => hX _ (h1.ge ad e).1 (h1.ge ad e).2, fun ad n c hm => by
    obtain ⟨z, hz⟩ := h2.mem hm
    exact hX _ (hz.ge ad rfl).1 (hz.ge ad rfl).2⟩
theorem Pf.mono {w : World} {B B' : Nat} {X : Nat → Prop} {A : Option Addr} {m c : Nat} {ps : List (List C)} (h : Pf w B X A m c ps) (hB : B' ≤ B) : Pf w B' X A m c ps := by
  obtain ⟨vs, h1, h2, h3, h4, h5⟩ := h
  exact ⟨vs, h1.mono hB, h2.mono hB, h3, h4, h5⟩
theorem Pf.nil (w : World) (B : Nat) (X : Nat → Prop) : Pf w B X none 0 0 [] := by
  refine ⟨[], Ow.nil_ w B _, Pv.nil w B, ?_, ?_, ?_⟩
  · intro ad n c h; cases h
  · intro ad e; cases e
  · intro ad n c h; cases h
/-- A signal that lies in none of some blocks. -/
structure Sf (w : World) (B : Nat) (X : Nat → Prop) (A : Option Addr) (n c : Nat) (x : List C) : Prop where
  sg : Sg w B A n c x
  ne : ∀ ad, A = some ad → ¬ X ad.block
theorem Sf.kx {w w' : World} {B : Nat} {X : Nat → Prop} {A : Option Addr} {n c : Nat} {x : List C} (h : Sf w B X A n c x) (hk : Kx X w w') : Sf w' B X A n c x :=
  ⟨h.sg.keep hk.size fun ad e hl => hk.block ad.block hl (h.ne ad e), h.ne⟩
theorem Sg.sf {w : World} {B : Nat} {X : Nat → Prop} {A : Option Addr} {n c : Nat} {x : List C} (h : Sg w B A n c x) (hX : ∀ b, B ≤ b → b < w.heap.size → ¬ X b) : Sf w B X A n c x := ⟨h, fun ad e => hX _ (h.ge ad e).1 (h.ge ad e).2⟩
theorem Sf.mono {w : World} {B B' : Nat} {X : Nat → Prop} {A : Option Addr} {n c : Nat} {x : List C} (h : Sf w B X A n c x) (hB : B' ≤ B) : Sf w B' X A n c x := ⟨h.sg.mono hB, h.ne⟩
theorem Kx.pk {X : Nat → Prop} {g : Nat} {w w' : World} (h : Pk g w w') (hg : X g) : Kx X w w' := ⟨h.size, fun b hb hx => h.block b hb fun e => hx (e ▸ hg)⟩
/-- A desk as it is drawn: its block, and what it holds. -/
structure Dr3 (w : World) (g gd p k : Nat) (wr : World) (A : Option Addr) (n c : Nat) (A' : Option Addr) (m c' : Nat) (d : Dk) : Prop where
  at_ : KAt wr gd (.slice A n c) (.slice A' m c')
  res : KAt wr w.heap.size (.slice none 0 0) (.slice none 0 0)
  now : Sf wr w.heap.size (fun b => b = gd ∨ b = w.heap.size ∨ b = g) A n c d.now
  past : Pf wr w.heap.size (fun b => b = gd ∨ b = w.heap.size ∨ b = g) A' m c' d.past
  ok : DkS d
  lv : dkB d = true → DkL d (14 + 5 * (k : Int))
  len : d.past.length ≤ k
  rd : Rd wr g (p + 71 * k)
  pk : Pk g w wr
  gt : w.heap.size < gd
  lt : g < w.heap.size
/-- A desk that is drawn. -/
def RetDk (w : World) (g p : Nat) (e : Ending) (w' : World) : Prop :=
  ∃ A n c A' m c' d, e = .returned (.agg #[.slice A n c, .slice A' m c']) ∧ DkV w' w.heap.size A n c A' m d ∧ DkS d ∧ (dkB d = true → DkL d 39) ∧ Rd w' g p ∧ Pk g w w'
theorem Dr3.mono {w wr : World} {g gd p k k' : Nat} {A A' : Option Addr} {n c m c' : Nat} {d : Dk} (h : Dr3 w g gd p k wr A n c A' m c' d) (hk : k ≤ k') : Dr3 w g gd p k' wr A n c A' m c' d :=
  ⟨h.at_, h.res, h.now, h.past, h.ok, fun hk => (h.lv hk).mono (by omega), Nat.le_trans h.len hk, h.rd.mono (by omega), h.pk, h.gt, h.lt⟩
theorem pts_get (j : Nat) (h : j < 5) : ∃ q : Nat, q ≤ 8 ∧ (#[.int .i64 0, .int .i64 4, .int .i64 4, .int .i64 2, .int .i64 8] : Array Value)[j]? = some (.int .i64 (q : Int)) := by
  have : j = 0 ∨ j = 1 ∨ j = 2 ∨ j = 3 ∨ j = 4 := by omega
  rcases this with rfl | rfl | rfl | rfl | rfl
  · exact ⟨0, by decide, rfl⟩
  · exact ⟨4, by decide, rfl⟩
  · exact ⟨4, by decide, rfl⟩
  · exact ⟨2, by decide, rfl⟩
  · exact ⟨8, by decide, rfl⟩
theorem dk_start {x : List C} (h : ∀ z ∈ x, Ord z) (hl : x.length ≤ 17) : DkS ⟨x, []⟩ ∧ DkL ⟨x, []⟩ 14 :=
  ⟨⟨hl, Nat.zero_le _, fun y hy => by cases hy⟩, Lv.ord h, fun y hy => by cases hy⟩
/-- A deed is done to the desk that is drawn. -/
theorem Dr3.step {w wr w5 w6 : World} {g gd p k : Nat} {A A' A2 A3 : Option Addr} {n c m c' n2 c2 m2 c3 : Nat} {d : Dk} {a : Dd} (h : Dr3 w g gd p k wr A n c A' m c' d) (hk : k ≤ 3) (hk5 : Kx (fun b => b = gd ∨ b = w.heap.size ∨ b = g) wr w5) (hd : (doF d a).2 = true)
    (hs : Sg w6 w5.heap.size A2 n2 c2 (doF d a).1.now) (hp : (doF d a).1.past.length < 8 → Po w6 w5.heap.size A3 m2 c3 (doF d a).1.past) (ha : KAt w6 gd (.slice A2 n2 c2) (.slice A3 m2 c3)) (hr : KAt w6 w.heap.size (.slice none 0 0) (.slice none 0 0)) (hrd : Rd w6 g (p + 71 * (k + 1))) (hpk : Pk g w w6) :
    Dr3 w g gd p (k + 1) w6 A2 n2 c2 A3 m2 c3 (doF d a).1 := by
  have hX : ∀ b, w5.heap.size ≤ b → b < w6.heap.size → ¬ (b = gd ∨ b = w.heap.size ∨ b = g) := fun b h1 h2 hx => by
    have := h.at_.lt
    have := hk5.size
    have := h.gt
    have := h.lt
    omega
  have hB : w.heap.size ≤ w5.heap.size := Nat.le_trans h.pk.size hk5.size
  cases hb : dkB d
  · rw [doF_bad a hb] at hd; cases hd
  · obtain ⟨l1, l2, l3⟩ := doF_ok a hb (h.lv hb) (by omega) (by omega)
    have hl := h.len
    exact ⟨ha, hr, (hs.sf hX).mono hB, ((hp (by omega)).pf hX).mono hB, DkS.ok l1, fun _ => l2.mono (by omega), by omega, hrd, hpk, h.gt, h.lt⟩
/-- The desk that is drawn stays. -/
theorem Dr3.keep {w wr w' : World} {g gd p k : Nat} {A A' : Option Addr} {n c m c' : Nat} {d : Dk} (h : Dr3 w g gd p k wr A n c A' m c' d) (hpk : Pk g wr w') (hrd : Rd w' g (p + 71 * (k + 1))) : Dr3 w g gd p (k + 1) w' A n c A' m c' d :=
  ⟨h.at_.pk hpk (by have := h.gt; have := h.lt; omega), h.res.pk hpk (by have := h.lt; omega), h.now.kx (Kx.pk hpk (.inr (.inr rfl))), h.past.kx (Kx.pk hpk (.inr (.inr rfl))), h.ok, fun hk => (h.lv hk).mono (by omega), Nat.le_succ_of_le h.len, hrd, h.pk.trans hpk, h.gt, h.lt⟩
theorem Dr3.dkv {w wr : World} {g gd p k : Nat} {A A' : Option Addr} {n c m c' : Nat} {d : Dk} (h : Dr3 w g gd p k wr A n c A' m c' d) : DkV wr w.heap.size A n c A' m d := ⟨h.now.sg, h.past.po.ps⟩
theorem Dr3.below {w wr w' : World} {g gd p k : Nat} {A A' : Option Addr} {n c m c' : Nat} {d : Dk} (h : Dr3 w g gd p k wr A n c A' m c' d) (hb : Below wr.heap.size wr w') : Dr3 w g gd p k w' A n c A' m c' d :=
  ⟨h.at_.below hb h.at_.lt, h.res.below hb h.res.lt, h.now.kx (Kx.of hb), h.past.kx (Kx.of hb), h.ok, h.lv, h.len, h.rd.below hb, h.pk.trans (Pk.of_below hb), h.gt, h.lt⟩
theorem Dr3.done {w wr w5 w6 : World} {g gd p k : Nat} {A A' A2 A3 : Option Addr} {n c m c' n2 c2 m2 c3 : Nat} {d : Dk} {a : Dd} (h : Dr3 w g gd p k wr A n c A' m c' d) (hk : k ≤ 3) (h5 : Dr3 w g gd p (k + 1) w5 A n c A' m c' d) (hp5 : Pk g wr w5) (hok : (doF d a).2 = true)
    (hs6 : Sg w6 w5.heap.size A2 n2 c2 (doF d a).1.now) (hpo6 : (doF d a).1.past.length < 8 → Po w6 w5.heap.size A3 m2 c3 (doF d a).1.past) (hb6 : Below w5.heap.size w5 w6) (o : Obj) :
    Dr3 w g gd p (k + 1) (((w6.alloc o).setCell ⟨gd, 0, none⟩ (.slice A2 n2 c2)).setCell ⟨gd, 1, none⟩ (.slice A3 m2 c3)) A2 n2 c2 A3 m2 c3 (doF d a).1 := by
  have h7 := (h5.below hb6).below (below_alloc w6 o)
  have hlt5 := h5.at_.lt
  have hpk : Pk gd (w6.alloc o) (((w6.alloc o).setCell ⟨gd, 0, none⟩ (.slice A2 n2 c2)).setCell ⟨gd, 1, none⟩ (.slice A3 m2 c3)) := ((Pk.refl gd _).setCell 0 _).setCell 1 _
  have hbl : Below gd (w6.alloc o) (((w6.alloc o).setCell ⟨gd, 0, none⟩ (.slice A2 n2 c2)).setCell ⟨gd, 1, none⟩ (.slice A3 m2 c3)) := ((Below.refl gd _).setCell (p := ⟨gd, 0, none⟩) (Nat.le_refl _) _).setCell (p := ⟨gd, 1, none⟩) (Nat.le_refl _) _
  have hgt := h.gt
  have hlt := h.lt
  exact h.step hk (Kx.pk hp5 (.inr (.inr rfl))) hok ((hs6.below (below_alloc _ _)).pk hpk hlt5) (fun hl => ((hpo6 hl).below (below_alloc _ _)).pk hpk hlt5) ((h7.at_.set0 _).set1 _) (h7.res.pk hpk (by omega)) (h7.rd.belowB hbl (by omega)) (h7.pk.belowB hbl (by omega))
theorem Dr3.done2 {w wr w7 : World} {g gd p k B2 : Nat} {A A' A2 A3 : Option Addr} {n c m c' n2 c2 m2 c3 : Nat} {d : Dk} {a : Dd} (h : Dr3 w g gd p k wr A n c A' m c' d) (hk : k ≤ 3) (h7 : Dr3 w g gd p (k + 1) w7 A n c A' m c' d) (hok : (doF d a).2 = true) (hB : gd < B2)
    (hs : Sg w7 B2 A2 n2 c2 (doF d a).1.now) (hpo : (doF d a).1.past.length < 8 → Po w7 B2 A3 m2 c3 (doF d a).1.past) :
    Dr3 w g gd p (k + 1) ((w7.setCell ⟨gd, 0, none⟩ (.slice A2 n2 c2)).setCell ⟨gd, 1, none⟩ (.slice A3 m2 c3)) A2 n2 c2 A3 m2 c3 (doF d a).1 := by
  have hgt := h.gt
  have hlt := h.lt
  have hpk : Pk gd w7 ((w7.setCell ⟨gd, 0, none⟩ (.slice A2 n2 c2)).setCell ⟨gd, 1, none⟩ (.slice A3 m2 c3)) := ((Pk.refl gd _).setCell 0 _).setCell 1 _
  have hbl : Below gd w7 ((w7.setCell ⟨gd, 0, none⟩ (.slice A2 n2 c2)).setCell ⟨gd, 1, none⟩ (.slice A3 m2 c3)) := ((Below.refl gd _).setCell (p := ⟨gd, 0, none⟩) (Nat.le_refl _) _).setCell (p := ⟨gd, 1, none⟩) (Nat.le_refl _) _
  have hX : ∀ b, B2 ≤ b → b < ((w7.setCell ⟨gd, 0, none⟩ (.slice A2 n2 c2)).setCell ⟨gd, 1, none⟩ (.slice A3 m2 c3)).heap.size → ¬ (b = gd ∨ b = w.heap.size ∨ b = g) := fun b h1 h2 hx => by omega
  cases hb : dkB d
  · rw [doF_bad a hb] at hok; cases hok
  · obtain ⟨l1, l2, l3⟩ := doF_ok a hb (h.lv hb) (by omega) (by omega)
    have hl := h.len
    exact ⟨(h7.at_.set0 _).set1 _, h7.res.pk hpk (by omega), ((hs.pk hpk hB).sf hX).mono (by omega), (((hpo (by omega)).pk hpk hB).pf hX).mono (by omega), DkS.ok l1, fun _ => l2.mono (by omega), by omega, h7.rd.belowB hbl (by omega), h7.pk.belowB hbl (by omega), hgt, hlt⟩
theorem pk_two {g xb : Nat} {wr w6 : World} (h : Pk g wr w6) (hx : wr.heap.size ≤ xb) (x y : Value) : Pk g wr ((w6.setCell ⟨xb, 0, none⟩ x).setCell ⟨xb, 1, none⟩ y) :=
  h.belowB (((Below.refl xb w6).setCell (p := ⟨xb, 0, none⟩) (Nat.le_refl _) x).setCell (p := ⟨xb, 1, none⟩) (Nat.le_refl _) y) hx
theorem Dr3.formS {w wr w6 : World} {g gd p k xb : Nat} {A A' : Option Addr} {n c m c' : Nat} {d : Dk} (h : Dr3 w g gd p k wr A n c A' m c' d) (hp : Pk g wr w6) (hr : Rd w6 g (p + 71 * (k + 1))) (hx : wr.heap.size ≤ xb) (x y : Value) : Dr3 w g gd p (k + 1) ((w6.setCell ⟨xb, 0, none⟩ x).setCell ⟨xb, 1, none⟩ y) A n c A' m c' d :=
  h.keep (pk_two hp hx x y) (hr.belowB (((Below.refl xb w6).setCell (p := ⟨xb, 0, none⟩) (Nat.le_refl _) x).setCell (p := ⟨xb, 1, none⟩) (Nat.le_refl _) y) (by have := h.lt; have := h.pk.size; omega))
theorem Dr3.formA {w wr w6 : World} {g gd p k : Nat} {A A' : Option Addr} {n c m c' : Nat} {d : Dk} (h : Dr3 w g gd p k wr A n c A' m c' d) (hp : Pk g wr w6) (hr : Rd w6 g (p + 71 * (k + 1))) (o : Obj) : Dr3 w g gd p (k + 1) (w6.alloc o) A n c A' m c' d :=
  h.keep (hp.trans (Pk.of_below (below_alloc _ _))) (hr.below (below_alloc _ _))
/-- The desk is given back. -/
theorem ret_dk {w wq : World} {g p q : Nat} {X : Nat → Prop} {A A' : Option Addr} {n c m c' : Nat} {d : Dk} (hX : X w.heap.size) (hn : Sf wq w.heap.size X A n c d.now) (hp : Pf wq w.heap.size X A' m c' d.past) (hs : DkS d) (hl : dkB d = true → DkL d 39) (hr : Rd wq g q) (hq : q ≤ p) (hpk : Pk g w wq) (hlt : g < w.heap.size) :
    RetDk w g p (.returned (.agg #[.slice A n c, .slice A' m c'])) ((wq.setCell ⟨w.heap.size, 0, none⟩ (.slice A n c)).setCell ⟨w.heap.size, 1, none⟩ (.slice A' m c')) := by
  have hk : Kx X wq ((wq.setCell ⟨w.heap.size, 0, none⟩ (.slice A n c)).setCell ⟨w.heap.size, 1, none⟩ (.slice A' m c')) := (Kx.set wq (p := ⟨w.heap.size, 0, none⟩) hX _).trans (Kx.set _ (p := ⟨w.heap.size, 1, none⟩) hX _)
  have hbl : Below w.heap.size wq ((wq.setCell ⟨w.heap.size, 0, none⟩ (.slice A n c)).setCell ⟨w.heap.size, 1, none⟩ (.slice A' m c')) := ((Below.refl _ wq).setCell (p := ⟨w.heap.size, 0, none⟩) (Nat.le_refl _) _).setCell (p := ⟨w.heap.size, 1, none⟩) (Nat.le_refl _) _
  exact ⟨A, n, c, A', m, c', d, rfl, ⟨(hn.kx hk).sg, (hp.kx hk).po.ps⟩, hs, hl, (hr.belowB hbl hlt).mono hq, hpk.belowB hbl (Nat.le_refl _)⟩
theorem made17 {w7 : World} {B : Nat} {A : Option Addr} (h : Ow w7 B 73 (.slice A 17 17) 17 (List.replicate 17 (.complex .f32 0 0))) : Sg w7 B A 17 17 (List.replicate 17 (0, 0)) := Sg.of (by rw [List.map_replicate]; exact h)
theorem bad17 : sigB (List.replicate 17 ((0, 0) : C)) = false := by decide
theorem made9 {w7 : World} {B : Nat} {X : Nat → Prop} {A : Option Addr} (h : Ow w7 B 23 (.slice A 9 9) 9 (List.replicate 9 (.slice none 0 0))) (hX : ∀ b, B ≤ b → b < w7.heap.size → ¬ X b) : Pf w7 B X A 9 9 (List.replicate 9 []) := by
  have hm : ∀ ad n c, ¬ Value.slice (some ad) n c ∈ List.replicate 9 (Value.slice none 0 0) := fun ad n c hm => by
    have := (List.mem_replicate.1 hm).2
    cases this
  refine ⟨_, h, ⟨by simp, fun k x hx => ?_⟩, fun ad n c h => absurd h (hm ad n c), fun ad e => hX _ (h.ge ad e).1 (h.ge ad e).2, fun ad n c h => absurd h (hm ad n c)⟩
  have hk : k < 9 := by have := (List.getElem?_eq_some_iff.1 hx).1; simpa using this
  rw [List.getElem?_replicate, if_pos hk] at hx
  injection hx with hx
  subst hx
  exact ⟨none, 0, 0, by rw [List.getElem?_replicate, if_pos hk], Sg.nil_ _ _⟩
end Go.Proofs.YtnomlkkhkacajaaGreatDoor
