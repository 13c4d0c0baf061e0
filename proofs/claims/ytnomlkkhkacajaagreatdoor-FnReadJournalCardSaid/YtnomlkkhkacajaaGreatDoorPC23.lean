/- Texts on the way to a law (E5, Ap, E7), each with its own remark. -/
import Derived.Test.YtnomlkkhkacajaaGreatDoorPC02
import Derived.Test.YtnomlkkhkacajaaGreatDoorPC04
import Derived.Laws.AppendOwnNone
import Derived.Maps.AppendAt
namespace Go.Proofs.YtnomlkkhkacajaaGreatDoor
open Go.RowKit

/-- A slice value that reads as a signal, whose block lies from a block on. -/
structure Sg (w : World) (B : Nat) (A : Option Addr) (n c : Nat) (x : List C) : Prop where
  cs : Cs w A n x
  nil : A = none → c = 0
  ge : ∀ ad, A = some ad → B ≤ ad.block ∧ ad.block < w.heap.size
  ty : ∀ ad, A = some ad → ∃ cur fz, w.heap[ad.block]? = some (.cells cur 73 fz)
theorem Sl.kept {w w' : World} {A : Option Addr} {n : Nat} {vs : List Value} (h : Sl w A n vs) (hs : w.heap.size ≤ w'.heap.size) (hk : ∀ ad, A = some ad → ad.block < w.heap.size → w'.heap[ad.block]? = w.heap[ad.block]?) : Sl w' A n vs := by
  refine ⟨h.1, ?_⟩
  rcases h.2 with h0 | ⟨b, o, rfl, hb, hc⟩
  · exact .inl h0
  · exact .inr ⟨b, o, rfl, Nat.lt_of_lt_of_le hb hs, fun j u hj => (World.cell?_of_block (a := ⟨b, o + j, none⟩) (show w'.heap[b]? = w.heap[b]? from hk ⟨b, o, none⟩ rfl hb)).trans (hc j u hj)⟩
theorem Sg.keep {w w' : World} {B : Nat} {A : Option Addr} {n c : Nat} {x : List C} (h : Sg w B A n c x) (hs : w.heap.size ≤ w'.heap.size) (hk : ∀ ad, A = some ad → ad.block < w.heap.size → w'.heap[ad.block]? = w.heap[ad.block]?) : Sg w' B A n c x :=
  ⟨Sl.kept h.cs hs hk, h.nil, fun ad e => ⟨(h.ge ad e).1, Nat.lt_of_lt_of_le (h.ge ad e).2 hs⟩, fun ad e => by rw [hk ad e (h.ge ad e).2]; exact h.ty ad e⟩
theorem Sg.below {w w' : World} {B : Nat} {A : Option Addr} {n c : Nat} {x : List C} (h : Sg w B A n c x) (hb : Below w.heap.size w w') : Sg w' B A n c x := h.keep hb.size fun ad _ hl => hb.block ad.block hl
theorem Sg.pk {w w' : World} {B g : Nat} {A : Option Addr} {n c : Nat} {x : List C} (h : Sg w B A n c x) (hp : Pk g w w') (hg : g < B) : Sg w' B A n c x := h.keep hp.size fun ad e hl => hp.block ad.block hl (by have := (h.ge ad e).1; omega)
theorem Sg.mono {w : World} {B B' : Nat} {A : Option Addr} {n c : Nat} {x : List C} (h : Sg w B A n c x) (hB : B' ≤ B) : Sg w B' A n c x := ⟨h.cs, h.nil, fun ad e => ⟨Nat.le_trans hB (h.ge ad e).1, (h.ge ad e).2⟩, h.ty⟩
theorem Ow.hnil {w : World} {B n c m : Nat} {E : TypeId} {A : Option Addr} {vs : List Value} (h : Ow w B E (.slice A n c) m vs) : A = none → c = 0 := fun hA => by
  subst hA
  rcases h.2 with ⟨h1, _⟩ | ⟨g, cap, cur, h1, _⟩
  · injection h1
  · cases h1
theorem Ow.typ {w : World} {B n c m : Nat} {E : TypeId} {A : Option Addr} {vs : List Value} (h : Ow w B E (.slice A n c) m vs) : ∀ ad, A = some ad → ∃ cur fz, w.heap[ad.block]? = some (.cells cur E fz) := fun ad hA => by
  subst hA
  rcases h.2 with ⟨h1, _⟩ | ⟨g, cap, cur, h1, _, h2, _⟩
  · injection h1 with h1; cases h1
  · injection h1 with h1
    injection h1 with h1
    subst h1
    exact ⟨cur, _, h2⟩
theorem Sg.of {w : World} {B n c : Nat} {A : Option Addr} {x : List C} (h : Ow w B 73 (.slice A n c) n (x.map cv)) : Sg w B A n c x := ⟨h.sl, h.hnil, h.ge, h.typ⟩
/-- A signal does not lie where a list of signals lies. -/
theorem Sg.ne_own {w : World} {B B' n c m : Nat} {A : Option Addr} {x : List C} {v : Value} {vs : List Value} (h : Sg w B A n c x) (ho : Ow w B' 23 v m vs) : ∀ ad, A = some ad → v.ownBlock ≠ some ad.block := fun ad e hx => by
  obtain ⟨A', c', rfl⟩ := ho.shape
  cases A' with
  | none => cases hx
  | some a =>
    injection hx with hx
    obtain ⟨cur, fz, h1⟩ := h.ty ad e
    obtain ⟨cur', fz', h2⟩ := ho.typ a rfl
    rw [hx, h1] at h2
    injection h2 with h2
    injection h2 with _ h2 _
    exact absurd h2 (by decide)
theorem Sg.len {w : World} {B : Nat} {A : Option Addr} {n c : Nat} {x : List C} (h : Sg w B A n c x) : x.length = n := Cs.len h.cs
theorem Sg.nil_ (w : World) (B : Nat) : Sg w B none 0 0 [] := ⟨Sl.nil_ w none, fun _ => rfl, fun ad e => (by cases e), fun ad e => (by cases e)⟩
/-- Slice values that read as signals. -/
def Pv (w : World) (B : Nat) (vs : List Value) (ps : List (List C)) : Prop := vs.length = ps.length ∧ ∀ (k : Nat) (x : List C), ps[k]? = some x → ∃ A n c, vs[k]? = some (Value.slice A n c) ∧ Sg w B A n c x
theorem Pv.mem {w : World} {B : Nat} {vs : List Value} {ps : List (List C)} (h : Pv w B vs ps) {A : Option Addr} {n c : Nat} (hm : Value.slice A n c ∈ vs) : ∃ x, Sg w B A n c x := by
  obtain ⟨k, hk⟩ := List.mem_iff_getElem?.1 hm
  have hl := (List.getElem?_eq_some_iff.1 hk).1
  obtain ⟨A', n', c', h1, h2⟩ := h.2 k _ (List.getElem?_eq_getElem (by rw [← h.1]; exact hl))
  rw [hk] at h1
  injection h1 with h1
  injection h1 with e1 e2 e3
  subst e1; subst e2; subst e3
  exact ⟨_, h2⟩
theorem Pv.keep {w w' : World} {B : Nat} {vs : List Value} {ps : List (List C)} (h : Pv w B vs ps) (hs : w.heap.size ≤ w'.heap.size) (hk : ∀ ad n c, Value.slice (some ad) n c ∈ vs → ad.block < w.heap.size → w'.heap[ad.block]? = w.heap[ad.block]?) : Pv w' B vs ps :=
  ⟨h.1, fun k x hx => by
    obtain ⟨A, n, c, h1, h2⟩ := h.2 k x hx
    exact ⟨A, n, c, h1, h2.keep hs fun ad e hl => hk ad n c (by rw [← e]; exact List.mem_of_getElem? h1) hl⟩⟩
theorem Pv.below {w w' : World} {B : Nat} {vs : List Value} {ps : List (List C)} (h : Pv w B vs ps) (hb : Below w.heap.size w w') : Pv w' B vs ps := h.keep hb.size fun ad _ _ _ hl => hb.block ad.block hl
theorem Pv.pk {w w' : World} {B g : Nat} {vs : List Value} {ps : List (List C)} (h : Pv w B vs ps) (hp : Pk g w w') (hg : g < B) : Pv w' B vs ps := h.keep hp.size fun ad n c hm hl => by
  obtain ⟨x, hx⟩ := h.mem hm
  exact hp.block ad.block hl (by have := (hx.ge ad rfl).1; omega)
theorem Pv.mono {w : World} {B B' : Nat} {vs : List Value} {ps : List (List C)} (h : Pv w B vs ps) (hB : B' ≤ B) : Pv w B' vs ps :=
  ⟨h.1, fun k x hx => by obtain ⟨A, n, c, h1, h2⟩ := h.2 k x hx; exact ⟨A, n, c, h1, h2.mono hB⟩⟩
theorem Pv.nil (w : World) (B : Nat) : Pv w B [] [] := ⟨rfl, fun k x h => by simp at h⟩
theorem Pv.snoc {w : World} {B : Nat} {vs : List Value} {ps : List (List C)} {A : Option Addr} {n c : Nat} {x : List C} (h : Pv w B vs ps) (hx : Sg w B A n c x) : Pv w B (vs ++ [.slice A n c]) (ps ++ [x]) := by
  refine ⟨by rw [List.length_append, List.length_append, h.1]; rfl, fun k y hy => ?_⟩
  by_cases hk : k < ps.length
  · rw [List.getElem?_append_left hk] at hy
    rw [List.getElem?_append_left (by rw [h.1]; exact hk)]
    exact h.2 k y hy
  · rw [List.getElem?_append_right (by omega)] at hy
    rw [List.getElem?_append_right (by rw [h.1]; omega), h.1]
    have hk0 : k - ps.length = 0 := by
      have := (List.getElem?_eq_some_iff.1 hy).1
      simp at this; omega
    rw [hk0] at hy ⊢
    injection hy with hy
    subst hy
    exact ⟨A, n, c, rfl, hx⟩
theorem Pv.take {w : World} {B : Nat} {vs : List Value} {ps : List (List C)} (h : Pv w B vs ps) (k : Nat) : Pv w B (vs.take k) (ps.take k) := by
  refine ⟨by rw [List.length_take, List.length_take, h.1], fun i x hx => ?_⟩
  rw [List.getElem?_take] at hx
  split at hx
  · rename_i hi
    obtain ⟨A, n, c, h1, h2⟩ := h.2 i x hx
    exact ⟨A, n, c, by rw [List.getElem?_take, if_pos hi]; exact h1, h2⟩
  · cases hx
theorem Pv.drop {w : World} {B : Nat} {vs : List Value} {ps : List (List C)} (h : Pv w B vs ps) (k : Nat) : Pv w B (vs.drop k) (ps.drop k) := by
  refine ⟨by rw [List.length_drop, List.length_drop, h.1], fun i x hx => ?_⟩
  rw [List.getElem?_drop] at hx
  obtain ⟨A, n, c, h1, h2⟩ := h.2 (k + i) x hx
  exact ⟨A, n, c, by rw [List.getElem?_drop]; exact h1, h2⟩
/-- A slice of signals. -/
def Ps (w : World) (B : Nat) (A : Option Addr) (m : Nat) (ps : List (List C)) : Prop := ∃ vs, Sl w A m vs ∧ Pv w B vs ps ∧ ∀ ad, A = some ad → B ≤ ad.block ∧ ad.block < w.heap.size
theorem Ps.len {w : World} {B : Nat} {A : Option Addr} {m : Nat} {ps : List (List C)} (h : Ps w B A m ps) : ps.length = m := by
  obtain ⟨vs, h1, h2, _⟩ := h
  exact h2.1.symm.trans (Sl.len h1)
theorem Ps.below {w w' : World} {B : Nat} {A : Option Addr} {m : Nat} {ps : List (List C)} (h : Ps w B A m ps) (hb : Below w.heap.size w w') : Ps w' B A m ps := by
  obtain ⟨vs, h1, h2, h3⟩ := h
  exact ⟨vs, Sl.below h1 hb, h2.below hb, fun ad e => ⟨(h3 ad e).1, Nat.lt_of_lt_of_le (h3 ad e).2 hb.size⟩⟩
theorem Ps.pk {w w' : World} {B g : Nat} {A : Option Addr} {m : Nat} {ps : List (List C)} (h : Ps w B A m ps) (hp : Pk g w w') (hg : g < B) : Ps w' B A m ps := by
  obtain ⟨vs, h1, h2, h3⟩ := h
  exact ⟨vs, Sl.kept h1 hp.size fun ad e hl => hp.block ad.block hl (by have := (h3 ad e).1; omega), h2.pk hp hg, fun ad e => ⟨(h3 ad e).1, Nat.lt_of_lt_of_le (h3 ad e).2 hp.size⟩⟩
theorem Ps.mono {w : World} {B B' : Nat} {A : Option Addr} {m : Nat} {ps : List (List C)} (h : Ps w B A m ps) (hB : B' ≤ B) : Ps w B' A m ps := by
  obtain ⟨vs, h1, h2, h3⟩ := h
  exact ⟨vs, h1, h2.mono hB, fun ad e => ⟨Nat.le_trans hB (h3 ad e).1, (h3 ad e).2⟩⟩
theorem Ps.nil (w : World) (B : Nat) : Ps w B none 0 [] := ⟨[], Sl.nil_ w none, Pv.nil w B, fun ad e => by cases e⟩
theorem Ps.at_ {w : World} {B : Nat} {A : Option Addr} {m k : Nat} {ps : List (List C)} (h : Ps w B A m ps) (hk : k < m) :
    ∃ b o x A' n c, A = some ⟨b, o, none⟩ ∧ b < w.heap.size ∧ ps[k]? = some x ∧ w.cell? ⟨b, o + k, none⟩ = some (.slice A' n c) ∧ Sg w B A' n c x := by
  have hl := h.len
  obtain ⟨vs, h1, h2, _⟩ := h
  obtain ⟨b, o, hA, hb, hc⟩ := Sl.at_ h1 hk
  have hx : ps[k]? = some (ps[k]'(by omega)) := List.getElem?_eq_getElem (by omega)
  obtain ⟨A', n, c, h3, h4⟩ := h2.2 k _ hx
  exact ⟨b, o, _, A', n, c, hA, hb, hx, hc k _ h3, h4⟩
/-- Of a list of slices that the call owns: none of them lies where the list lies. -/
def Pn (v : Value) (vs : List Value) : Prop := ∀ ad n c, Value.slice (some ad) n c ∈ vs → v.ownBlock ≠ some ad.block
/-- A list of signals that the call owns. -/
def Po (w : World) (B : Nat) (A : Option Addr) (m c : Nat) (ps : List (List C)) : Prop := ∃ vs, Ow w B 23 (.slice A m c) m vs ∧ Pv w B vs ps ∧ Pn (.slice A m c) vs
theorem Po.ps {w : World} {B : Nat} {A : Option Addr} {m c : Nat} {ps : List (List C)} (h : Po w B A m c ps) : Ps w B A m ps := by
  obtain ⟨vs, h1, h2, _⟩ := h
  exact ⟨vs, h1.sl, h2, h1.ge⟩
theorem Po.below {w w' : World} {B : Nat} {A : Option Addr} {m c : Nat} {ps : List (List C)} (h : Po w B A m c ps) (hb : Below w.heap.size w w') : Po w' B A m c ps := by
  obtain ⟨vs, h1, h2, h3⟩ := h
  exact ⟨vs, h1.below hb, h2.below hb, h3⟩
theorem Po.pk {w w' : World} {B g : Nat} {A : Option Addr} {m c : Nat} {ps : List (List C)} (h : Po w B A m c ps) (hp : Pk g w w') (hg : g < B) : Po w' B A m c ps := by
  obtain ⟨vs, h1, h2, h3⟩ := h
  exact ⟨vs, h1.pk hp hg, h2.pk hp hg, h3⟩
theorem Po.mono {w : World} {B B' : Nat} {A : Option Addr} {m c : Nat} {ps : List (List C)} (h : Po w B A m c ps) (hB : B' ≤ B) : Po w B' A m c ps := by
  obtain ⟨vs, h1, h2, h3⟩ := h
  exact ⟨vs, h1.mono hB, h2.mono hB, h3⟩
theorem Po.nil (w : World) (B : Nat) : Po w B none 0 0 [] := ⟨[], Ow.nil_ w B _, Pv.nil w B, fun _ _ _ h => by cases h⟩
/-- One more signal behind the list. -/
theorem Po.snoc {w w' : World} {B : Nat} {v : Value} {vs : List Value} {ps : List (List C)} {A A3 : Option Addr} {n c m c3 : Nat} {x : List C} (hv : Pv w B vs ps) (hn : Pn v vs) (hx : Sg w B A n c x) (hxn : ∀ ad, A = some ad → v.ownBlock ≠ some ad.block)
    (ho : Ow w' B 23 (.slice A3 (m + 1) c3) (m + 1) (vs ++ [.slice A n c])) (hs : w.heap.size ≤ w'.heap.size) (hk : ∀ b, b < w.heap.size → v.ownBlock ≠ some b → w'.heap[b]? = w.heap[b]?)
    (hl : ∀ b, b < w.heap.size → v.ownBlock ≠ some b → (Value.slice A3 (m + 1) c3).ownBlock ≠ some b) : Po w' B A3 (m + 1) c3 (ps ++ [x]) := by
  refine ⟨_, ho, Pv.snoc (hv.keep hs fun ad n c hm hb => hk ad.block hb (hn ad n c hm)) (hx.keep hs fun ad e hb => hk ad.block hb (hxn ad e)), fun ad n' c' hm => ?_⟩
  rcases List.mem_append.1 hm with h | h
  · obtain ⟨y, hy⟩ := hv.mem h
    exact hl _ (hy.ge ad rfl).2 (hn ad n' c' h)
  · rw [List.mem_singleton] at h
    injection h with e1 e2 e3
    exact hl _ (hx.ge ad e1.symm).2 (hxn ad e1.symm)
/-- The list without its last one. -/
theorem Po.pop {w : World} {B : Nat} {A : Option Addr} {m c : Nat} {ps : List (List C)} (h : Po w B A (m + 1) c ps) : Po w B A m c (ps.take m) := by
  obtain ⟨vs, h1, h2, h3⟩ := h
  have hl := h1.len
  refine ⟨vs.take m, ⟨by rw [List.length_take, hl]; omega, ?_⟩, h2.take m, fun ad n' c' hm => by
    have h4 := h3 ad n' c' (List.mem_of_mem_take hm)
    cases A with
    | none => intro e; cases e
    | some a => exact h4⟩
  rcases h1.2 with ⟨h0, h00⟩ | ⟨g, cap, cur, hv, hg, hh, hn, hcap, hsz, htake⟩
  · omega
  · cases hv
    refine .inr ⟨g, c, cur, rfl, hg, hh, by omega, hcap, hsz, ?_⟩
    rw [← htake, List.take_take, Nat.mul_one, Nat.mul_one, Nat.min_eq_left (by omega)]
/-- A desk. -/
structure Dk where
  now : List C
  past : List (List C)
/-- A desk as a value. -/
structure DkV (w : World) (B : Nat) (A : Option Addr) (n c : Nat) (A' : Option Addr) (m : Nat) (d : Dk) : Prop where
  now : Sg w B A n c d.now
  past : Ps w B A' m d.past
theorem DkV.below {w w' : World} {B : Nat} {A A' : Option Addr} {n c m : Nat} {d : Dk} (h : DkV w B A n c A' m d) (hb : Below w.heap.size w w') : DkV w' B A n c A' m d := ⟨h.now.below hb, h.past.below hb⟩
theorem DkV.pk {w w' : World} {B g : Nat} {A A' : Option Addr} {n c m : Nat} {d : Dk} (h : DkV w B A n c A' m d) (hp : Pk g w w') (hg : g < B) : DkV w' B A n c A' m d := ⟨h.now.pk hp hg, h.past.pk hp hg⟩
theorem DkV.mono {w : World} {B B' : Nat} {A A' : Option Addr} {n c m : Nat} {d : Dk} (h : DkV w B A n c A' m d) (hB : B' ≤ B) : DkV w B' A n c A' m d := ⟨h.now.mono hB, h.past.mono hB⟩
/-- The desk without points. -/
def dk0 : Dk := ⟨[], []⟩
theorem DkV.zero (w : World) (B : Nat) : DkV w B none 0 0 none 0 dk0 := ⟨Sg.nil_ w B, Ps.nil w B⟩
/-- Whether a desk is one. -/
def dkB (d : Dk) : Bool := sigB d.now && decide (d.past.length ≤ 8) && d.past.all sigB
theorem dkB_iff {d : Dk} : dkB d = true ↔ sigB d.now = true ∧ d.past.length ≤ 8 ∧ ∀ x ∈ d.past, sigB x = true := by
  unfold dkB
  rw [Bool.and_eq_true, Bool.and_eq_true, decide_eq_true_eq, List.all_eq_true]
  exact ⟨fun h => ⟨h.1.1, h.1.2, h.2⟩, fun h => ⟨⟨h.1, h.2.1⟩, h.2.2⟩⟩
theorem dkB_now {d : Dk} (h : sigB d.now = false) : dkB d = false := by unfold dkB; rw [h]; rfl
theorem dkB_len {d : Dk} (h : 8 < d.past.length) : dkB d = false := by unfold dkB; rw [decide_eq_false (by omega), Bool.and_false]; rfl
theorem dkB_past {d : Dk} {k : Nat} {x : List C} (h : d.past[k]? = some x) (hx : sigB x = false) : dkB d = false := by
  refine Bool.eq_false_iff.2 fun e => ?_
  have := (dkB_iff.1 e).2.2 x (List.mem_of_getElem? h)
  rw [hx] at this; cases this
theorem all_snoc {ps : List (List C)} {k : Nat} {x : List C} (h : (ps.take k).all sigB = true) (hx : ps[k]? = some x) (hs : sigB x = true) : (ps.take (k + 1)).all sigB = true := by
  rw [List.take_add_one, hx, List.all_append, h]
  simp [hs]
/-- A desk is not great. -/
structure DkS (d : Dk) : Prop where
  now : d.now.length ≤ 17
  len : d.past.length ≤ 9
  past : ∀ x ∈ d.past, x.length ≤ 17
theorem DkS.at_ {d : Dk} (h : DkS d) {k : Nat} {x : List C} (hx : d.past[k]? = some x) : x.length ≤ 17 := h.past x (List.mem_of_getElem? hx)
theorem DkS.zero : DkS dk0 := ⟨by decide, by decide, fun x hx => by cases hx⟩
/-- A desk in a block of its own. -/
theorem desk_box {w wr : World} {A A' : Option Addr} {n c m c' : Nat} {E : TypeId} (h : Below (w.heap.size + 1) (w.alloc (.cells #[.slice A n c, .slice A' m c'] E)) wr) :
    wr.cell? ⟨w.heap.size, 0, none⟩ = some (.slice A n c) ∧ wr.cell? ⟨w.heap.size, 1, none⟩ = some (.slice A' m c') ∧ Below w.heap.size w wr :=
  ⟨(h.cell (p := ⟨w.heap.size, 0, none⟩) (Nat.lt_succ_self _)).trans (by rw [World.cell?_alloc_at _ _ _ _ rfl]; rfl),
    (h.cell (p := ⟨w.heap.size, 1, none⟩) (Nat.lt_succ_self _)).trans (by rw [World.cell?_alloc_at _ _ _ _ rfl]; rfl),
    (below_alloc w _).trans (h.mono (Nat.le_succ _))⟩
def kv (A : Option Addr) (n c : Nat) (A' : Option Addr) (m c' : Nat) : Value := .agg #[.slice A n c, .slice A' m c']
end Go.Proofs.YtnomlkkhkacajaaGreatDoor
namespace Go.Proofs.YtnomlkkhkacajaaGreatDoor
open Go.RowKit

section
variable {P : Program} {w : World} {ops : Array Oper} {rest : List Oper} {o : Oper} {a : Act} {Q : Exit → Act → World → Prop}
/-- append(out, us...), where nothing below a block changes. -/
theorem wl_appS (B : Nat) (us : List Value) (hB : B ≤ w.heap.size) (hgd : o.guard = none) (s x : Operand) (t : TypeId) (ho : o.op = .call { callee := .builtin .append, args := #[s, x], argTypes := #[t, t] })
    {E : TypeId} {z : Value} {bytes : Nat} (he : Elem P t E z bytes) (v : Value) (n : Nat) (vs : List Value) (hs : a.eval s = v) (hown : Ow w B E v n vs)
    (A : Option Addr) (m c : Nat) (hx : a.eval x = .slice A m c) (hnil : A = none → c = 0) (hsl : Sl w A m us) (hu : ∀ u ∈ us, u.oneCell' = true) (h63 : n + m ≤ maxLen) (hbytes : (n + m) * bytes ≤ 140737488355328)
    (h : ∀ v' w', Ow w' B E v' (n + m) (vs ++ us) → Below B w w' → wpList P ops Q rest (a.put o.dst v') w') : wpList P ops Q (o :: rest) a w := by
  obtain ⟨i, h2, h3, h4, h5⟩ := he.info
  subst h5
  have hl := hsl.len
  cases A with
  | none =>
    have hm : m = 0 := by
      rcases hsl.2 with h0 | ⟨b, o', h0, _⟩
      · exact h0
      · cases h0
    subst hm
    have hc := hnil rfl
    subst hc
    have hus : us = [] := List.length_eq_zero_iff.1 hl
    subst hus
    refine wpList_append_own_none hgd s x t ho B E i 1 he.und h2 v n vs hs hown hx ?_
    have := h v w (by rw [List.append_nil]; exact hown) (Below.refl _ _)
    exact this
  | some ad =>
    refine wpList_append_own w hgd s x t ho B E i z 1 i.bytes he.und h2 h3 h4 rfl (by rw [he.one]; rfl) (by decide) v n vs hs hown ad m c us hx (by omega) ?_ hu h63 hbytes hB ?_
    · intro j u hj
      have hjl := (List.getElem?_eq_some_iff.1 hj).1
      obtain ⟨b, o', h0, _, hc⟩ := hsl.at_ (k := j) (by omega)
      injection h0 with h0
      subst h0
      rw [show (⟨b, o', none⟩ : Addr).add j = ⟨b, o' + j, none⟩ by unfold Addr.add; split <;> first | rfl | (rename_i h; subst h; rfl)]
      exact hc j u hj
    · intro v' w' h1 h2 _
      refine h v' w' h1 ((Below.refl B w).grown h2 hB ?_)
      intro k hk
      exact (World.ownsRow.lt hown k hk).1
end
theorem cvs_one (xs : List C) : ∀ u ∈ xs.map cv, u.oneCell' = true := by
  intro u hu
  obtain ⟨z, _, rfl⟩ := List.mem_map.1 hu
  rfl
end Go.Proofs.YtnomlkkhkacajaaGreatDoor
namespace Go.Proofs.YtnomlkkhkacajaaGreatDoor
open Go.RowKit

theorem Tryz.ePs : Elem Tryz.prog 24 23 (.slice none 0 0) 24 := Elem.mk' Tryz.underlying24 (by kernel_rfl) rfl
section
variable {P : Program} {w : World} {ops : Array Oper} {rest : List Oper} {o : Oper} {a : Act} {Q : Exit → Act → World → Prop} {K : Act → World → Prop} {X : Prop}
theorem wp_append_at (s x : Operand) (t : TypeId) (ho : o.op = .call { callee := .builtin .append, args := #[s, x], argTypes := #[t, t] })
    (base : Nat) (e : TypeId) (i : TypeInfo) (z : Value) (size bytes : Nat) (ht : P.underlying t = some (.slice e)) (hi : P.info? e = some i) (hz : i.zero = some z)
    (hsize : i.size = size) (hby : i.bytes = bytes) (hzs : z.cells.size = size) (hsz : 0 < size)
    (v : Value) (n : Nat) (xs : List Value) (hs : a.eval s = v) (hown : w.ownsRow base e size v n xs)
    (ad : Addr) (m c : Nat) (news : List Value) (hx : a.eval x = .slice (some ad) m c) (hl : news.length = m * size) (hnews : ∀ j u, news[j]? = some u → w.cell? (ad.add j) = some u) (h1 : ∀ u ∈ news, u.oneCell' = true)
    (h63 : n + m ≤ maxLen) (hbytes : (n + m) * bytes ≤ 140737488355328) (hbase : base ≤ w.heap.size)
    (h : ∀ v' w', w'.ownsRow base e size v' (n + m) (xs ++ news) → w.grownBy w' v.ownBlock → (v'.ownBlock = v.ownBlock ∨ v'.ownBlock = some w.heap.size) → K (a.put o.dst v') w') : o.wp P a w K Q := by
  obtain ⟨v', w', hr, h2, h3, _, h5⟩ := run_append_own_at (P := P) w base t o.type e i z size bytes ht hi hz hsize hby hzs hsz v n xs hown ad m c news hl hnews h1 h63 hbytes hbase
  unfold Oper.wp execOp
  simp only [ho, resolve, invoke, builtin, Sem.run_bind, Sem.run_pure, Result.andThen_ok, List.map_toArray, List.map_cons, List.map_nil, hs, hx, hr]
  exact h v' w' h2 h3 h5
/-- append(out, us...): at a step. -/
theorem wp_appS (B : Nat) (us : List Value) (hB : B ≤ w.heap.size) (s x : Operand) (t : TypeId) (ho : o.op = .call { callee := .builtin .append, args := #[s, x], argTypes := #[t, t] })
    {E : TypeId} {z : Value} {bytes : Nat} (he : Elem P t E z bytes) (v : Value) (n : Nat) (vs : List Value) (hs : a.eval s = v) (hown : Ow w B E v n vs)
    (A : Option Addr) (m c : Nat) (hx : a.eval x = .slice A m c) (hnil : A = none → c = 0) (hsl : Sl w A m us) (hu : ∀ u ∈ us, u.oneCell' = true) (h63 : n + m ≤ maxLen) (hbytes : (n + m) * bytes ≤ 140737488355328)
    (h : ∀ v' w', Ow w' B E v' (n + m) (vs ++ us) → Below B w w' → K (a.put o.dst v') w') : o.wp P a w K Q := by
  obtain ⟨i, h2, h3, h4, h5⟩ := he.info
  subst h5
  have hl := hsl.len
  cases A with
  | none =>
    have hm : m = 0 := by
      rcases hsl.2 with h0 | ⟨b, o', h0, _⟩
      · exact h0
      · cases h0
    subst hm
    have hc := hnil rfl
    subst hc
    have hus : us = [] := List.length_eq_zero_iff.1 hl
    subst hus
    have hrun := run_append_owned_none (P := P) (w := w) B t o.type E i 1 he.und h2 v n vs hown
    have := h v w (by rw [List.append_nil]; exact hown) (Below.refl _ _)
    unfold Oper.wp
    simp [execOp, ho, resolve, invoke, builtin, hs, hx, hrun, Result.andThen]
    exact this
  | some ad =>
    refine wp_append_own w s x t ho B E i z 1 i.bytes he.und h2 h3 h4 rfl (by rw [he.one]; rfl) (by decide) v n vs hs hown ad m c us hx (by omega) ?_ hu h63 hbytes hB ?_
    · intro j u hj
      have hjl := (List.getElem?_eq_some_iff.1 hj).1
      obtain ⟨b, o', h0, _, hc⟩ := hsl.at_ (k := j) (by omega)
      injection h0 with h0
      subst h0
      rw [show (⟨b, o', none⟩ : Addr).add j = ⟨b, o' + j, none⟩ by unfold Addr.add; split <;> first | rfl | (rename_i h; subst h; rfl)]
      exact hc j u hj
    · intro v' w' h1 h2 _
      refine h v' w' h1 ((Below.refl B w).grown h2 hB ?_)
      intro k hk
      exact (World.ownsRow.lt hown k hk).1
theorem st_appS (B : Nat) (us : List Value) (hB : B ≤ w.heap.size) (hgd : o.guard = none) (s x : Operand) (t : TypeId) (ho : o.op = .call { callee := .builtin .append, args := #[s, x], argTypes := #[t, t] })
    {E : TypeId} {z : Value} {bytes : Nat} (he : Elem P t E z bytes) (v : Value) (n : Nat) (vs : List Value) (hs : a.eval s = v) (hown : Ow w B E v n vs)
    (A : Option Addr) (m c : Nat) (hx : a.eval x = .slice A m c) (hnil : A = none → c = 0) (hsl : Sl w A m us) (hu : ∀ u ∈ us, u.oneCell' = true) (h63 : n + m ≤ maxLen) (hbytes : (n + m) * bytes ≤ 140737488355328)
    (h : ∀ v' w', Ow w' B E v' (n + m) (vs ++ us) → Below B w w' → K (a.put o.dst v') w') : if Region.wanted o (yielded ops a.tmps) = true then Oper.wp P o a w K Q else X := by
  have hw : Region.wanted o (yielded ops a.tmps) = true := by simp [Region.wanted, hgd]
  rw [if_pos hw]
  exact wp_appS B us hB s x t ho he v n vs hs hown A m c hx hnil hsl hu h63 hbytes h
/-- append(out, u): where the new row lies. -/
theorem wp_appW (B : Nat) (u : Value) (hB : B ≤ w.heap.size) (s x : Operand) (t : TypeId) (ho : o.op = .call { callee := .builtin .append, args := #[s, x], argTypes := #[t, t] })
    {E : TypeId} {z : Value} {bytes : Nat} (he : Elem P t E z bytes) (v : Value) (n : Nat) (vs : List Value) (hs : a.eval s = v) (hown : Ow w B E v n vs)
    (hx : a.eval x = .slice (some ⟨w.heap.size, 0, none⟩) 1 1) (hu : u.oneCell' = true) (h63 : n + 1 ≤ maxLen) (hbytes : (n + 1) * bytes ≤ 140737488355328)
    (h : ∀ v' w', Ow w' B E v' (n + 1) (vs ++ [u]) → Below B w w' → (∀ b, b < w.heap.size → v.ownBlock ≠ some b → w'.heap[b]? = w.heap[b]?) → (∀ b, b < w.heap.size → v.ownBlock ≠ some b → v'.ownBlock ≠ some b) → K (a.put o.dst v') w') : o.wp P a (w.alloc (.cells #[u] E)) K Q := by
  obtain ⟨i, h2, h3, h4, h5⟩ := he.info
  subst h5
  refine wp_append_at (w := w.alloc (.cells #[u] E)) s x t ho B E i z 1 i.bytes he.und h2 h3 h4 rfl (by rw [he.one]; rfl) (by decide) v n vs hs (World.ownsRow.alloc hown _) ⟨w.heap.size, 0, none⟩ 1 1 [u] hx rfl (cell_one_new _ _ _) (by intro u' hu'; rw [List.mem_singleton] at hu'; rw [hu']; exact hu) h63 hbytes (by simp; omega) ?_
  intro v' w' h1 h2 hl
  refine h v' w' h1 (((Below.refl B w).alloc hB _).grown h2 (by simp; omega) fun k hk => (World.ownsRow.lt hown k hk).1) (fun b hb hne => ?_) fun b hb hne => ?_
  · rw [h2.block b (by simp; omega) (fun e => hne e.symm)]
    exact (World.grownBy_alloc w _ none).block b hb (by simp)
  · rcases hl with hl | hl
    · rw [hl]; exact hne
    · rw [hl]
      intro e
      injection e with e
      simp at e
      omega
theorem st_appW (B : Nat) (u : Value) (hB : B ≤ w.heap.size) (hgd : o.guard = none) (s x : Operand) (t : TypeId) (ho : o.op = .call { callee := .builtin .append, args := #[s, x], argTypes := #[t, t] })
    {E : TypeId} {z : Value} {bytes : Nat} (he : Elem P t E z bytes) (v : Value) (n : Nat) (vs : List Value) (hs : a.eval s = v) (hown : Ow w B E v n vs)
    (hx : a.eval x = .slice (some ⟨w.heap.size, 0, none⟩) 1 1) (hu : u.oneCell' = true) (h63 : n + 1 ≤ maxLen) (hbytes : (n + 1) * bytes ≤ 140737488355328)
    (h : ∀ v' w', Ow w' B E v' (n + 1) (vs ++ [u]) → Below B w w' → (∀ b, b < w.heap.size → v.ownBlock ≠ some b → w'.heap[b]? = w.heap[b]?) → (∀ b, b < w.heap.size → v.ownBlock ≠ some b → v'.ownBlock ≠ some b) → K (a.put o.dst v') w') : if Region.wanted o (yielded ops a.tmps) = true then Oper.wp P o a (w.alloc (.cells #[u] E)) K Q else X := by
  have hw : Region.wanted o (yielded ops a.tmps) = true := by simp [Region.wanted, hgd]
  rw [if_pos hw]
  exact wp_appW B u hB s x t ho he v n vs hs hown hx hu h63 hbytes h
theorem wl_appW (B : Nat) (u : Value) (hB : B ≤ w.heap.size) (hgd : o.guard = none) (s x : Operand) (t : TypeId) (ho : o.op = .call { callee := .builtin .append, args := #[s, x], argTypes := #[t, t] })
    {E : TypeId} {z : Value} {bytes : Nat} (he : Elem P t E z bytes) (v : Value) (n : Nat) (vs : List Value) (hs : a.eval s = v) (hown : Ow w B E v n vs)
    (hx : a.eval x = .slice (some ⟨w.heap.size, 0, none⟩) 1 1) (hu : u.oneCell' = true) (h63 : n + 1 ≤ maxLen) (hbytes : (n + 1) * bytes ≤ 140737488355328)
    (h : ∀ v' w', Ow w' B E v' (n + 1) (vs ++ [u]) → Below B w w' → (∀ b, b < w.heap.size → v.ownBlock ≠ some b → w'.heap[b]? = w.heap[b]?) → (∀ b, b < w.heap.size → v.ownBlock ≠ some b → v'.ownBlock ≠ some b) → wpList P ops Q rest (a.put o.dst v') w') : wpList P ops Q (o :: rest) a (w.alloc (.cells #[u] E)) :=
  wpList_plain hgd fun _ hK => wp_appW B u hB s x t ho he v n vs hs hown hx hu h63 hbytes fun v' w' h1 h2 h3 h4 => hK _ _ (h v' w' h1 h2 h3 h4)
end
end Go.Proofs.YtnomlkkhkacajaaGreatDoor
