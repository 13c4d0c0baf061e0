/- Texts on the way to a law (Base, A1, A2), each with its own remark. -/
import Derived.Test.YtnomlkkhkacajaaGreatDoorRows
import Derived.Test.YtnomlkkhkacajaaGreatDoorPB02
import Derived.WalkKit
import Derived.WalkSpells
import Derived.WalkLawsBesides
import Derived.Deep.QuietTactic
import Derived.BigQuiet
import Derived.Lib.Hide
import Derived.Deep.DeepFit
import Derived.Deep.DeepMust
namespace Go.Proofs.YtnomlkkhkacajaaGreatDoor
open Go.RowKit

@[go_sem] theorem run_store_float (P : Program) (w : World) (a : Addr) (m : Mode) (k : FloatKind) (b : Nat) : (store a (.float k b) m).run P w = stored P w a (.float k b) m := run_store P w a _ m rfl
@[go_sem] theorem run_store_complex (P : Program) (w : World) (a : Addr) (m : Mode) (k : FloatKind) (x y : Nat) : (store a (.complex k x y) m).run P w = stored P w a (.complex k x y) m := run_store P w a _ m rfl

/-- An operation that is not valid: a NaN, whose bits the tape says. -/
theorem run_float_nan (P : Program) {op : BinOp} (hop : op = .add ∨ op = .sub ∨ op = .mul ∨ op = .quo) (t : TypeId) {k : FloatKind} {x y : Nat} (h : floatBits op k x y = none) :
    ∃ b : World → Nat, (∀ w, NaN k (b w)) ∧ ∀ w, (binOp op t (.float k x) (.float k y)).run P w = .ok (.float k (b w)) w.drew := by
  refine ⟨fun w => Question.cut (.nanBits k x y) (w.tape w.drawn (.nanBits k x y)), ?_, ?_⟩
  · intro w
    cases k
    · exact nan_cut32 _
    · exact nan_cut64 _
  · intro w
    unfold floatBits at h
    rcases hop with rfl | rfl | rfl | rfl <;> simp only at h <;> simp [binOp, Op.floatArith, h] <;> exact fun h => by cases h

/-- A NaN turned into the other kind. -/
theorem run_conv_nan (P : Program) {src dst : TypeId} {s k : FloatKind} (hne : s ≠ k) {x : Nat} (hs : (P.underlying src).isSome = true) (hd : P.underlying dst = some (.float k)) (h : NaN s x) :
    ∃ b : World → Nat, (∀ w, NaN k (b w)) ∧ ∀ w, (convert src dst (.float s x)).run P w = .ok (.float k (b w)) w.drew := by
  obtain ⟨g, n, e⟩ := read_nan h
  refine ⟨fun w => Question.cut (.nanConv k x) (w.tape w.drawn (.nanConv k x)), ?_, ?_⟩
  · intro w
    cases k
    · exact nan_cut32 _
    · exact nan_cut64 _
  · intro w
    obtain ⟨u, hs'⟩ := Option.isSome_iff_exists.1 hs
    cases u <;> simp [convert, run_underlying hs', run_underlying hd, Conv.floatToFloat, hne, FloatKind.decode, e] <;> exact fun h => by cases h

/-- A complex64. -/
abbrev C := Nat × Nat
def cv (z : C) : Value := .complex .f32 z.1 z.2
@[go_sem] theorem run_store_cv (P : Program) (w : World) (a : Addr) (m : Mode) (z : C) : (store a (cv z) m).run P w = stored P w a (cv z) m := run_store P w a _ m rfl

/-- Neither part is infinite or a NaN. -/
def finB (z : C) : Bool := decide (Fin Ieee.single z.1) && decide (Fin Ieee.single z.2)

/- A slice value that reads as a list of one-cell values. -/
def Sl (w : World) (A : Option Addr) (n : Nat) (vs : List Value) : Prop :=
  vs.length = n ∧ (n = 0 ∨ ∃ b o, A = some ⟨b, o, none⟩ ∧ b < w.heap.size ∧ ∀ k v, vs[k]? = some v → w.cell? ⟨b, o + k, none⟩ = some v)
theorem Sl.len {w : World} {A : Option Addr} {n : Nat} {vs : List Value} (h : Sl w A n vs) : vs.length = n := h.1
theorem Sl.at_ {w : World} {A : Option Addr} {n k : Nat} {vs : List Value} (h : Sl w A n vs) (hk : k < n) :
    ∃ b o, A = some ⟨b, o, none⟩ ∧ b < w.heap.size ∧ ∀ k v, vs[k]? = some v → w.cell? ⟨b, o + k, none⟩ = some v := by
  rcases h.2 with h0 | h0
  · omega
  · exact h0
theorem Sl.keep {w w' : World} {A : Option Addr} {n : Nat} {vs : List Value} (h : Sl w A n vs) (hs : w.heap.size ≤ w'.heap.size) (hk : ∀ b, b < w.heap.size → ∀ o, w'.cell? ⟨b, o, none⟩ = w.cell? ⟨b, o, none⟩) : Sl w' A n vs := by
  refine ⟨h.1, ?_⟩
  rcases h.2 with h0 | ⟨b, o, rfl, hb, hc⟩
  · exact .inl h0
  · exact .inr ⟨b, o, rfl, by omega, fun k v hv => by rw [hk b hb]; exact hc k v hv⟩
theorem Sl.below {w w' : World} {A : Option Addr} {n : Nat} {vs : List Value} (h : Sl w A n vs) (hb : Below w.heap.size w w') : Sl w' A n vs :=
  h.keep hb.size fun _ hlt o => hb.cell (p := ⟨_, o, none⟩) hlt
theorem Sl.drewN {w : World} {A : Option Addr} {n : Nat} {vs : List Value} (h : Sl w A n vs) (m : Nat) : Sl (w.drewN m) A n vs := h
theorem Sl.nil_ (w : World) (A : Option Addr) : Sl w A 0 [] := ⟨rfl, .inl rfl⟩
theorem below_drewN {B : Nat} {a w : World} (h : Below B a w) (n : Nat) : Below B a (w.drewN n) := ⟨h.os, h.tape, h.output, h.size, h.block⟩

/-- The number at a place. -/
def nth (xs : List C) (k : Nat) : C := xs.getD k (0, 0)
theorem nth_eq {xs : List C} {k : Nat} (h : k < xs.length) : nth xs k = xs[k] := by
  unfold nth; rw [List.getD_eq_getElem?_getD, List.getElem?_eq_getElem h]; rfl

/-- A slice of complex64. -/
def Cs (w : World) (A : Option Addr) (n : Nat) (xs : List C) : Prop := Sl w A n (xs.map cv)
theorem Cs.len {w : World} {A : Option Addr} {n : Nat} {xs : List C} (h : Cs w A n xs) : xs.length = n := by have := Sl.len h; simpa using this
theorem Cs.at_ {w : World} {A : Option Addr} {n k : Nat} {xs : List C} (h : Cs w A n xs) (hk : k < n) :
    ∃ b o, A = some ⟨b, o, none⟩ ∧ b < w.heap.size ∧ ∀ j, j < n → w.cell? ⟨b, o + j, none⟩ = some (cv (nth xs j)) := by
  obtain ⟨b, o, hA, hb, hc⟩ := Sl.at_ h hk
  refine ⟨b, o, hA, hb, fun j hj => hc j _ ?_⟩
  have hl := h.len
  rw [List.getElem?_map, nth_eq (by omega), List.getElem?_eq_getElem (by omega)]
  rfl
theorem Cs.below {w w' : World} {A : Option Addr} {n : Nat} {xs : List C} (h : Cs w A n xs) (hb : Below w.heap.size w w') : Cs w' A n xs := Sl.below h hb
theorem Cs.drewN {w : World} {A : Option Addr} {n : Nat} {xs : List C} (h : Cs w A n xs) (m : Nat) : Cs (w.drewN m) A n xs := h

/-- Whether a signal is one. -/
def sigB (xs : List C) : Bool := decide (xs.length ≤ 16) && xs.all finB
theorem all_take_succ {xs : List C} {k : Nat} (hk : k < xs.length) (p : C → Bool) : (xs.take (k + 1)).all p = ((xs.take k).all p && p (nth xs k)) := by
  rw [List.take_succ_eq_append_getElem hk, List.all_append, nth_eq hk]
  simp
theorem all_false_of {xs : List C} {k : Nat} (hk : k < xs.length) {p : C → Bool} (h : p (nth xs k) = false) : xs.all p = false := by
  rw [nth_eq hk] at h
  exact List.all_eq_false.2 ⟨xs[k], List.getElem_mem hk, by simpa using h⟩

/- Slices of the call's own: a row of one-cell elements that may be written. -/
structure Elem (P : Program) (T E : TypeId) (z : Value) (bytes : Nat) : Prop where
  und : P.underlying T = some (.slice E)
  info : ∃ i, P.info? E = some i ∧ i.zero = some z ∧ i.size = 1 ∧ i.bytes = bytes
  one : z.cells = #[z]
theorem Elem.mk' {P : Program} {T E : TypeId} {z : Value} {bytes : Nat} (h1 : P.underlying T = some (.slice E)) (h2 : (P.info? E).map (fun i => (i.zero, i.size, i.bytes)) = some (some z, 1, bytes)) (h3 : z.cells = #[z]) : Elem P T E z bytes :=
  ⟨h1, info_parts h2, h3⟩

def Ow (w : World) (B : Nat) (E : TypeId) (v : Value) (n : Nat) (vs : List Value) : Prop := w.ownsRow B E 1 v n vs
section
variable {w w' : World} {B n : Nat} {E : TypeId} {v : Value} {vs : List Value}
theorem Ow.len (h : Ow w B E v n vs) : vs.length = n := by have := h.1; simpa using this
theorem Ow.nil_ (w : World) (B : Nat) (E : TypeId) : Ow w B E (.slice none 0 0) 0 [] := World.ownsRow_nil w B E 1
theorem Ow.shape (h : Ow w B E v n vs) : ∃ A c, v = .slice A n c := by
  rcases h.2 with ⟨rfl, rfl⟩ | ⟨g, cap, cur, rfl, _⟩
  · exact ⟨_, _, rfl⟩
  · exact ⟨_, _, rfl⟩
theorem Ow.below (h : Ow w B E v n vs) (hb : Below w.heap.size w w') : Ow w' B E v n vs := by
  refine ⟨h.1, ?_⟩
  rcases h.2 with hn | ⟨g, cap, cur, hv, hg, hh, r⟩
  · exact .inl hn
  · exact .inr ⟨g, cap, cur, hv, hg, by rw [hb.block g (Array.getElem?_eq_some_iff.1 hh).1]; exact hh, r⟩
theorem Ow.drewN (h : Ow w B E v n vs) (m : Nat) : Ow (w.drewN m) B E v n vs := h
theorem Ow.mono (h : Ow w B E v n vs) {B' : Nat} (hB : B' ≤ B) : Ow w B' E v n vs := by
  refine ⟨h.1, ?_⟩
  rcases h.2 with hn | ⟨g, cap, cur, hv, hg, r⟩
  · exact .inl hn
  · exact .inr ⟨g, cap, cur, hv, by omega, r⟩
theorem Ow.sl {A : Option Addr} {c : Nat} (h : Ow w B E (.slice A n c) n vs) : Sl w A n vs := by
  refine ⟨h.len, ?_⟩
  have h' := h
  rcases h.2 with ⟨hv, hn⟩ | ⟨g, cap, cur, hv, hg, hh, r⟩
  · exact .inl hn
  · injection hv with h1 _ h3
    subst h1
    subst h3
    refine .inr ⟨g, 0, rfl, (Array.getElem?_eq_some_iff.1 hh).1, fun k u hu => ?_⟩
    have hk : k < n := by
      have := (List.getElem?_eq_some_iff.1 hu).1
      have := h'.len
      omega
    rw [Nat.zero_add, World.ownsRow.cellAt h' k (by omega)]
    exact hu
theorem Ow.at_ {A : Option Addr} {c : Nat} (h : Ow w B E (.slice A n c) n vs) {k : Nat} (hk : k < n) :
    ∃ g, A = some ⟨g, 0, none⟩ ∧ B ≤ g ∧ g < w.heap.size ∧ (∀ j, j < n → w.cell? ⟨g, j, none⟩ = vs[j]?) ∧ (∀ j, w.frozen? ⟨g, j, none⟩ = false) ∧
      (∀ j u, Ow (w.setCell ⟨g, j, none⟩ u) B E (.slice (some ⟨g, 0, none⟩) n c) n (vs.set j u)) := by
  have h' := h
  rcases h.2 with ⟨hv, hn⟩ | ⟨g, cap, cur, hv, hg, hh, r⟩
  · omega
  · injection hv with h1 _ h3
    subst h1
    subst h3
    exact ⟨g, rfl, hg, (Array.getElem?_eq_some_iff.1 hh).1, fun j hj => World.ownsRow.cellAt h' j (by omega), fun j => World.ownsRow.frozenAt h' j, fun j u => (World.ownsRow.stored h' j u).1⟩
end

section
variable {P : Program} {w w0 : World} {ops : Array Oper} {rest : List Oper} {o : Oper} {a : Act} {Q : Exit → Act → World → Prop}
/-- make([]T, 0, n) -/
theorem wl_make0 (hg : o.guard = none) (l c : Operand) (t : TypeId) (hop : o.op = Op.makeSlice t l c) {E : TypeId} {z : Value} {bytes : Nat} (he : Elem P t E z bytes)
    (kl kc : IntKind) (m : Nat) (C : Int) (hl : a.eval l = .int kl 0) (hc : a.eval c = .int kc C) (hC : C = (m : Int)) (b2 : bytes * m ≤ 281474976710656) (b3 : m ≤ maxLen)
    (hb : Below w0.heap.size w0 w)
    (hK : ∀ w', Ow w' w0.heap.size E (.slice (some ⟨w.heap.size, 0, none⟩) 0 m) 0 [] → Below w0.heap.size w0 w' → Below w.heap.size w w' → wpList P ops Q rest (a.put o.dst (.slice (some ⟨w.heap.size, 0, none⟩) 0 m)) w') :
    wpList P ops Q (o :: rest) a w := by
  obtain ⟨i, h2, h3, h4, h5⟩ := he.info
  subst h5
  refine wpList_make_own w hg l c t hop w0.heap.size E i z 1 he.und h2 h3 h4 kl kc C m hl hc hC b2 b3 hb.size ?_
  intro w' h1 h2
  exact hK w' h1 (hb.grown h2 hb.size (by simp)) ((Below.refl _ _).grown h2 (Nat.le_refl _) (by simp))
/-- make([]T, n) -/
theorem wl_make (hg : o.guard = none) (l c : Operand) (t : TypeId) (hop : o.op = Op.makeSlice t l c) {E : TypeId} {z : Value} {bytes : Nat} (he : Elem P t E z bytes)
    (kl kc : IntKind) (m : Nat) (L C : Int) (hl : a.eval l = .int kl L) (hc : a.eval c = .int kc C) (hL : L = (m : Int)) (hC : C = (m : Int)) (b2 : bytes * m ≤ 281474976710656) (b3 : m ≤ maxLen)
    (hb : Below w0.heap.size w0 w)
    (hK : ∀ w', Ow w' w0.heap.size E (.slice (some ⟨w.heap.size, 0, none⟩) m m) m (List.replicate m z) → Below w0.heap.size w0 w' → Below w.heap.size w w' → wpList P ops Q rest (a.put o.dst (.slice (some ⟨w.heap.size, 0, none⟩) m m)) w') :
    wpList P ops Q (o :: rest) a w := by
  obtain ⟨i, h2, h3, h4, h5⟩ := he.info
  subst h5
  refine wpList_make_full w hg l c t hop w0.heap.size E i z 1 he.und h2 h3 h4 kl kc L C m hl hc hL hC b2 b3 hb.size ?_
  intro w' h1 h2
  rw [he.one, Nat.mul_one, toList_madeCells_one] at h1
  exact hK w' h1 (hb.grown h2 hb.size (by simp)) ((Below.refl _ _).grown h2 (Nat.le_refl _) (by simp))
/-- append(out, u), out of the call's own -/
theorem wl_app1 (hgd : o.guard = none) (s x : Operand) (t : TypeId) (ho : o.op = .call { callee := .builtin .append, args := #[s, x], argTypes := #[t, t] })
    {E : TypeId} {z : Value} {bytes : Nat} (he : Elem P t E z bytes) (v : Value) (n : Nat) (vs : List Value) (hs : a.eval s = v) (hown : Ow w w0.heap.size E v n vs)
    (u : Value) (hx : a.eval x = .slice (some ⟨w.heap.size, 0, none⟩) 1 1) (hu : u.oneCell' = true) (h63 : n + 1 ≤ maxLen) (hbytes : (n + 1) * bytes ≤ 140737488355328) (hb : Below w0.heap.size w0 w)
    (h : ∀ v' w', Ow w' w0.heap.size E v' (n + 1) (vs ++ [u]) → Below w0.heap.size w0 w' → wpList P ops Q rest (a.put o.dst v') w') : wpList P ops Q (o :: rest) a (w.alloc (.cells #[u] E)) := by
  obtain ⟨i, h2, h3, h4, h5⟩ := he.info
  subst h5
  refine wpList_append_own (w.alloc (.cells #[u] E)) hgd s x t ho w0.heap.size E i z 1 i.bytes he.und h2 h3 h4 rfl (by rw [he.one]; rfl) (by decide) v n vs hs (World.ownsRow.alloc hown _) ⟨w.heap.size, 0, none⟩ 1 1 [u] hx rfl ?_ ?_ h63 hbytes ?_ ?_
  · intro j u' hj
    match j, hj with
    | 0, hj =>
      simp at hj
      subst hj
      rw [show (⟨w.heap.size, 0, none⟩ : Addr).add 0 = ⟨w.heap.size, 0, none⟩ from rfl, World.cell?_alloc_at _ _ _ _ rfl]
      rfl
  · intro u' hu'
    simp at hu'
    subst hu'
    exact hu
  · have := hb.size
    simp
    omega
  · intro v' w' h1 h2 _
    refine h v' w' h1 ((hb.alloc hb.size _).grown h2 (by have := hb.size; simp; omega) ?_)
    intro k hk
    exact (World.ownsRow.lt hown k hk).1
end

section
variable {P : Program} {w w0 : World} {ops : Array Oper} {o : Oper} {a : Act} {Q : Exit → Act → World → Prop} {K : Act → World → Prop} {X : Prop}
/-- append(out, u), as one step of a region that draws its order. -/
theorem st_app1 (hgd : o.guard = none) (s x : Operand) (t : TypeId) (ho : o.op = .call { callee := .builtin .append, args := #[s, x], argTypes := #[t, t] })
    {E : TypeId} {z : Value} {bytes : Nat} (he : Elem P t E z bytes) (v : Value) (n : Nat) (vs : List Value) (hs : a.eval s = v) (hown : Ow w w0.heap.size E v n vs)
    (u : Value) (hx : a.eval x = .slice (some ⟨w.heap.size, 0, none⟩) 1 1) (hu : u.oneCell' = true) (h63 : n + 1 ≤ maxLen) (hbytes : (n + 1) * bytes ≤ 140737488355328) (hb : Below w0.heap.size w0 w)
    (h : ∀ v' w', Ow w' w0.heap.size E v' (n + 1) (vs ++ [u]) → Below w0.heap.size w0 w' → K (a.put o.dst v') w') :
    if Region.wanted o (yielded ops a.tmps) = true then Oper.wp P o a (w.alloc (.cells #[u] E)) K Q else X := by
  have hw : Region.wanted o (yielded ops a.tmps) = true := by simp [Region.wanted, hgd]
  rw [if_pos hw]
  obtain ⟨i, h2, h3, h4, h5⟩ := he.info
  subst h5
  refine wp_append_own (w.alloc (.cells #[u] E)) s x t ho w0.heap.size E i z 1 i.bytes he.und h2 h3 h4 rfl (by rw [he.one]; rfl) (by decide) v n vs hs (World.ownsRow.alloc hown _) ⟨w.heap.size, 0, none⟩ 1 1 [u] hx rfl ?_ ?_ h63 hbytes ?_ ?_
  · intro j u' hj
    match j, hj with
    | 0, hj =>
      simp at hj
      subst hj
      rw [show (⟨w.heap.size, 0, none⟩ : Addr).add 0 = ⟨w.heap.size, 0, none⟩ from rfl, World.cell?_alloc_at _ _ _ _ rfl]
      rfl
  · intro u' hu'
    simp at hu'
    subst hu'
    exact hu
  · have := hb.size
    simp
    omega
  · intro v' w' h1 h2 _
    refine h v' w' h1 ((hb.alloc hb.size _).grown h2 (by have := hb.size; simp; omega) ?_)
    intro k hk
    exact (World.ownsRow.lt hown k hk).1
end

/- A list being filled from its head. -/
def fill (vs : List Value) (n k : Nat) (z : Value) : List Value := vs.take k ++ List.replicate (n - k) z
theorem fill_zero (vs : List Value) (n : Nat) (z : Value) : fill vs n 0 z = List.replicate n z := by simp [fill]
theorem fill_full {vs : List Value} {n : Nat} (h : vs.length = n) (z : Value) : fill vs n n z = vs := by
  unfold fill; rw [Nat.sub_self, List.take_of_length_le (by omega)]; simp
theorem fill_get {vs : List Value} {n k : Nat} (h : vs.length = n) (hk : k < n) (z : Value) : (fill vs n k z)[k]? = some z := by
  unfold fill
  have hl : (vs.take k).length = k := by simp; omega
  rw [List.getElem?_append_right (by omega), hl, Nat.sub_self, List.getElem?_replicate, if_pos (by omega)]
theorem fill_set {vs : List Value} {n k : Nat} (h : vs.length = n) (hk : k < n) (z u : Value) (hu : vs[k]? = some u) : (fill vs n k z).set k u = fill vs n (k + 1) z := by
  unfold fill
  have hl : (vs.take k).length = k := by simp; omega
  obtain ⟨d, hd⟩ : ∃ d, n - k = d + 1 := ⟨n - k - 1, by omega⟩
  have hd2 : n - (k + 1) = d := by omega
  rw [List.set_append_right _ _ (by omega), hl, Nat.sub_self, hd, hd2, List.replicate_succ, List.set_cons_zero]
  have hk2 : k < vs.length := by omega
  rw [List.getElem?_eq_getElem hk2] at hu
  injection hu with hu
  rw [List.take_succ_eq_append_getElem hk2, hu, List.append_assoc]
  rfl

/- Only one block is another. -/
structure Only (w w' : World) (A : Option Addr) : Prop where
  os : w'.os = w.os
  tape : w'.tape = w.tape
  output : w'.output = w.output
  size : w'.heap.size = w.heap.size
  block : ∀ i, (∀ a, A = some a → i ≠ a.block) → w'.heap[i]? = w.heap[i]?
theorem Only.refl (w : World) (A : Option Addr) : Only w w A := ⟨rfl, rfl, rfl, rfl, fun _ _ => rfl⟩
theorem Only.trans {a b c : World} {A : Option Addr} (h : Only a b A) (k : Only b c A) : Only a c A :=
  ⟨k.os.trans h.os, k.tape.trans h.tape, k.output.trans h.output, k.size.trans h.size, fun i hi => (k.block i hi).trans (h.block i hi)⟩
theorem Only.drewN {a b : World} {A : Option Addr} (h : Only a b A) (m : Nat) : Only a (b.drewN m) A := ⟨h.os, h.tape, h.output, h.size, h.block⟩
theorem Only.setCell {a b : World} {g : Nat} {o : Nat} (h : Only a b (some ⟨g, o, none⟩)) (j : Nat) (u : Value) : Only a (b.setCell ⟨g, j, none⟩ u) (some ⟨g, o, none⟩) :=
  h.trans ⟨rfl, rfl, rfl, by simp [World.setCell], fun i hi => Below.heap_setCell b _ u i (hi ⟨g, o, none⟩ rfl)⟩
theorem Only.below {w w' : World} {A : Option Addr} {B : Nat} (h : Only w w' A) (hA : ∀ a, A = some a → B ≤ a.block) : Below B w w' :=
  ⟨h.os, h.tape, h.output, by rw [h.size]; exact Nat.le_refl _, fun k hk => h.block k fun a ha => by have := hA a ha; omega⟩
/-- Two slices that share no block. -/
def Apart (A A' : Option Addr) : Prop := ∀ a a', A = some a → A' = some a' → a.block ≠ a'.block
theorem Sl.only {w w' : World} {A A' : Option Addr} {n : Nat} {vs : List Value} (h : Sl w A n vs) (ho : Only w w' A') (hne : Apart A A') : Sl w' A n vs := by
  refine ⟨h.1, ?_⟩
  rcases h.2 with h0 | ⟨b, o, rfl, hb, hc⟩
  · exact .inl h0
  · refine .inr ⟨b, o, rfl, by rw [ho.size]; exact hb, fun k v hv => ?_⟩
    have := ho.block b (fun a ha => by have := hne _ a rfl ha; exact this)
    rw [← hc k v hv]
    exact World.cell?_of_block (w := w) this
theorem Ow.ge {w : World} {B n c : Nat} {E : TypeId} {A : Option Addr} {vs : List Value} (h : Ow w B E (.slice A n c) n vs) : ∀ a, A = some a → B ≤ a.block ∧ a.block < w.heap.size := by
  intro a ha
  subst ha
  exact World.ownsRow.lt h a.block rfl
theorem Ow.only {w w' : World} {B n c : Nat} {E : TypeId} {A A' : Option Addr} {vs : List Value} (h : Ow w B E (.slice A n c) n vs) (ho : Only w w' A') (hne : Apart A A') : Ow w' B E (.slice A n c) n vs := by
  refine ⟨h.1, ?_⟩
  rcases h.2 with hn | ⟨g, cap, cur, hv, hg, hh, r⟩
  · exact .inl hn
  · refine .inr ⟨g, cap, cur, hv, hg, ?_, r⟩
    injection hv with h1 _ _
    rw [ho.block g (fun a ha => hne ⟨g, 0, none⟩ a h1 ha)]
    exact hh
theorem ints_one (xs : List Int) : ∀ u ∈ xs.map (Value.int .i64), u.oneCell' = true := by
  intro u hu
  obtain ⟨x, _, rfl⟩ := List.mem_map.1 hu
  rfl

/- Nothing but draws. -/
def Dr (w w' : World) : Prop := ∃ m, w' = w.drewN m
theorem Dr.refl (w : World) : Dr w w := ⟨0, rfl⟩
theorem Dr.drewN {a b : World} (h : Dr a b) (m : Nat) : Dr a (b.drewN m) := by
  obtain ⟨k, rfl⟩ := h
  exact ⟨k + m, by rw [World.drewN_drewN]⟩
theorem Dr.trans {a b c : World} (h : Dr a b) (k : Dr b c) : Dr a c := by
  obtain ⟨m, rfl⟩ := k
  exact h.drewN m
theorem Dr.cell {a b : World} (h : Dr a b) (p : Addr) : b.cell? p = a.cell? p := by obtain ⟨m, rfl⟩ := h; rfl
theorem Dr.below {a b : World} (h : Dr a b) : Below a.heap.size a b := by obtain ⟨m, rfl⟩ := h; exact below_drewN (Below.refl _ _) m

/- Slices of whole numbers. -/
def iv (n : Int) : Value := .int .i64 n
def inth (xs : List Int) (k : Nat) : Int := xs.getD k 0
theorem inth_eq {xs : List Int} {k : Nat} (h : k < xs.length) : inth xs k = xs[k] := by
  unfold inth; rw [List.getD_eq_getElem?_getD, List.getElem?_eq_getElem h]; rfl
theorem Sl.int_at {w : World} {A : Option Addr} {n k : Nat} {xs : List Int} (h : Sl w A n (xs.map iv)) (hk : k < n) :
    ∃ b o, A = some ⟨b, o, none⟩ ∧ b < w.heap.size ∧ ∀ j, j < n → w.cell? ⟨b, o + j, none⟩ = some (.int .i64 (inth xs j)) := by
  obtain ⟨b, o, hA, hb, hc⟩ := Sl.at_ h hk
  have hl := h.len
  rw [List.length_map] at hl
  refine ⟨b, o, hA, hb, fun j hj => hc j _ ?_⟩
  rw [List.getElem?_map, inth_eq (by omega), List.getElem?_eq_getElem (by omega)]
  rfl
theorem int_all_take_succ {xs : List Int} {k : Nat} (hk : k < xs.length) (p : Int → Bool) : (xs.take (k + 1)).all p = ((xs.take k).all p && p (inth xs k)) := by
  rw [List.take_succ_eq_append_getElem hk, List.all_append, inth_eq hk]
  simp
theorem int_all_false_of {xs : List Int} {k : Nat} (hk : k < xs.length) {p : Int → Bool} (h : p (inth xs k) = false) : xs.all p = false := by
  rw [inth_eq hk] at h
  exact List.all_eq_false.2 ⟨xs[k], List.getElem_mem hk, by simpa using h⟩
theorem Ow.empty (w : World) (E : TypeId) : Ow (w.alloc (.cells #[] E)) w.heap.size E (.slice (some ⟨w.heap.size, 0, none⟩) 0 0) 0 [] :=
  World.ownsRow_lit w #[] 0 (Nat.le_refl _) (Nat.zero_le _) rfl
theorem below_alloc (w : World) (o : Obj) : Below w.heap.size w (w.alloc o) := (Below.refl _ _).alloc (Nat.le_refl _) o
/-- A new slice of complex64, and whether there is one. -/
def RetC (w : World) (ys : List C) (ok : Bool) (e : Ending) (w' : World) : Prop :=
  ∃ A m c, e = .returned (.tuple #[.slice A m c, .bool ok]) ∧ Ow w' w.heap.size 73 (.slice A m c) m (ys.map cv) ∧ Below w.heap.size w w'
def RetO (w : World) (o : Option (List C)) (e : Ending) (w' : World) : Prop := RetC w (o.getD []) o.isSome e w'
/-- A new slice of complex64. -/
def RetS (w : World) (ys : List C) (e : Ending) (w' : World) : Prop :=
  ∃ A m c, e = .returned (.slice A m c) ∧ Ow w' w.heap.size 73 (.slice A m c) m (ys.map cv) ∧ Below w.heap.size w w'
theorem RetC.nil_ {w w' : World} (h : Below w.heap.size w w') : RetC w [] false (.returned (.tuple #[.slice none 0 0, .bool false])) w' := ⟨_, _, _, rfl, Ow.nil_ _ _ _, h⟩
theorem RetS.nil_ {w w' : World} (h : Below w.heap.size w w') : RetS w [] (.returned (.slice none 0 0)) w' := ⟨_, _, _, rfl, Ow.nil_ _ _ _, h⟩
end Go.Proofs.YtnomlkkhkacajaaGreatDoor
namespace Go.Proofs.YtnomlkkhkacajaaGreatDoor
open Go.RowKit


set_option maxHeartbeats 400000 in
theorem iFinite (z : C) (w : World) :
    Calls Tryz.prog 88 #[cv z] w fun e w' => e = .returned (.bool (finB z)) ∧ Dr w w' := by
  obtain ⟨x, y⟩ := z
  unfold cv
  by_cases hx : Fin Ieee.single x
  · obtain ⟨r1, e1, o1⟩ := sub_self_fin (k := .f32) hx
    have q1 := fun w => run_float_arith (P := Tryz.prog) w .sub 131 .f32 x x r1 e1
    by_cases hy : Fin Ieee.single y
    · obtain ⟨r2, e2, o2⟩ := sub_self_fin (k := .f32) hy
      have q2 := fun w => run_float_arith (P := Tryz.prog) w .sub 131 .f32 y y r2 e2
      clear e1 e2
      rw [show finB (x, y) = true by simp [finB, hx, hy]]
      clear hx hy
      go_enter Tryz.func88, Tryz.ntmps88
      go_wp2
      go_ret
      exact ⟨rfl, 0, rfl⟩
    · obtain ⟨b, hb, q2⟩ := run_float_nan Tryz.prog (.inr (.inl rfl)) 131 (sub_self_not (k := .f32) hy)
      have o2 := fun w => order_nan_l (hb w) 0
      clear e1 hb
      rw [show finB (x, y) = false by simp [finB, hx, hy]]
      clear hx hy
      go_enter Tryz.func88, Tryz.ntmps88
      go_wp2
      go_ret
      exact ⟨rfl, 1, rfl⟩
  · obtain ⟨b, hb, q1⟩ := run_float_nan Tryz.prog (.inr (.inl rfl)) 131 (sub_self_not (k := .f32) hx)
    have o1 := fun w => order_nan_l (hb w) 0
    clear hb
    rw [show finB (x, y) = false by simp [finB, hx]]
    clear hx
    go_enter Tryz.func88, Tryz.ntmps88
    go_wp2
    go_ret
    exact ⟨rfl, 1, rfl⟩

set_option maxHeartbeats 400000 in
theorem sFinite (z : C) (w : World) :
    Calls Tryz.prog 115 #[cv z] w fun e w' => e = .returned (.bool (finB z)) ∧ Dr w w' := by
  obtain ⟨x, y⟩ := z
  unfold cv
  by_cases hx : Fin Ieee.single x
  · obtain ⟨r1, e1, o1⟩ := sub_self_fin (k := .f32) hx
    have q1 := fun w => run_float_arith (P := Tryz.prog) w .sub 131 .f32 x x r1 e1
    by_cases hy : Fin Ieee.single y
    · obtain ⟨r2, e2, o2⟩ := sub_self_fin (k := .f32) hy
      have q2 := fun w => run_float_arith (P := Tryz.prog) w .sub 131 .f32 y y r2 e2
      clear e1 e2
      rw [show finB (x, y) = true by simp [finB, hx, hy]]
      clear hx hy
      go_enter Tryz.func115, Tryz.ntmps115
      go_wp2
      go_ret
      exact ⟨rfl, 0, rfl⟩
    · obtain ⟨b, hb, q2⟩ := run_float_nan Tryz.prog (.inr (.inl rfl)) 131 (sub_self_not (k := .f32) hy)
      have o2 := fun w => order_nan_l (hb w) 0
      clear e1 hb
      rw [show finB (x, y) = false by simp [finB, hx, hy]]
      clear hx hy
      go_enter Tryz.func115, Tryz.ntmps115
      go_wp2
      go_ret
      exact ⟨rfl, 1, rfl⟩
  · obtain ⟨b, hb, q1⟩ := run_float_nan Tryz.prog (.inr (.inl rfl)) 131 (sub_self_not (k := .f32) hx)
    have o1 := fun w => order_nan_l (hb w) 0
    clear hb
    rw [show finB (x, y) = false by simp [finB, hx]]
    clear hx
    go_enter Tryz.func115, Tryz.ntmps115
    go_wp2
    go_ret
    exact ⟨rfl, 1, rfl⟩

theorem ret_int {k : IntKind} {a b : Int} (h : a = b) : Ending.returned (.int k a) = .returned (.int k b) := by rw [h]
theorem ret_bool {a b : Bool} (h : a = b) : Ending.returned (.bool a) = .returned (.bool b) := by rw [h]

set_option maxHeartbeats 400000 in
theorem iSignalOk (A : Option Addr) (n c : Nat) (xs : List C) (w : World) (hn : n ≤ 9223372036854775807) (hx : Cs w A n xs) :
    Calls Tryz.prog 43 #[.slice A n c] w fun e w' => e = .returned (.bool (sigB xs)) ∧ Dr w w' := by
  have hl := hx.len
  by_cases h16 : n ≤ 16
  · have hs : sigB xs = xs.all finB := by unfold sigB; simp [hl, h16]
    rw [hs]
    have HL := Lib.hid hl
    clear hl hs
    go_enter Tryz.func43, Tryz.ntmps43
    go_wp2_with fail
    go_loopw [10] (fun i wr => ∃ k : Nat, k ≤ n ∧ i = .int .i64 k ∧ (xs.take k).all finB = true ∧ ∃ m, wr = w.drewN m) (fun i _ => n - (intOf i).toNat)
    case atStart => exact ⟨0, by omega, rfl, rfl, 0, rfl⟩
    case round =>
      obtain ⟨k, hk, rfl, hf, m, rfl⟩ := hrel
      have HF := Lib.hid hf
      clear hf
      by_cases hlt : k < n
      · obtain ⟨b, o, rfl, hb, hc⟩ := hx.at_ hlt
        have hck := hc k hlt
        clear hc hx
        by_cases hfin : finB (nth xs k) = true
        · go_wp2_with (go_at_call 88; refine (iFinite _ _).mono ?_; rintro e w' ⟨rfl, m', rfl⟩)
          go_roundw
          case rel => exact ⟨k + 1, by omega, by go_num, by rw [all_take_succ (by rw [HL.out]; omega), HF.out, hfin]; rfl, _, rfl⟩
          case measure => simp [intOf]; omega
        · have hfin' : finB (nth xs k) = false := by simpa using hfin
          clear hfin
          go_wp2_with (go_at_call 88; refine (iFinite _ _).mono ?_; rintro e w' ⟨rfl, m', rfl⟩)
          go_ret
          exact ⟨ret_bool (all_false_of (by rw [HL.out]; omega) hfin').symm, _, rfl⟩
      · go_wp2_with fail
        go_ret
        exact ⟨ret_bool (by rw [← HF.out, List.take_of_length_le (by rw [HL.out]; omega)]), _, rfl⟩
  · have hs : sigB xs = false := by unfold sigB; simp [hl, h16]
    rw [hs]
    clear hl hs hx
    go_enter Tryz.func43, Tryz.ntmps43
    go_wp2_with fail
    go_ret
    exact ⟨rfl, 0, rfl⟩
end Go.Proofs.YtnomlkkhkacajaaGreatDoor
namespace Go.Proofs.YtnomlkkhkacajaaGreatDoor
open Go.RowKit

theorem Tryz.eI : Elem Tryz.prog 92 3 (.int .i64 0) 8 := Elem.mk' Tryz.underlying92 (by kernel_rfl) rfl
theorem Tryz.eC : Elem Tryz.prog 23 73 (.complex .f32 0 0) 8 := Elem.mk' Tryz.underlying23 (by kernel_rfl) rfl

theorem one_div {x : Nat} (h : Fin Ieee.double x) : ∃ r, floatBits .quo .f64 4607182418800017408 x = some r := by
  obtain ⟨m, p, e, _⟩ := read_fin Ieee.double h
  have e1 : Ieee.double.read 4607182418800017408 = .number false 4503599627370496 (-52) := by decide
  show ∃ r, Option.map _ (Ieee.Datum.quotient _ (Ieee.double.read 4607182418800017408) (Ieee.double.read x)) = some r
  rw [e1, e]
  unfold Ieee.Datum.quotient
  by_cases h0 : m = 0
  · simp [h0]
  · simp [h0]
theorem finB_iff {z : C} : finB z = true ↔ Fin Ieee.single z.1 ∧ Fin Ieee.single z.2 := by simp [finB]
theorem all_fin_nth {xs : List C} {k : Nat} (h : xs.all finB = true) (hk : k < xs.length) : Fin Ieee.single (nth xs k).1 ∧ Fin Ieee.single (nth xs k).2 := by
  rw [nth_eq hk]
  exact finB_iff.1 (List.all_eq_true.1 h _ (List.getElem_mem hk))
def mk1 (k : Nat) : C := (narrow (floatOfInt .f64 k), 1065353216)
def marks (k n : Nat) : List C := (List.range n).map fun j => mk1 (k + j)
theorem marks_len (k n : Nat) : (marks k n).length = n := by simp [marks]
theorem marks_get {k n j : Nat} (h : j < n) : ((marks k n).map cv)[j]? = some (cv (mk1 (k + j))) := by
  simp [marks, h]
theorem narrow_one : narrow 4607182418800017408 = 1065353216 := by decide
theorem mark_conv {k : Nat} (h : k ≤ 1048576) : cConvBits .f64 (floatOfInt .f64 k) 4607182418800017408 .f32 = some ((mk1 k).1, 1065353216) ∧ Fin Ieee.single (mk1 k).1 := by
  have h1 := int_whl (n := (k : Int)) (by omega)
  have h2 := narrow_whl h1 (by omega)
  have h3 : Fin Ieee.double 4607182418800017408 := by decide
  have h4 : Fin Ieee.single (narrow 4607182418800017408) := by rw [narrow_one]; decide
  have := cconv_narrow h1.1 h2.1 h3 h4
  rw [narrow_one] at this
  exact ⟨this, h2.1⟩
theorem over_set {L vs : List Value} {n k : Nat} (hL : L.length = n) (hv : vs.length = n) (hk : k < n) {u : Value} (hu : L[k]? = some u) :
    (L.take k ++ vs.drop k).set k u = L.take (k + 1) ++ vs.drop (k + 1) := by
  have hl : (L.take k).length = k := by simp; omega
  have hk2 : k < L.length := by omega
  rw [List.getElem?_eq_getElem hk2] at hu
  injection hu with hu
  rw [List.set_append_right _ _ (by omega), hl, Nat.sub_self, List.drop_eq_getElem_cons (show k < vs.length by omega), List.set_cons_zero, List.take_succ_eq_append_getElem hk2, hu, List.append_assoc]
  rfl
end Go.Proofs.YtnomlkkhkacajaaGreatDoor
