/- The reader of a code: its block, and the numbers that are picked from it. -/
import Derived.Test.YtemcdeopehdggaaDoorB1
namespace Go.Proofs.YtemcdeopehdggaaDoor
open Go.RowKit

/-- All blocks but one stay. -/
structure Pk (g : Nat) (w w' : World) : Prop where
  os : w'.os = w.os
  tape : w'.tape = w.tape
  output : w'.output = w.output
  size : w.heap.size ≤ w'.heap.size
  block : ∀ i, i < w.heap.size → i ≠ g → w'.heap[i]? = w.heap[i]?
theorem Pk.refl (g : Nat) (w : World) : Pk g w w := ⟨rfl, rfl, rfl, Nat.le_refl _, fun _ _ _ => rfl⟩
theorem Pk.trans {g : Nat} {a b c : World} (h : Pk g a b) (k : Pk g b c) : Pk g a c :=
  ⟨k.os.trans h.os, k.tape.trans h.tape, k.output.trans h.output, Nat.le_trans h.size k.size, fun i hi hg => (k.block i (Nat.lt_of_lt_of_le hi h.size) hg).trans (h.block i hi hg)⟩
theorem Pk.drewN {g : Nat} {a b : World} (h : Pk g a b) (m : Nat) : Pk g a (b.drewN m) := ⟨h.os, h.tape, h.output, h.size, h.block⟩
theorem Pk.of_drewN {g : Nat} {a b : World} {m : Nat} (h : Pk g (a.drewN m) b) : Pk g a b := ⟨h.os, h.tape, h.output, h.size, h.block⟩
theorem Pk.setCell {g : Nat} {a b : World} (h : Pk g a b) (j : Nat) (u : Value) : Pk g a (b.setCell ⟨g, j, none⟩ u) :=
  h.trans ⟨rfl, rfl, rfl, by simp [World.setCell], fun i _ hg => Below.heap_setCell b _ u i hg⟩
theorem Pk.below {g B : Nat} {a b : World} (h : Pk g a b) (hB : B ≤ g) (hs : B ≤ a.heap.size) : Below B a b :=
  ⟨h.os, h.tape, h.output, h.size, fun k hk => h.block k (by omega) (by omega)⟩
theorem Pk.of_below {g : Nat} {a b : World} (h : Below a.heap.size a b) : Pk g a b := ⟨h.os, h.tape, h.output, h.size, fun k hk _ => h.block k hk⟩
theorem Pk.cell {g : Nat} {a b : World} (h : Pk g a b) {p : Addr} (hp : p.block < a.heap.size) (hg : p.block ≠ g) : b.cell? p = a.cell? p :=
  World.cell?_of_block (h.block p.block hp hg)
theorem Ow.pk {w w' : World} {B n g : Nat} {E : TypeId} {v : Value} {vs : List Value} (h : Ow w B E v n vs) (hp : Pk g w w') (hg : g < B) : Ow w' B E v n vs := by
  refine ⟨h.1, ?_⟩
  rcases h.2 with hn | ⟨g', cap, cur, hv, hg', hh, r⟩
  · exact .inl hn
  · exact .inr ⟨g', cap, cur, hv, hg', by rw [hp.block g' (Array.getElem?_eq_some_iff.1 hh).1 (by omega)]; exact hh, r⟩
theorem Ow.pk' {w w' : World} {B n g : Nat} {E : TypeId} {v : Value} {vs : List Value} (h : Ow w B E v n vs) (hp : Pk g w w') (hg : ∀ a m c, v = .slice (some a) m c → a.block ≠ g) : Ow w' B E v n vs := by
  refine ⟨h.1, ?_⟩
  rcases h.2 with hn | ⟨g', cap, cur, hv, hg', hh, r⟩
  · exact .inl hn
  · exact .inr ⟨g', cap, cur, hv, hg', by rw [hp.block g' (Array.getElem?_eq_some_iff.1 hh).1 (hg _ _ _ hv)]; exact hh, r⟩

/-- Bytes that are read. -/
def Bs (w : World) (g : Nat) (A : Option Addr) (n : Nat) : Prop :=
  n = 0 ∨ ∃ b o, A = some ⟨b, o, none⟩ ∧ b < g ∧ ∀ k, k < n → ∃ u : Nat, u < 256 ∧ w.cell? ⟨b, o + k, none⟩ = some (.int .u8 u)
/-- The reader at block g, from which at most p numbers have been picked. -/
structure Rd (w : World) (g p : Nat) : Prop where
  lt : g < w.heap.size
  fr : w.frozen? ⟨g, 1, none⟩ = false
  at_ : ∃ (A : Option Addr) (n c q : Nat), w.cell? ⟨g, 0, none⟩ = some (.slice A n c) ∧ w.cell? ⟨g, 1, none⟩ = some (.int .i64 q) ∧ q ≤ p ∧ n ≤ 2000 ∧ Bs w g A n
theorem frozen_of_block {w w' : World} {a : Addr} (h : w'.heap[a.block]? = w.heap[a.block]?) : w'.frozen? a = w.frozen? a := by
  unfold World.frozen?
  rw [h]
theorem Rd.mono {w : World} {g p q : Nat} (h : Rd w g p) (hq : p ≤ q) : Rd w g q := by
  obtain ⟨h1, h2, A, n, c, k, h3, h4, h5, h6⟩ := h
  exact ⟨h1, h2, A, n, c, k, h3, h4, by omega, h6⟩
theorem Bs.below {w w' : World} {g n B : Nat} {A : Option Addr} (h : Bs w g A n) (hb : Below B w w') (hB : g < B) : Bs w' g A n := by
  rcases h with h | ⟨b, o, h1, h2, h4⟩
  · exact .inl h
  · exact .inr ⟨b, o, h1, h2, fun k hk => by
      obtain ⟨u, h5, h6⟩ := h4 k hk
      exact ⟨u, h5, (hb.cell (p := ⟨b, o + k, none⟩) (show b < B by omega)).trans h6⟩⟩
theorem Rd.belowB {w w' : World} {g p B : Nat} (h : Rd w g p) (hb : Below B w w') (hB : g < B) : Rd w' g p := by
  obtain ⟨h1, h2, A, n, c, k, h3, h4, h5, h6, h7⟩ := h
  exact ⟨Nat.lt_of_lt_of_le h1 hb.size, by rw [frozen_of_block (hb.block g hB)]; exact h2, A, n, c, k, (hb.cell (p := ⟨g, 0, none⟩) hB).trans h3, (hb.cell (p := ⟨g, 1, none⟩) hB).trans h4, h5, h6, h7.below hb hB⟩
theorem Rd.below {w w' : World} {g p : Nat} (h : Rd w g p) (hb : Below w.heap.size w w') : Rd w' g p := h.belowB hb h.lt
theorem Pk.belowB {g B : Nat} {a b c : World} (h : Pk g a b) (k : Below B b c) (hB : a.heap.size ≤ B) : Pk g a c :=
  ⟨k.os.trans h.os, k.tape.trans h.tape, k.output.trans h.output, Nat.le_trans h.size k.size, fun i hi hg => (k.block i (by omega)).trans (h.block i hi hg)⟩
theorem add_none0 (b i : Nat) : (⟨b, 0, none⟩ : Addr).add i = ⟨b, i, none⟩ := by
  unfold Addr.add
  split
  · rename_i h; subst h; rfl
  · simp
section
variable {P : Program} {w : World} {ops : Array Oper} {rest : List Oper} {o : Oper} {a : Act} {Q : Exit → Act → World → Prop} {K : Act → World → Prop} {X : Prop}
/-- append(out, us..), where nothing below a block changes. -/
theorem wl_appB (B : Nat) (us : List Value) (hB : B ≤ w.heap.size) (hgd : o.guard = none) (s x : Operand) (t : TypeId) (ho : o.op = .call { callee := .builtin .append, args := #[s, x], argTypes := #[t, t] })
    {E : TypeId} {z : Value} {bytes : Nat} (he : Elem P t E z bytes) (v : Value) (n : Nat) (vs : List Value) (hs : a.eval s = v) (hown : Ow w B E v n vs)
    (hx : a.eval x = .slice (some ⟨w.heap.size, 0, none⟩) us.length us.length) (hu : ∀ u ∈ us, u.oneCell' = true) (h63 : n + us.length ≤ maxLen) (hbytes : (n + us.length) * bytes ≤ 140737488355328)
    (h : ∀ v' w', Ow w' B E v' (n + us.length) (vs ++ us) → Below B w w' → wpList P ops Q rest (a.put o.dst v') w') : wpList P ops Q (o :: rest) a (w.alloc (.cells us.toArray E)) := by
  obtain ⟨i, h2, h3, h4, h5⟩ := he.info
  subst h5
  refine wpList_append_own (w.alloc (.cells us.toArray E)) hgd s x t ho B E i z 1 i.bytes he.und h2 h3 h4 rfl (by rw [he.one]; rfl) (by decide) v n vs hs (World.ownsRow.alloc hown _) ⟨w.heap.size, 0, none⟩ us.length us.length us hx (by simp) ?_ hu h63 hbytes ?_ ?_
  · intro j u' hj
    have hj' := (List.getElem?_eq_some_iff.1 hj).1
    rw [add_none0, World.cell?_alloc_at _ _ _ _ rfl]
    simpa using hj
  · simp
    omega
  · intro v' w' h1 h2 _
    refine h v' w' h1 (((Below.refl B w).alloc hB _).grown h2 (by simp; omega) ?_)
    intro k hk
    exact (World.ownsRow.lt hown k hk).1
end
theorem Rd.drewN {w : World} {g p : Nat} (h : Rd w g p) (m : Nat) : Rd (w.drewN m) g p := ⟨h.lt, h.fr, h.at_⟩
end Go.Proofs.YtemcdeopehdggaaDoor
