/- A slice appended to one of the call's own. -/
import Derived.Test.YtficlmnjbbpicaaD1
import Derived.Laws.AppendOwnNone
namespace Go.Proofs.Ytficlmnjbbpicaa
open Go.RowKit

section
variable {P : Program} {w : World} {ops : Array Oper} {rest : List Oper} {o : Oper} {a : Act} {Q : Exit → Act → World → Prop}
/-- append(out, us...), where nothing below a block changes. -/
theorem wl_appS (B : Nat) (us : List Value) (hB : B ≤ w.heap.size) (hgd : o.guard = none) (s x : Operand) (t : TypeId) (ho : o.op = .call { callee := .builtin .append, args := #[s, x], argTypes := #[t, t] })
    {E : TypeId} {z : Value} {bytes : Nat} (he : Elem P t E z bytes) (v : Value) (n : Nat) (vs : List Value) (hs : a.eval s = v) (hown : Ow w B E v n vs)
    (A : Option Addr) (m c : Nat) (hx : a.eval x = .slice A m c) (hnil : A = none → c = 0) (hsl : Sl w A m us) (hu : ∀ u ∈ us, u.oneCell' = true) (h63 : n + m ≤ maxLen) (hbytes : (n + m) * bytes ≤ 140737488355328)
    (h : ∀ v' w', Ow w' B E v' (n + m) (vs ++ us) → Below B w w' → wpList P ops Q rest (a.put o.dst v') w') : wpList P ops Q (o :: rest) a w := by
  obtain ⟨i, h2, h3, h4, h5⟩ := he.info
  subst h5
  have hl := hsl.len
  cases A with
  | none =>
    have hm : m = 0 := by
      rcases hsl.2 with h0 | ⟨b, o', h0, _⟩
      · exact h0
      · cases h0
    subst hm
    have hc := hnil rfl
    subst hc
    have hus : us = [] := List.length_eq_zero_iff.1 hl
    subst hus
    refine wpList_append_own_none hgd s x t ho B E i 1 he.und h2 v n vs hs hown hx ?_
    have := h v w (by rw [List.append_nil]; exact hown) (Below.refl _ _)
    exact this
  | some ad =>
    refine wpList_append_own w hgd s x t ho B E i z 1 i.bytes he.und h2 h3 h4 rfl (by rw [he.one]; rfl) (by decide) v n vs hs hown ad m c us hx (by omega) ?_ hu h63 hbytes hB ?_
    · intro j u hj
      have hjl := (List.getElem?_eq_some_iff.1 hj).1
      obtain ⟨b, o', h0, _, hc⟩ := hsl.at_ (k := j) (by omega)
      injection h0 with h0
      subst h0
      rw [show (⟨b, o', none⟩ : Addr).add j = ⟨b, o' + j, none⟩ by unfold Addr.add; split <;> first | rfl | (rename_i h; subst h; rfl)]
      exact hc j u hj
    · intro v' w' h1 h2 _
      refine h v' w' h1 ((Below.refl B w).grown h2 hB ?_)
      intro k hk
      exact (World.ownsRow.lt hown k hk).1
end
theorem cvs_one (xs : List C) : ∀ u ∈ xs.map cv, u.oneCell' = true := by
  intro u hu
  obtain ⟨z, _, rfl⟩ := List.mem_map.1 hu
  rfl
end Go.Proofs.Ytficlmnjbbpicaa
