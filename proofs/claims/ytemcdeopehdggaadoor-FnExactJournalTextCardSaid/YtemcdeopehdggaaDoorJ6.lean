/- Lists of deeds in memory. -/
import Derived.Test.YtemcdeopehdggaaDoorJ5
namespace Go.Proofs.YtemcdeopehdggaaDoor
open Go.RowKit
open Go.Lib hiding intOf

/-- The cells of a deed. -/
def dcs (a : Dd) : List Value := [.int .i64 a.kind, .int .i64 a.num, .string (bs a.text)]
theorem dcs_len (ds : List Dd) : (ds.flatMap dcs).length = ds.length * 3 := by
  induction ds with
  | nil => rfl
  | cons a r ih => rw [List.flatMap_cons, List.length_append, ih, List.length_cons]; show 3 + _ = _; omega
theorem dcs_get : ∀ {ds : List Dd} {k : Nat} {a : Dd}, ds[k]? = some a → (ds.flatMap dcs)[k * 3]? = some (.int .i64 a.kind) ∧ (ds.flatMap dcs)[k * 3 + 1]? = some (.int .i64 a.num) ∧ (ds.flatMap dcs)[k * 3 + 2]? = some (.string (bs a.text))
  | [], k, a, h => by simp at h
  | b :: r, 0, a, h => by
    simp at h; subst h
    exact ⟨rfl, rfl, rfl⟩
  | b :: r, k + 1, a, h => by
    have := dcs_get (ds := r) (k := k) (a := a) (by simpa using h)
    have e : ∀ j, ((b :: r).flatMap dcs)[3 + j]? = (r.flatMap dcs)[j]? := fun j => by
      rw [List.flatMap_cons, List.getElem?_append_right (by show 3 ≤ _; omega)]
      show _[3 + j - 3]? = _
      congr 1; omega
    refine ⟨?_, ?_, ?_⟩
    · rw [show (k + 1) * 3 = 3 + k * 3 by omega, e]; exact this.1
    · rw [show (k + 1) * 3 + 1 = 3 + (k * 3 + 1) by omega, e]; exact this.2.1
    · rw [show (k + 1) * 3 + 2 = 3 + (k * 3 + 2) by omega, e]; exact this.2.2
/-- A list of deeds of the call's own. -/
def Od (w : World) (B : Nat) (v : Value) (n : Nat) (ds : List Dd) : Prop := w.ownsRow B 44 3 v n (ds.flatMap dcs)
section
variable {w w' : World} {B n : Nat} {v : Value} {ds : List Dd}
theorem Od.len (h : Od w B v n ds) : ds.length = n := by have h1 := h.1; rw [dcs_len] at h1; omega
theorem Od.nil_ (w : World) (B : Nat) : Od w B (.slice none 0 0) 0 [] := World.ownsRow_nil w B 44 3
theorem Od.shape (h : Od w B v n ds) : ∃ A c, v = .slice A n c := by
  rcases h.2 with ⟨rfl, rfl⟩ | ⟨g, cap, cur, rfl, _⟩
  · exact ⟨_, _, rfl⟩
  · exact ⟨_, _, rfl⟩
theorem Od.below (h : Od w B v n ds) (hb : Below w.heap.size w w') : Od w' B v n ds := by
  refine ⟨h.1, ?_⟩
  rcases h.2 with hn | ⟨g, cap, cur, hv, hg, hh, r⟩
  · exact .inl hn
  · exact .inr ⟨g, cap, cur, hv, hg, by rw [hb.block g (Array.getElem?_eq_some_iff.1 hh).1]; exact hh, r⟩
theorem Od.mono (h : Od w B v n ds) {B' : Nat} (hB : B' ≤ B) : Od w B' v n ds := by
  refine ⟨h.1, ?_⟩
  rcases h.2 with hn | ⟨g, cap, cur, hv, hg, r⟩
  · exact .inl hn
  · exact .inr ⟨g, cap, cur, hv, by omega, r⟩
/-- A slice value that reads ds a list of deeds. -/
def Ds (w : World) (A : Option Addr) (n : Nat) (ds : List Dd) : Prop :=
  ds.length = n ∧ (n = 0 ∨ ∃ b o, A = some ⟨b, o, none⟩ ∧ b < w.heap.size ∧ ∀ k a, ds[k]? = some a → w.cell? ⟨b, o + k * 3, none⟩ = some (.int .i64 a.kind) ∧ w.cell? ⟨b, o + k * 3 + 1, none⟩ = some (.int .i64 a.num) ∧ w.cell? ⟨b, o + k * 3 + 2, none⟩ = some (.string (bs a.text)))
theorem Od.toDs {A : Option Addr} {c : Nat} (h : Od w B (.slice A n c) n ds) : Ds w A n ds := by
  refine ⟨h.len, ?_⟩
  have h' := h
  rcases h.2 with ⟨hv, hn⟩ | ⟨g, cap, cur, hv, hg, hh, r⟩
  · exact .inl hn
  · injection hv with h1 _ h3
    subst h1
    subst h3
    refine .inr ⟨g, 0, rfl, (Array.getElem?_eq_some_iff.1 hh).1, fun k a ha => ?_⟩
    have hk : k < n := by
      have := (List.getElem?_eq_some_iff.1 ha).1
      have := h'.len
      omega
    obtain ⟨e0, e1, e2⟩ := dcs_get ha
    rw [Nat.zero_add, World.ownsRow.cellAt h' _ (by omega), World.ownsRow.cellAt h' _ (by omega), World.ownsRow.cellAt h' _ (by omega)]
    exact ⟨e0, e1, e2⟩
theorem Ds.below {A : Option Addr} (h : Ds w A n ds) (hb : Below w.heap.size w w') : Ds w' A n ds := by
  refine ⟨h.1, ?_⟩
  rcases h.2 with h0 | ⟨b, o, rfl, hlt, hc⟩
  · exact .inl h0
  · refine .inr ⟨b, o, rfl, Nat.lt_of_lt_of_le hlt hb.size, fun k a ha => ?_⟩
    obtain ⟨c0, c1, c2⟩ := hc k a ha
    exact ⟨(hb.cell (p := ⟨b, _, none⟩) hlt).trans c0, (hb.cell (p := ⟨b, _, none⟩) hlt).trans c1, (hb.cell (p := ⟨b, _, none⟩) hlt).trans c2⟩
theorem Ds.at_ {A : Option Addr} {k : Nat} (h : Ds w A n ds) (hk : k < n) :
    ∃ b o a, A = some ⟨b, o, none⟩ ∧ b < w.heap.size ∧ ds[k]? = some a ∧ w.cell? ⟨b, o + k * 3, none⟩ = some (.int .i64 a.kind) ∧ w.cell? ⟨b, o + k * 3 + 1, none⟩ = some (.int .i64 a.num) ∧ w.cell? ⟨b, o + k * 3 + 2, none⟩ = some (.string (bs a.text)) := by
  have hl := h.1
  rcases h.2 with h0 | ⟨b, o, hA, hlt, hc⟩
  · omega
  · exact ⟨b, o, ds[k]'(by omega), hA, hlt, List.getElem?_eq_getElem (by omega), hc k _ (List.getElem?_eq_getElem (by omega))⟩
end
/-- The type of a list of deeds. -/
structure ElemD (P : Program) (T : TypeId) : Prop where
  und : P.underlying T = some (.slice 44)
  info : ∃ i z, P.info? 44 = some i ∧ i.zero = some z ∧ i.size = 3 ∧ i.bytes = 32 ∧ z.cells.size = 3
theorem Tryd.eDd : ElemD Tryd.prog 54 := by
  refine ⟨Tryd.underlying54, ?_⟩
  have h : (Tryd.prog.info? 44).map (fun i => (i.zero, i.size, i.bytes)) = some (some (.agg #[.int .i64 0, .int .i64 0, .string ⟨#[]⟩]), 3, 32) := by kernel_rfl
  obtain ⟨i, h1, h2, h3, h4⟩ := info_parts h
  exact ⟨i, _, h1, h2, h3, h4, rfl⟩
theorem dcs_one (d : Dd) : ∀ u ∈ dcs d, u.oneCell' = true := by
  intro u hu
  simp [dcs] at hu
  rcases hu with rfl | rfl | rfl <;> rfl
section
variable {P : Program} {w : World} {ops : Array Oper} {rest : List Oper} {o : Oper} {a : Act} {Q : Exit → Act → World → Prop}
/-- append(out, a deed), where all but the row itself stays. -/
theorem wl_appDd (B : Nat) (d : Dd) (hB : B ≤ w.heap.size) (hgd : o.guard = none) (s x : Operand) (t : TypeId) (ho : o.op = .call { callee := .builtin .append, args := #[s, x], argTypes := #[t, t] })
    (he : ElemD P t) (v : Value) (n : Nat) (ds : List Dd) (hs : a.eval s = v) (hown : Od w B v n ds)
    (hx : a.eval x = .slice (some ⟨w.heap.size, 0, none⟩) 1 1) (h63 : n + 1 ≤ maxLen) (hbytes : (n + 1) * 32 ≤ 140737488355328)
    (h : ∀ v' w', Od w' B v' (n + 1) (ds ++ [d]) → Below B w w' → (∀ b, b < w.heap.size → v.ownBlock ≠ some b → w'.heap[b]? = w.heap[b]?) → wpList P ops Q rest (a.put o.dst v') w') : wpList P ops Q (o :: rest) a (w.alloc (.cells #[.int .i64 d.kind, .int .i64 d.num, .string (bs d.text)] 44)) := by
  obtain ⟨i, z, h2, h3, h4, h5, h6⟩ := he.info
  refine wpList_append_own (w.alloc (.cells #[.int .i64 d.kind, .int .i64 d.num, .string (bs d.text)] 44)) hgd s x t ho B 44 i z 3 32 he.und h2 h3 h4 h5 h6 (by decide) v n _ hs (World.ownsRow.alloc hown _) ⟨w.heap.size, 0, none⟩ 1 1 (dcs d) hx rfl ?_ (dcs_one d) h63 hbytes ?_ ?_
  · intro j u' hj
    rw [add_none0, World.cell?_alloc_at _ _ _ _ rfl]
    simpa [dcs] using hj
  · simp
    omega
  · intro v' w' h1 h2 _
    refine h v' w' ?_ (((Below.refl B w).alloc hB _).grown h2 (by simp; omega) ?_) fun b hb hne => ?_
    · unfold Od
      rw [List.flatMap_append, List.flatMap_cons, List.flatMap_nil, List.append_nil]
      exact h1
    · intro k hk
      exact (World.ownsRow.lt hown k hk).1
    · rw [h2.block b (by simp; omega) (fun e => hne e.symm)]
      exact (World.grownBy_alloc w _ none).block b hb (by simp)
end
/-- A new list of deeds, out of a literal. -/
theorem Od.lit {w : World} (ds : List Dd) (hm : ds.length ≤ maxLen) (cs : Array Value) (hcs : cs.toList = ds.flatMap dcs) : Od (w.alloc (.cells cs 44)) w.heap.size (.slice (some ⟨w.heap.size, 0, none⟩) ds.length ds.length) ds.length ds := by
  have h := World.ownsRow_lit (e := 44) (size := 3) w cs ds.length (Nat.le_refl _) hm (by have : cs.size = cs.toList.length := rfl; rw [this, hcs, dcs_len])
  unfold Od
  rw [← hcs]
  exact h
end Go.Proofs.YtemcdeopehdggaaDoor
