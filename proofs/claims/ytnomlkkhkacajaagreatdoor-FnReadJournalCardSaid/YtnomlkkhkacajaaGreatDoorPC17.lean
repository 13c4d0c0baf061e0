/- Texts on the way to a law (J6, J0, U7, U8), each with its own remark. -/
import Derived.Test.YtnomlkkhkacajaaGreatDoorPC16
namespace Go.Proofs.YtnomlkkhkacajaaGreatDoor
open Go.RowKit
open Go.Lib hiding intOf

/-- The cells of a deed. -/
def dcs (a : Dd) : List Value := [.int .i64 a.kind, .int .i64 a.num, .string (bs a.text)]
theorem dcs_len (ds : List Dd) : (ds.flatMap dcs).length = ds.length * 3 := by
  induction ds with
  | nil => rfl
  | cons a r ih => rw [List.flatMap_cons, List.length_append, ih, List.length_cons]; show 3 + _ = _; omega
theorem dcs_get : ∀ {ds : List Dd} {k : Nat} {a : Dd}, ds[k]? = some a → (ds.flatMap dcs)[k * 3]? = some (.int .i64 a.kind) ∧ (ds.flatMap dcs)[k * 3 + 1]? = some (.int .i64 a.num) ∧ (ds.flatMap dcs)[k * 3 + 2]? = some (.string (bs a.text))
  | [], k, a, h => by simp at h
  | b :: r, 0, a, h => by
    simp at h; subst h
    exact ⟨rfl, rfl, rfl⟩
  | b :: r, k + 1, a, h => by
    have := dcs_get (ds := r) (k := k) (a := a) (by simpa using h)
    have e : ∀ j, ((b :: r).flatMap dcs)[3 + j]? = (r.flatMap dcs)[j]? := fun j => by
      rw [List.flatMap_cons, List.getElem?_append_right (by show 3 ≤ _; omega)]
      show _[3 + j - 3]? = _
      congr 1; omega
    refine ⟨?_, ?_, ?_⟩
    · rw [show (k + 1) * 3 = 3 + k * 3 by omega, e]; exact this.1
    · rw [show (k + 1) * 3 + 1 = 3 + (k * 3 + 1) by omega, e]; exact this.2.1
    · rw [show (k + 1) * 3 + 2 = 3 + (k * 3 + 2) by omega, e]; exact this.2.2
/-- A list of deeds of the call's own. -/
def Od (w : World) (B : Nat) (v : Value) (n : Nat) (ds : List Dd) : Prop := w.ownsRow B 28 3 v n (ds.flatMap dcs)
section
variable {w w' : World} {B n : Nat} {v : Value} {ds : List Dd}
theorem Od.len (h : Od w B v n ds) : ds.length = n := by have h1 := h.1; rw [dcs_len] at h1; omega
theorem Od.nil_ (w : World) (B : Nat) : Od w B (.slice none 0 0) 0 [] := World.ownsRow_nil w B 28 3
theorem Od.shape (h : Od w B v n ds) : ∃ A c, v = .slice A n c := by
  rcases h.2 with ⟨rfl, rfl⟩ | ⟨g, cap, cur, rfl, _⟩
  · exact ⟨_, _, rfl⟩
  · exact ⟨_, _, rfl⟩
theorem Od.below (h : Od w B v n ds) (hb : Below w.heap.size w w') : Od w' B v n ds := by
  refine ⟨h.1, ?_⟩
  rcases h.2 with hn | ⟨g, cap, cur, hv, hg, hh, r⟩
  · exact .inl hn
  · exact .inr ⟨g, cap, cur, hv, hg, by rw [hb.block g (Array.getElem?_eq_some_iff.1 hh).1]; exact hh, r⟩
theorem Od.mono (h : Od w B v n ds) {B' : Nat} (hB : B' ≤ B) : Od w B' v n ds := by
  refine ⟨h.1, ?_⟩
  rcases h.2 with hn | ⟨g, cap, cur, hv, hg, r⟩
  · exact .inl hn
  · exact .inr ⟨g, cap, cur, hv, by omega, r⟩
/-- A slice value that reads ds a list of deeds. -/
def Ds (w : World) (A : Option Addr) (n : Nat) (ds : List Dd) : Prop :=
  ds.length = n ∧ (n = 0 ∨ ∃ b o, A = some ⟨b, o, none⟩ ∧ b < w.heap.size ∧ ∀ k a, ds[k]? = some a → w.cell? ⟨b, o + k * 3, none⟩ = some (.int .i64 a.kind) ∧ w.cell? ⟨b, o + k * 3 + 1, none⟩ = some (.int .i64 a.num) ∧ w.cell? ⟨b, o + k * 3 + 2, none⟩ = some (.string (bs a.text)))
theorem Od.toDs {A : Option Addr} {c : Nat} (h : Od w B (.slice A n c) n ds) : Ds w A n ds := by
  refine ⟨h.len, ?_⟩
  have h' := h
  rcases h.2 with ⟨hv, hn⟩ | ⟨g, cap, cur, hv, hg, hh, r⟩
  · exact .inl hn
  · injection hv with h1 _ h3
    subst h1
    subst h3
    refine .inr ⟨g, 0, rfl, (Array.getElem?_eq_some_iff.1 hh).1, fun k a ha => ?_⟩
    have hk : k < n := by
      have := (List.getElem?_eq_some_iff.1 ha).1
      have := h'.len
      omega
    obtain ⟨e0, e1, e2⟩ := dcs_get ha
    rw [Nat.zero_add, World.ownsRow.cellAt h' _ (by omega), World.ownsRow.cellAt h' _ (by omega), World.ownsRow.cellAt h' _ (by omega)]
    exact ⟨e0, e1, e2⟩
theorem Ds.below {A : Option Addr} (h : Ds w A n ds) (hb : Below w.heap.size w w') : Ds w' A n ds := by
  refine ⟨h.1, ?_⟩
  rcases h.2 with h0 | ⟨b, o, rfl, hlt, hc⟩
  · exact .inl h0
  · refine .inr ⟨b, o, rfl, Nat.lt_of_lt_of_le hlt hb.size, fun k a ha => ?_⟩
    obtain ⟨c0, c1, c2⟩ := hc k a ha
    exact ⟨(hb.cell (p := ⟨b, _, none⟩) hlt).trans c0, (hb.cell (p := ⟨b, _, none⟩) hlt).trans c1, (hb.cell (p := ⟨b, _, none⟩) hlt).trans c2⟩
theorem Ds.at_ {A : Option Addr} {k : Nat} (h : Ds w A n ds) (hk : k < n) :
    ∃ b o a, A = some ⟨b, o, none⟩ ∧ b < w.heap.size ∧ ds[k]? = some a ∧ w.cell? ⟨b, o + k * 3, none⟩ = some (.int .i64 a.kind) ∧ w.cell? ⟨b, o + k * 3 + 1, none⟩ = some (.int .i64 a.num) ∧ w.cell? ⟨b, o + k * 3 + 2, none⟩ = some (.string (bs a.text)) := by
  have hl := h.1
  rcases h.2 with h0 | ⟨b, o, hA, hlt, hc⟩
  · omega
  · exact ⟨b, o, ds[k]'(by omega), hA, hlt, List.getElem?_eq_getElem (by omega), hc k _ (List.getElem?_eq_getElem (by omega))⟩
end
/-- The type of a list of deeds. -/
structure ElemD (P : Program) (T : TypeId) : Prop where
  und : P.underlying T = some (.slice 28)
  info : ∃ i z, P.info? 28 = some i ∧ i.zero = some z ∧ i.size = 3 ∧ i.bytes = 32 ∧ z.cells.size = 3
theorem Tryz.eDd : ElemD Tryz.prog 37 := by
  refine ⟨Tryz.underlying37, ?_⟩
  have h : (Tryz.prog.info? 28).map (fun i => (i.zero, i.size, i.bytes)) = some (some (.agg #[.int .i64 0, .int .i64 0, .string ⟨#[]⟩]), 3, 32) := by kernel_rfl
  obtain ⟨i, h1, h2, h3, h4⟩ := info_parts h
  exact ⟨i, _, h1, h2, h3, h4, rfl⟩
theorem dcs_one (d : Dd) : ∀ u ∈ dcs d, u.oneCell' = true := by
  intro u hu
  simp [dcs] at hu
  rcases hu with rfl | rfl | rfl <;> rfl
section
variable {P : Program} {w : World} {ops : Array Oper} {rest : List Oper} {o : Oper} {a : Act} {Q : Exit → Act → World → Prop}
/-- append(out, a deed), where all but the row itself stays. -/
theorem wl_appDd (B : Nat) (d : Dd) (hB : B ≤ w.heap.size) (hgd : o.guard = none) (s x : Operand) (t : TypeId) (ho : o.op = .call { callee := .builtin .append, args := #[s, x], argTypes := #[t, t] })
    (he : ElemD P t) (v : Value) (n : Nat) (ds : List Dd) (hs : a.eval s = v) (hown : Od w B v n ds)
    (hx : a.eval x = .slice (some ⟨w.heap.size, 0, none⟩) 1 1) (h63 : n + 1 ≤ maxLen) (hbytes : (n + 1) * 32 ≤ 140737488355328)
    (h : ∀ v' w', Od w' B v' (n + 1) (ds ++ [d]) → Below B w w' → (∀ b, b < w.heap.size → v.ownBlock ≠ some b → w'.heap[b]? = w.heap[b]?) → wpList P ops Q rest (a.put o.dst v') w') : wpList P ops Q (o :: rest) a (w.alloc (.cells #[.int .i64 d.kind, .int .i64 d.num, .string (bs d.text)] 28)) := by
  obtain ⟨i, z, h2, h3, h4, h5, h6⟩ := he.info
  refine wpList_append_own (w.alloc (.cells #[.int .i64 d.kind, .int .i64 d.num, .string (bs d.text)] 28)) hgd s x t ho B 28 i z 3 32 he.und h2 h3 h4 h5 h6 (by decide) v n _ hs (World.ownsRow.alloc hown _) ⟨w.heap.size, 0, none⟩ 1 1 (dcs d) hx rfl ?_ (dcs_one d) h63 hbytes ?_ ?_
  · intro j u' hj
    rw [add_none0, World.cell?_alloc_at _ _ _ _ rfl]
    simpa [dcs] using hj
  · simp
    omega
  · intro v' w' h1 h2 _
    refine h v' w' ?_ (((Below.refl B w).alloc hB _).grown h2 (by simp; omega) ?_) fun b hb hne => ?_
    · unfold Od
      rw [List.flatMap_append, List.flatMap_cons, List.flatMap_nil, List.append_nil]
      exact h1
    · intro k hk
      exact (World.ownsRow.lt hown k hk).1
    · rw [h2.block b (by simp; omega) (fun e => hne e.symm)]
      exact (World.grownBy_alloc w _ none).block b hb (by simp)
end
/-- A new list of deeds, out of a literal. -/
theorem Od.lit {w : World} (ds : List Dd) (hm : ds.length ≤ maxLen) (cs : Array Value) (hcs : cs.toList = ds.flatMap dcs) : Od (w.alloc (.cells cs 28)) w.heap.size (.slice (some ⟨w.heap.size, 0, none⟩) ds.length ds.length) ds.length ds := by
  have h := World.ownsRow_lit (e := 28) (size := 3) w cs ds.length (Nat.le_refl _) hm (by have : cs.size = cs.toList.length := rfl; rw [this, hcs, dcs_len])
  unfold Od
  rw [← hcs]
  exact h
end Go.Proofs.YtnomlkkhkacajaaGreatDoor
namespace Go.Proofs.YtnomlkkhkacajaaGreatDoor
open Go.RowKit

theorem box_frozen {w w1 : World} (vs : Array Value) (E : TypeId) (hb : Below (w.alloc (.cells vs E)).heap.size (w.alloc (.cells vs E)) w1) (j : Nat) : w1.frozen? ⟨w.heap.size, j, none⟩ = false := by
  refine (hb.frozen (p := ⟨w.heap.size, j, none⟩) (by show w.heap.size < (w.heap.push _).size; rw [Array.size_push]; exact Nat.lt_succ_self _)).trans ?_
  simp
theorem keep_cell {w w1 : World} {o : Obj} (hb : Below (w.alloc o).heap.size (w.alloc o) w1) {p j : Nat} {v : Value} (hp : p < w.heap.size) (hv : w.cell? ⟨p, j, none⟩ = some v) : w1.cell? ⟨p, j, none⟩ = some v := by
  refine (hb.cell (p := ⟨p, j, none⟩) (by show p < (w.heap.push _).size; rw [Array.size_push]; omega)).trans ?_
  exact (World.cell?_alloc_lt _ _ _ hp).trans hv
theorem keep_frozen {w w1 : World} {o : Obj} (hb : Below (w.alloc o).heap.size (w.alloc o) w1) {p j : Nat} (hp : p < w.heap.size) (hv : w.frozen? ⟨p, j, none⟩ = false) : w1.frozen? ⟨p, j, none⟩ = false := by
  refine (hb.frozen (p := ⟨p, j, none⟩) (by show p < (w.heap.push _).size; rw [Array.size_push]; omega)).trans ?_
  refine Eq.trans ?_ hv
  exact frozen_of_block (w := w) (w' := w.alloc o) (a := ⟨p, j, none⟩) (by show (w.heap.push o)[p]? = w.heap[p]?; rw [Array.getElem?_push, if_neg (by omega)])
/-- A block of three cells that is a deed, and may be written. -/
structure DAt (w : World) (b : Nat) (k n : Int) (t : ByteArray) : Prop where
  c0 : w.cell? ⟨b, 0, none⟩ = some (.int .i64 k)
  c1 : w.cell? ⟨b, 1, none⟩ = some (.int .i64 n)
  c2 : w.cell? ⟨b, 2, none⟩ = some (.string t)
  f0 : w.frozen? ⟨b, 0, none⟩ = false
  f1 : w.frozen? ⟨b, 1, none⟩ = false
  f2 : w.frozen? ⟨b, 2, none⟩ = false
  lt : b < w.heap.size
theorem DAt.box {w w1 : World} {k n : Int} {t : ByteArray} {E : TypeId} (hb : Below (w.alloc (.cells #[.int .i64 k, .int .i64 n, .string t] E)).heap.size (w.alloc (.cells #[.int .i64 k, .int .i64 n, .string t] E)) w1) : DAt w1 w.heap.size k n t :=
  ⟨box_cell _ E hb rfl, box_cell _ E hb rfl, box_cell _ E hb rfl, box_frozen _ E hb 0, box_frozen _ E hb 1, box_frozen _ E hb 2, by have := hb.size; simp at this; omega⟩
theorem DAt.keep {w w1 : World} {o : Obj} {b : Nat} {k n : Int} {t : ByteArray} (h : DAt w b k n t) (hb : Below (w.alloc o).heap.size (w.alloc o) w1) : DAt w1 b k n t :=
  ⟨keep_cell hb h.lt h.c0, keep_cell hb h.lt h.c1, keep_cell hb h.lt h.c2, keep_frozen hb h.lt h.f0, keep_frozen hb h.lt h.f1, keep_frozen hb h.lt h.f2, by have h1 := hb.size; have h2 := h.lt; simp at h1; omega⟩
theorem DAt.below {w w1 : World} {b : Nat} {k n : Int} {t : ByteArray} (h : DAt w b k n t) (hb : Below w.heap.size w w1) : DAt w1 b k n t :=
  ⟨(hb.cell (p := ⟨b, 0, none⟩) h.lt).trans h.c0, (hb.cell (p := ⟨b, 1, none⟩) h.lt).trans h.c1, (hb.cell (p := ⟨b, 2, none⟩) h.lt).trans h.c2,
    (hb.frozen (p := ⟨b, 0, none⟩) h.lt).trans h.f0, (hb.frozen (p := ⟨b, 1, none⟩) h.lt).trans h.f1, (hb.frozen (p := ⟨b, 2, none⟩) h.lt).trans h.f2, Nat.lt_of_lt_of_le h.lt hb.size⟩
theorem DAt.far {w : World} {b b' j : Nat} {k n : Int} {t : ByteArray} (h : DAt w b k n t) (hne : b' ≠ b) (x : Value) : DAt (w.setCell ⟨b', j, none⟩ x) b k n t := by
  have e : ∀ o, (w.setCell ⟨b', j, none⟩ x).cell? ⟨b, o, none⟩ = w.cell? ⟨b, o, none⟩ := fun o => World.cell?_setCell_other _ _ _ _ (by intro e; injection e with e1; exact hne e1)
  exact ⟨(e 0).trans h.c0, (e 1).trans h.c1, (e 2).trans h.c2, by rw [World.frozen?_setCell]; exact h.f0, by rw [World.frozen?_setCell]; exact h.f1, by rw [World.frozen?_setCell]; exact h.f2, by rw [World.setCell]; simpa using h.lt⟩
theorem DAt.num {w : World} {b : Nat} {k n : Int} {t : ByteArray} (h : DAt w b k n t) (m : Int) : DAt (w.setCell ⟨b, 1, none⟩ (.int .i64 m)) b k m t := by
  have e : ∀ o, o ≠ 1 → (w.setCell ⟨b, 1, none⟩ (.int .i64 m)).cell? ⟨b, o, none⟩ = w.cell? ⟨b, o, none⟩ := fun o ho => World.cell?_setCell_other _ _ _ _ (by intro e; injection e with e1 e2; exact ho e2.symm)
  exact ⟨(e 0 (by omega)).trans h.c0, World.cell?_setCell_same' w _ _ (by rw [h.c1]; rfl), (e 2 (by omega)).trans h.c2, by rw [World.frozen?_setCell]; exact h.f0, by rw [World.frozen?_setCell]; exact h.f1, by rw [World.frozen?_setCell]; exact h.f2, by rw [World.setCell]; simpa using h.lt⟩
theorem below_set3 {B b : Nat} {w w' : World} (h : Below B w w') (hb : B ≤ b) (x y z : Value) : Below B w (((w'.setCell ⟨b, 0, none⟩ x).setCell ⟨b, 1, none⟩ y).setCell ⟨b, 2, none⟩ z) :=
  ((h.setCell (p := ⟨b, 0, none⟩) hb x).setCell (p := ⟨b, 1, none⟩) hb y).setCell (p := ⟨b, 2, none⟩) hb z
end Go.Proofs.YtnomlkkhkacajaaGreatDoor
namespace Go.Proofs.YtnomlkkhkacajaaGreatDoor
open Go.RowKit
open Go.Lib hiding intOf

/-- The thousandths of all numbers, if they have them. -/
noncomputable def thoAll : List C → Option (List Pr)
  | [] => some []
  | z :: r => match tho z with
    | none => none
    | some p => (thoAll r).map (p :: ·)
/-- The text of a signal, if it has one. -/
noncomputable def sigT (xs : List C) : Option Txt := if sigB xs = true then (thoAll xs).map sigText else none
theorem thoAll_len : ∀ {xs : List C} {ps : List Pr}, thoAll xs = some ps → ps.length = xs.length
  | [], ps, h => by cases h; rfl
  | z :: r, ps, h => by
    unfold thoAll at h
    split at h
    · cases h
    · cases hr : thoAll r with
      | none => rw [hr] at h; cases h
      | some qs => rw [hr] at h; cases h; simp [thoAll_len hr]
theorem thoAll_inR : ∀ {xs : List C} {ps : List Pr}, thoAll xs = some ps → ∀ p ∈ ps, InR p
  | [], ps, h => by cases h; simp
  | z :: r, ps, h => by
    unfold thoAll at h
    split at h
    · cases h
    · rename_i p hp
      cases hr : thoAll r with
      | none => rw [hr] at h; cases h
      | some qs =>
        rw [hr] at h; cases h
        intro q hq
        rcases List.mem_cons.1 hq with rfl | hq
        · exact tho_inR hp
        · exact thoAll_inR hr q hq
theorem thoAll_snoc : ∀ {xs : List C} {ps : List Pr} {z : C} {p : Pr}, thoAll xs = some ps → tho z = some p → thoAll (xs ++ [z]) = some (ps ++ [p])
  | [], ps, z, p, h, hz => by cases h; simp [thoAll, hz]
  | y :: r, ps, z, p, h, hz => by
    unfold thoAll at h
    split at h
    · cases h
    · rename_i q hq
      cases hr : thoAll r with
      | none => rw [hr] at h; cases h
      | some qs =>
        rw [hr] at h; cases h
        show thoAll (y :: (r ++ [z])) = _
        unfold thoAll
        rw [hq]
        simp only [thoAll_snoc hr hz, Option.map_some, List.cons_append]
theorem thoAll_none : ∀ {xs : List C} {k : Nat}, k < xs.length → tho (nth xs k) = none → thoAll xs = none
  | [], k, h, _ => by simp at h
  | y :: r, 0, _, hz => by
    have : nth (y :: r) 0 = y := rfl
    rw [this] at hz
    unfold thoAll; rw [hz]
  | y :: r, k + 1, h, hz => by
    have e : nth (y :: r) (k + 1) = nth r k := rfl
    rw [e] at hz
    have := thoAll_none (xs := r) (k := k) (by simp at h; omega) hz
    unfold thoAll
    cases tho y with
    | none => rfl
    | some p => simp [this]
theorem take_nth {xs : List C} {k : Nat} (h : k < xs.length) : xs.take (k + 1) = xs.take k ++ [nth xs k] := by
  rw [List.take_succ_eq_append_getElem h, nth_eq h]
theorem join_snoc (x : Txt) : ∀ (ws : List Txt), ws ≠ [] → join (ws ++ [x]) [59] = join ws [59] ++ 59 :: x
  | [], h => absurd rfl h
  | [y], _ => by
    show join (y :: x :: []) [59] = _
    rw [join_cons2, join_one, join_one]
  | y :: z :: r, _ => by
    have := join_snoc x (z :: r) (by simp)
    show join (y :: z :: (r ++ [x])) [59] = _
    rw [join_cons2, join_cons2]
    rw [show z :: (r ++ [x]) = (z :: r) ++ [x] from rfl, this, List.append_assoc]
    rfl
theorem join_len : ∀ (ps : List Pr), (∀ p ∈ ps, InR p) → (join (ps.map pairText) [59]).length ≤ 44 * ps.length
  | [], _ => by simp [join_nil]
  | [p], h => by
    rw [List.map_cons, List.map_nil, join_one]
    have := pairText_len (h p List.mem_cons_self)
    simp; omega
  | p :: q :: r, h => by
    have h1 := join_len (q :: r) fun x hx => h x (List.mem_cons_of_mem _ hx)
    have h2 := pairText_len (h p List.mem_cons_self)
    rw [List.map_cons, List.map_cons, join_cons2, ← List.map_cons]
    simp at h1 ⊢; omega
theorem sigText_len {ps : List Pr} (h : ∀ p ∈ ps, InR p) : (sigText ps).length ≤ 1 + 44 * ps.length := by
  unfold sigText
  split
  · simp
  · have := join_len ps h; omega
theorem zText_some {z : C} {u : Txt} (h : zText z = some u) : ∃ p, tho z = some p ∧ u = pairText p := by
  unfold zText at h
  cases hz : tho z with
  | none => rw [hz] at h; cases h
  | some p => rw [hz] at h; cases h; exact ⟨p, rfl, rfl⟩
theorem zText_none {z : C} (h : (zText z).isSome = false) : tho z = none := by
  unfold zText at h
  cases hz : tho z with
  | none => rfl
  | some p => rw [hz] at h; cases h
theorem sigT_yes {xs : List C} {ps : List Pr} (h : sigB xs = true) (h2 : thoAll xs = some ps) : sigT xs = some (sigText ps) := by unfold sigT; rw [if_pos h, h2]; rfl
theorem sigT_no {xs : List C} (h : sigB xs = false ∨ thoAll xs = none) : sigT xs = none := by
  unfold sigT
  split
  · rename_i h1
    rcases h with h | h
    · rw [h] at h1; cases h1
    · rw [h]; rfl
  · rfl
theorem sigT_some {xs : List C} {t : Txt} (h : sigT xs = some t) : sigB xs = true ∧ ∃ ps, thoAll xs = some ps ∧ t = sigText ps ∧ (∀ p ∈ ps, InR p) ∧ ps.length ≤ 16 := by
  unfold sigT at h
  split at h
  · rename_i h1
    cases h2 : thoAll xs with
    | none => rw [h2] at h; cases h
    | some ps =>
      rw [h2] at h
      cases h
      refine ⟨h1, ps, rfl, rfl, thoAll_inR h2, ?_⟩
      rw [thoAll_len h2]
      unfold sigB at h1
      simp at h1
      exact h1.1
  · cases h
theorem sigB_len {xs : List C} (h : sigB xs = true) : xs.length ≤ 16 := by unfold sigB at h; simp at h; exact h.1
def RetX (w : World) (o : Option Txt) (e : Ending) (w' : World) : Prop := e = .returned (.tuple #[.string (bs (o.getD [])), .bool o.isSome]) ∧ Below w.heap.size w w'
theorem RetX.no {w w' : World} {o : Option Txt} (h : o = none) (hb : Below w.heap.size w w') : RetX w o (.returned (.tuple #[.string ⟨#[]⟩, .bool false])) w' := by subst h; exact ⟨rfl, hb⟩
theorem RetX.yes {w w' : World} {o : Option Txt} {s : ByteArray} {t : Txt} (h : o = some t) (hs : s = bs t) (hb : Below w.heap.size w w') : RetX w o (.returned (.tuple #[.string s, .bool true])) w' := by subst h; subst hs; exact ⟨rfl, hb⟩

set_option maxRecDepth 100000 in
set_option maxHeartbeats 1000000 in
theorem sSignalText (A : Option Addr) (n c : Nat) (xs : List C) (w : World) (hn : n ≤ 9223372036854775807) (hx : Cs w A n xs) :
    Calls Tryz.prog 53 #[.slice A n c] w (RetX w (sigT xs)) := by
  have HL := Lib.hid hx.len
  go_enter Tryz.func53, Tryz.ntmps53
  go_wp2_with fail
  refine (sSignalOk A n c xs w hn hx).mono ?_
  rintro e w0 ⟨rfl, m, rfl⟩
  cases hs : sigB xs with
  | false =>
    have HS := Lib.hid hs
    clear hs
    go_wp2_with fail
    go_ret2
    exact RetX.no (sigT_no (.inl HS.out)) (below_drewN (Below.refl _ _) m)
  | true =>
    have HS := Lib.hid hs
    have hn16 : n ≤ 16 := by rw [← HL.out]; exact sigB_len hs
    have HX : Hid (Cs (w.drewN m) A n xs) := Cs.drewN hx m
    have HB0 : Hid (Below w.heap.size w (w.drewN m)) := below_drewN (Below.refl _ _) m
    clear hs hx
    generalize w.drewN m = w0 at *
    go_wp2_with fail
    go_loopw [4, 5, 6, 7] (fun v i _ _ wr => ∃ (k : Nat) (ps : List Pr), k ≤ n ∧ i = .int .i64 k ∧ v = .string (bs (join (ps.map pairText) [59])) ∧ thoAll (xs.take k) = some ps ∧ Below w0.heap.size w0 wr) (fun _ i _ _ _ => n - (intOf i).toNat)
    case atStart => exact ⟨0, [], by omega, rfl, rfl, rfl, Below.refl _ _⟩
    case round =>
      obtain ⟨k, ps, hk, rfl, rfl, hps, hb⟩ := hrel
      have HP := Lib.hid hps
      have HB := Lib.hid hb
      have hlen : ps.length = k := by rw [thoAll_len hps, List.length_take, HL.out]; omega
      have HK := Lib.hid hlen
      have HJ := Lib.hid (join_len ps (thoAll_inR hps))
      clear hps hb hlen
      by_cases hlt : k < n
      · have hx2 : Cs wr A n xs := Sl.below HX.out HB.out
        obtain ⟨b, o, rfl, hbl, hc⟩ := hx2.at_ hlt
        have hck := hc k hlt
        unfold cv at hck
        have HZ := Lib.hid (fun w => sText (nth xs k) w)
        unfold cv at HZ
        clear hc
        go_wp2_with fail
        refine (HZ.out _).mono ?_
        rintro e w1 ⟨t, rfl, ht, htl, hb1⟩
        have HB1 : Hid (Below w0.heap.size w0 w1) := HB.out.trans (hb1.mono HB.out.size)
        have HT := Lib.hid ht
        clear hb1 ht
        cases hz : (zText (nth xs k)).isSome with
        | false =>
          have HN : Hid (sigT xs = none) := sigT_no (.inr (thoAll_none (k := k) (by rw [HL.out]; exact hlt) (zText_none hz)))
          clear hz
          go_wp2_with fail
          go_ret2
          exact RetX.no HN.out (HB0.out.trans (HB1.out.mono HB0.out.size))
        | true =>
          obtain ⟨u, hu⟩ := Option.isSome_iff_exists.1 hz
          have htu := HT.out u hu
          obtain ⟨p, hp, hup⟩ := zText_some hu
          have HNX : Hid (thoAll (xs.take (k + 1)) = some (ps ++ [p])) := by
            show _ = _
            rw [take_nth (by rw [HL.out]; exact hlt)]
            exact thoAll_snoc HP.out hp
          have HTP : Hid (t = pairText p) := by show _ = _; rw [htu, hup]
          have z1 : (bs (join (ps.map pairText) [59])).size ≤ 44 * k := by rw [bs_size, ← HK.out]; exact HJ.out
          have z2 : (bs t).size ≤ 43 := by rw [bs_size]; exact htl
          have z3 : ({ data := #[59] } : ByteArray).size = 1 := rfl
          clear hz hu htu hup hp
          by_cases hk0 : k = 0
          · have HE : Hid (bs (join (ps.map pairText) [59]) ++ bs t = bs (join ((ps ++ [p]).map pairText) [59])) := by
              show _ = _
              have : ps = [] := List.length_eq_zero_iff.1 (by rw [HK.out]; exact hk0)
              rw [bs_append, this, HTP.out]
              simp [join_nil, join_one]
            have h1 : ¬ (0 : Int) < k := by omega
            clear hk0
            go_wp2_with fail
            go_roundw
            case rel => exact ⟨k + 1, ps ++ [p], by omega, by go_num, by rw [← HE.out], HNX.out, HB1.out⟩
            case measure => simp [intOf]; omega
          · have HE : Hid ((bs (join (ps.map pairText) [59]) ++ { data := #[59] }) ++ bs t = bs (join ((ps ++ [p]).map pairText) [59])) := by
              show _ = _
              have h0 : ps.map pairText ≠ [] := by
                intro h; simp at h; rw [h] at HK; exact hk0 HK.out.symm
              rw [show ({ data := #[59] } : ByteArray) = bs [59] from rfl, bs_append, bs_append, List.map_append, List.map_cons, List.map_nil, join_snoc _ _ h0, HTP.out]
              simp
            have h1 : (0 : Int) < k := by omega
            have z4 : (bs (join (ps.map pairText) [59]) ++ { data := #[59] }).size ≤ 44 * k + 1 := by
              rw [show ({ data := #[59] } : ByteArray) = bs [59] from rfl, bs_append, bs_size, List.length_append]
              rw [bs_size] at z1
              simp; omega
            clear hk0
            go_wp2_with fail
            go_roundw
            case rel => exact ⟨k + 1, ps ++ [p], by omega, by go_num, by rw [← HE.out], HNX.out, HB1.out⟩
            case measure => simp [intOf]; omega
      · obtain rfl : k = n := by omega
        have HTA : Hid (thoAll xs = some ps) := by
          show _ = _
          rw [← HP.out, List.take_of_length_le (by rw [HL.out]; omega)]
        have HY := Lib.hid (sigT_yes HS.out HTA.out)
        by_cases hk0 : k = 0
        · subst hk0
          go_wp2_with fail
          go_ret2
          refine RetX.yes HY.out ?_ (HB0.out.trans (HB.out.mono HB0.out.size))
          have : ps = [] := List.length_eq_zero_iff.1 HK.out
          rw [this]; rfl
        · have h1 : ((k : Int) == 0) = false := by rw [beq_eq_false_iff_ne]; omega
          have HQ : Hid (ps ≠ []) := by rintro rfl; exact hk0 HK.out.symm
          clear hk0
          go_wp2_with fail
          go_ret2
          refine RetX.yes HY.out ?_ (HB0.out.trans (HB.out.mono HB0.out.size))
          unfold sigText
          rw [if_neg HQ.out]
end Go.Proofs.YtnomlkkhkacajaaGreatDoor
namespace Go.Proofs.YtnomlkkhkacajaaGreatDoor
open Go.RowKit
open Go.Lib hiding intOf

theorem set_mid (ws : List Value) (x u : Value) (m : Nat) : (ws ++ List.replicate (m + 1) x).set ws.length u = (ws ++ [u]) ++ List.replicate m x := by
  rw [List.set_append_right _ _ (Nat.le_refl _), Nat.sub_self, List.replicate_succ, List.set_cons_zero, List.append_assoc]
  rfl
set_option maxRecDepth 100000 in
set_option maxHeartbeats 1000000 in
theorem iSignalText (A : Option Addr) (n c : Nat) (xs : List C) (w : World) (hn : n ≤ 9223372036854775807) (hx : Cs w A n xs) (hE : EnvT w) :
    Calls Tryz.prog 93 #[.slice A n c] w (RetX w (sigT xs)) := by
  have HL := Lib.hid hx.len
  have HE := Lib.hid hE
  clear hE
  go_enter Tryz.func93, Tryz.ntmps93
  go_wp2_with fail
  refine (iSignalOk A n c xs w hn hx).mono ?_
  rintro e w0 ⟨rfl, m, rfl⟩
  cases hs : sigB xs with
  | false =>
    have HS := Lib.hid hs
    clear hs
    go_wp2_with fail
    go_ret2
    exact RetX.no (sigT_no (.inl HS.out)) (below_drewN (Below.refl _ _) m)
  | true =>
    have HS := Lib.hid hs
    have hn16 : n ≤ 16 := by rw [← HL.out]; exact sigB_len hs
    have HX : Hid (Cs (w.drewN m) A n xs) := Cs.drewN hx m
    have HB0 : Hid (Below w.heap.size w (w.drewN m)) := below_drewN (Below.refl _ _) m
    clear hs hx
    generalize w.drewN m = w0 at *
    by_cases hn0 : n = 0
    · subst hn0
      have HY : Hid (sigT xs = some [45]) := by
        show _ = _
        have : xs = [] := List.length_eq_zero_iff.1 HL.out
        have hs := HS.out
        subst this
        exact sigT_yes hs rfl
      go_wp2_with fail
      go_ret2
      exact RetX.yes HY.out rfl HB0.out
    have h0 : ((n : Int) == 0) = false := by rw [beq_eq_false_iff_ne]; omega
    go_wp2_with (at_make; refine wl_make (w0 := w0) rfl (.tmp 16) (.tmp 16) 45 rfl Tryz.eS .i64 .i64 n _ _ rfl rfl rfl rfl (by omega) (by unfold maxLen; omega) (Below.refl _ _) ?_; intro w1 hown _ hb1)
    have HO := Lib.hid hown
    have HB1 := Lib.hid hb1
    obtain ⟨G, hG⟩ : ∃ G : Option Addr, G = some ⟨w0.heap.size, 0, none⟩ := ⟨_, rfl⟩
    rw [← hG] at HO ⊢
    have HG := Lib.hid hG
    clear hown hb1 hG
    go_wp2_with fail
    go_loopw [5, 6, 7, 8, 20] (fun _ _ _ _ i wr => ∃ (k : Nat) (ps : List Pr), k ≤ n ∧ i = .int .i64 k ∧ thoAll (xs.take k) = some ps ∧ Ow wr w0.heap.size 9 (.slice G n n) n ((ps.map fun p => sv (pairText p)) ++ List.replicate (n - k) (.string ⟨#[]⟩)) ∧ Below w0.heap.size w0 wr) (fun _ _ _ _ i _ => n - (intOf i).toNat)
    case atStart => exact ⟨0, [], by omega, rfl, rfl, by simpa using HO.out, HB1.out⟩
    case round =>
      obtain ⟨k, ps, hk, rfl, hps, ho, hb⟩ := hrel
      have HP := Lib.hid hps
      have HB := Lib.hid hb
      have HO2 := Lib.hid ho
      have hlen : ps.length = k := by rw [thoAll_len hps, List.length_take, HL.out]; omega
      have HK := Lib.hid hlen
      clear hps hb hlen ho
      by_cases hlt : k < n
      · have hx2 : Cs wr A n xs := Sl.below HX.out HB.out
        obtain ⟨b, o, rfl, hbl, hc⟩ := hx2.at_ hlt
        have hck := hc k hlt
        unfold cv at hck
        have HZ := Lib.hid (fun w h => iText (nth xs k) w h)
        unfold cv at HZ
        clear hc
        go_wp2_with fail
        refine (HZ.out _ ((HE.out.kp (Kp.below HB0.out)).kp (Kp.below HB.out))).mono ?_
        rintro e w1 ⟨rfl, hb1⟩
        have HB3 : Hid (Below w0.heap.size w0 w1) := HB.out.trans (hb1.mono HB.out.size)
        have HO3 : Hid (Ow w1 w0.heap.size 9 (.slice G n n) n ((ps.map fun p => sv (pairText p)) ++ List.replicate (n - k) (.string ⟨#[]⟩))) := Ow.below HO2.out hb1
        clear hb1
        cases hz : zText (nth xs k) with
        | none =>
          have HN : Hid (sigT xs = none) := sigT_no (.inr (thoAll_none (k := k) (by rw [HL.out]; exact hlt) (zText_none (by rw [hz]; rfl))))
          clear hz
          go_wp2_with fail
          go_ret2
          exact RetX.no HN.out (HB0.out.trans (HB3.out.mono HB0.out.size))
        | some u =>
          obtain ⟨p, hp, hup⟩ := zText_some hz
          have HNX : Hid (thoAll (xs.take (k + 1)) = some (ps ++ [p])) := by
            show _ = _
            rw [take_nth (by rw [HL.out]; exact hlt)]
            exact thoAll_snoc HP.out hp
          have HU := Lib.hid hup
          clear hz hp hup
          obtain ⟨g, hg, hge, hgl, hcell, hfr, hst⟩ := HO3.out.at_ hlt
          have hcl := (hcell k hlt).trans (List.getElem?_eq_getElem (by rw [HO3.out.len]; exact hlt))
          have hfr2 := hfr k
          have HST : Hid (Ow (w1.setCell ⟨g, k, none⟩ (.string (bs u))) w0.heap.size 9 (.slice G n n) n (((ps ++ [p]).map fun p => sv (pairText p)) ++ List.replicate (n - (k + 1)) (.string ⟨#[]⟩))) := by
            have h1 := hst k (.string (bs u))
            have h2 := set_mid (ps.map fun p => sv (pairText p)) (.string ⟨#[]⟩) (.string (bs u)) (n - (k + 1))
            rw [List.length_map, HK.out, show n - (k + 1) + 1 = n - k by omega] at h2
            rw [h2] at h1
            rw [hg, List.map_append, List.map_cons, List.map_nil]
            show Ow _ _ _ _ _ (((ps.map fun p => sv (pairText p)) ++ [Value.string (bs (pairText p))]) ++ _)
            rw [← HU.out]
            exact h1
          have HBS : Hid (Below w0.heap.size w0 (w1.setCell ⟨g, k, none⟩ (.string (bs u)))) := HB3.out.trans ((Below.refl _ _).setCell hge _)
          generalize ((ps.map fun p => sv (pairText p)) ++ List.replicate (n - k) (Value.string ⟨#[]⟩))[k]'_ = old at hcl
          clear hcell hfr hst
          subst hg
          go_wp2_with fail
          go_roundw
          case rel => exact ⟨k + 1, ps ++ [p], by omega, by go_num, HNX.out, HST.out, HBS.out⟩
          case measure => simp [intOf]; omega
      · obtain rfl : k = n := by omega
        have HTA : Hid (thoAll xs = some ps) := by
          show _ = _
          rw [← HP.out, List.take_of_length_le (by rw [HL.out]; omega)]
        have HY := Lib.hid (sigT_yes HS.out HTA.out)
        have HW : Hid (Ow wr w0.heap.size 9 (.slice G k k) k (ps.map fun p => sv (pairText p))) := by
          show Ow _ _ _ _ _ _
          simpa using HO2.out
        obtain ⟨g, hg, hge, hgl, hcell, _, _⟩ := HW.out.at_ (k := 0) (by omega)
        have hlist : (ps.map fun p => bs (pairText p)).map (·.data.toList) = ps.map pairText := by
          rw [List.map_map]; exact List.map_congr_left fun p _ => bs_data _
        have hjl := join_len ps (thoAll_inR HTA.out)
        have J := Tryz.strings_Join g 0 k (ps.map fun p => bs (pairText p)) (bs [59]) wr (fun j x hj => by
          rw [Nat.zero_add, hcell j (by have := (List.getElem?_eq_some_iff.1 hj).1; rw [List.length_map, HK.out] at this; exact this)]
          rw [List.getElem?_map] at hj ⊢
          cases hj2 : ps[j]? with
          | none => rw [hj2] at hj; cases hj
          | some p => rw [hj2] at hj; cases hj; rfl) hgl (by rw [List.length_map, HK.out]; omega) (by rw [List.length_map, HK.out]; exact Nat.le_refl _) (by rw [hlist, bs_data]; have := HK.out; omega)
        rw [hlist, bs_data, List.length_map, HK.out] at J
        have HJ := Lib.hid J
        have HQ : Hid (ps ≠ []) := by rintro rfl; have := HK.out; simp at this; omega
        clear J hlist hjl hcell
        subst hg
        go_wp2_with fail
        refine HJ.out.mono ?_
        rintro e w2 ⟨rfl, hb2⟩
        go_wp2_with fail
        go_ret2
        refine RetX.yes HY.out ?_ (HB0.out.trans ((HB.out.trans (hb2.mono HB.out.size)).mono HB0.out.size))
        unfold sigText
        rw [if_neg HQ.out]; rfl
end Go.Proofs.YtnomlkkhkacajaaGreatDoor
