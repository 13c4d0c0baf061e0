/- Texts on the way to a law (S3, U1), each with its own remark. -/
import Derived.Test.YtnomlkkhkacajaaGreatDoorPB21
import Derived.Test.YtnomlkkhkacajaaGreatDoorPB06
import Derived.Deep.RegionLaw
import Derived.Laws.BytesArg
namespace Go.Proofs.YtnomlkkhkacajaaGreatDoor
open Go.Lib

/-- A deed: its kind, its number, its text. -/
structure Dd where
  kind : Int
  num : Int
  text : Txt
def plainB (c : UInt8) : Bool := decide (32 ≤ c.toNat) && decide (c.toNat ≤ 126)
def plainT (t : Txt) : Bool := decide (t ≠ []) && t.all plainB
def wordOf (k : Int) : Txt :=
  if k = 0 then [119, 114, 105, 116, 101] else if k = 1 then [116, 104, 101, 114, 101] else if k = 2 then [98, 97, 99, 107] else if k = 3 then [109, 111, 118, 101]
  else if k = 4 then [115, 104, 105, 102, 116] else if k = 5 then [119, 105, 110, 100, 111, 119] else if k = 6 then [117, 110, 100, 111] else []
/-- The text of a deed. -/
def dText (a : Dd) : Txt :=
  if a.kind = 0 then (if a.num = 0 ∧ plainT a.text = true then wordOf 0 ++ 32 :: a.text else [])
  else if 3 ≤ a.kind ∧ a.kind ≤ 5 then (if a.text = [] ∧ -99 ≤ a.num ∧ a.num ≤ 99 then wordOf a.kind ++ 32 :: itoa a.num else [])
  else if a.kind = 1 ∨ a.kind = 2 ∨ a.kind = 6 then (if a.num = 0 ∧ a.text = [] then wordOf a.kind else [])
  else []
/-- What stands ahead of the first byte sep, what stands behind it, and whether there is one. -/
def cut1 (sep : UInt8) : Txt → Txt × Txt × Bool
  | [] => ([], [], false)
  | c :: r => if c = sep then ([], r, true) else (c :: (cut1 sep r).1, (cut1 sep r).2)
theorem cut1_no {sep : UInt8} : ∀ {l : Txt}, sep ∉ l → cut1 sep l = (l, [], false)
  | [], _ => rfl
  | c :: r, h => by
    have h1 : c ≠ sep := fun e => h (e ▸ List.mem_cons_self)
    have h2 : sep ∉ r := fun e => h (List.mem_cons_of_mem _ e)
    simp only [cut1, if_neg h1, cut1_no h2]
theorem cut1_at {sep : UInt8} : ∀ {a : Txt} (b : Txt), sep ∉ a → cut1 sep (a ++ sep :: b) = (a, b, true)
  | [], b, _ => by simp [cut1]
  | c :: r, b, h => by
    have h1 : c ≠ sep := fun e => h (e ▸ List.mem_cons_self)
    have h2 : sep ∉ r := fun e => h (List.mem_cons_of_mem _ e)
    simp only [List.cons_append, cut1, if_neg h1, cut1_at b h2]
/-- The kind of a word; -1 for others. -/
def kindOf (w : Txt) : Int :=
  if wordOf 0 = w then 0 else if wordOf 1 = w then 1 else if wordOf 2 = w then 2 else if wordOf 3 = w then 3 else if wordOf 4 = w then 4 else if wordOf 5 = w then 5 else if wordOf 6 = w then 6 else -1
/-- The deed that the program tries for a text. -/
def cand (l : Txt) : Option Dd :=
  let k := kindOf (cut1 32 l).1
  if k = 0 then some ⟨0, 0, (cut1 32 l).2.1⟩
  else if 3 ≤ k ∧ k ≤ 5 then (whole? (cut1 32 l).2.1 (-99) 99).map fun n => ⟨k, n, []⟩
  else some ⟨k, 0, []⟩
/-- The deed whose text a text is. -/
def readDd (l : Txt) : Option Dd := match cand l with
  | none => none
  | some a => if l = [] ∨ dText a ≠ l then none else some a
theorem wordOf_no32 (k : Int) : (32 : UInt8) ∉ wordOf k := by
  unfold wordOf
  repeat' split
  all_goals decide
theorem dText_cases {a : Dd} (h : dText a ≠ []) :
    (a.kind = 0 ∧ a.num = 0 ∧ plainT a.text = true ∧ dText a = wordOf 0 ++ 32 :: a.text) ∨
    ((a.kind = 3 ∨ a.kind = 4 ∨ a.kind = 5) ∧ a.text = [] ∧ -99 ≤ a.num ∧ a.num ≤ 99 ∧ dText a = wordOf a.kind ++ 32 :: itoa a.num) ∨
    ((a.kind = 1 ∨ a.kind = 2 ∨ a.kind = 6) ∧ a.num = 0 ∧ a.text = [] ∧ dText a = wordOf a.kind) := by
  unfold dText at h ⊢
  split at h
  · rename_i h1
    split at h
    · rename_i h2
      left
      rw [if_pos h1, if_pos h2]
      exact ⟨h1, h2.1, h2.2, rfl⟩
    · exact absurd rfl h
  · rename_i h1
    split at h
    · rename_i h2
      split at h
      · rename_i h3
        right; left
        rw [if_neg h1, if_pos h2, if_pos h3]
        exact ⟨by omega, h3.1, h3.2.1, h3.2.2, rfl⟩
      · exact absurd rfl h
    · rename_i h2
      split at h
      · rename_i h3
        split at h
        · rename_i h4
          right; right
          rw [if_neg h1, if_neg h2, if_pos h3, if_pos h4]
          exact ⟨h3, h4.1, h4.2, rfl⟩
        · exact absurd rfl h
      · exact absurd rfl h
/-- The program tries the right one. -/
theorem cand_text {a : Dd} (h : dText a ≠ []) : cand (dText a) = some a := by
  obtain ⟨k, n, t⟩ := a
  rcases dText_cases h with ⟨h1, h2, h3, e⟩ | ⟨h1, h2, h3, h4, e⟩ | ⟨h1, h2, h3, e⟩
  · simp only at h1 h2 h3
    subst h1; subst h2
    rw [e]
    unfold cand
    rw [cut1_at _ (wordOf_no32 _)]
    rfl
  · simp only at h1 h2 h3 h4
    subst h2
    rw [e]
    unfold cand
    rw [cut1_at _ (wordOf_no32 _)]
    simp only
    have hw := (whole?_iff (l := itoa n) (lo := -99) (hi := 99) (n := n) (by omega) (by omega)).2 ⟨rfl, h3, h4⟩
    rcases h1 with rfl | rfl | rfl
    · rw [show kindOf (wordOf 3) = 3 from by decide, if_neg (by omega), if_pos (by omega), hw]; rfl
    · rw [show kindOf (wordOf 4) = 4 from by decide, if_neg (by omega), if_pos (by omega), hw]; rfl
    · rw [show kindOf (wordOf 5) = 5 from by decide, if_neg (by omega), if_pos (by omega), hw]; rfl
  · simp only at h1 h2 h3
    subst h2; subst h3
    rw [e]
    unfold cand
    rw [cut1_no (wordOf_no32 _)]
    simp only
    rcases h1 with rfl | rfl | rfl
    · rw [show kindOf (wordOf 1) = 1 from by decide, if_neg (by omega), if_neg (by omega)]
    · rw [show kindOf (wordOf 2) = 2 from by decide, if_neg (by omega), if_neg (by omega)]
    · rw [show kindOf (wordOf 6) = 6 from by decide, if_neg (by omega), if_neg (by omega)]
theorem readDd_iff {l : Txt} {a : Dd} : readDd l = some a ↔ l ≠ [] ∧ dText a = l := by
  constructor
  · intro h
    unfold readDd at h
    split at h
    · cases h
    · split at h
      · cases h
      · rename_i h1
        cases h
        refine ⟨fun e => h1 (.inl e), ?_⟩
        by_cases h2 : dText a = l
        · exact h2
        · exact absurd (.inr h2) h1
  · rintro ⟨h1, rfl⟩
    unfold readDd
    rw [cand_text h1]
    simp only
    rw [if_neg]
    rintro (h | h)
    · exact h1 h
    · exact h rfl
/-- The deeds that the reference tries for a text. -/
def cands (l : Txt) : List Dd :=
  [⟨1, 0, []⟩, ⟨2, 0, []⟩, ⟨6, 0, []⟩] ++ (if 6 < l.length then [⟨0, 0, l.drop 6⟩] else []) ++
    match cutAll 32 l with
    | [_, b] => match digs b with
      | some n => [⟨3, n, []⟩, ⟨4, n, []⟩, ⟨5, n, []⟩]
      | none => []
    | _ => []
theorem cands_has {a : Dd} (h : dText a ≠ []) : a ∈ cands (dText a) := by
  obtain ⟨k, n, t⟩ := a
  rcases dText_cases h with ⟨h1, h2, h3, e⟩ | ⟨h1, h2, h3, h4, e⟩ | ⟨h1, h2, h3, e⟩
  · simp only at h1 h2 h3
    subst h1; subst h2
    rw [e]
    unfold cands
    have ht : t ≠ [] := by
      intro h4; rw [h4] at h3; exact absurd h3 (by decide)
    have hl : 6 < (wordOf 0 ++ 32 :: t).length := by
      have := List.length_pos_iff.2 ht
      simp [wordOf]; omega
    rw [if_pos hl]
    refine List.mem_append_left _ (List.mem_append_right _ ?_)
    exact List.mem_singleton.2 rfl
  · simp only at h1 h2 h3 h4
    subst h2
    rw [e]
    unfold cands
    refine List.mem_append_right _ ?_
    have h32 : (32 : UInt8) ∉ itoa n := not_itoa (by decide) (by decide)
    rw [cutAll_at _ (wordOf_no32 _), cutAll_no h32]
    simp only [digs_iff.2 ⟨rfl, show -9999999 ≤ n by omega, show n ≤ 9999999 by omega⟩]
    rcases h1 with rfl | rfl | rfl <;> simp
  · simp only at h1 h2 h3
    subst h2; subst h3
    unfold cands
    refine List.mem_append_left _ (List.mem_append_left _ ?_)
    rcases h1 with rfl | rfl | rfl <;> simp
/-- The first of some deeds whose text a text is. -/
def firstOf (l : Txt) : List Dd → Option Dd
  | [] => none
  | a :: r => if l ≠ [] ∧ dText a = l then some a else firstOf l r
theorem firstOf_some : ∀ {l : Txt} {zs9 : List Dd} {a : Dd}, firstOf l zs9 = some a → l ≠ [] ∧ dText a = l
  | l, [], a, h => by cases h
  | l, b :: r, a, h => by
    unfold firstOf at h
    split at h
    · rename_i h1; cases h; exact h1
    · exact firstOf_some h
theorem firstOf_none : ∀ {l : Txt} {zs9 : List Dd}, firstOf l zs9 = none → ∀ a ∈ zs9, ¬ (l ≠ [] ∧ dText a = l)
  | l, [], h, a, ha => by cases ha
  | l, b :: r, h, a, ha => by
    unfold firstOf at h
    split at h
    · cases h
    · rename_i h1
      rcases List.mem_cons.1 ha with rfl | ha
      · exact h1
      · exact firstOf_none h a ha
/-- Both read the same deed. -/
theorem firstOf_readDd (l : Txt) : firstOf l (cands l) = readDd l := by
  cases h : firstOf l (cands l) with
  | some a => exact (readDd_iff.2 (firstOf_some h)).symm
  | none =>
    cases h2 : readDd l with
    | none => rfl
    | some a =>
      obtain ⟨h3, rfl⟩ := readDd_iff.1 h2
      exact absurd ⟨h3, rfl⟩ (firstOf_none h a (cands_has h3))
theorem plainB_iff {c : UInt8} : plainB c = true ↔ 32 ≤ c.toNat ∧ c.toNat ≤ 126 := by
  unfold plainB
  rw [Bool.and_eq_true, decide_eq_true_iff, decide_eq_true_iff]
theorem wordOf_plain (k : Int) : ∀ c ∈ wordOf k, plainB c = true := by
  unfold wordOf
  repeat' split
  all_goals decide
/-- Every byte of a deed's text stands from the space on up to the tilde. -/
theorem dText_plain (a : Dd) : ∀ c ∈ dText a, plainB c = true := by
  intro c hc
  have hne : dText a ≠ [] := fun e => by rw [e] at hc; cases hc
  have h32 : plainB 32 = true := by decide
  rcases dText_cases hne with ⟨_, _, h3, e⟩ | ⟨_, _, _, _, e⟩ | ⟨_, _, _, e⟩
  · rw [e] at hc
    rcases List.mem_append.1 hc with h | h
    · exact wordOf_plain _ c h
    · rcases List.mem_cons.1 h with rfl | h
      · exact h32
      · unfold plainT at h3
        rw [Bool.and_eq_true] at h3
        exact List.all_eq_true.1 h3.2 c h
  · rw [e] at hc
    rcases List.mem_append.1 hc with h | h
    · exact wordOf_plain _ c h
    · rcases List.mem_cons.1 h with rfl | h
      · exact h32
      · rw [plainB_iff]
        rcases itoa_byte _ c h with h | h <;> omega
  · rw [e] at hc
    exact wordOf_plain _ c hc
theorem dText_no10 (a : Dd) : (10 : UInt8) ∉ dText a := fun h => absurd (dText_plain a 10 h) (by decide)
theorem readDd_more {l : Txt} {a : Dd} (_h : readDd l = some a) : readDd (l ++ [10]) = none := by
  cases h2 : readDd (l ++ [10]) with
  | none => rfl
  | some b =>
    have h3 := (readDd_iff.1 h2).2
    exact absurd (by rw [h3]; simp) (dText_no10 b)

/-- The text of a journal, behind what is written already. -/
def jGo (acc : Txt) : List Dd → Txt
  | [] => acc
  | a :: r => if dText a = [] then [] else jGo (acc ++ dText a ++ [10]) r
def jText (zs9 : List Dd) : Txt := jGo [] zs9
/-- The deeds of the lines with which a text begins, and how many bytes these have. -/
def rjF : Nat → Txt → List Dd × Nat
  | 0, _ => ([], 0)
  | f + 1, l => if (cut1 10 l).2.2 = true then match readDd (cut1 10 l).1 with
      | none => ([], 0)
      | some a => (a :: (rjF f (cut1 10 l).2.1).1, (cut1 10 l).1.length + 1 + (rjF f (cut1 10 l).2.1).2)
    else ([], 0)
def rj (l : Txt) : List Dd × Nat := rjF (l.length + 1) l
theorem cut1_some {sep : UInt8} {l : Txt} (h : (cut1 sep l).2.2 = true) : l = (cut1 sep l).1 ++ sep :: (cut1 sep l).2.1 ∧ sep ∉ (cut1 sep l).1 := by
  rcases cut_cases sep l with h1 | ⟨a, b, rfl, h1⟩
  · rw [cut1_no h1] at h; cases h
  · rw [cut1_at _ h1]; exact ⟨rfl, h1⟩
theorem rjF_fuel : ∀ (f g : Nat) (l : Txt), l.length < f → l.length < g → rjF f l = rjF g l
  | 0, _, _, h, _ => by omega
  | _ + 1, 0, _, _, h => by omega
  | f + 1, g + 1, l, h1, h2 => by
    unfold rjF
    by_cases h : (cut1 10 l).2.2 = true
    · have e := (cut1_some h).1
      have hl := congrArg List.length e
      simp only [List.length_append, List.length_cons] at hl
      rw [rjF_fuel f g (cut1 10 l).2.1 (by omega) (by omega)]
    · rw [if_neg h, if_neg h]
theorem rj_no {l : Txt} (h : (10 : UInt8) ∉ l) : rj l = ([], 0) := by
  unfold rj rjF
  rw [cut1_no h]
  rfl
theorem rj_at {a : Txt} (b : Txt) (h : (10 : UInt8) ∉ a) : rj (a ++ 10 :: b) = match readDd a with
    | none => ([], 0)
    | some d => (d :: (rj b).1, a.length + 1 + (rj b).2) := by
  show rjF ((a ++ 10 :: b).length + 1) _ = _
  unfold rjF
  rw [cut1_at b h]
  simp only [if_true]
  have : rjF (a ++ 10 :: b).length b = rj b := rjF_fuel _ _ _ (by simp; omega) (by omega)
  rw [this]
theorem jGo_nil : ∀ (zs9 : List Dd) (acc : Txt), acc ≠ [] → ((∃ a ∈ zs9, dText a = []) ↔ jGo acc zs9 = [])
  | [], acc, h => by simp [jGo, h]
  | a :: r, acc, h => by
    unfold jGo
    by_cases h1 : dText a = []
    · rw [if_pos h1]
      exact ⟨fun _ => rfl, fun _ => ⟨a, List.mem_cons_self, h1⟩⟩
    · rw [if_neg h1, ← jGo_nil r _ (by simp)]
      constructor
      · rintro ⟨b, hb, h2⟩
        rcases List.mem_cons.1 hb with rfl | hb
        · exact absurd h2 h1
        · exact ⟨b, hb, h2⟩
      · rintro ⟨b, hb, h2⟩
        exact ⟨b, List.mem_cons_of_mem _ hb, h2⟩
def jAll (zs9 : List Dd) : Txt := (zs9.map fun a => dText a ++ [10]).flatten
theorem jGo_all : ∀ (zs9 : List Dd) (acc : Txt), (∀ a ∈ zs9, dText a ≠ []) → jGo acc zs9 = acc ++ jAll zs9
  | [], acc, _ => by simp [jGo, jAll]
  | a :: r, acc, h => by
    unfold jGo
    rw [if_neg (h a List.mem_cons_self), jGo_all r _ fun b hb => h b (List.mem_cons_of_mem _ hb)]
    simp [jAll]
theorem jGo_bad : ∀ (zs9 : List Dd) (acc : Txt), (∃ a ∈ zs9, dText a = []) → jGo acc zs9 = []
  | [], _, h => by obtain ⟨a, ha, _⟩ := h; cases ha
  | a :: r, acc, h => by
    unfold jGo
    by_cases h1 : dText a = []
    · rw [if_pos h1]
    · rw [if_neg h1]
      obtain ⟨b, hb, h2⟩ := h
      rcases List.mem_cons.1 hb with rfl | hb
      · exact absurd h2 h1
      · exact jGo_bad r _ ⟨b, hb, h2⟩
theorem jText_cases (zs9 : List Dd) : ((∀ a ∈ zs9, dText a ≠ []) ∧ jText zs9 = jAll zs9) ∨ ((∃ a ∈ zs9, dText a = []) ∧ jText zs9 = []) := by
  by_cases h : ∀ a ∈ zs9, dText a ≠ []
  · exact .inl ⟨h, jGo_all zs9 [] h⟩
  · have h2 : ∃ a ∈ zs9, dText a = [] := by
      apply Classical.byContradiction
      intro h3
      exact h fun a ha h4 => h3 ⟨a, ha, h4⟩
    exact .inr ⟨h2, jGo_bad zs9 [] h2⟩
/-- A journal is read. -/
theorem rj_all : ∀ zs9 : List Dd, (∀ a ∈ zs9, dText a ≠ []) → rj (jAll zs9) = (zs9, (jAll zs9).length)
  | [], _ => rfl
  | a :: r, h => by
    have e : jAll (a :: r) = dText a ++ 10 :: jAll r := by simp [jAll]
    rw [e, rj_at _ (dText_no10 a), readDd_iff.2 ⟨h a List.mem_cons_self, rfl⟩, rj_all r fun b hb => h b (List.mem_cons_of_mem _ hb)]
    simp
    omega
theorem rj_text {zs9 : List Dd} (h : jText zs9 ≠ []) : rj (jText zs9) = (zs9, (jText zs9).length) := by
  rcases jText_cases zs9 with ⟨h1, e⟩ | ⟨_, e⟩
  · rw [e, rj_all zs9 h1]
  · exact absurd e h
/-- What is read of a text is the text of a journal. -/
theorem rj_back : ∀ l : Txt, (∀ a ∈ (rj l).1, dText a ≠ []) ∧ jAll (rj l).1 = l.take (rj l).2 ∧ (rj l).2 ≤ l.length := by
  intro l
  induction hn : l.length using Nat.strongRecOn generalizing l with
  | _ n ih =>
    rcases cut_cases 10 l with h | ⟨a, b, rfl, h⟩
    · rw [rj_no h]; simp [jAll]
    · rw [rj_at b h]
      cases hr : readDd a with
      | none => simp [jAll]
      | some d =>
        obtain ⟨h1, h2⟩ := readDd_iff.1 hr
        obtain ⟨h3, h4, h5⟩ := ih b.length (by rw [← hn]; simp; omega) b rfl
        refine ⟨?_, ?_, ?_⟩
        · intro x hx
          rcases List.mem_cons.1 hx with rfl | hx
          · rw [h2]; exact h1
          · exact h3 x hx
        · show jAll (d :: (rj b).1) = (a ++ 10 :: b).take (a.length + 1 + (rj b).2)
          have e : jAll (d :: (rj b).1) = dText d ++ 10 :: jAll (rj b).1 := by simp [jAll]
          rw [e, h4, h2, Nat.add_assoc, List.take_length_add_append, Nat.add_comm 1, List.take_succ_cons]
        · show a.length + 1 + (rj b).2 ≤ n
          rw [← hn]; simp; omega
end Go.Proofs.YtnomlkkhkacajaaGreatDoor
namespace Go.Proofs.YtnomlkkhkacajaaGreatDoor
open Go.RowKit Go.Lib

/-- A text as a string. -/
def bs (l : Txt) : ByteArray := ⟨l.toArray⟩
def sv (l : Txt) : Value := .string (bs l)
theorem bs_data (l : Txt) : (bs l).data.toList = l := by simp [bs]
theorem bs_of (s : ByteArray) : bs s.data.toList = s := mk_data s
theorem bs_size (l : Txt) : (bs l).size = l.length := by rw [size_eq, bs_data]
theorem bs_inj {a b : Txt} : bs a = bs b ↔ a = b := ⟨fun h => by rw [← bs_data a, h, bs_data], fun h => by rw [h]⟩
theorem bs_append (a b : Txt) : bs a ++ bs b = bs (a ++ b) := by
  rw [← bs_of (bs a ++ bs b)]
  congr 1

/-- The string of one byte. -/
def oneB (c : Int) : ByteArray := bs [UInt8.ofNat c.toNat]
theorem conv_one (w : World) (c : Int) : (convert 22 9 (.slice (some ⟨w.heap.size, 0, none⟩) 1 1)).run Tryz.prog (w.alloc (.cells #[.int .u8 c] 5)) = .ok (.string (oneB c)) (w.alloc (.cells #[.int .u8 c] 5)) := by
  rw [run_convert_bytes_arg (w.alloc (.cells #[.int .u8 c] 5)) 22 5 Tryz.underlying22 Tryz.underlying5 w.heap.size 0 1 1 [c] rfl (fun i hi => by
    obtain rfl : i = 0 := by omega
    rw [World.cell?_alloc_at _ _ _ _ rfl]; rfl) 9 Tryz.underlying9]
  rfl
theorem conv_one_drew (w : World) (c : Int) : (convert 22 9 (.slice (some ⟨w.heap.size, 0, none⟩) 1 1)).run Tryz.prog (w.alloc (.cells #[.int .u8 c] 5)).drew = .ok (.string (oneB c)) (w.alloc (.cells #[.int .u8 c] 5)).drew := by
  rw [run_convert_bytes_arg (w.alloc (.cells #[.int .u8 c] 5)).drew 22 5 Tryz.underlying22 Tryz.underlying5 w.heap.size 0 1 1 [c] rfl (fun i hi => by
    obtain rfl : i = 0 := by omega
    rw [World.cell?_drew, World.cell?_alloc_at _ _ _ _ rfl]; rfl) 9 Tryz.underlying9]
  rfl
theorem conv_cell (w : World) (g : Nat) (c : Int) (h : w.cell? ⟨g, 0, none⟩ = some (.int .u8 c)) : (convert 22 9 (.slice (some ⟨g, 0, none⟩) 1 1)).run Tryz.prog w = .ok (.string (oneB c)) w := by
  rw [run_convert_bytes_arg w 22 5 Tryz.underlying22 Tryz.underlying5 g 0 1 1 [c] rfl (fun i hi => by
    obtain rfl : i = 0 := by omega
    exact h) 9 Tryz.underlying9]
  rfl
theorem conv_later {w w1 : World} {c : Int} (hb : Below ((w.alloc (.cells #[.int .u8 c] 5)).drew).heap.size (w.alloc (.cells #[.int .u8 c] 5)).drew w1) : (convert 22 9 (.slice (some ⟨w.heap.size, 0, none⟩) 1 1)).run Tryz.prog w1 = .ok (.string (oneB c)) w1 :=
  conv_cell w1 w.heap.size c ((hb.cell (p := ⟨w.heap.size, 0, none⟩) (by show w.heap.size < (w.heap.push _).size; rw [Array.size_push]; exact Nat.lt_succ_self _)).trans (by rw [World.cell?_drew, World.cell?_alloc_at _ _ _ _ rfl]; rfl))
theorem oneB_digit (d : Nat) (h : d < 10) : oneB (48 + (d : Int)) = bs (decDigits d) := by
  unfold oneB
  rw [decDigits_one h, show (48 + (d : Int)).toNat = 48 + d by omega]

theorem below_of_drew {w w' : World} (h : Below w.drew.heap.size w.drew w') : Below w.heap.size w w' := ⟨h.os, h.tape, h.output, h.size, h.block⟩
set_option maxRecDepth 100000 in
theorem sNumber0 (u : Nat) : ∀ w : World, u ≤ 4611686018427387904 → Calls Tryz.prog 52 #[.int .i64 u] w fun e w' => e = .returned (.string (bs (decDigits u))) ∧ Below w.heap.size w w' := by
  induction u using Nat.strongRecOn with
  | _ u ih =>
    intro w hu
    have hcv := conv_one
    have hcd := conv_one_drew
    by_cases h : u < 10
    · clear ih
      go_enter Tryz.func52, Tryz.ntmps52
      go_wp2_with fail
      go_ret
      refine ⟨?_, below_alloc _ _⟩
      rw [← oneB_digit u h]
      rfl
    · obtain ⟨q, hq⟩ : ∃ q, q = u / 10 := ⟨_, rfl⟩
      obtain ⟨d, hd⟩ : ∃ d, d = u % 10 := ⟨_, rfl⟩
      have K : Hid (∀ w, Calls Tryz.prog 52 #[.int .i64 q] w fun e w' => e = .returned (.string (bs (decDigits q))) ∧ Below w.heap.size w w') := fun w => ih q (by omega) w (by omega)
      have e1 : (u : Int) / 10 = q := by omega
      have e2 : (u : Int).tmod 10 = d := by rw [Int.tmod_eq_emod_of_nonneg (by omega)]; omega
      have e3 : decDigits u = decDigits q ++ decDigits d := by
        rw [decDigits, dif_neg h, ← hq, ← hd, decDigits_one (show d < 10 by omega)]
      have hq2 : q ≤ 461168601842738790 := by omega
      have hd2 : d < 10 := by omega
      have E3 := Lib.hid e3
      have w1 : IntKind.i64.wrap (q : Int) = q := IntWalk.i64_in _ (by omega)
      have w2 : IntKind.i64.wrap (48 + (d : Int)) = 48 + d := IntWalk.i64_in _ (by omega)
      have w3 : IntKind.u8.wrap (48 + (d : Int)) = 48 + d := IntWalk.u8_in _ (by omega)
      have hz1 : (bs (decDigits q)).size ≤ 20 := by
        rw [bs_size, decDigits_length]; exact nDigits_le20 q (by omega)
      have hz2 : (oneB (48 + (d : Int))).size = 1 := by unfold oneB; rw [bs_size]; rfl
      have hz : ¬ 9223372036854775807 < (bs (decDigits q)).size + (oneB (48 + (d : Int))).size := by omega
      clear hz1 hz2
      have h10 : ((u : Int) < 10) = False := by simp; omega
      clear ih hq hd e3
      go_enter Tryz.func52, Tryz.ntmps52
      go_wp2_with fail
      go_region_law ((go_simp; go_at_call 52; (with_reducible refine Calls.mono (K.out _) ?_); rintro e w1 ⟨rfl, hb⟩; first | (have hcx := conv_later hb) | skip))
      all_goals
        go_wp2_with fail
        go_ret
        refine ⟨?_, ?_⟩
        · show Ending.returned (.string (bs (decDigits q) ++ oneB (48 + (d : Int)))) = _
          rw [E3.out, oneB_digit d hd2, bs_append]
        · first
            | exact (below_of_drew hb).alloc (below_of_drew hb).size _
            | exact (below_alloc w _).trans ((below_of_drew hb).mono (by show w.heap.size ≤ (w.heap.push _).size; rw [Array.size_push]; omega))
set_option maxRecDepth 100000 in
/-- A number's text, by the reference. -/
theorem sNumber (n : Int) (h0 : -4611686018427387904 ≤ n) (h1 : n ≤ 4611686018427387904) (w : World) : Calls Tryz.prog 52 #[.int .i64 n] w fun e w' => e = .returned (.string (bs (itoa n))) ∧ Below w.heap.size w w' := by
  by_cases hn : n < 0
  · obtain ⟨u, rfl⟩ : ∃ u : Nat, n = -(u : Int) := ⟨n.natAbs, by omega⟩
    have K := sNumber0 u
    have e1 : IntKind.i64.wrap (u : Int) = u := IntWalk.i64_in _ (by omega)
    have e2 : (-(u : Int) == (u : Int)) = false := by rw [beq_eq_false_iff_ne]; omega
    have hz1 : (bs (decDigits u)).size ≤ 20 := by rw [bs_size, decDigits_length]; exact nDigits_le20 u (by omega)
    have HU : u ≤ 4611686018427387904 := by omega
    have HK := Lib.hid K
    clear K
    go_enter Tryz.func52, Tryz.ntmps52
    go_wp2_with fail
    refine (HK.out _ HU).mono ?_
    rintro e w1 ⟨rfl, hb⟩
    go_wp2_with fail
    go_ret
    refine ⟨?_, hb⟩
    rw [itoa_neg u (by omega)]
    show Ending.returned (.string (bs [45] ++ bs (decDigits u))) = _
    rw [bs_append]; rfl
  · obtain ⟨u, rfl⟩ : ∃ u : Nat, n = u := ⟨n.toNat, by omega⟩
    rw [itoa_nonneg]
    exact sNumber0 u w (by omega)
end Go.Proofs.YtnomlkkhkacajaaGreatDoor
