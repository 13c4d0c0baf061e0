/- Texts on the way to a law (S2, S3, U1), each with its own remark. -/
import Derived.Test.YtnomlkkhkacajaaGreatDoorPC13
import Derived.Lib.Join
import Derived.Test.YtnomlkkhkacajaaGreatDoorPC04
import Derived.Deep.RegionLaw
import Derived.Laws.BytesArg
namespace Go.Proofs.YtnomlkkhkacajaaGreatDoor
open Go.Lib

/-- What stands between the bytes sep of a text. -/
def cutAll (sep : UInt8) : Txt → List Txt
  | [] => [[]]
  | c :: r => if c = sep then [] :: cutAll sep r else match cutAll sep r with
    | [] => [[c]]
    | h :: t => (c :: h) :: t
theorem cutAll_ne (sep : UInt8) (l : Txt) : cutAll sep l ≠ [] := by
  cases l with
  | nil => simp [cutAll]
  | cons c r =>
    unfold cutAll
    split
    · simp
    · split <;> simp
theorem cutAll_no {sep : UInt8} : ∀ {l : Txt}, sep ∉ l → cutAll sep l = [l]
  | [], _ => rfl
  | c :: r, h => by
    have h1 : c ≠ sep := fun e => h (e ▸ List.mem_cons_self)
    have h2 : sep ∉ r := fun e => h (List.mem_cons_of_mem _ e)
    simp only [cutAll, if_neg h1, cutAll_no h2]
theorem cutAll_at {sep : UInt8} : ∀ {a : Txt} (b : Txt), sep ∉ a → cutAll sep (a ++ sep :: b) = a :: cutAll sep b
  | [], b, _ => by simp [cutAll]
  | c :: r, b, h => by
    have h1 : c ≠ sep := fun e => h (e ▸ List.mem_cons_self)
    have h2 : sep ∉ r := fun e => h (List.mem_cons_of_mem _ e)
    simp only [List.cons_append, cutAll, if_neg h1, cutAll_at b h2]
theorem cut_cases (sep : UInt8) : ∀ l : Txt, sep ∉ l ∨ ∃ a b, l = a ++ sep :: b ∧ sep ∉ a
  | [] => .inl (by simp)
  | c :: r => by
    by_cases h : c = sep
    · subst h; exact .inr ⟨[], r, rfl, by simp⟩
    · rcases cut_cases sep r with h1 | ⟨a, b, rfl, h2⟩
      · refine .inl fun hm => ?_
        rcases List.mem_cons.1 hm with h3 | h3
        · exact h h3.symm
        · exact h1 h3
      · refine .inr ⟨c :: a, b, rfl, fun hm => ?_⟩
        rcases List.mem_cons.1 hm with h3 | h3
        · exact h h3.symm
        · exact h2 h3

abbrev Pr := Int × Int
/-- A word of a signal's text. -/
def pairOf (w : Txt) : Option Pr := match cutAll 44 w with
  | [a, b] => match digs a, digs b with
    | some x, some y => some (x, y)
    | _, _ => none
  | _ => none
def pairsOf : List Txt → Option (List Pr)
  | [] => some []
  | w :: r => match pairOf w with
    | none => none
    | some p => (pairsOf r).map (p :: ·)
/-- The signal that a text is, as the reference reads it. -/
def readSig (l : Txt) : Option (List Pr) := if l = [45] then some [] else match pairsOf (cutAll 59 l) with
  | none => none
  | some ps => if ps.length ≤ 16 then some ps else none
def pairText (p : Pr) : Txt := itoa p.1 ++ 44 :: itoa p.2
/-- The text of a signal. -/
def sigText (ps : List Pr) : Txt := if ps = [] then [45] else join (ps.map pairText) [59]
def InR (p : Pr) : Prop := -9999999 ≤ p.1 ∧ p.1 ≤ 9999999 ∧ -9999999 ≤ p.2 ∧ p.2 ≤ 9999999

theorem not_itoa {n : Int} {c : UInt8} (h1 : c.toNat ≠ 45) (h2 : ¬ (48 ≤ c.toNat ∧ c.toNat ≤ 57)) : c ∉ itoa n := fun h => by
  rcases itoa_byte n c h with h | h
  · exact h1 h
  · exact h2 h
theorem no44 (n : Int) : (44 : UInt8) ∉ itoa n := not_itoa (by decide) (by decide)
theorem no59 (n : Int) : (59 : UInt8) ∉ itoa n := not_itoa (by decide) (by decide)
theorem no59p (p : Pr) : (59 : UInt8) ∉ pairText p := by
  unfold pairText
  intro h
  rcases List.mem_append.1 h with h | h
  · exact no59 _ h
  · rcases List.mem_cons.1 h with h | h
    · exact absurd h (by decide)
    · exact no59 _ h
theorem pairOf_text {p : Pr} (h : InR p) : pairOf (pairText p) = some p := by
  unfold pairOf pairText
  rw [cutAll_at _ (no44 _), cutAll_no (no44 _)]
  simp only [digs_iff.2 ⟨rfl, h.1, h.2.1⟩, digs_iff.2 ⟨rfl, h.2.2.1, h.2.2.2⟩]
theorem cutAll_two {w a b : Txt} (h : cutAll 44 w = [a, b]) : w = a ++ 44 :: b := by
  rcases cut_cases 44 w with h1 | ⟨x, y, rfl, h1⟩
  · rw [cutAll_no h1] at h; cases h
  · rw [cutAll_at _ h1] at h
    injection h with h2 h3
    subst h2
    rcases cut_cases 44 y with h4 | ⟨x2, y2, rfl, h4⟩
    · rw [cutAll_no h4] at h3; cases h3; rfl
    · rw [cutAll_at _ h4] at h3
      injection h3 with h5 h6
      exact absurd h6 (cutAll_ne _ _)
theorem pairOf_some {w : Txt} {p : Pr} (h : pairOf w = some p) : w = pairText p ∧ InR p := by
  unfold pairOf at h
  split at h
  · rename_i a b hc
    split at h
    · rename_i x y hx hy
      cases h
      have h1 := digs_iff.1 hx
      have h2 := digs_iff.1 hy
      rw [cutAll_two hc, h1.1, h2.1]
      exact ⟨rfl, h1.2.1, h1.2.2, h2.2.1, h2.2.2⟩
    · cases h
  · cases h
theorem pairsOf_text : ∀ {ps : List Pr}, (∀ p ∈ ps, InR p) → pairsOf (ps.map pairText) = some ps
  | [], _ => rfl
  | p :: r, h => by
    simp only [List.map_cons, pairsOf, pairOf_text (h p List.mem_cons_self), pairsOf_text fun q hq => h q (List.mem_cons_of_mem _ hq), Option.map_some]
theorem pairsOf_some : ∀ {ws : List Txt} {ps : List Pr}, pairsOf ws = some ps → ws = ps.map pairText ∧ ∀ p ∈ ps, InR p
  | [], ps, h => by simp only [pairsOf, Option.some.injEq] at h; subst h; simp
  | w :: r, ps, h => by
    simp only [pairsOf] at h
    split at h
    · cases h
    · rename_i p hp
      cases hr : pairsOf r with
      | none => rw [hr] at h; cases h
      | some qs =>
        rw [hr] at h
        simp only [Option.map_some, Option.some.injEq] at h
        subst h
        obtain ⟨h1, h2⟩ := pairsOf_some hr
        obtain ⟨h3, h4⟩ := pairOf_some hp
        refine ⟨by rw [h1, h3]; rfl, fun q hq => ?_⟩
        rcases List.mem_cons.1 hq with rfl | hq
        · exact h4
        · exact h2 q hq
theorem join_cons2 (x y : Txt) (r : List Txt) (sep : UInt8) : join (x :: y :: r) [sep] = x ++ sep :: join (y :: r) [sep] := by
  rw [join_cons, join_cons]
  simp [joinTail]
/-- Words without the byte sep, joined by it, are cut again. -/
theorem cutAll_join (sep : UInt8) : ∀ (ws : List Txt), ws ≠ [] → (∀ w ∈ ws, sep ∉ w) → cutAll sep (join ws [sep]) = ws
  | [], h, _ => absurd rfl h
  | [x], _, h => by rw [join_one]; exact cutAll_no (h x List.mem_cons_self)
  | x :: y :: r, _, h => by
    rw [join_cons2, cutAll_at _ (h x List.mem_cons_self), cutAll_join sep (y :: r) (by simp) fun w hw => h w (List.mem_cons_of_mem _ hw)]
theorem join_cutAll (sep : UInt8) : ∀ (l : Txt), join (cutAll sep l) [sep] = l := by
  intro l
  induction hn : l.length using Nat.strongRecOn generalizing l with
  | _ n ih =>
    rcases cut_cases sep l with h | ⟨a, b, rfl, h⟩
    · rw [cutAll_no h, join_one]
    · rw [cutAll_at _ h]
      have hb := ih b.length (by rw [← hn]; simp; omega) b rfl
      cases hc : cutAll sep b with
      | nil => exact absurd hc (cutAll_ne _ _)
      | cons y r => rw [join_cons2, ← hc, hb]
theorem sig_ne (ps : List Pr) (h : ps ≠ []) : join (ps.map pairText) [59] ≠ [45] := by
  intro he
  have h44 : (44 : UInt8) ∈ join (ps.map pairText) [59] := by
    cases ps with
    | nil => exact absurd rfl h
    | cons p r =>
      rw [List.map_cons, join_cons]
      exact List.mem_append_left _ (by unfold pairText; exact List.mem_append_right _ List.mem_cons_self)
  rw [he] at h44
  exact absurd h44 (by decide)
/-- A signal's text is read. -/
theorem readSig_text {ps : List Pr} (h : ∀ p ∈ ps, InR p) (hl : ps.length ≤ 16) : readSig (sigText ps) = some ps := by
  unfold readSig sigText
  by_cases h0 : ps = []
  · subst h0; rfl
  · rw [if_neg h0, if_neg (sig_ne ps h0), cutAll_join 59 _ (by simpa using h0) (by
      intro w hw
      obtain ⟨p, _, rfl⟩ := List.mem_map.1 hw
      exact no59p p), pairsOf_text h]
    exact if_pos hl
/-- A text that is read is the signal's text. -/
theorem readSig_some {l : Txt} {ps : List Pr} (h : readSig l = some ps) : sigText ps = l ∧ (∀ p ∈ ps, InR p) ∧ ps.length ≤ 16 := by
  unfold readSig at h
  split at h
  · rename_i h1; cases h; exact ⟨h1.symm, by simp, by simp⟩
  · split at h
    · cases h
    · rename_i ps2 h2
      split at h
      · rename_i h3
        cases h
        obtain ⟨h4, h5⟩ := pairsOf_some h2
        refine ⟨?_, h5, h3⟩
        unfold sigText
        rw [if_neg (by rintro rfl; exact cutAll_ne 59 l h4), ← h4, join_cutAll]
      · cases h
/-- How the program goes through a text, with a semicolon behind it: what is left, the bytes of the number that is begun, the numbers so far. -/
def scan : Txt → Txt → List Int → Option (List Int)
  | [], cur, parts => if cur = [] then some parts else none
  | c :: r, cur, parts =>
    if c.toNat = 45 ∨ (48 ≤ c.toNat ∧ c.toNat ≤ 57) then scan r (cur ++ [c]) parts
    else if (c.toNat = 44 ∧ parts.length % 2 = 0) ∨ (c.toNat = 59 ∧ parts.length % 2 = 1) then match digs cur with
      | none => none
      | some n => if parts.length = 32 then none else scan r [] (parts ++ [n])
    else none
def NumB (c : UInt8) : Prop := c.toNat = 45 ∨ (48 ≤ c.toNat ∧ c.toNat ≤ 57)
theorem scan_word : ∀ (a r cur : Txt) (parts : List Int), (∀ c ∈ a, NumB c) → scan (a ++ r) cur parts = scan r (cur ++ a) parts
  | [], r, cur, parts, _ => by simp
  | c :: a, r, cur, parts, h => by
    rw [List.cons_append, scan, if_pos (show c.toNat = 45 ∨ (48 ≤ c.toNat ∧ c.toNat ≤ 57) from h c List.mem_cons_self), scan_word a r _ parts fun d hd => h d (List.mem_cons_of_mem _ hd)]
    simp
/-- The first byte that no number has. -/
theorem split_num : ∀ l : Txt, (∀ c ∈ l, NumB c) ∨ ∃ a c r, l = a ++ c :: r ∧ (∀ d ∈ a, NumB d) ∧ ¬ NumB c
  | [] => .inl (by simp)
  | c :: l => by
    by_cases h : NumB c
    · rcases split_num l with h1 | ⟨a, d, r, rfl, h2, h3⟩
      · exact .inl fun d hd => by
          rcases List.mem_cons.1 hd with rfl | hd
          · exact h
          · exact h1 d hd
      · exact .inr ⟨c :: a, d, r, rfl, fun e he => by
          rcases List.mem_cons.1 he with rfl | he
          · exact h
          · exact h2 e he, h3⟩
    · exact .inr ⟨[], c, l, rfl, by simp, h⟩
theorem scan_at (a r : Txt) (c : UInt8) (parts : List Int) (h : ∀ d ∈ a, NumB d) (hc : ¬ NumB c) :
    scan (a ++ c :: r) [] parts = if (c.toNat = 44 ∧ parts.length % 2 = 0) ∨ (c.toNat = 59 ∧ parts.length % 2 = 1) then match digs a with
      | none => none
      | some n => if parts.length = 32 then none else scan r [] (parts ++ [n])
    else none := by
  rw [scan_word a _ [] parts h, List.nil_append, scan, if_neg (show ¬ (c.toNat = 45 ∨ (48 ≤ c.toNat ∧ c.toNat ≤ 57)) from hc)]
theorem scan_len : ∀ (l cur : Txt) (parts out : List Int), parts.length ≤ 32 → scan l cur parts = some out → out.length ≤ 32
  | [], cur, parts, out, hp, h => by
    unfold scan at h
    split at h
    · cases h; exact hp
    · cases h
  | c :: r, cur, parts, out, hp, h => by
    unfold scan at h
    split at h
    · exact scan_len r _ _ _ hp h
    · split at h
      · split at h
        · cases h
        · split at h
          · cases h
          · exact scan_len r _ _ _ (by rw [List.length_append]; simp; omega) h
      · cases h
def flat : List Pr → List Int
  | [] => []
  | p :: r => p.1 :: p.2 :: flat r
theorem flat_length : ∀ ps : List Pr, (flat ps).length = 2 * ps.length
  | [] => rfl
  | p :: r => by simp [flat, flat_length r]; omega
theorem numB_itoa (n : Int) : ∀ c ∈ itoa n, NumB c := itoa_byte n
/-- The program reads what the reference reads .. -/
theorem scan_yes : ∀ (ps : List Pr) (parts : List Int), ps ≠ [] → (∀ p ∈ ps, InR p) → parts.length % 2 = 0 → parts.length + 2 * ps.length ≤ 32 →
    scan (join (ps.map pairText) [59] ++ [59]) [] parts = some (parts ++ flat ps)
  | [], _, h, _, _, _ => absurd rfl h
  | p :: r, parts, _, h, h2, hl => by
    have hp := h p List.mem_cons_self
    have step : ∀ rest, scan (pairText p ++ 59 :: rest) [] parts = scan rest [] (parts ++ [p.1, p.2]) := by
      intro rest
      unfold pairText
      rw [List.append_assoc, List.cons_append, scan_at _ _ 44 _ (numB_itoa _) (by unfold NumB; decide), if_pos (.inl ⟨rfl, h2⟩), digs_iff.2 ⟨rfl, hp.1, hp.2.1⟩]
      have hl2 : parts.length ≠ 32 := by simp at hl; omega
      simp only [if_neg hl2]
      rw [scan_at _ _ 59 _ (numB_itoa _) (by unfold NumB; decide), if_pos (.inr ⟨rfl, by simp; omega⟩), digs_iff.2 ⟨rfl, hp.2.2.1, hp.2.2.2⟩]
      have hl3 : (parts ++ [p.1]).length ≠ 32 := by simp at hl ⊢; omega
      simp only [if_neg hl3]
      rw [List.append_assoc]
      rfl
    cases r with
    | nil =>
      rw [List.map_cons, List.map_nil, join_one, step []]
      simp [scan, flat]
    | cons q r2 =>
      rw [List.map_cons, List.map_cons, join_cons2, List.append_assoc, List.cons_append, step]
      have := scan_yes (q :: r2) (parts ++ [p.1, p.2]) (by simp) (fun x hx => h x (List.mem_cons_of_mem _ hx)) (by simp; omega) (by simp at hl ⊢; omega)
      rw [List.map_cons] at this
      rw [this]
      simp [flat]
/-- .. and nothing else. -/
theorem scan_some : ∀ (l : Txt) (parts out : List Int), parts.length % 2 = 0 → parts.length ≤ 32 → scan (l ++ [59]) [] parts = some out →
    ∃ ps, ps ≠ [] ∧ (∀ p ∈ ps, InR p) ∧ l = join (ps.map pairText) [59] ∧ out = parts ++ flat ps := by
  intro l
  induction hn : l.length using Nat.strongRecOn generalizing l with
  | _ n ih =>
    intro parts out h2 h32 h
    rcases split_num l with h1 | ⟨a, c, r, rfl, h1, hc⟩
    · rw [scan_at l [] 59 parts h1 (by unfold NumB; decide), if_neg (by
        rintro (⟨h3, _⟩ | ⟨_, h3⟩)
        · exact absurd h3 (by decide)
        · omega)] at h; cases h
    · rw [List.append_assoc, List.cons_append, scan_at a _ c parts h1 hc] at h
      split at h
      · rename_i hcc
        cases hd : digs a with
        | none => rw [hd] at h; cases h
        | some x =>
          rw [hd] at h
          simp only at h
          split at h
          · cases h
          · rename_i hp32
            have hc44 : c.toNat = 44 := by omega
            have hc' : c = 44 := UInt8.toNat_inj.1 hc44
            subst hc'
            obtain ⟨ha, hx1, hx2⟩ := digs_iff.1 hd
            have hpl : (parts ++ [x]).length % 2 = 1 := by simp; omega
            rcases split_num r with h3 | ⟨b, c2, r2, rfl, h3, hc2⟩
            · rw [scan_at r [] 59 _ h3 (by unfold NumB; decide), if_pos (.inr ⟨rfl, hpl⟩)] at h
              cases hd2 : digs r with
              | none => rw [hd2] at h; cases h
              | some y =>
                rw [hd2] at h
                simp only at h
                split at h
                · cases h
                · obtain ⟨hb, hy1, hy2⟩ := digs_iff.1 hd2
                  simp only [scan, if_true, Option.some.injEq] at h
                  refine ⟨[(x, y)], by simp, ?_, ?_, ?_⟩
                  · intro p hp
                    rw [List.mem_singleton.1 hp]
                    exact ⟨hx1, hx2, hy1, hy2⟩
                  · rw [List.map_cons, List.map_nil, join_one, ha, hb]; rfl
                  · rw [← h]; simp [flat]
            · rw [List.append_assoc, List.cons_append, scan_at b _ c2 _ h3 hc2] at h
              split at h
              · rename_i hcc2
                cases hd2 : digs b with
                | none => rw [hd2] at h; cases h
                | some y =>
                  rw [hd2] at h
                  simp only at h
                  split at h
                  · cases h
                  · rename_i hp33
                    have hc59 : c2.toNat = 59 := by omega
                    have hc2' : c2 = 59 := UInt8.toNat_inj.1 hc59
                    subst hc2'
                    obtain ⟨hb, hy1, hy2⟩ := digs_iff.1 hd2
                    have hl3 : (parts ++ [x] ++ [y]).length ≤ 32 := by simp at hp33 hp32 ⊢; omega
                    obtain ⟨ps, h4, h5, h6, h7⟩ := ih r2.length (by rw [← hn]; simp; omega) r2 rfl (parts ++ [x] ++ [y]) out (by simp; omega) hl3 h
                    refine ⟨(x, y) :: ps, by simp, ?_, ?_, ?_⟩
                    · intro p hp
                      rcases List.mem_cons.1 hp with rfl | hp
                      · exact ⟨hx1, hx2, hy1, hy2⟩
                      · exact h5 p hp
                    · cases ps with
                      | nil => exact absurd rfl h4
                      | cons q qs =>
                        rw [List.map_cons, List.map_cons, join_cons2, ← List.map_cons, ← h6, ha, hb]
                        simp [pairText]
                    · rw [h7]; simp [flat]
              · cases h
      · cases h
/-- The two ways of reading agree. -/
theorem scan_readSig (l : Txt) (hl : l ≠ [45]) : scan (l ++ [59]) [] [] = (readSig l).map flat := by
  cases hr : readSig l with
  | some ps =>
    obtain ⟨h1, h2, h3⟩ := readSig_some hr
    have h0 : ps ≠ [] := by rintro rfl; exact hl h1.symm
    unfold sigText at h1
    rw [if_neg h0] at h1
    rw [← h1, scan_yes ps [] h0 h2 rfl (by simp; omega)]
    rfl
  | none =>
    cases hs : scan (l ++ [59]) [] [] with
    | none => rfl
    | some out =>
      obtain ⟨ps, h0, h2, h3, h4⟩ := scan_some l [] out rfl (by simp) hs
      have h5 := scan_len _ _ _ _ (by simp) hs
      have h6 : ps.length ≤ 16 := by rw [h4] at h5; simp [flat_length] at h5; omega
      have := readSig_text h2 h6
      unfold sigText at this
      rw [if_neg h0, ← h3, hr] at this
      cases this
end Go.Proofs.YtnomlkkhkacajaaGreatDoor
namespace Go.Proofs.YtnomlkkhkacajaaGreatDoor
open Go.Lib

/-- A deed: its kind, its number, its text. -/
structure Dd where
  kind : Int
  num : Int
  text : Txt
def plainB (c : UInt8) : Bool := decide (32 ≤ c.toNat) && decide (c.toNat ≤ 126)
def plainT (t : Txt) : Bool := decide (t ≠ []) && t.all plainB
def wordOf (k : Int) : Txt :=
  if k = 0 then [119, 114, 105, 116, 101] else if k = 1 then [116, 104, 101, 114, 101] else if k = 2 then [98, 97, 99, 107] else if k = 3 then [109, 111, 118, 101]
  else if k = 4 then [115, 104, 105, 102, 116] else if k = 5 then [119, 105, 110, 100, 111, 119] else if k = 6 then [117, 110, 100, 111] else []
/-- The text of a deed. -/
def dText (a : Dd) : Txt :=
  if a.kind = 0 then (if a.num = 0 ∧ plainT a.text = true then wordOf 0 ++ 32 :: a.text else [])
  else if 3 ≤ a.kind ∧ a.kind ≤ 5 then (if a.text = [] ∧ -99 ≤ a.num ∧ a.num ≤ 99 then wordOf a.kind ++ 32 :: itoa a.num else [])
  else if a.kind = 1 ∨ a.kind = 2 ∨ a.kind = 6 then (if a.num = 0 ∧ a.text = [] then wordOf a.kind else [])
  else []
/-- What stands ahead of the first byte sep, what stands behind it, and whether there is one. -/
def cut1 (sep : UInt8) : Txt → Txt × Txt × Bool
  | [] => ([], [], false)
  | c :: r => if c = sep then ([], r, true) else (c :: (cut1 sep r).1, (cut1 sep r).2)
theorem cut1_no {sep : UInt8} : ∀ {l : Txt}, sep ∉ l → cut1 sep l = (l, [], false)
  | [], _ => rfl
  | c :: r, h => by
    have h1 : c ≠ sep := fun e => h (e ▸ List.mem_cons_self)
    have h2 : sep ∉ r := fun e => h (List.mem_cons_of_mem _ e)
    simp only [cut1, if_neg h1, cut1_no h2]
theorem cut1_at {sep : UInt8} : ∀ {a : Txt} (b : Txt), sep ∉ a → cut1 sep (a ++ sep :: b) = (a, b, true)
  | [], b, _ => by simp [cut1]
  | c :: r, b, h => by
    have h1 : c ≠ sep := fun e => h (e ▸ List.mem_cons_self)
    have h2 : sep ∉ r := fun e => h (List.mem_cons_of_mem _ e)
    simp only [List.cons_append, cut1, if_neg h1, cut1_at b h2]
/-- The kind of a word; -1 for others. -/
def kindOf (w : Txt) : Int :=
  if wordOf 0 = w then 0 else if wordOf 1 = w then 1 else if wordOf 2 = w then 2 else if wordOf 3 = w then 3 else if wordOf 4 = w then 4 else if wordOf 5 = w then 5 else if wordOf 6 = w then 6 else -1
/-- The deed that the program tries for a text. -/
def cand (l : Txt) : Option Dd :=
  let k := kindOf (cut1 32 l).1
  if k = 0 then some ⟨0, 0, (cut1 32 l).2.1⟩
  else if 3 ≤ k ∧ k ≤ 5 then (whole? (cut1 32 l).2.1 (-99) 99).map fun n => ⟨k, n, []⟩
  else some ⟨k, 0, []⟩
/-- The deed whose text a text is. -/
def readDd (l : Txt) : Option Dd := match cand l with
  | none => none
  | some a => if l = [] ∨ dText a ≠ l then none else some a
theorem wordOf_no32 (k : Int) : (32 : UInt8) ∉ wordOf k := by
  unfold wordOf
  repeat' split
  all_goals decide
theorem dText_cases {a : Dd} (h : dText a ≠ []) :
    (a.kind = 0 ∧ a.num = 0 ∧ plainT a.text = true ∧ dText a = wordOf 0 ++ 32 :: a.text) ∨
    ((a.kind = 3 ∨ a.kind = 4 ∨ a.kind = 5) ∧ a.text = [] ∧ -99 ≤ a.num ∧ a.num ≤ 99 ∧ dText a = wordOf a.kind ++ 32 :: itoa a.num) ∨
    ((a.kind = 1 ∨ a.kind = 2 ∨ a.kind = 6) ∧ a.num = 0 ∧ a.text = [] ∧ dText a = wordOf a.kind) := by
  unfold dText at h ⊢
  split at h
  · rename_i h1
    split at h
    · rename_i h2
      left
      rw [if_pos h1, if_pos h2]
      exact ⟨h1, h2.1, h2.2, rfl⟩
    · exact absurd rfl h
  · rename_i h1
    split at h
    · rename_i h2
      split at h
      · rename_i h3
        right; left
        rw [if_neg h1, if_pos h2, if_pos h3]
        exact ⟨by omega, h3.1, h3.2.1, h3.2.2, rfl⟩
      · exact absurd rfl h
    · rename_i h2
      split at h
      · rename_i h3
        split at h
        · rename_i h4
          right; right
          rw [if_neg h1, if_neg h2, if_pos h3, if_pos h4]
          exact ⟨h3, h4.1, h4.2, rfl⟩
        · exact absurd rfl h
      · exact absurd rfl h
/-- The program tries the right one. -/
theorem cand_text {a : Dd} (h : dText a ≠ []) : cand (dText a) = some a := by
  obtain ⟨k, n, t⟩ := a
  rcases dText_cases h with ⟨h1, h2, h3, e⟩ | ⟨h1, h2, h3, h4, e⟩ | ⟨h1, h2, h3, e⟩
  · simp only at h1 h2 h3
    subst h1; subst h2
    rw [e]
    unfold cand
    rw [cut1_at _ (wordOf_no32 _)]
    rfl
  · simp only at h1 h2 h3 h4
    subst h2
    rw [e]
    unfold cand
    rw [cut1_at _ (wordOf_no32 _)]
    simp only
    have hw := (whole?_iff (l := itoa n) (lo := -99) (hi := 99) (n := n) (by omega) (by omega)).2 ⟨rfl, h3, h4⟩
    rcases h1 with rfl | rfl | rfl
    · rw [show kindOf (wordOf 3) = 3 from by decide, if_neg (by omega), if_pos (by omega), hw]; rfl
    · rw [show kindOf (wordOf 4) = 4 from by decide, if_neg (by omega), if_pos (by omega), hw]; rfl
    · rw [show kindOf (wordOf 5) = 5 from by decide, if_neg (by omega), if_pos (by omega), hw]; rfl
  · simp only at h1 h2 h3
    subst h2; subst h3
    rw [e]
    unfold cand
    rw [cut1_no (wordOf_no32 _)]
    simp only
    rcases h1 with rfl | rfl | rfl
    · rw [show kindOf (wordOf 1) = 1 from by decide, if_neg (by omega), if_neg (by omega)]
    · rw [show kindOf (wordOf 2) = 2 from by decide, if_neg (by omega), if_neg (by omega)]
    · rw [show kindOf (wordOf 6) = 6 from by decide, if_neg (by omega), if_neg (by omega)]
theorem readDd_iff {l : Txt} {a : Dd} : readDd l = some a ↔ l ≠ [] ∧ dText a = l := by
  constructor
  · intro h
    unfold readDd at h
    split at h
    · cases h
    · split at h
      · cases h
      · rename_i h1
        cases h
        refine ⟨fun e => h1 (.inl e), ?_⟩
        by_cases h2 : dText a = l
        · exact h2
        · exact absurd (.inr h2) h1
  · rintro ⟨h1, rfl⟩
    unfold readDd
    rw [cand_text h1]
    simp only
    rw [if_neg]
    rintro (h | h)
    · exact h1 h
    · exact h rfl
/-- The deeds that the reference tries for a text. -/
def cands (l : Txt) : List Dd :=
  [⟨1, 0, []⟩, ⟨2, 0, []⟩, ⟨6, 0, []⟩] ++ (if 6 < l.length then [⟨0, 0, l.drop 6⟩] else []) ++
    match cutAll 32 l with
    | [_, b] => match digs b with
      | some n => [⟨3, n, []⟩, ⟨4, n, []⟩, ⟨5, n, []⟩]
      | none => []
    | _ => []
theorem cands_has {a : Dd} (h : dText a ≠ []) : a ∈ cands (dText a) := by
  obtain ⟨k, n, t⟩ := a
  rcases dText_cases h with ⟨h1, h2, h3, e⟩ | ⟨h1, h2, h3, h4, e⟩ | ⟨h1, h2, h3, e⟩
  · simp only at h1 h2 h3
    subst h1; subst h2
    rw [e]
    unfold cands
    have ht : t ≠ [] := by
      intro h4; rw [h4] at h3; exact absurd h3 (by decide)
    have hl : 6 < (wordOf 0 ++ 32 :: t).length := by
      have := List.length_pos_iff.2 ht
      simp [wordOf]; omega
    rw [if_pos hl]
    refine List.mem_append_left _ (List.mem_append_right _ ?_)
    exact List.mem_singleton.2 rfl
  · simp only at h1 h2 h3 h4
    subst h2
    rw [e]
    unfold cands
    refine List.mem_append_right _ ?_
    have h32 : (32 : UInt8) ∉ itoa n := not_itoa (by decide) (by decide)
    rw [cutAll_at _ (wordOf_no32 _), cutAll_no h32]
    simp only [digs_iff.2 ⟨rfl, show -9999999 ≤ n by omega, show n ≤ 9999999 by omega⟩]
    rcases h1 with rfl | rfl | rfl <;> simp
  · simp only at h1 h2 h3
    subst h2; subst h3
    unfold cands
    refine List.mem_append_left _ (List.mem_append_left _ ?_)
    rcases h1 with rfl | rfl | rfl <;> simp
/-- The first of some deeds whose text a text is. -/
def firstOf (l : Txt) : List Dd → Option Dd
  | [] => none
  | a :: r => if l ≠ [] ∧ dText a = l then some a else firstOf l r
theorem firstOf_some : ∀ {l : Txt} {zs9 : List Dd} {a : Dd}, firstOf l zs9 = some a → l ≠ [] ∧ dText a = l
  | l, [], a, h => by cases h
  | l, b :: r, a, h => by
    unfold firstOf at h
    split at h
    · rename_i h1; cases h; exact h1
    · exact firstOf_some h
theorem firstOf_none : ∀ {l : Txt} {zs9 : List Dd}, firstOf l zs9 = none → ∀ a ∈ zs9, ¬ (l ≠ [] ∧ dText a = l)
  | l, [], h, a, ha => by cases ha
  | l, b :: r, h, a, ha => by
    unfold firstOf at h
    split at h
    · cases h
    · rename_i h1
      rcases List.mem_cons.1 ha with rfl | ha
      · exact h1
      · exact firstOf_none h a ha
/-- Both read the same deed. -/
theorem firstOf_readDd (l : Txt) : firstOf l (cands l) = readDd l := by
  cases h : firstOf l (cands l) with
  | some a => exact (readDd_iff.2 (firstOf_some h)).symm
  | none =>
    cases h2 : readDd l with
    | none => rfl
    | some a =>
      obtain ⟨h3, rfl⟩ := readDd_iff.1 h2
      exact absurd ⟨h3, rfl⟩ (firstOf_none h a (cands_has h3))
theorem plainB_iff {c : UInt8} : plainB c = true ↔ 32 ≤ c.toNat ∧ c.toNat ≤ 126 := by
  unfold plainB
  rw [Bool.and_eq_true, decide_eq_true_iff, decide_eq_true_iff]
theorem wordOf_plain (k : Int) : ∀ c ∈ wordOf k, plainB c = true := by
  unfold wordOf
  repeat' split
  all_goals decide
/-- Every byte of a deed's text stands from the space on up to the tilde. -/
theorem dText_plain (a : Dd) : ∀ c ∈ dText a, plainB c = true := by
  intro c hc
  have hne : dText a ≠ [] := fun e => by rw [e] at hc; cases hc
  have h32 : plainB 32 = true := by decide
  rcases dText_cases hne with ⟨_, _, h3, e⟩ | ⟨_, _, _, _, e⟩ | ⟨_, _, _, e⟩
  · rw [e] at hc
    rcases List.mem_append.1 hc with h | h
    · exact wordOf_plain _ c h
    · rcases List.mem_cons.1 h with rfl | h
      · exact h32
      · unfold plainT at h3
        rw [Bool.and_eq_true] at h3
        exact List.all_eq_true.1 h3.2 c h
  · rw [e] at hc
    rcases List.mem_append.1 hc with h | h
    · exact wordOf_plain _ c h
    · rcases List.mem_cons.1 h with rfl | h
      · exact h32
      · rw [plainB_iff]
        rcases itoa_byte _ c h with h | h <;> omega
  · rw [e] at hc
    exact wordOf_plain _ c hc
theorem dText_no10 (a : Dd) : (10 : UInt8) ∉ dText a := fun h => absurd (dText_plain a 10 h) (by decide)
/-- The text of a journal, behind what is written already. -/
def jGo (acc : Txt) : List Dd → Txt
  | [] => acc
  | a :: r => if dText a = [] then [] else jGo (acc ++ dText a ++ [10]) r
def jText (zs9 : List Dd) : Txt := jGo [] zs9
/-- The deeds of the lines with which a text begins, and how many bytes these have. -/
def rjF : Nat → Txt → List Dd × Nat
  | 0, _ => ([], 0)
  | f + 1, l => if (cut1 10 l).2.2 = true then match readDd (cut1 10 l).1 with
      | none => ([], 0)
      | some a => (a :: (rjF f (cut1 10 l).2.1).1, (cut1 10 l).1.length + 1 + (rjF f (cut1 10 l).2.1).2)
    else ([], 0)
def rj (l : Txt) : List Dd × Nat := rjF (l.length + 1) l
theorem cut1_some {sep : UInt8} {l : Txt} (h : (cut1 sep l).2.2 = true) : l = (cut1 sep l).1 ++ sep :: (cut1 sep l).2.1 ∧ sep ∉ (cut1 sep l).1 := by
  rcases cut_cases sep l with h1 | ⟨a, b, rfl, h1⟩
  · rw [cut1_no h1] at h; cases h
  · rw [cut1_at _ h1]; exact ⟨rfl, h1⟩
theorem rjF_fuel : ∀ (f g : Nat) (l : Txt), l.length < f → l.length < g → rjF f l = rjF g l
  | 0, _, _, h, _ => by omega
  | _ + 1, 0, _, _, h => by omega
  | f + 1, g + 1, l, h1, h2 => by
    unfold rjF
    by_cases h : (cut1 10 l).2.2 = true
    · have e := (cut1_some h).1
      have hl := congrArg List.length e
      simp only [List.length_append, List.length_cons] at hl
      rw [rjF_fuel f g (cut1 10 l).2.1 (by omega) (by omega)]
    · rw [if_neg h, if_neg h]
theorem rj_no {l : Txt} (h : (10 : UInt8) ∉ l) : rj l = ([], 0) := by
  unfold rj rjF
  rw [cut1_no h]
  rfl
theorem rj_at {a : Txt} (b : Txt) (h : (10 : UInt8) ∉ a) : rj (a ++ 10 :: b) = match readDd a with
    | none => ([], 0)
    | some d => (d :: (rj b).1, a.length + 1 + (rj b).2) := by
  show rjF ((a ++ 10 :: b).length + 1) _ = _
  unfold rjF
  rw [cut1_at b h]
  simp only [if_true]
  have : rjF (a ++ 10 :: b).length b = rj b := rjF_fuel _ _ _ (by simp; omega) (by omega)
  rw [this]
def jAll (zs9 : List Dd) : Txt := (zs9.map fun a => dText a ++ [10]).flatten
theorem jGo_all : ∀ (zs9 : List Dd) (acc : Txt), (∀ a ∈ zs9, dText a ≠ []) → jGo acc zs9 = acc ++ jAll zs9
  | [], acc, _ => by simp [jGo, jAll]
  | a :: r, acc, h => by
    unfold jGo
    rw [if_neg (h a List.mem_cons_self), jGo_all r _ fun b hb => h b (List.mem_cons_of_mem _ hb)]
    simp [jAll]
theorem jGo_bad : ∀ (zs9 : List Dd) (acc : Txt), (∃ a ∈ zs9, dText a = []) → jGo acc zs9 = []
  | [], _, h => by obtain ⟨a, ha, _⟩ := h; cases ha
  | a :: r, acc, h => by
    unfold jGo
    by_cases h1 : dText a = []
    · rw [if_pos h1]
    · rw [if_neg h1]
      obtain ⟨b, hb, h2⟩ := h
      rcases List.mem_cons.1 hb with rfl | hb
      · exact absurd h2 h1
      · exact jGo_bad r _ ⟨b, hb, h2⟩
theorem jText_cases (zs9 : List Dd) : ((∀ a ∈ zs9, dText a ≠ []) ∧ jText zs9 = jAll zs9) ∨ ((∃ a ∈ zs9, dText a = []) ∧ jText zs9 = []) := by
  by_cases h : ∀ a ∈ zs9, dText a ≠ []
  · exact .inl ⟨h, jGo_all zs9 [] h⟩
  · have h2 : ∃ a ∈ zs9, dText a = [] := by
      apply Classical.byContradiction
      intro h3
      exact h fun a ha h4 => h3 ⟨a, ha, h4⟩
    exact .inr ⟨h2, jGo_bad zs9 [] h2⟩
/-- What is read of a text is the text of a journal. -/
theorem rj_back : ∀ l : Txt, (∀ a ∈ (rj l).1, dText a ≠ []) ∧ jAll (rj l).1 = l.take (rj l).2 ∧ (rj l).2 ≤ l.length := by
  intro l
  induction hn : l.length using Nat.strongRecOn generalizing l with
  | _ n ih =>
    rcases cut_cases 10 l with h | ⟨a, b, rfl, h⟩
    · rw [rj_no h]; simp [jAll]
    · rw [rj_at b h]
      cases hr : readDd a with
      | none => simp [jAll]
      | some d =>
        obtain ⟨h1, h2⟩ := readDd_iff.1 hr
        obtain ⟨h3, h4, h5⟩ := ih b.length (by rw [← hn]; simp; omega) b rfl
        refine ⟨?_, ?_, ?_⟩
        · intro x hx
          rcases List.mem_cons.1 hx with rfl | hx
          · rw [h2]; exact h1
          · exact h3 x hx
        · show jAll (d :: (rj b).1) = (a ++ 10 :: b).take (a.length + 1 + (rj b).2)
          have e : jAll (d :: (rj b).1) = dText d ++ 10 :: jAll (rj b).1 := by simp [jAll]
          rw [e, h4, h2, Nat.add_assoc, List.take_length_add_append, Nat.add_comm 1, List.take_succ_cons]
        · show a.length + 1 + (rj b).2 ≤ n
          rw [← hn]; simp; omega
end Go.Proofs.YtnomlkkhkacajaaGreatDoor
namespace Go.Proofs.YtnomlkkhkacajaaGreatDoor
open Go.RowKit Go.Lib

/-- A text as a string. -/
def bs (l : Txt) : ByteArray := ⟨l.toArray⟩
def sv (l : Txt) : Value := .string (bs l)
theorem bs_data (l : Txt) : (bs l).data.toList = l := by simp [bs]
theorem bs_of (s : ByteArray) : bs s.data.toList = s := mk_data s
theorem bs_size (l : Txt) : (bs l).size = l.length := by rw [size_eq, bs_data]
theorem bs_append (a b : Txt) : bs a ++ bs b = bs (a ++ b) := by
  rw [← bs_of (bs a ++ bs b)]
  congr 1

/-- The string of one byte. -/
def oneB (c : Int) : ByteArray := bs [UInt8.ofNat c.toNat]
theorem conv_one (w : World) (c : Int) : (convert 22 9 (.slice (some ⟨w.heap.size, 0, none⟩) 1 1)).run Tryz.prog (w.alloc (.cells #[.int .u8 c] 5)) = .ok (.string (oneB c)) (w.alloc (.cells #[.int .u8 c] 5)) := by
  rw [run_convert_bytes_arg (w.alloc (.cells #[.int .u8 c] 5)) 22 5 Tryz.underlying22 Tryz.underlying5 w.heap.size 0 1 1 [c] rfl (fun i hi => by
    obtain rfl : i = 0 := by omega
    rw [World.cell?_alloc_at _ _ _ _ rfl]; rfl) 9 Tryz.underlying9]
  rfl
theorem conv_one_drew (w : World) (c : Int) : (convert 22 9 (.slice (some ⟨w.heap.size, 0, none⟩) 1 1)).run Tryz.prog (w.alloc (.cells #[.int .u8 c] 5)).drew = .ok (.string (oneB c)) (w.alloc (.cells #[.int .u8 c] 5)).drew := by
  rw [run_convert_bytes_arg (w.alloc (.cells #[.int .u8 c] 5)).drew 22 5 Tryz.underlying22 Tryz.underlying5 w.heap.size 0 1 1 [c] rfl (fun i hi => by
    obtain rfl : i = 0 := by omega
    rw [World.cell?_drew, World.cell?_alloc_at _ _ _ _ rfl]; rfl) 9 Tryz.underlying9]
  rfl
theorem conv_cell (w : World) (g : Nat) (c : Int) (h : w.cell? ⟨g, 0, none⟩ = some (.int .u8 c)) : (convert 22 9 (.slice (some ⟨g, 0, none⟩) 1 1)).run Tryz.prog w = .ok (.string (oneB c)) w := by
  rw [run_convert_bytes_arg w 22 5 Tryz.underlying22 Tryz.underlying5 g 0 1 1 [c] rfl (fun i hi => by
    obtain rfl : i = 0 := by omega
    exact h) 9 Tryz.underlying9]
  rfl
theorem conv_later {w w1 : World} {c : Int} (hb : Below ((w.alloc (.cells #[.int .u8 c] 5)).drew).heap.size (w.alloc (.cells #[.int .u8 c] 5)).drew w1) : (convert 22 9 (.slice (some ⟨w.heap.size, 0, none⟩) 1 1)).run Tryz.prog w1 = .ok (.string (oneB c)) w1 :=
  conv_cell w1 w.heap.size c ((hb.cell (p := ⟨w.heap.size, 0, none⟩) (by show w.heap.size < (w.heap.push _).size; rw [Array.size_push]; exact Nat.lt_succ_self _)).trans (by rw [World.cell?_drew, World.cell?_alloc_at _ _ _ _ rfl]; rfl))
theorem oneB_digit (d : Nat) (h : d < 10) : oneB (48 + (d : Int)) = bs (decDigits d) := by
  unfold oneB
  rw [decDigits_one h, show (48 + (d : Int)).toNat = 48 + d by omega]

theorem below_of_drew {w w' : World} (h : Below w.drew.heap.size w.drew w') : Below w.heap.size w w' := ⟨h.os, h.tape, h.output, h.size, h.block⟩
set_option maxRecDepth 100000 in
theorem sNumber0 (u : Nat) : ∀ w : World, u ≤ 4611686018427387904 → Calls Tryz.prog 52 #[.int .i64 u] w fun e w' => e = .returned (.string (bs (decDigits u))) ∧ Below w.heap.size w w' := by
  induction u using Nat.strongRecOn with
  | _ u ih =>
    intro w hu
    have hcv := conv_one
    have hcd := conv_one_drew
    by_cases h : u < 10
    · clear ih
      go_enter Tryz.func52, Tryz.ntmps52
      go_wp2_with fail
      go_ret
      refine ⟨?_, below_alloc _ _⟩
      rw [← oneB_digit u h]
      rfl
    · obtain ⟨q, hq⟩ : ∃ q, q = u / 10 := ⟨_, rfl⟩
      obtain ⟨d, hd⟩ : ∃ d, d = u % 10 := ⟨_, rfl⟩
      have K : Hid (∀ w, Calls Tryz.prog 52 #[.int .i64 q] w fun e w' => e = .returned (.string (bs (decDigits q))) ∧ Below w.heap.size w w') := fun w => ih q (by omega) w (by omega)
      have e1 : (u : Int) / 10 = q := by omega
      have e2 : (u : Int).tmod 10 = d := by rw [Int.tmod_eq_emod_of_nonneg (by omega)]; omega
      have e3 : decDigits u = decDigits q ++ decDigits d := by
        rw [decDigits, dif_neg h, ← hq, ← hd, decDigits_one (show d < 10 by omega)]
      have hq2 : q ≤ 461168601842738790 := by omega
      have hd2 : d < 10 := by omega
      have E3 := Lib.hid e3
      have w1 : IntKind.i64.wrap (q : Int) = q := IntWalk.i64_in _ (by omega)
      have w2 : IntKind.i64.wrap (48 + (d : Int)) = 48 + d := IntWalk.i64_in _ (by omega)
      have w3 : IntKind.u8.wrap (48 + (d : Int)) = 48 + d := IntWalk.u8_in _ (by omega)
      have hz1 : (bs (decDigits q)).size ≤ 20 := by
        rw [bs_size, decDigits_length]; exact nDigits_le20 q (by omega)
      have hz2 : (oneB (48 + (d : Int))).size = 1 := by unfold oneB; rw [bs_size]; rfl
      have hz : ¬ 9223372036854775807 < (bs (decDigits q)).size + (oneB (48 + (d : Int))).size := by omega
      clear hz1 hz2
      have h10 : ((u : Int) < 10) = False := by simp; omega
      clear ih hq hd e3
      go_enter Tryz.func52, Tryz.ntmps52
      go_wp2_with fail
      go_region_law ((go_simp; go_at_call 52; (with_reducible refine Calls.mono (K.out _) ?_); rintro e w1 ⟨rfl, hb⟩; first | (have hcx := conv_later hb) | skip))
      all_goals
        go_wp2_with fail
        go_ret
        refine ⟨?_, ?_⟩
        · show Ending.returned (.string (bs (decDigits q) ++ oneB (48 + (d : Int)))) = _
          rw [E3.out, oneB_digit d hd2, bs_append]
        · first
            | exact (below_of_drew hb).alloc (below_of_drew hb).size _
            | exact (below_alloc w _).trans ((below_of_drew hb).mono (by show w.heap.size ≤ (w.heap.push _).size; rw [Array.size_push]; omega))
set_option maxRecDepth 100000 in
/-- A number's text, by the reference. -/
theorem sNumber (n : Int) (h0 : -4611686018427387904 ≤ n) (h1 : n ≤ 4611686018427387904) (w : World) : Calls Tryz.prog 52 #[.int .i64 n] w fun e w' => e = .returned (.string (bs (itoa n))) ∧ Below w.heap.size w w' := by
  by_cases hn : n < 0
  · obtain ⟨u, rfl⟩ : ∃ u : Nat, n = -(u : Int) := ⟨n.natAbs, by omega⟩
    have K := sNumber0 u
    have e1 : IntKind.i64.wrap (u : Int) = u := IntWalk.i64_in _ (by omega)
    have e2 : (-(u : Int) == (u : Int)) = false := by rw [beq_eq_false_iff_ne]; omega
    have hz1 : (bs (decDigits u)).size ≤ 20 := by rw [bs_size, decDigits_length]; exact nDigits_le20 u (by omega)
    have HU : u ≤ 4611686018427387904 := by omega
    have HK := Lib.hid K
    clear K
    go_enter Tryz.func52, Tryz.ntmps52
    go_wp2_with fail
    refine (HK.out _ HU).mono ?_
    rintro e w1 ⟨rfl, hb⟩
    go_wp2_with fail
    go_ret
    refine ⟨?_, hb⟩
    rw [itoa_neg u (by omega)]
    show Ending.returned (.string (bs [45] ++ bs (decDigits u))) = _
    rw [bs_append]; rfl
  · obtain ⟨u, rfl⟩ : ∃ u : Nat, n = u := ⟨n.toNat, by omega⟩
    rw [itoa_nonneg]
    exact sNumber0 u w (by omega)
end Go.Proofs.YtnomlkkhkacajaaGreatDoor
