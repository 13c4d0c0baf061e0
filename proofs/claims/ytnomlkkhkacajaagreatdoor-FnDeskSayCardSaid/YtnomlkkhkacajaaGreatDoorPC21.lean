/- Texts on the way to a law (J7), each with its own remark. -/
import Derived.Test.YtnomlkkhkacajaaGreatDoorPC17
import Derived.Test.YtnomlkkhkacajaaGreatDoorPC19
import Derived.Test.YtnomlkkhkacajaaGreatDoorPC20
namespace Go.Proofs.YtnomlkkhkacajaaGreatDoor
open Go.RowKit
open Go.Lib hiding intOf

def numC (o : Option Int) (k : Nat) : List Dd := match o with
  | none => []
  | some n => (List.range k).map fun (i : Nat) => ⟨(i : Int) + 3, n, []⟩
theorem numC_zero (o : Option Int) : numC o 0 = [] := by cases o <;> rfl
theorem numC_succ (n : Int) (k : Nat) : numC (some n) (k + 1) = numC (some n) k ++ [⟨(k : Int) + 3, n, []⟩] := by
  unfold numC
  simp only [List.range_succ, List.map_append, List.map_cons, List.map_nil]
theorem numC_len (o : Option Int) (k : Nat) : (numC o k).length ≤ k := by
  cases o with
  | none => simp [numC]
  | some n => simp [numC]
def base3 : List Dd := [⟨1, 0, []⟩, ⟨2, 0, []⟩, ⟨6, 0, []⟩]
def base4 (l : Txt) : List Dd := base3 ++ (if 6 < l.length then [⟨0, 0, l.drop 6⟩] else [])
theorem cands_two {l a b : Txt} (h : cutAll 32 l = [a, b]) : cands l = base4 l ++ numC (digs b) 3 := by
  unfold cands
  rw [h]
  show base4 l ++ _ = _
  simp only
  cases digs b <;> rfl
theorem cands_other {l : Txt} (h : (cutAll 32 l).length ≠ 2) : cands l = base4 l := by
  unfold cands
  show base4 l ++ _ = _
  split
  · rename_i a b he; rw [he] at h; exact absurd rfl h
  · simp
theorem base4_len (l : Txt) : (base4 l).length ≤ 4 := by
  unfold base4
  split <;> simp [base3]
theorem cands_text {l : Txt} : ∀ a ∈ cands l, a.text.length ≤ l.length := by
  intro a ha
  unfold cands at ha
  rcases List.mem_append.1 ha with h | h
  · rcases List.mem_append.1 h with h | h
    · simp at h
      rcases h with rfl | rfl | rfl <;> simp
    · split at h
      · rw [List.mem_singleton.1 h]; simp
      · cases h
  · split at h
    · split at h
      · simp at h
        rcases h with rfl | rfl | rfl <;> simp
      · cases h
    · cases h
theorem two_of_len {ws : List Txt} (h : ws.length = 2) : ∃ a b, ws = [a, b] := by
  match ws, h with
  | [a, b], _ => exact ⟨a, b, rfl⟩
theorem cands_length (l : Txt) : (cands l).length ≤ 7 := by
  have h4 := base4_len l
  by_cases h : (cutAll 32 l).length = 2
  · obtain ⟨a, b, hab⟩ := two_of_len h
    rw [cands_two hab, List.length_append]
    have := numC_len (digs b) 3
    omega
  · rw [cands_other h]; omega
theorem firstOf_drop {l : Txt} {ds : List Dd} {k : Nat} {a : Dd} (h : ds[k]? = some a) (hn : ¬ (l ≠ [] ∧ dText a = l)) : firstOf l (ds.drop k) = firstOf l (ds.drop (k + 1)) := by
  obtain ⟨hk, rfl⟩ := List.getElem?_eq_some_iff.1 h
  rw [List.drop_eq_getElem_cons hk]
  show (if l ≠ [] ∧ dText ds[k] = l then _ else _) = _
  rw [if_neg hn]
theorem firstOf_hit {l : Txt} {ds : List Dd} {k : Nat} {a : Dd} (h : ds[k]? = some a) (hn : l ≠ [] ∧ dText a = l) : firstOf l (ds.drop k) = some a := by
  obtain ⟨hk, rfl⟩ := List.getElem?_eq_some_iff.1 h
  rw [List.drop_eq_getElem_cons hk]
  show (if l ≠ [] ∧ dText ds[k] = l then _ else _) = _
  rw [if_pos hn]
theorem od_ne {w : World} {B B' n n' c : Nat} {E' : TypeId} {v : Value} {ds : List Dd} {vs' : List Value} {g : Nat} (h : Od w B v n ds) (h' : Ow w B' E' (.slice (some ⟨g, 0, none⟩) n' c) n' vs') (hE : 28 ≠ E') : v.ownBlock ≠ some g := by
  intro he
  rcases h.2 with ⟨rfl, _⟩ | ⟨g1, cap, cur, hv, _, hh, _⟩
  · cases he
  · subst hv
    have : some g1 = some g := he
    cases this
    rcases h'.2 with ⟨hv', _⟩ | ⟨g2, cap2, cur2, hv2, _, hh2, _⟩
    · cases hv'
    · injection hv2 with h1
      injection h1 with h1
      injection h1 with h1
      subst h1
      rw [hh] at hh2
      cases hh2
      exact hE rfl
theorem Od.cells {w : World} {B n c : Nat} {A : Option Addr} {ds : List Dd} (h : Od w B (.slice A n c) n ds) {k : Nat} (hk : k < n) :
    ∃ g a, A = some ⟨g, 0, none⟩ ∧ ds[k]? = some a ∧ w.cell? ⟨g, k * 3, none⟩ = some (.int .i64 a.kind) ∧ w.cell? ⟨g, k * 3 + 1, none⟩ = some (.int .i64 a.num) ∧ w.cell? ⟨g, k * 3 + 2, none⟩ = some (.string (bs a.text)) ∧ g < w.heap.size := by
  have hl := h.len
  have h' := h
  rcases h.2 with ⟨hv, hn⟩ | ⟨g, cap, cur, hv, hg, hh, r⟩
  · omega
  · injection hv with h1 _ h3
    subst h1
    subst h3
    have ha : ds[k]? = some (ds[k]'(by omega)) := List.getElem?_eq_getElem (by omega)
    obtain ⟨e0, e1, e2⟩ := dcs_get ha
    refine ⟨g, _, rfl, ha, ?_, ?_, ?_, (Array.getElem?_eq_some_iff.1 hh).1⟩
    · rw [World.ownsRow.cellAt h' _ (by omega)]; exact e0
    · rw [World.ownsRow.cellAt h' _ (by omega)]; exact e1
    · rw [World.ownsRow.cellAt h' _ (by omega)]; exact e2
theorem DAt.box' {w w1 : World} {k n : Int} {t : ByteArray} {E : TypeId} (hb : Below (w.heap.size + 1) (w.alloc (.cells #[.int .i64 k, .int .i64 n, .string t] E)) w1) : DAt w1 w.heap.size k n t :=
  DAt.box (E := E) (by rw [show (w.alloc (.cells #[.int .i64 k, .int .i64 n, .string t] E)).heap.size = w.heap.size + 1 by simp]; exact hb)
theorem below_box' {w w1 : World} {o : Obj} (hb : Below (w.heap.size + 1) (w.alloc o) w1) : Below w.heap.size w w1 := (below_alloc w o).trans (hb.mono (Nat.le_succ _))

set_option maxHeartbeats 4000000 in
set_option maxRecDepth 100000 in
/-- The reference's reader of a deed, behind the candidates that need no number. -/
theorem sReadDeed (l : Txt) (hl : l.length ≤ 4294967280) (w : World) :
    Calls Tryz.prog 51 #[.string (bs l)] w (RetDd w (readDd l)) := by
  have hto := bs_toList l
  rw [← firstOf_readDd l]
  obtain ⟨n, hn⟩ : ∃ n, n = l.length := ⟨_, rfl⟩
  have hsz : (bs l).size = n := by rw [bs_size, hn]
  have hx := bs_extract l
  have HC := Lib.hid (fun w => sCut l 32 hl w)
  have HCT := Lib.hid (@cands_text l)
  have HCL := Lib.hid (cands_length l)
  have HN := Lib.hid hn
  have hn2 : n ≤ 4294967280 := by omega
  have HC2 := Lib.hid (fun a b h => @cands_two l a b h)
  have HC0 := Lib.hid (fun h => @cands_other l h)
  have HB4L := Lib.hid (base4_len l)
  have hs1 : (w.alloc (.cells #[.int .i64 0, .int .i64 0, .string { data := #[] }] 28)).heap.size = w.heap.size + 1 := by simp
  have HLIT : Hid (Od ((w.alloc (.cells #[.int .i64 0, .int .i64 0, .string { data := #[] }] 28)).alloc (.cells #[.int .i64 1, .int .i64 0, .string { data := #[] }, .int .i64 2, .int .i64 0, .string { data := #[] }, .int .i64 6, .int .i64 0, .string { data := #[] }] 28)) (w.heap.size + 1) (.slice (some ⟨w.heap.size + 1, 0, none⟩) 3 3) 3 base3) := by
    have h := Od.lit (w := w.alloc (.cells #[.int .i64 0, .int .i64 0, .string { data := #[] }] 28)) base3 (by simp [base3, maxLen]) #[.int .i64 1, .int .i64 0, .string { data := #[] }, .int .i64 2, .int .i64 0, .string { data := #[] }, .int .i64 6, .int .i64 0, .string { data := #[] }] rfl
    rw [hs1] at h
    exact h
  have HBL : Hid (Below (w.heap.size + 1) (w.alloc (.cells #[.int .i64 0, .int .i64 0, .string { data := #[] }] 28)) ((w.alloc (.cells #[.int .i64 0, .int .i64 0, .string { data := #[] }] 28)).alloc (.cells #[.int .i64 1, .int .i64 0, .string { data := #[] }, .int .i64 2, .int .i64 0, .string { data := #[] }, .int .i64 6, .int .i64 0, .string { data := #[] }] 28))) := by
    have h := below_alloc (w.alloc (.cells #[.int .i64 0, .int .i64 0, .string { data := #[] }] 28)) (.cells #[.int .i64 1, .int .i64 0, .string { data := #[] }, .int .i64 2, .int .i64 0, .string { data := #[] }, .int .i64 6, .int .i64 0, .string { data := #[] }] 28)
    rw [hs1] at h
    exact h
  have hs2 : w.heap.size + 1 ≤ ((w.alloc (.cells #[.int .i64 0, .int .i64 0, .string { data := #[] }] 28)).alloc (.cells #[.int .i64 1, .int .i64 0, .string { data := #[] }, .int .i64 2, .int .i64 0, .string { data := #[] }, .int .i64 6, .int .i64 0, .string { data := #[] }] 28)).heap.size := by simp
  have HS2 := Lib.hid hs2
  clear hs1 hs2
  by_cases h6 : 6 < n
  · have ht6 : List.take (n - 6) (List.drop 6 l) = List.drop 6 l := List.take_of_length_le (by rw [List.length_drop]; omega)
    have HB4 : Hid (base4 l = base3 ++ [⟨0, 0, l.drop 6⟩]) := by show _ = _; unfold base4; rw [if_pos (by omega)]
    clear hn hl
    go_enter Tryz.func51, Tryz.ntmps51
    go_wp2_with (at_builtin; refine wl_appDd (w.heap.size + 1) ⟨0, 0, l.drop 6⟩ HS2.out rfl (.tmp 17) (.tmp 21) 37 rfl Tryz.eDd _ 3 base3 rfl HLIT.out (by show Value.slice (some ⟨w.heap.size + 1 + 1, 0, none⟩) 1 1 = _; simp) (by simp [maxLen]) (by simp) ?_; intro v' w2 ho2 hb2 _)
    have HO2 : Hid (Od w2 (w.heap.size + 1) v' (base4 l).length (base4 l)) := by show Od _ _ _ _ _; rw [HB4.out]; exact ho2
    have HB2 : Hid (Below (w.heap.size + 1) (w.alloc (.cells #[.int .i64 0, .int .i64 0, .string { data := #[] }] 28)) w2) := HBL.out.trans hb2
    clear ho2 hb2 ht6
    go_wp2_with fail
    refine (HC.out w2).mono ?_
    rintro e w3 ⟨A3, m3, c3, rfl, ho3, hb3⟩
    have hsz2 : w.heap.size + 1 ≤ w2.heap.size := by have := HB2.out.size; simpa using this
    have HO3 : Hid (Od w3 (w.heap.size + 1) v' (base4 l).length (base4 l)) := Od.below HO2.out hb3
    have HB3 : Hid (Below (w.heap.size + 1) (w.alloc (.cells #[.int .i64 0, .int .i64 0, .string { data := #[] }] 28)) w3) := HB2.out.trans (hb3.mono hsz2)
    have HW3 : Hid (Ow w3 (w.heap.size + 1) 9 (.slice A3 m3 c3) m3 ((cutAll 32 l).map sv)) := ho3.mono hsz2
    have hm3 : (cutAll 32 l).length = m3 := by simpa using ho3.len
    clear ho3 hb3 hsz2 HO2 HB2 HC
    by_cases h2 : m3 = 2
    · subst h2
      obtain ⟨wa, wb, hab⟩ := two_of_len hm3
      have HCD := Lib.hid (HC2.out wa wb hab)
      have hbl : wb.length ≤ 4294967280 := by
        have := cutAll_word 32 l wb (by rw [hab]; simp)
        have := HN.out
        omega
      have DG := Lib.hid (fun w => sDigits wb (by omega) w)
      rw [hab] at HW3
      clear hm3 hab
      go_wp2_with fail
      go_loopw [4, 6, 7, 8] (fun v kd _ _ wr => ∃ K : Nat, 3 ≤ K ∧ K ≤ 6 ∧ kd = .int .i64 K ∧ Od wr (w.heap.size + 1) v (base4 l ++ numC (digs wb) (K - 3)).length (base4 l ++ numC (digs wb) (K - 3)) ∧ Ow wr (w.heap.size + 1) 9 (.slice A3 2 c3) 2 ([wa, wb].map sv) ∧ Below (w.heap.size + 1) (w.alloc (.cells #[.int .i64 0, .int .i64 0, .string { data := #[] }] 28)) wr) (fun _ kd _ _ _ => 6 - (intOf kd).toNat)
      case atStart => exact ⟨3, by omega, by omega, rfl, by rw [numC_zero, List.append_nil]; exact HO3.out, HW3.out, HB3.out⟩
      case round =>
        obtain ⟨K, hk3, hk6, rfl, ho, hw, hb⟩ := hrel
        have HO4 := Lib.hid ho
        have HW4 := Lib.hid hw
        have HB4' := Lib.hid hb
        clear ho hw hb
        by_cases hlt : K ≤ 5
        · obtain ⟨g, hg, hge, hgl, hcell, _, _⟩ := HW4.out.at_ (k := 1) (by omega)
          have hck : wr.cell? ⟨g, 1, none⟩ = some (.string (bs wb)) := hcell 1 (by omega)
          subst hg
          clear hcell
          go_wp2_with fail
          refine (DG.out _).mono ?_
          rintro e w5 ⟨y, rfl, hy, y1, y2, rfl⟩
          have HY := Lib.hid hy
          clear hy
          cases hd : digs wb with
          | none =>
            have HEQ : Hid (numC (digs wb) (K + 1 - 3) = numC (digs wb) (K - 3)) := by show _ = _; rw [hd]; rfl
            clear hd
            go_wp2_with fail
            go_roundw
            case rel => exact ⟨K + 1, by omega, by omega, by go_num, by rw [HEQ.out]; exact HO4.out, HW4.out, HB4'.out⟩
            case measure => simp [intOf]; omega
          | some z =>
            have hyz := HY.out z hd
            have HEQ : Hid (base4 l ++ numC (digs wb) (K + 1 - 3) = (base4 l ++ numC (digs wb) (K - 3)) ++ [⟨K, y, []⟩]) := by
              show _ = _
              rw [hd, show K + 1 - 3 = (K - 3) + 1 by omega, numC_succ, hyz, List.append_assoc]
              congr 4; omega
            have HNE := Lib.hid (od_ne HO4.out HW4.out (by decide))
            have hsz4 : w.heap.size + 1 ≤ w5.heap.size := by have := HB4'.out.size; simpa using this
            have hl4 : (base4 l ++ numC (digs wb) (K - 3)).length ≤ 7 := by
              have h1 := HB4L.out
              have h2 := numC_len (digs wb) (K - 3)
              rw [List.length_append]; omega
            clear hd hyz hck
            go_wp2_with (at_builtin; refine wl_appDd (w.heap.size + 1) ⟨K, y, []⟩ hsz4 rfl (.tmp 42) (.tmp 46) 37 rfl Tryz.eDd _ _ _ rfl HO4.out rfl (by simp only [maxLen]; omega) (by omega) ?_; intro v6 w6 ho6 hb6 hf6; have HO6 := Lib.hid ho6; have HB6 := Lib.hid hb6; have HF6 := Lib.hid hf6; clear ho6 hb6 hf6)
            have HW6 : Hid (Ow w6 (w.heap.size + 1) 9 (.slice (some ⟨g, 0, none⟩) 2 c3) 2 ([wa, wb].map sv)) := ow_keep HW4.out (fun g' hg' => by
              cases hg'
              exact HF6.out g hgl HNE.out) (Nat.le_refl _)
            go_roundw
            case rel => exact ⟨K + 1, by omega, by omega, by go_num, by rw [HEQ.out, List.length_append]; exact HO6.out, HW6.out, HB4'.out.trans HB6.out⟩
            case measure => simp [intOf]; omega
        · obtain rfl : K = 6 := by omega
          have hkx : True := trivial
          have HOE : Hid (Od wr (w.heap.size + 1) u4 (cands l).length (cands l)) := by show Od _ _ _ _ _; rw [HCD.out]; exact HO4.out
          have HBL5 := HB4'
          obtain ⟨N, hNN⟩ : ∃ N, N = (cands l).length := ⟨_, rfl⟩
          rw [← hNN] at HOE
          have hN7 : N ≤ 7 := by rw [hNN]; exact HCL.out
          have HNN := Lib.hid hNN
          obtain ⟨A5, c5, hv5⟩ := HOE.out.shape
          subst hv5
          have HOL := HOE
          clear hNN HO4 HW4 HB4' HCD
          clear hkx
          go_wp2_with fail
          go_loopw [9] (fun i wr => ∃ k : Nat, k ≤ N ∧ i = .int .i64 k ∧ firstOf l (cands l) = firstOf l ((cands l).drop k) ∧ Od wr (w.heap.size + 1) (.slice A5 N c5) N (cands l) ∧ Below (w.heap.size + 1) (w.alloc (.cells #[.int .i64 0, .int .i64 0, .string { data := #[] }] 28)) wr) (fun i _ => N - (intOf i).toNat)
          case atStart => exact ⟨0, by omega, rfl, rfl, HOL.out, HBL5.out⟩
          case round =>
            obtain ⟨k, hk, rfl, hfo, hod, hbr⟩ := hrel
            have HFO := Lib.hid hfo
            have HOD := Lib.hid hod
            have HBR := Lib.hid hbr
            clear hfo hod hbr
            by_cases hlt : k < N
            · by_cases hle : l = []
              · have hle2 : l.isEmpty = true := by rw [hle]; rfl
                have HNX : Hid (firstOf l (cands l) = firstOf l ((cands l).drop (k + 1))) := by
                  show _ = _
                  obtain ⟨_, a, _, ha, _⟩ := HOD.out.cells hlt
                  rw [HFO.out]; exact firstOf_drop ha (fun h => h.1 hle)
                clear hle
                go_wp2_with fail
                go_roundw
                case rel => first | exact ⟨k + 1, by omega, by go_num, HNX.out, HOD.out, HBR.out⟩ | ((repeat apply Exists.intro); exact ⟨⟨k + 1, by omega, by go_num, HNX.out, HOD.out, HBR.out⟩, rfl⟩)
                case measure => simp [intOf]; omega
              · have hle2 : l.isEmpty = false := by simpa using hle
                obtain ⟨g, a, hA, ha, c0, c1, c2, hgl⟩ := HOD.out.cells hlt
                have HA := Lib.hid ha
                have HLE := Lib.hid hle
                have hat : a.text.length ≤ n := by rw [HN.out]; exact HCT.out a (List.mem_of_getElem? ha)
                have HT := Lib.hid (fun w => sDeedText a (by omega) w)
                unfold dv at HT
                subst hA
                clear ha hle
                go_wp2_with fail
                refine (HT.out _).mono ?_
                rintro e w6 ⟨rfl, hb6⟩
                have HB6 : Hid (Below (w.heap.size + 1) (w.alloc (.cells #[.int .i64 0, .int .i64 0, .string { data := #[] }] 28)) w6) := HBR.out.trans (hb6.mono (by have := HBR.out.size; simpa using this))
                have HO6 : Hid (Od w6 (w.heap.size + 1) (.slice (some ⟨g, 0, none⟩) N c5) N (cands l)) := Od.below HOD.out hb6
                have d0 := (hb6.cell (p := ⟨g, k * 3, none⟩) hgl).trans c0
                have d1 := (hb6.cell (p := ⟨g, k * 3 + 1, none⟩) hgl).trans c1
                have d2 := (hb6.cell (p := ⟨g, k * 3 + 2, none⟩) hgl).trans c2
                clear hb6 c0 c1 c2
                have hto2 := bs_toList (dText a)
                by_cases he : dText a = l
                · have he2 : (dText a == l) = true := by rw [beq_iff_eq]; exact he
                  have HRES : Hid (firstOf l (cands l) = some a) := by show _ = _; rw [HFO.out]; exact firstOf_hit HA.out ⟨HLE.out, he⟩
                  obtain ⟨r0, r1, r2, s0, s1, s2, hsz6⟩ := DAt.box' HB6.out
                  clear he
                  go_wp2_with fail
                  refine bodyPost_ret (v := .tuple #[dv a, .bool true]) (by simp [results, Tryz.results51, go_sem, r0, r1, r2, dv]) rfl ?_
                  rw [HRES.out]
                  exact ⟨rfl, below_set3 (below_box' HB6.out) (Nat.le_refl _) _ _ _⟩
                · have he2 : (dText a == l) = false := by rw [beq_eq_false_iff_ne]; exact he
                  have HNX : Hid (firstOf l (cands l) = firstOf l ((cands l).drop (k + 1))) := by
                    show _ = _
                    rw [HFO.out]; exact firstOf_drop HA.out (fun h => he h.2)
                  clear he
                  go_wp2_with fail
                  go_roundw
                  case rel => first | exact ⟨k + 1, by omega, by go_num, HNX.out, HO6.out, HB6.out⟩ | ((repeat apply Exists.intro); exact ⟨⟨k + 1, by omega, by go_num, HNX.out, HO6.out, HB6.out⟩, rfl⟩)
                  case measure => simp [intOf]; omega
            · obtain rfl : k = N := by omega
              have HRES : Hid (firstOf l (cands l) = none) := by
                show _ = _
                rw [HFO.out, List.drop_of_length_le (by rw [HOD.out.len]; omega)]; rfl
              obtain ⟨r0, r1, r2, s0, s1, s2, hsz6⟩ := DAt.box' HBR.out
              go_wp2_with fail
              refine bodyPost_ret (v := .tuple #[dv ⟨0, 0, []⟩, .bool false]) (by simp [results, Tryz.results51, go_sem, r0, r1, r2, dv, bs]) rfl ?_
              rw [HRES.out]
              exact ⟨rfl, below_set3 (below_box' HBR.out) (Nat.le_refl _) _ _ _⟩
    · have hne : ((m3 : Int) == 2) = false := by rw [beq_eq_false_iff_ne]; omega
      have HCD := Lib.hid (HC0.out (by rw [hm3]; exact h2))
      clear hm3 h2
      go_wp2_with fail
      go_loopw [4, 6, 7, 8] (fun v kd _ _ wr => kd = .int .i64 3 ∧ v = v' ∧ w3 = wr) (fun _ _ _ _ _ => 0)
      case atStart => exact ⟨rfl, rfl, rfl⟩
      case round =>
        obtain ⟨rfl, rfl, rfl⟩ := hrel
        have hkx : True := trivial
        have HOE : Hid (Od w3 (w.heap.size + 1) u4 (cands l).length (cands l)) := by show Od _ _ _ _ _; rw [HCD.out]; exact HO3.out
        have HBL5 := HB3
        obtain ⟨N, hNN⟩ : ∃ N, N = (cands l).length := ⟨_, rfl⟩
        rw [← hNN] at HOE
        have hN7 : N ≤ 7 := by rw [hNN]; exact HCL.out
        have HNN := Lib.hid hNN
        obtain ⟨A5, c5, hv5⟩ := HOE.out.shape
        subst hv5
        have HOL := HOE
        clear hNN HO3 HW3 HB3 HCD
        clear hkx
        go_wp2_with fail
        go_loopw [9] (fun i wr => ∃ k : Nat, k ≤ N ∧ i = .int .i64 k ∧ firstOf l (cands l) = firstOf l ((cands l).drop k) ∧ Od wr (w.heap.size + 1) (.slice A5 N c5) N (cands l) ∧ Below (w.heap.size + 1) (w.alloc (.cells #[.int .i64 0, .int .i64 0, .string { data := #[] }] 28)) wr) (fun i _ => N - (intOf i).toNat)
        case atStart => exact ⟨0, by omega, rfl, rfl, HOL.out, HBL5.out⟩
        case round =>
          obtain ⟨k, hk, rfl, hfo, hod, hbr⟩ := hrel
          have HFO := Lib.hid hfo
          have HOD := Lib.hid hod
          have HBR := Lib.hid hbr
          clear hfo hod hbr
          by_cases hlt : k < N
          · by_cases hle : l = []
            · have hle2 : l.isEmpty = true := by rw [hle]; rfl
              have HNX : Hid (firstOf l (cands l) = firstOf l ((cands l).drop (k + 1))) := by
                show _ = _
                obtain ⟨_, a, _, ha, _⟩ := HOD.out.cells hlt
                rw [HFO.out]; exact firstOf_drop ha (fun h => h.1 hle)
              clear hle
              go_wp2_with fail
              go_roundw
              case rel => first | exact ⟨k + 1, by omega, by go_num, HNX.out, HOD.out, HBR.out⟩ | ((repeat apply Exists.intro); exact ⟨⟨k + 1, by omega, by go_num, HNX.out, HOD.out, HBR.out⟩, rfl⟩)
              case measure => simp [intOf]; omega
            · have hle2 : l.isEmpty = false := by simpa using hle
              obtain ⟨g, a, hA, ha, c0, c1, c2, hgl⟩ := HOD.out.cells hlt
              have HA := Lib.hid ha
              have HLE := Lib.hid hle
              have hat : a.text.length ≤ n := by rw [HN.out]; exact HCT.out a (List.mem_of_getElem? ha)
              have HT := Lib.hid (fun w => sDeedText a (by omega) w)
              unfold dv at HT
              subst hA
              clear ha hle
              go_wp2_with fail
              refine (HT.out _).mono ?_
              rintro e w6 ⟨rfl, hb6⟩
              have HB6 : Hid (Below (w.heap.size + 1) (w.alloc (.cells #[.int .i64 0, .int .i64 0, .string { data := #[] }] 28)) w6) := HBR.out.trans (hb6.mono (by have := HBR.out.size; simpa using this))
              have HO6 : Hid (Od w6 (w.heap.size + 1) (.slice (some ⟨g, 0, none⟩) N c5) N (cands l)) := Od.below HOD.out hb6
              have d0 := (hb6.cell (p := ⟨g, k * 3, none⟩) hgl).trans c0
              have d1 := (hb6.cell (p := ⟨g, k * 3 + 1, none⟩) hgl).trans c1
              have d2 := (hb6.cell (p := ⟨g, k * 3 + 2, none⟩) hgl).trans c2
              clear hb6 c0 c1 c2
              have hto2 := bs_toList (dText a)
              by_cases he : dText a = l
              · have he2 : (dText a == l) = true := by rw [beq_iff_eq]; exact he
                have HRES : Hid (firstOf l (cands l) = some a) := by show _ = _; rw [HFO.out]; exact firstOf_hit HA.out ⟨HLE.out, he⟩
                obtain ⟨r0, r1, r2, s0, s1, s2, hsz6⟩ := DAt.box' HB6.out
                clear he
                go_wp2_with fail
                refine bodyPost_ret (v := .tuple #[dv a, .bool true]) (by simp [results, Tryz.results51, go_sem, r0, r1, r2, dv]) rfl ?_
                rw [HRES.out]
                exact ⟨rfl, below_set3 (below_box' HB6.out) (Nat.le_refl _) _ _ _⟩
              · have he2 : (dText a == l) = false := by rw [beq_eq_false_iff_ne]; exact he
                have HNX : Hid (firstOf l (cands l) = firstOf l ((cands l).drop (k + 1))) := by
                  show _ = _
                  rw [HFO.out]; exact firstOf_drop HA.out (fun h => he h.2)
                clear he
                go_wp2_with fail
                go_roundw
                case rel => first | exact ⟨k + 1, by omega, by go_num, HNX.out, HO6.out, HB6.out⟩ | ((repeat apply Exists.intro); exact ⟨⟨k + 1, by omega, by go_num, HNX.out, HO6.out, HB6.out⟩, rfl⟩)
                case measure => simp [intOf]; omega
          · obtain rfl : k = N := by omega
            have HRES : Hid (firstOf l (cands l) = none) := by
              show _ = _
              rw [HFO.out, List.drop_of_length_le (by rw [HOD.out.len]; omega)]; rfl
            obtain ⟨r0, r1, r2, s0, s1, s2, hsz6⟩ := DAt.box' HBR.out
            go_wp2_with fail
            refine bodyPost_ret (v := .tuple #[dv ⟨0, 0, []⟩, .bool false]) (by simp [results, Tryz.results51, go_sem, r0, r1, r2, dv, bs]) rfl ?_
            rw [HRES.out]
            exact ⟨rfl, below_set3 (below_box' HBR.out) (Nat.le_refl _) _ _ _⟩
  · have HB4 : Hid (base4 l = base3) := by show _ = _; unfold base4; rw [if_neg (by omega)]; simp
    have HO2 : Hid (Od ((w.alloc (.cells #[.int .i64 0, .int .i64 0, .string { data := #[] }] 28)).alloc (.cells #[.int .i64 1, .int .i64 0, .string { data := #[] }, .int .i64 2, .int .i64 0, .string { data := #[] }, .int .i64 6, .int .i64 0, .string { data := #[] }] 28)) (w.heap.size + 1) (.slice (some ⟨w.heap.size + 1, 0, none⟩) 3 3) (base4 l).length (base4 l)) := by show Od _ _ _ _ _; rw [HB4.out]; exact HLIT.out
    have HB2 := HBL
    clear hn hl HLIT HBL HS2
    go_enter Tryz.func51, Tryz.ntmps51
    go_wp2_with fail
    generalize hw2 : (w.alloc (.cells #[.int .i64 0, .int .i64 0, .string { data := #[] }] 28)).alloc (.cells #[.int .i64 1, .int .i64 0, .string { data := #[] }, .int .i64 2, .int .i64 0, .string { data := #[] }, .int .i64 6, .int .i64 0, .string { data := #[] }] 28) = w2 at *
    generalize hv2 : Value.slice (some ⟨w.heap.size + 1, 0, none⟩) 3 3 = v' at *
    clear hw2 hv2
    refine (HC.out w2).mono ?_
    rintro e w3 ⟨A3, m3, c3, rfl, ho3, hb3⟩
    have hsz2 : w.heap.size + 1 ≤ w2.heap.size := by have := HB2.out.size; simpa using this
    have HO3 : Hid (Od w3 (w.heap.size + 1) v' (base4 l).length (base4 l)) := Od.below HO2.out hb3
    have HB3 : Hid (Below (w.heap.size + 1) (w.alloc (.cells #[.int .i64 0, .int .i64 0, .string { data := #[] }] 28)) w3) := HB2.out.trans (hb3.mono hsz2)
    have HW3 : Hid (Ow w3 (w.heap.size + 1) 9 (.slice A3 m3 c3) m3 ((cutAll 32 l).map sv)) := ho3.mono hsz2
    have hm3 : (cutAll 32 l).length = m3 := by simpa using ho3.len
    clear ho3 hb3 hsz2 HO2 HB2 HC
    by_cases h2 : m3 = 2
    · subst h2
      obtain ⟨wa, wb, hab⟩ := two_of_len hm3
      have HCD := Lib.hid (HC2.out wa wb hab)
      have hbl : wb.length ≤ 4294967280 := by
        have := cutAll_word 32 l wb (by rw [hab]; simp)
        have := HN.out
        omega
      have DG := Lib.hid (fun w => sDigits wb (by omega) w)
      rw [hab] at HW3
      clear hm3 hab
      go_wp2_with fail
      go_loopw [4, 6, 7, 8] (fun v kd _ _ wr => ∃ K : Nat, 3 ≤ K ∧ K ≤ 6 ∧ kd = .int .i64 K ∧ Od wr (w.heap.size + 1) v (base4 l ++ numC (digs wb) (K - 3)).length (base4 l ++ numC (digs wb) (K - 3)) ∧ Ow wr (w.heap.size + 1) 9 (.slice A3 2 c3) 2 ([wa, wb].map sv) ∧ Below (w.heap.size + 1) (w.alloc (.cells #[.int .i64 0, .int .i64 0, .string { data := #[] }] 28)) wr) (fun _ kd _ _ _ => 6 - (intOf kd).toNat)
      case atStart => exact ⟨3, by omega, by omega, rfl, by rw [numC_zero, List.append_nil]; exact HO3.out, HW3.out, HB3.out⟩
      case round =>
        obtain ⟨K, hk3, hk6, rfl, ho, hw, hb⟩ := hrel
        have HO4 := Lib.hid ho
        have HW4 := Lib.hid hw
        have HB4' := Lib.hid hb
        clear ho hw hb
        by_cases hlt : K ≤ 5
        · obtain ⟨g, hg, hge, hgl, hcell, _, _⟩ := HW4.out.at_ (k := 1) (by omega)
          have hck : wr.cell? ⟨g, 1, none⟩ = some (.string (bs wb)) := hcell 1 (by omega)
          subst hg
          clear hcell
          go_wp2_with fail
          refine (DG.out _).mono ?_
          rintro e w5 ⟨y, rfl, hy, y1, y2, rfl⟩
          have HY := Lib.hid hy
          clear hy
          cases hd : digs wb with
          | none =>
            have HEQ : Hid (numC (digs wb) (K + 1 - 3) = numC (digs wb) (K - 3)) := by show _ = _; rw [hd]; rfl
            clear hd
            go_wp2_with fail
            go_roundw
            case rel => exact ⟨K + 1, by omega, by omega, by go_num, by rw [HEQ.out]; exact HO4.out, HW4.out, HB4'.out⟩
            case measure => simp [intOf]; omega
          | some z =>
            have hyz := HY.out z hd
            have HEQ : Hid (base4 l ++ numC (digs wb) (K + 1 - 3) = (base4 l ++ numC (digs wb) (K - 3)) ++ [⟨K, y, []⟩]) := by
              show _ = _
              rw [hd, show K + 1 - 3 = (K - 3) + 1 by omega, numC_succ, hyz, List.append_assoc]
              congr 4; omega
            have HNE := Lib.hid (od_ne HO4.out HW4.out (by decide))
            have hsz4 : w.heap.size + 1 ≤ w5.heap.size := by have := HB4'.out.size; simpa using this
            have hl4 : (base4 l ++ numC (digs wb) (K - 3)).length ≤ 7 := by
              have h1 := HB4L.out
              have h2 := numC_len (digs wb) (K - 3)
              rw [List.length_append]; omega
            clear hd hyz hck
            go_wp2_with (at_builtin; refine wl_appDd (w.heap.size + 1) ⟨K, y, []⟩ hsz4 rfl (.tmp 42) (.tmp 46) 37 rfl Tryz.eDd _ _ _ rfl HO4.out rfl (by simp only [maxLen]; omega) (by omega) ?_; intro v6 w6 ho6 hb6 hf6; have HO6 := Lib.hid ho6; have HB6 := Lib.hid hb6; have HF6 := Lib.hid hf6; clear ho6 hb6 hf6)
            have HW6 : Hid (Ow w6 (w.heap.size + 1) 9 (.slice (some ⟨g, 0, none⟩) 2 c3) 2 ([wa, wb].map sv)) := ow_keep HW4.out (fun g' hg' => by
              cases hg'
              exact HF6.out g hgl HNE.out) (Nat.le_refl _)
            go_roundw
            case rel => exact ⟨K + 1, by omega, by omega, by go_num, by rw [HEQ.out, List.length_append]; exact HO6.out, HW6.out, HB4'.out.trans HB6.out⟩
            case measure => simp [intOf]; omega
        · obtain rfl : K = 6 := by omega
          have hkx : True := trivial
          have HOE : Hid (Od wr (w.heap.size + 1) u4 (cands l).length (cands l)) := by show Od _ _ _ _ _; rw [HCD.out]; exact HO4.out
          have HBL5 := HB4'
          obtain ⟨N, hNN⟩ : ∃ N, N = (cands l).length := ⟨_, rfl⟩
          rw [← hNN] at HOE
          have hN7 : N ≤ 7 := by rw [hNN]; exact HCL.out
          have HNN := Lib.hid hNN
          obtain ⟨A5, c5, hv5⟩ := HOE.out.shape
          subst hv5
          have HOL := HOE
          clear hNN HO4 HW4 HB4' HCD
          clear hkx
          go_wp2_with fail
          go_loopw [9] (fun i wr => ∃ k : Nat, k ≤ N ∧ i = .int .i64 k ∧ firstOf l (cands l) = firstOf l ((cands l).drop k) ∧ Od wr (w.heap.size + 1) (.slice A5 N c5) N (cands l) ∧ Below (w.heap.size + 1) (w.alloc (.cells #[.int .i64 0, .int .i64 0, .string { data := #[] }] 28)) wr) (fun i _ => N - (intOf i).toNat)
          case atStart => exact ⟨0, by omega, rfl, rfl, HOL.out, HBL5.out⟩
          case round =>
            obtain ⟨k, hk, rfl, hfo, hod, hbr⟩ := hrel
            have HFO := Lib.hid hfo
            have HOD := Lib.hid hod
            have HBR := Lib.hid hbr
            clear hfo hod hbr
            by_cases hlt : k < N
            · by_cases hle : l = []
              · have hle2 : l.isEmpty = true := by rw [hle]; rfl
                have HNX : Hid (firstOf l (cands l) = firstOf l ((cands l).drop (k + 1))) := by
                  show _ = _
                  obtain ⟨_, a, _, ha, _⟩ := HOD.out.cells hlt
                  rw [HFO.out]; exact firstOf_drop ha (fun h => h.1 hle)
                clear hle
                go_wp2_with fail
                go_roundw
                case rel => first | exact ⟨k + 1, by omega, by go_num, HNX.out, HOD.out, HBR.out⟩ | ((repeat apply Exists.intro); exact ⟨⟨k + 1, by omega, by go_num, HNX.out, HOD.out, HBR.out⟩, rfl⟩)
                case measure => simp [intOf]; omega
              · have hle2 : l.isEmpty = false := by simpa using hle
                obtain ⟨g, a, hA, ha, c0, c1, c2, hgl⟩ := HOD.out.cells hlt
                have HA := Lib.hid ha
                have HLE := Lib.hid hle
                have hat : a.text.length ≤ n := by rw [HN.out]; exact HCT.out a (List.mem_of_getElem? ha)
                have HT := Lib.hid (fun w => sDeedText a (by omega) w)
                unfold dv at HT
                subst hA
                clear ha hle
                go_wp2_with fail
                refine (HT.out _).mono ?_
                rintro e w6 ⟨rfl, hb6⟩
                have HB6 : Hid (Below (w.heap.size + 1) (w.alloc (.cells #[.int .i64 0, .int .i64 0, .string { data := #[] }] 28)) w6) := HBR.out.trans (hb6.mono (by have := HBR.out.size; simpa using this))
                have HO6 : Hid (Od w6 (w.heap.size + 1) (.slice (some ⟨g, 0, none⟩) N c5) N (cands l)) := Od.below HOD.out hb6
                have d0 := (hb6.cell (p := ⟨g, k * 3, none⟩) hgl).trans c0
                have d1 := (hb6.cell (p := ⟨g, k * 3 + 1, none⟩) hgl).trans c1
                have d2 := (hb6.cell (p := ⟨g, k * 3 + 2, none⟩) hgl).trans c2
                clear hb6 c0 c1 c2
                have hto2 := bs_toList (dText a)
                by_cases he : dText a = l
                · have he2 : (dText a == l) = true := by rw [beq_iff_eq]; exact he
                  have HRES : Hid (firstOf l (cands l) = some a) := by show _ = _; rw [HFO.out]; exact firstOf_hit HA.out ⟨HLE.out, he⟩
                  obtain ⟨r0, r1, r2, s0, s1, s2, hsz6⟩ := DAt.box' HB6.out
                  clear he
                  go_wp2_with fail
                  refine bodyPost_ret (v := .tuple #[dv a, .bool true]) (by simp [results, Tryz.results51, go_sem, r0, r1, r2, dv]) rfl ?_
                  rw [HRES.out]
                  exact ⟨rfl, below_set3 (below_box' HB6.out) (Nat.le_refl _) _ _ _⟩
                · have he2 : (dText a == l) = false := by rw [beq_eq_false_iff_ne]; exact he
                  have HNX : Hid (firstOf l (cands l) = firstOf l ((cands l).drop (k + 1))) := by
                    show _ = _
                    rw [HFO.out]; exact firstOf_drop HA.out (fun h => he h.2)
                  clear he
                  go_wp2_with fail
                  go_roundw
                  case rel => first | exact ⟨k + 1, by omega, by go_num, HNX.out, HO6.out, HB6.out⟩ | ((repeat apply Exists.intro); exact ⟨⟨k + 1, by omega, by go_num, HNX.out, HO6.out, HB6.out⟩, rfl⟩)
                  case measure => simp [intOf]; omega
            · obtain rfl : k = N := by omega
              have HRES : Hid (firstOf l (cands l) = none) := by
                show _ = _
                rw [HFO.out, List.drop_of_length_le (by rw [HOD.out.len]; omega)]; rfl
              obtain ⟨r0, r1, r2, s0, s1, s2, hsz6⟩ := DAt.box' HBR.out
              go_wp2_with fail
              refine bodyPost_ret (v := .tuple #[dv ⟨0, 0, []⟩, .bool false]) (by simp [results, Tryz.results51, go_sem, r0, r1, r2, dv, bs]) rfl ?_
              rw [HRES.out]
              exact ⟨rfl, below_set3 (below_box' HBR.out) (Nat.le_refl _) _ _ _⟩
    · have hne : ((m3 : Int) == 2) = false := by rw [beq_eq_false_iff_ne]; omega
      have HCD := Lib.hid (HC0.out (by rw [hm3]; exact h2))
      clear hm3 h2
      go_wp2_with fail
      go_loopw [4, 6, 7, 8] (fun v kd _ _ wr => kd = .int .i64 3 ∧ v = v' ∧ w3 = wr) (fun _ _ _ _ _ => 0)
      case atStart => exact ⟨rfl, rfl, rfl⟩
      case round =>
        obtain ⟨rfl, rfl, rfl⟩ := hrel
        have hkx : True := trivial
        have HOE : Hid (Od w3 (w.heap.size + 1) u4 (cands l).length (cands l)) := by show Od _ _ _ _ _; rw [HCD.out]; exact HO3.out
        have HBL5 := HB3
        obtain ⟨N, hNN⟩ : ∃ N, N = (cands l).length := ⟨_, rfl⟩
        rw [← hNN] at HOE
        have hN7 : N ≤ 7 := by rw [hNN]; exact HCL.out
        have HNN := Lib.hid hNN
        obtain ⟨A5, c5, hv5⟩ := HOE.out.shape
        subst hv5
        have HOL := HOE
        clear hNN HO3 HW3 HB3 HCD
        clear hkx
        go_wp2_with fail
        go_loopw [9] (fun i wr => ∃ k : Nat, k ≤ N ∧ i = .int .i64 k ∧ firstOf l (cands l) = firstOf l ((cands l).drop k) ∧ Od wr (w.heap.size + 1) (.slice A5 N c5) N (cands l) ∧ Below (w.heap.size + 1) (w.alloc (.cells #[.int .i64 0, .int .i64 0, .string { data := #[] }] 28)) wr) (fun i _ => N - (intOf i).toNat)
        case atStart => exact ⟨0, by omega, rfl, rfl, HOL.out, HBL5.out⟩
        case round =>
          obtain ⟨k, hk, rfl, hfo, hod, hbr⟩ := hrel
          have HFO := Lib.hid hfo
          have HOD := Lib.hid hod
          have HBR := Lib.hid hbr
          clear hfo hod hbr
          by_cases hlt : k < N
          · by_cases hle : l = []
            · have hle2 : l.isEmpty = true := by rw [hle]; rfl
              have HNX : Hid (firstOf l (cands l) = firstOf l ((cands l).drop (k + 1))) := by
                show _ = _
                obtain ⟨_, a, _, ha, _⟩ := HOD.out.cells hlt
                rw [HFO.out]; exact firstOf_drop ha (fun h => h.1 hle)
              clear hle
              go_wp2_with fail
              go_roundw
              case rel => first | exact ⟨k + 1, by omega, by go_num, HNX.out, HOD.out, HBR.out⟩ | ((repeat apply Exists.intro); exact ⟨⟨k + 1, by omega, by go_num, HNX.out, HOD.out, HBR.out⟩, rfl⟩)
              case measure => simp [intOf]; omega
            · have hle2 : l.isEmpty = false := by simpa using hle
              obtain ⟨g, a, hA, ha, c0, c1, c2, hgl⟩ := HOD.out.cells hlt
              have HA := Lib.hid ha
              have HLE := Lib.hid hle
              have hat : a.text.length ≤ n := by rw [HN.out]; exact HCT.out a (List.mem_of_getElem? ha)
              have HT := Lib.hid (fun w => sDeedText a (by omega) w)
              unfold dv at HT
              subst hA
              clear ha hle
              go_wp2_with fail
              refine (HT.out _).mono ?_
              rintro e w6 ⟨rfl, hb6⟩
              have HB6 : Hid (Below (w.heap.size + 1) (w.alloc (.cells #[.int .i64 0, .int .i64 0, .string { data := #[] }] 28)) w6) := HBR.out.trans (hb6.mono (by have := HBR.out.size; simpa using this))
              have HO6 : Hid (Od w6 (w.heap.size + 1) (.slice (some ⟨g, 0, none⟩) N c5) N (cands l)) := Od.below HOD.out hb6
              have d0 := (hb6.cell (p := ⟨g, k * 3, none⟩) hgl).trans c0
              have d1 := (hb6.cell (p := ⟨g, k * 3 + 1, none⟩) hgl).trans c1
              have d2 := (hb6.cell (p := ⟨g, k * 3 + 2, none⟩) hgl).trans c2
              clear hb6 c0 c1 c2
              have hto2 := bs_toList (dText a)
              by_cases he : dText a = l
              · have he2 : (dText a == l) = true := by rw [beq_iff_eq]; exact he
                have HRES : Hid (firstOf l (cands l) = some a) := by show _ = _; rw [HFO.out]; exact firstOf_hit HA.out ⟨HLE.out, he⟩
                obtain ⟨r0, r1, r2, s0, s1, s2, hsz6⟩ := DAt.box' HB6.out
                clear he
                go_wp2_with fail
                refine bodyPost_ret (v := .tuple #[dv a, .bool true]) (by simp [results, Tryz.results51, go_sem, r0, r1, r2, dv]) rfl ?_
                rw [HRES.out]
                exact ⟨rfl, below_set3 (below_box' HB6.out) (Nat.le_refl _) _ _ _⟩
              · have he2 : (dText a == l) = false := by rw [beq_eq_false_iff_ne]; exact he
                have HNX : Hid (firstOf l (cands l) = firstOf l ((cands l).drop (k + 1))) := by
                  show _ = _
                  rw [HFO.out]; exact firstOf_drop HA.out (fun h => he h.2)
                clear he
                go_wp2_with fail
                go_roundw
                case rel => first | exact ⟨k + 1, by omega, by go_num, HNX.out, HO6.out, HB6.out⟩ | ((repeat apply Exists.intro); exact ⟨⟨k + 1, by omega, by go_num, HNX.out, HO6.out, HB6.out⟩, rfl⟩)
                case measure => simp [intOf]; omega
          · obtain rfl : k = N := by omega
            have HRES : Hid (firstOf l (cands l) = none) := by
              show _ = _
              rw [HFO.out, List.drop_of_length_le (by rw [HOD.out.len]; omega)]; rfl
            obtain ⟨r0, r1, r2, s0, s1, s2, hsz6⟩ := DAt.box' HBR.out
            go_wp2_with fail
            refine bodyPost_ret (v := .tuple #[dv ⟨0, 0, []⟩, .bool false]) (by simp [results, Tryz.results51, go_sem, r0, r1, r2, dv, bs]) rfl ?_
            rw [HRES.out]
            exact ⟨rfl, below_set3 (below_box' HBR.out) (Nat.le_refl _) _ _ _⟩
end Go.Proofs.YtnomlkkhkacajaaGreatDoor
