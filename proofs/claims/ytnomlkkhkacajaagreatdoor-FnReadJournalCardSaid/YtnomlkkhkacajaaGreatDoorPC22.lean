/- Texts on the way to a law (J11, H15), each with its own remark. -/
import Derived.Test.YtnomlkkhkacajaaGreatDoorPC16
import Derived.Test.YtnomlkkhkacajaaGreatDoorPC17
import Derived.Test.YtnomlkkhkacajaaGreatDoorPC19
import Derived.Test.YtnomlkkhkacajaaGreatDoorPC21
import Derived.Test.YtnomlkkhkacajaaGreatDoorPC13
namespace Go.Proofs.YtnomlkkhkacajaaGreatDoor
open Go.RowKit
open Go.Lib hiding intOf

theorem jGo_step {ds : List Dd} {k : Nat} {a : Dd} (h : ds[k]? = some a) (hne : dText a ≠ []) (acc : Txt) : jGo acc (ds.drop k) = jGo (acc ++ dText a ++ [10]) (ds.drop (k + 1)) := by
  obtain ⟨hk, rfl⟩ := List.getElem?_eq_some_iff.1 h
  rw [List.drop_eq_getElem_cons hk]
  show (if dText ds[k] = [] then _ else _) = _
  rw [if_neg hne]
theorem jGo_stop {ds : List Dd} {k : Nat} {a : Dd} (h : ds[k]? = some a) (h0 : dText a = []) (acc : Txt) : jGo acc (ds.drop k) = [] := by
  obtain ⟨hk, rfl⟩ := List.getElem?_eq_some_iff.1 h
  rw [List.drop_eq_getElem_cons hk]
  show (if dText ds[k] = [] then _ else _) = _
  rw [if_pos h0]
theorem jGo_end {ds : List Dd} {k : Nat} (h : ds.length ≤ k) (acc : Txt) : jGo acc (ds.drop k) = acc := by
  rw [List.drop_of_length_le h]; rfl
theorem dText_len2 (a : Dd) (M : Nat) (h : a.text.length ≤ M) : (dText a).length ≤ M + 28 := by
  by_cases h0 : dText a = []
  · rw [h0]; simp
  · rcases dText_cases h0 with ⟨_, _, _, e⟩ | ⟨h1, _, h3, h4, e⟩ | ⟨h1, _, _, e⟩
    · rw [e, List.length_append, List.length_cons]
      have : (wordOf 0).length = 5 := rfl
      omega
    · rw [e, List.length_append, List.length_cons]
      have := wordOf_len a.kind
      have := itoa_small a.num (by omega) (by omega)
      omega
    · rw [e]
      have := wordOf_len a.kind
      omega
theorem BuilderAt.below {T e : TypeId} {B b : Nat} {p : Value} {bs : List Value} {w w' : World} (h : BuilderAt T e B b p bs w) (hb : Below w.heap.size w w') : BuilderAt T e B b p bs w' := by
  have hlt := BuilderAt.lt h
  obtain ⟨hB, v, hh, hown, hne⟩ := h
  exact ⟨hB, v, (hb.block b hlt).trans hh, Ow.below hown hb, hne⟩
theorem IsBuilder.below {T e : TypeId} {B b : Nat} {bs : List Value} {w w' : World} (h : IsBuilder T e B b bs w) (hb : Below w.heap.size w w') : IsBuilder T e B b bs w' :=
  h.elim (fun x => .inl (BuilderAt.below x hb)) (fun x => .inr (BuilderAt.below x hb))
theorem byteCells_append (a b : Txt) : byteCells (a ++ b) = byteCells a ++ byteCells b := by simp [byteCells]
theorem strCells_bs (t : Txt) : strCells (bs t) = byteCells t := rfl
theorem byteCells_len (t : Txt) : (byteCells t).length = t.length := by simp [byteCells]

set_option maxHeartbeats 2000000 in
set_option maxRecDepth 100000 in
theorem iJournalText (A : Option Addr) (n c : Nat) (ds : List Dd) (w : World) (hn : n ≤ 1048576) (hd : Ds w A n ds) (ht : ∀ a ∈ ds, a.text.length ≤ 1048576) (hE : EnvT w) :
    Calls Tryz.prog 31 #[.slice A n c] w fun e w' => e = .returned (.string (bs (jText ds))) ∧ Below w.heap.size w w' := by
  have HD := Lib.hid hd
  have HT := Lib.hid ht
  have HE := Lib.hid hE
  have HB0 : Hid (IsBuilder 101 5 w.heap.size w.heap.size (byteCells []) (w.alloc (.cells #[.pointer none, .slice none 0 0] 101))) :=
    .inl ⟨Nat.le_refl _, .slice none 0 0, heap_alloc_new w _, World.ownsRow_nil _ _ _ _, by simp [Value.ownBlock]⟩
  have HBW0 := Lib.hid (below_alloc w (.cells #[.pointer none, .slice none 0 0] 101))
  clear hd ht hE
  go_enter Tryz.func31, Tryz.ntmps31
  go_wp2_with fail
  go_loopw [5, 6, 9] (fun _ _ i wr => ∃ (k : Nat) (acc : Txt), k ≤ n ∧ i = .int .i64 k ∧ IsBuilder 101 5 w.heap.size w.heap.size (byteCells acc) wr ∧ jText ds = jGo acc (ds.drop k) ∧ acc.length ≤ k * 1048605 ∧ Below w.heap.size w wr) (fun _ _ i _ => n - (intOf i).toNat)
  case atStart => exact ⟨0, [], by omega, rfl, HB0.out, rfl, by simp, HBW0.out⟩
  case round =>
    obtain ⟨k, acc, hk, rfl, hbu, hj, hal, hb⟩ := hrel
    have HBU := Lib.hid hbu
    have HJ := Lib.hid hj
    have HB := Lib.hid hb
    clear hbu hj hb
    by_cases hlt : k < n
    · obtain ⟨b, o, a, rfl, hbl, ha, c0, c1, c2⟩ := (HD.out.below HB.out).at_ hlt
      have HA := Lib.hid ha
      have hat : a.text.length ≤ 1048576 := HT.out a (List.mem_of_getElem? ha)
      have hdl := dText_len2 a _ hat
      have HDT := Lib.hid (fun w h => iDeedText a (by omega) w h)
      have hto := bs_toList (dText a)
      unfold dv at HDT
      clear ha
      go_wp2_with fail
      refine (HDT.out _ ((HE.out.kp (Kp.below HB.out)).kp (Kp.below (below_alloc _ _)))).mono ?_
      rintro e w1 ⟨rfl, hb1⟩
      have HBU1 : Hid (IsBuilder 101 5 w.heap.size w.heap.size (byteCells acc) w1) := IsBuilder.below (IsBuilder.below HBU.out (below_alloc _ _)) hb1
      have HB1 : Hid (Below w.heap.size w w1) := HB.out.trans ((below_box _ _ hb1).mono HB.out.size)
      clear hb1
      by_cases hd : dText a = []
      · have hd2 : (dText a).isEmpty = true := by rw [hd]; rfl
        have HR : Hid (jText ds = []) := by show _ = _; rw [HJ.out]; exact jGo_stop HA.out hd acc
        clear hd
        go_wp2_with fail
        go_ret
        exact ⟨by rw [HR.out]; rfl, HB1.out⟩
      · have hd2 : (dText a).isEmpty = false := by simpa using hd
        have HNX : Hid (jText ds = jGo (acc ++ dText a ++ [10]) (ds.drop (k + 1))) := by show _ = _; rw [HJ.out]; exact jGo_step HA.out hd acc
        have hlen : (byteCells acc).length + (bs (dText a)).size ≤ 140737488355328 := by rw [byteCells_len, bs_size]; omega
        have hlen2 : (byteCells acc ++ strCells (bs (dText a))).length + 1 ≤ 140737488355328 := by rw [List.length_append, strCells_bs, byteCells_len, byteCells_len]; omega
        have HL1 := Lib.hid hlen
        have HL2 := Lib.hid hlen2
        clear hd hlen hlen2
        go_wp2_with fail
        refine (Tryz.Builder_WriteString w.heap.size w.heap.size (byteCells acc) (bs (dText a)) w1 HBU1.out HL1.out HB1.out.size).mono ?_
        rintro e w2 ⟨rfl, hbu2, hb2⟩
        have HBU2 := Lib.hid hbu2
        have HB2 : Hid (Below w.heap.size w w2) := HB1.out.trans hb2
        clear hbu2 hb2
        go_wp2_with fail
        refine (Tryz.Builder_WriteByte w.heap.size w.heap.size _ 10 w2 (.inr HBU2.out) HL2.out HB2.out.size).mono ?_
        rintro e w3 ⟨rfl, hbu3, hb3⟩
        have HBU3 : Hid (IsBuilder 101 5 w.heap.size w.heap.size (byteCells (acc ++ dText a ++ [10])) w3) := by
          show IsBuilder _ _ _ _ _ _
          rw [byteCells_append, byteCells_append]
          exact .inr hbu3
        have HB3 : Hid (Below w.heap.size w w3) := HB2.out.trans hb3
        clear hbu3 hb3
        go_wp2_with fail
        go_roundw
        case rel => exact ⟨k + 1, acc ++ dText a ++ [10], by omega, by go_num, HBU3.out, HNX.out, by rw [List.length_append, List.length_append]; simp; omega, HB3.out⟩
        case measure => simp [intOf]; omega
    · obtain rfl : k = n := by omega
      have HR : Hid (jText ds = acc) := by show _ = _; rw [HJ.out]; exact jGo_end (by rw [HD.out.1]; omega) acc
      go_wp2_with fail
      refine (Tryz.Builder_String_any w.heap.size w.heap.size acc wr HBU.out HB.out.size).mono ?_
      rintro e w' ⟨rfl, hb'⟩
      go_wp2_with fail
      go_ret
      exact ⟨by rw [HR.out]; rfl, HB.out.trans hb'⟩
set_option maxHeartbeats 2000000 in
set_option maxRecDepth 100000 in
theorem sJournalText (A : Option Addr) (n c : Nat) (ds : List Dd) (w : World) (hn : n ≤ 1048576) (hd : Ds w A n ds) (ht : ∀ a ∈ ds, a.text.length ≤ 1048576) :
    Calls Tryz.prog 63 #[.slice A n c] w fun e w' => e = .returned (.string (bs (jText ds))) ∧ Below w.heap.size w w' := by
  have HD := Lib.hid hd
  have HT := Lib.hid ht
  clear hd ht
  go_enter Tryz.func63, Tryz.ntmps63
  go_wp2_with fail
  go_loopw [3, 4] (fun v i wr => ∃ (k : Nat) (acc : Txt), k ≤ n ∧ i = .int .i64 k ∧ v = .string (bs acc) ∧ jText ds = jGo acc (ds.drop k) ∧ acc.length ≤ k * 1048605 ∧ Below w.heap.size w wr) (fun _ i _ => n - (intOf i).toNat)
  case atStart => exact ⟨0, [], by omega, rfl, rfl, rfl, by simp, Below.refl _ _⟩
  case round =>
    obtain ⟨k, acc, hk, rfl, rfl, hj, hal, hb⟩ := hrel
    have HJ := Lib.hid hj
    have HB := Lib.hid hb
    clear hj hb
    by_cases hlt : k < n
    · obtain ⟨b, o, a, rfl, hbl, ha, c0, c1, c2⟩ := (HD.out.below HB.out).at_ hlt
      have HA := Lib.hid ha
      have hat : a.text.length ≤ 1048576 := HT.out a (List.mem_of_getElem? ha)
      have hdl := dText_len2 a _ hat
      have HDT := Lib.hid (fun w => sDeedText a (by omega) w)
      have hto := bs_toList (dText a)
      unfold dv at HDT
      clear ha
      go_wp2_with fail
      refine (HDT.out _).mono ?_
      rintro e w1 ⟨rfl, hb1⟩
      have d0 := (hb1.cell (p := ⟨b, o + k * 3, none⟩) hbl).trans c0
      have d1 := (hb1.cell (p := ⟨b, o + k * 3 + 1, none⟩) hbl).trans c1
      have d2 := (hb1.cell (p := ⟨b, o + k * 3 + 2, none⟩) hbl).trans c2
      have HB1 : Hid (Below w.heap.size w w1) := HB.out.trans (hb1.mono HB.out.size)
      clear hb1 c0 c1 c2
      by_cases hd : dText a = []
      · have hd2 : (dText a).isEmpty = true := by rw [hd]; rfl
        have HR : Hid (jText ds = []) := by show _ = _; rw [HJ.out]; exact jGo_stop HA.out hd acc
        clear hd
        go_wp2_with fail
        go_ret
        exact ⟨by rw [HR.out]; rfl, HB1.out⟩
      · have hd2 : (dText a).isEmpty = false := by simpa using hd
        have HNX : Hid (jText ds = jGo (acc ++ dText a ++ [10]) (ds.drop (k + 1))) := by show _ = _; rw [HJ.out]; exact jGo_step HA.out hd acc
        have HEQ : Hid ((bs acc ++ bs (dText a)) ++ { data := #[10] } = bs (acc ++ dText a ++ [10])) := by
          show (bs acc ++ bs (dText a)) ++ bs [10] = _
          rw [bs_append, bs_append]
        have z1 : ¬ 9223372036854775807 < (bs acc).size + (bs (dText a)).size := by rw [bs_size, bs_size]; omega
        have z2 : ¬ 9223372036854775807 < (bs acc).size + (bs (dText a)).size + 1 := by rw [bs_size, bs_size]; omega
        clear hd
        go_wp2_with fail
        refine (HDT.out _).mono ?_
        rintro e w2 ⟨rfl, hb2⟩
        have HB2 : Hid (Below w.heap.size w w2) := HB1.out.trans (hb2.mono HB1.out.size)
        clear hb2
        go_wp2_with fail
        go_roundw
        case rel => exact ⟨k + 1, acc ++ dText a ++ [10], by omega, by go_num, by rw [← HEQ.out], HNX.out, by rw [List.length_append, List.length_append]; simp; omega, HB2.out⟩
        case measure => simp [intOf]; omega
    · obtain rfl : k = n := by omega
      have HR : Hid (jText ds = acc) := by show _ = _; rw [HJ.out]; exact jGo_end (by rw [HD.out.1]; omega) acc
      go_wp2_with fail
      go_ret
      exact ⟨by rw [HR.out]; rfl, HB.out⟩
end Go.Proofs.YtnomlkkhkacajaaGreatDoor

namespace Go.Proofs.YtnomlkkhkacajaaGreatDoor
open Go.RowKit
open Go.Lib hiding intOf

/-- A list of deeds, and how many bytes they have. -/
def RetJ (w : World) (r : List Dd × Nat) (e : Ending) (w' : World) : Prop := ∃ A m c, e = .returned (.tuple #[.slice A m c, .int .i64 r.2]) ∧ Od w' w.heap.size (.slice A m c) m r.1 ∧ Below w.heap.size w w'
theorem retJ_mk {w w' : World} {r : List Dd × Nat} {A : Option Addr} {c f : Nat} {ds : List Dd} (hr : r = (ds, f)) (ho : Od w' w.heap.size (.slice A ds.length c) ds.length ds) (hb : Below w.heap.size w w') :
    RetJ w r (.returned (.tuple #[.slice A ds.length c, .int .i64 f])) w' := by subst hr; exact ⟨_, _, _, rfl, ho, hb⟩
theorem rj_stop {l : Txt} {f : Nat} {ds : List Dd} (h : rj l = (ds ++ (rj (l.drop f)).1, f + (rj (l.drop f)).2)) (h0 : rj (l.drop f) = ([], 0)) : rj l = (ds, f) := by
  rw [h, h0]; simp
theorem rj_next {l a b : Txt} {f : Nat} {ds : List Dd} {d : Dd} (h : rj l = (ds ++ (rj (l.drop f)).1, f + (rj (l.drop f)).2)) (he : l.drop f = a ++ 10 :: b) (ha : (10 : UInt8) ∉ a) (hd : readDd a = some d) :
    l.drop (f + (a.length + 1)) = b ∧ rj l = ((ds ++ [d]) ++ (rj (l.drop (f + (a.length + 1)))).1, f + (a.length + 1) + (rj (l.drop (f + (a.length + 1)))).2) := by
  have hb : l.drop (f + (a.length + 1)) = b := by
    rw [← List.drop_drop, he]
    simp [List.drop_append]
  refine ⟨hb, ?_⟩
  rw [h, he, rj_at b ha, hd, hb]
  simp only [List.append_assoc, List.singleton_append, Prod.mk.injEq, true_and]
  omega
theorem rj_bad {l a b : Txt} {f : Nat} (he : l.drop f = a ++ 10 :: b) (ha : (10 : UInt8) ∉ a) (hd : readDd a = none) : rj (l.drop f) = ([], 0) := by
  rw [he, rj_at b ha, hd]

set_option maxHeartbeats 2000000 in
set_option maxRecDepth 100000 in
theorem iReadJournal (l : Txt) (hl : l.length ≤ 16777216) (w : World) (hE : EnvX w) :
    Calls Tryz.prog 27 #[.string (bs l)] w (RetJ w (rj l)) := by
  obtain ⟨N, hN⟩ : ∃ N, N = l.length := ⟨_, rfl⟩
  have hsz : (bs l).size = N := by rw [bs_size, hN]
  have hx := bs_extract l
  have HN := Lib.hid hN
  have HE := Lib.hid hE
  have hN2 : N ≤ 16777216 := by omega
  clear hN hE hl
  go_enter Tryz.func27, Tryz.ntmps27
  go_wp2_with fail
  go_loopw [4, 5, 6, 7, 8, 9, 10] (fun v fv _ _ _ _ _ wr => ∃ (f : Nat) (ds : List Dd), f ≤ N ∧ fv = .int .i64 f ∧ ds.length ≤ f ∧ rj l = (ds ++ (rj (l.drop f)).1, f + (rj (l.drop f)).2) ∧ Od wr w.heap.size v ds.length ds ∧ Below w.heap.size w wr) (fun _ fv _ _ _ _ _ _ => N - (intOf fv).toNat)
  case atStart => exact ⟨0, [], by omega, rfl, by simp, by simp, Od.nil_ _ _, Below.refl _ _⟩
  case round =>
    obtain ⟨f, ds, hf, rfl, hdl, hrj, ho, hb⟩ := hrel
    have HRJ := Lib.hid hrj
    have HO := Lib.hid ho
    have HB := Lib.hid hb
    obtain ⟨A, c, rfl⟩ := ho.shape
    clear hrj ho hb
    have htk : List.take (N - f) (List.drop f l) = List.drop f l := List.take_of_length_le (by rw [List.length_drop, ← HN.out]; omega)
    have hfi : (f : Int) ≤ (N : Int) := by omega
    have HC := Lib.hid (fun w h => iCut (l.drop f) 10 (by rw [List.length_drop, ← HN.out]; omega) w h)
    have hcut := cut_cases 10 (l.drop f)
    have HCUT := Lib.hid hcut
    clear hcut
    rcases HCUT.out with hno | ⟨a, b, hab, hna⟩
    · rw [cut1_no hno] at HC
      have HRES := Lib.hid (rj_stop HRJ.out (rj_no hno))
      unfold sv at HC
      clear hno
      go_wp2_with fail
      refine (HC.out _ (HE.out.kp (Kp.below HB.out))).mono ?_
      rintro e w1 ⟨rfl, hb1⟩
      have HB1 : Hid (Below w.heap.size w w1) := HB.out.trans (hb1.mono HB.out.size)
      have HO1 := Lib.hid (Od.below HO.out hb1)
      clear hb1
      go_wp2_with fail
      go_ret2
      exact retJ_mk HRES.out HO1.out HB1.out
    · have HAB := Lib.hid hab
      have HNA := Lib.hid hna
      have hal : f + (a.length + 1) ≤ N := by
        have := congrArg List.length hab
        rw [List.length_drop, List.length_append, List.length_cons, ← HN.out] at this
        omega
      rw [hab, cut1_at b hna] at HC
      unfold sv at HC
      simp only at HC
      rw [hab] at htk
      have HR := Lib.hid (fun w h => iReadDeed a (by omega) w h)
      unfold RetDd at HR
      unfold dv at HR
      have hasz : (bs a).size = a.length := bs_size a
      have e1 : IntKind.i64.wrap ((a.length : Int) + 1) = (a.length : Int) + 1 := IntWalk.i64_in _ (by omega)
      have e2 : IntKind.i64.wrap ((f : Int) + ((a.length : Int) + 1)) = (f : Int) + ((a.length : Int) + 1) := IntWalk.i64_in _ (by omega)
      clear hna
      go_wp2_with fail
      refine (HC.out _ (HE.out.kp (Kp.below HB.out))).mono ?_
      rintro e w1 ⟨rfl, hb1⟩
      have HB1 : Hid (Below w.heap.size w w1) := HB.out.trans (hb1.mono HB.out.size)
      have HO1 := Lib.hid (Od.below HO.out hb1)
      clear hb1
      go_wp2_with fail
      refine (HR.out _ (HE.out.kp (Kp.below HB1.out))).mono ?_
      rintro e w2 ⟨rfl, hb2⟩
      have HB2 : Hid (Below w.heap.size w w2) := HB1.out.trans (hb2.mono HB1.out.size)
      have HO2 := Lib.hid (Od.below HO1.out hb2)
      clear hb2
      cases hrd : readDd a with
      | none =>
        have HRES := Lib.hid (rj_stop HRJ.out (rj_bad HAB.out HNA.out hrd))
        simp only [od, Option.getD_none, Option.isSome_none]
        clear hrd
        go_wp2_with fail
        go_ret2
        exact retJ_mk HRES.out (Od.below HO2.out (below_alloc _ _)) (HB2.out.alloc HB2.out.size _)
      | some d =>
        have HNX := Lib.hid (rj_next HRJ.out HAB.out HNA.out hrd)
        have HO3 := Lib.hid (Od.below HO2.out (below_alloc w2 (.cells #[.int .i64 d.kind, .int .i64 d.num, .string (bs d.text)] 28)))
        have hs3 : w.heap.size ≤ (w2.alloc (.cells #[.int .i64 d.kind, .int .i64 d.num, .string (bs d.text)] 28)).heap.size := by have := HB2.out.size; simp; omega
        have HS3 := Lib.hid hs3
        have HB3 : Hid (Below w.heap.size w (w2.alloc (.cells #[.int .i64 d.kind, .int .i64 d.num, .string (bs d.text)] 28))) := HB2.out.alloc HB2.out.size _
        simp only [od, Option.getD_some, Option.isSome_some]
        clear hrd hs3 hab
        go_wp2_with (at_builtin; refine wl_appDd w.heap.size d HS3.out rfl (.tmp 32) (.tmp 34) 37 rfl Tryz.eDd _ ds.length ds rfl HO3.out (by show Value.slice (some ⟨w2.heap.size + 1, 0, none⟩) 1 1 = _; simp) (by simp only [maxLen]; omega) (by omega) ?_; intro v' w4 ho4 hb4 _; have HO4 := Lib.hid ho4; have HB4 := Lib.hid hb4; clear ho4 hb4)
        go_roundw
        case rel => exact ⟨f + (a.length + 1), ds ++ [d], hal, by go_num, by rw [List.length_append]; simp; omega, HNX.out.2, by rw [List.length_append]; exact HO4.out, HB3.out.trans HB4.out⟩
        case measure => simp [intOf]; omega
set_option maxHeartbeats 2000000 in
set_option maxRecDepth 100000 in
theorem sReadJournal (l : Txt) (hl : l.length ≤ 16777216) (w : World) :
    Calls Tryz.prog 28 #[.string (bs l)] w (RetJ w (rj l)) := by
  obtain ⟨N, hN⟩ : ∃ N, N = l.length := ⟨_, rfl⟩
  have hsz : (bs l).size = N := by rw [bs_size, hN]
  have hx := bs_extract l
  have HN := Lib.hid hN
  have hN2 : N ≤ 16777216 := by omega
  have HA : Hid (∀ (k : Nat) (_ : k < N), ∃ d : Nat, d < 256 ∧ (∀ h, ((bs l)[k]'h).toNat = d) ∧ ∀ h : k < l.length, (l[k]).toNat = d) := fun k hk =>
    ⟨(l[k]'(by omega)).toNat, UInt8.toNat_lt _, fun h => bs_get l k (by omega) h, fun _ => rfl⟩
  have HO0 : Hid (Od (w.alloc (.cells #[] 28)) w.heap.size (.slice (some ⟨w.heap.size, 0, none⟩) 0 0) 0 []) := Od.lit [] (by simp) #[] rfl
  have HB0 := Lib.hid (below_alloc w (.cells #[] 28))
  clear hN hl
  go_enter Tryz.func28, Tryz.ntmps28
  go_wp2_with fail
  go_loopw [4, 5, 6, 7, 8] (fun v fv kv _ _ wr => ∃ (k f : Nat) (ds : List Dd), f ≤ k ∧ k ≤ N ∧ fv = .int .i64 f ∧ kv = .int .i64 k ∧ ds.length ≤ f ∧ (10 : UInt8) ∉ (l.drop f).take (k - f) ∧ rj l = (ds ++ (rj (l.drop f)).1, f + (rj (l.drop f)).2) ∧ Od wr w.heap.size v ds.length ds ∧ Below w.heap.size w wr) (fun _ _ kv _ _ _ => N - (intOf kv).toNat)
  case atStart => exact ⟨0, 0, [], by omega, by omega, rfl, rfl, by simp, by simp, by simp, HO0.out, HB0.out⟩
  case round =>
    obtain ⟨k, f, ds, hf, hk, rfl, rfl, hdl, hno, hrj, ho, hb⟩ := hrel
    have HNO := Lib.hid hno
    have HRJ := Lib.hid hrj
    have HO := Lib.hid ho
    have HB := Lib.hid hb
    obtain ⟨A, c, rfl⟩ := ho.shape
    clear hno hrj ho hb
    by_cases hlt : k < N
    · have hltl : k < l.length := by rw [← HN.out]; exact hlt
      obtain ⟨d, hd, hbk, hd2⟩ := HA.out k hlt
      have HD := Lib.hid (hd2 hltl)
      have HLT := Lib.hid hltl
      clear hd2
      by_cases h10 : d = 10
      · have hck : ((d : Int) == 10) = true := by rw [beq_iff_eq]; omega
        have hc : l[k]'hltl = 10 := UInt8.toNat_inj.1 (by rw [HD.out, h10]; rfl)
        have hsp := drop_split (l := l) hf hltl
        rw [hc] at hsp
        have hal : ((l.drop f).take (k - f)).length = k - f := by rw [List.length_take, List.length_drop]; omega
        have hna := HNO.out
        generalize hgen : (l.drop f).take (k - f) = a at *
        have HAB := Lib.hid hsp
        have hkf : f + (a.length + 1) = k + 1 := by omega
        have HKF := Lib.hid hkf
        have HR := Lib.hid (fun w => sReadDeed a (by omega) w)
        unfold RetDd at HR
        unfold dv at HR
        clear hsp hc h10 HD HLT hltl hkf hna
        go_wp2_with fail
        refine (HR.out _).mono ?_
        rintro e w2 ⟨rfl, hb2⟩
        have HB2 : Hid (Below w.heap.size w w2) := HB.out.trans (hb2.mono HB.out.size)
        have HO2 := Lib.hid (Od.below HO.out hb2)
        clear hb2
        cases hrd : readDd a with
        | none =>
          have HRES := Lib.hid (rj_stop HRJ.out (rj_bad HAB.out HNO.out hrd))
          simp only [od, Option.getD_none, Option.isSome_none]
          clear hrd hgen
          go_wp2_with fail
          go_ret2
          exact retJ_mk HRES.out (Od.below HO2.out (below_alloc _ _)) (HB2.out.alloc HB2.out.size _)
        | some d' =>
          have HNX := Lib.hid (rj_next HRJ.out HAB.out HNO.out hrd)
          have HO3 := Lib.hid (Od.below HO2.out (below_alloc w2 (.cells #[.int .i64 d'.kind, .int .i64 d'.num, .string (bs d'.text)] 28)))
          have hs3 : w.heap.size ≤ (w2.alloc (.cells #[.int .i64 d'.kind, .int .i64 d'.num, .string (bs d'.text)] 28)).heap.size := by have := HB2.out.size; simp; omega
          have HS3 := Lib.hid hs3
          have HB3 : Hid (Below w.heap.size w (w2.alloc (.cells #[.int .i64 d'.kind, .int .i64 d'.num, .string (bs d'.text)] 28))) := HB2.out.alloc HB2.out.size _
          simp only [od, Option.getD_some, Option.isSome_some]
          rw [HKF.out] at HNX
          clear hrd hs3 hgen
          go_wp2_with (at_builtin; refine wl_appDd w.heap.size d' HS3.out rfl (.tmp 32) (.tmp 34) 37 rfl Tryz.eDd _ ds.length ds rfl HO3.out (by show Value.slice (some ⟨w2.heap.size + 1, 0, none⟩) 1 1 = _; simp) (by simp only [maxLen]; omega) (by omega) ?_; intro v' w4 ho4 hb4 _; have HO4 := Lib.hid ho4; have HB4 := Lib.hid hb4; clear ho4 hb4)
          go_roundw
          case rel => exact ⟨k + 1, k + 1, ds ++ [d'], by omega, by omega, by go_num, by go_num, by rw [List.length_append]; simp; omega, by simp, HNX.out.2, by rw [List.length_append]; exact HO4.out, HB3.out.trans HB4.out⟩
          case measure => simp [intOf]; omega
      · have hck : ((d : Int) == 10) = false := by rw [beq_eq_false_iff_ne]; omega
        have HNN : Hid ((10 : UInt8) ∉ (l.drop f).take (k + 1 - f)) := fun hm => by
          rw [drop_take_next hf hltl] at hm
          rcases List.mem_append.1 hm with hm | hm
          · exact HNO.out hm
          · have hc := List.mem_singleton.1 hm
            have := HD.out
            rw [← hc] at this
            exact h10 this.symm
        clear h10 HD HLT hltl
        go_wp2_with fail
        go_roundw
        case rel => exact ⟨k + 1, f, ds, by omega, by omega, by go_num, by go_num, by omega, HNN.out, HRJ.out, HO.out, HB.out⟩
        case measure => simp [intOf]; omega
    · obtain rfl : k = N := by omega
      have e : (l.drop f).take (k - f) = l.drop f := List.take_of_length_le (by rw [List.length_drop, ← HN.out]; omega)
      have h2 := HNO.out
      rw [e] at h2
      have HRES := Lib.hid (rj_stop HRJ.out (rj_no h2))
      clear h2 e
      go_wp2_with fail
      go_ret2
      exact retJ_mk HRES.out HO.out HB.out
end Go.Proofs.YtnomlkkhkacajaaGreatDoor
namespace Go.Proofs.YtnomlkkhkacajaaGreatDoor
open Go.RowKit
open Go.Lib hiding intOf

/-- One number of a spectrum, if it is told. -/
def oneF (xs : List C) (k : Int) : Option C := if sizB xs = true ∧ 0 ≤ k ∧ k < (xs.length : Int) then sumT xs (bk xs.length (-k)) xs.length else none
theorem oneF_no {xs : List C} {k : Int} (h : sizB xs = false ∨ k < 0 ∨ (xs.length : Int) ≤ k) : oneF xs k = none := by
  unfold oneF
  rw [if_neg]
  rintro ⟨h1, h2, h3⟩
  rcases h with h | h | h
  · rw [h] at h1; cases h1
  · omega
  · omega
theorem oneF_yes {xs : List C} {k : Int} {n : Nat} (hl : xs.length = n) (h1 : sizB xs = true) (h2 : 0 ≤ k) (h3 : k < (n : Int)) : oneF xs k = sumT xs (bk n (-k)) n := by
  unfold oneF
  rw [hl, if_pos ⟨h1, h2, h3⟩]

set_option maxHeartbeats 1000000 in
theorem iOne (A : Option Addr) (n c : Nat) (xs : List C) (k : Int) (w : World) (hn : n ≤ 1048576) (hx : Cs w A n xs) (hp : sizB xs = true → ProdOk xs (-1)) :
    Calls Tryz.prog 96 #[.slice A n c, .int .i64 k] w (RetQ2 w (oneF xs k)) := by
  have hl := hx.len
  cases hs : sizB xs
  · have HC : Hid (∀ w, Cs w A n xs → Calls Tryz.prog 125 #[.slice A n c] w fun e w' => e = .returned (.bool false) ∧ Dr w w') := fun w h => by rw [← hs]; exact iSizeOk A n c xs w hn h
    have HN := Lib.hid (oneF_no (k := k) (.inl hs))
    clear hl hs hp
    go_enter Tryz.func96, Tryz.ntmps96
    go_wp2_with fail
    refine (HC.out _ hx).mono ?_
    rintro e w' ⟨rfl, m, rfl⟩
    go_wp2_with fail
    go_ret2
    rw [HN.out]
    exact ⟨rfl, below_drewN (Below.refl _ _) m⟩
  have HC : Hid (∀ w, Cs w A n xs → Calls Tryz.prog 125 #[.slice A n c] w fun e w' => e = .returned (.bool true) ∧ Dr w w') := fun w h => by rw [← hs]; exact iSizeOk A n c xs w hn h
  by_cases hk : k < 0 ∨ (¬ k < 0 ∧ (n : Int) ≤ k)
  · have HN := Lib.hid (oneF_no (xs := xs) (k := k) (by rw [hl]; omega))
    clear hl hs hp
    rcases hk with hk | ⟨hk, hk2⟩
    all_goals
      go_enter Tryz.func96, Tryz.ntmps96
      go_wp2_with fail
      refine (HC.out _ hx).mono ?_
      rintro e w' ⟨rfl, m, rfl⟩
      go_wp2_with fail
      go_ret2
      rw [HN.out]
      exact ⟨rfl, below_drewN (Below.refl _ _) m⟩
  obtain ⟨j, rfl⟩ := Int.eq_ofNat_of_zero_le (show 0 ≤ k by omega)
  have hjn : j < n := by omega
  have hk1 : ¬ (j : Int) < 0 := by omega
  have hk2 : ¬ (n : Int) ≤ (j : Int) := by omega
  obtain ⟨s1, s2, s3, s4, s5⟩ := siz_parts hs
  rw [hl] at s1 s4 s5
  have HY := Lib.hid (oneF_yes hl hs (show 0 ≤ (j : Int) by omega) (show (j : Int) < (n : Int) by omega))
  have HT : Hid (∀ w', Cs w' A n xs → Calls Tryz.prog 126 #[.slice A n c, .int .i64 (-(j : Int))] w' (RetQ2 w' (sumT xs (bk n (-(j : Int))) n))) := fun w' h => by
    obtain ⟨b1, b2⟩ := bk_bd s1 (k := -(j : Int)) (by omega) (by omega)
    refine iTurned A n c xs (-(j : Int)) (bk n (-(j : Int))) w' s5 s4 h s3 rfl b1 b2 fun i hi => ?_
    have := hp hs j i (by omega) (by omega)
    rw [hl, show (-1 : Int) * (j : Int) = -(j : Int) by omega] at this
    exact this
  have e1 : IntKind.i64.wrap (-(j : Int)) = -(j : Int) := IntWalk.i64_in _ (by omega)
  clear hl hs hp s1 s2 s3 hk
  go_enter Tryz.func96, Tryz.ntmps96
  go_wp2_with fail
  refine (HC.out _ hx).mono ?_
  rintro e w' ⟨rfl, m, rfl⟩
  have HX1 : Hid (Cs (w.drewN m) A n xs) := Cs.drewN hx m
  go_wp2_with fail
  refine (HT.out _ HX1.out).mono ?_
  rintro e w2 ⟨rfl, hb2⟩
  have HB2 : Hid (Below w.heap.size w w2) := (below_drewN (Below.refl _ _) m).trans hb2
  rw [← HY.out]
  generalize oneF xs (j : Int) = o at *
  clear hb2 hx
  unfold cv
  go_wp2_with fail
  go_ret2
  exact ⟨rfl, HB2.out⟩

set_option maxHeartbeats 1000000 in
theorem sOne (A : Option Addr) (n c : Nat) (xs : List C) (k : Int) (w : World) (hn : n ≤ 1048576) (hx : Cs w A n xs) (hp : sizB xs = true → ProdOk xs (-1)) :
    Calls Tryz.prog 59 #[.slice A n c, .int .i64 k] w (RetQ2 w (oneF xs k)) := by
  have hl := hx.len
  cases hs : sizB xs
  · have HC : Hid (∀ w, Cs w A n xs → Calls Tryz.prog 101 #[.slice A n c] w fun e w' => e = .returned (.bool false) ∧ Dr w w') := fun w h => by rw [← hs]; exact sSizeOk A n c xs w hn h
    have HN := Lib.hid (oneF_no (k := k) (.inl hs))
    clear hl hs hp
    go_enter Tryz.func59, Tryz.ntmps59
    go_wp2_with fail
    refine (HC.out _ hx).mono ?_
    rintro e w' ⟨rfl, m, rfl⟩
    go_wp2_with fail
    go_ret2
    rw [HN.out]
    exact ⟨rfl, below_drewN (Below.refl _ _) m⟩
  have HC : Hid (∀ w, Cs w A n xs → Calls Tryz.prog 101 #[.slice A n c] w fun e w' => e = .returned (.bool true) ∧ Dr w w') := fun w h => by rw [← hs]; exact sSizeOk A n c xs w hn h
  obtain ⟨s1, s2, s3, s4, s5⟩ := siz_parts hs
  rw [hl] at s1 s4 s5
  have e0 : IntKind.i64.wrap ((n : Int) - 1) = (n : Int) - 1 := IntWalk.i64_in _ (by omega)
  by_cases hk : k < 0 ∨ (n : Int) ≤ k
  · have HN := Lib.hid (oneF_no (xs := xs) (k := k) (by rw [hl]; exact .inr hk))
    have HIN : Hid (inB k 0 ((n : Int) - 1) = false) := inB_false_iff.2 (by omega)
    clear hl hs hp s1 s2 s3 hk
    go_enter Tryz.func59, Tryz.ntmps59
    go_wp2_with fail
    refine (HC.out _ hx).mono ?_
    rintro e w' ⟨rfl, m, rfl⟩
    go_wp2_with fail
    refine (l1In_any _ _ _ _).mono ?_
    rintro e w2 ⟨rfl, hw2⟩
    obtain rfl := hw2.symm
    rw [HIN.out]
    go_wp2_with fail
    go_ret2
    rw [HN.out]
    exact ⟨rfl, below_drewN (Below.refl _ _) m⟩
  obtain ⟨j, rfl⟩ := Int.eq_ofNat_of_zero_le (show 0 ≤ k by omega)
  have hjn : j < n := by omega
  have HIN : Hid (inB (j : Int) 0 ((n : Int) - 1) = true) := inB_iff.2 (by omega)
  have HY := Lib.hid (oneF_yes hl hs (show 0 ≤ (j : Int) by omega) (show (j : Int) < (n : Int) by omega))
  obtain ⟨b, hbe⟩ : ∃ b, b = bk n (-(j : Int)) := ⟨_, rfl⟩
  obtain ⟨b1, b2⟩ := bk_bd s1 (k := -(j : Int)) (by omega) (by omega)
  rw [← hbe] at HY b1 b2
  have HT : Hid (∀ w', Cs w' A n xs → Calls Tryz.prog 102 #[.slice A n c, .int .i64 b] w' (RetQ2 w' (sumT xs b n))) := fun w' h => by
    refine sSum A n c xs b w' s4 h s3 b1 b2 fun i hi => ?_
    have := hp hs j i (by omega) (by omega)
    rw [hl, show (-1 : Int) * (j : Int) = -(j : Int) by omega] at this
    rw [hbe]; exact this
  have e1 : IntKind.i64.wrap (-(j : Int)) = -(j : Int) := IntWalk.i64_in _ (by omega)
  have e2 : IntKind.i64.wrap (-(j : Int) * (16 / (n : Int))) = b := by
    have : -(j : Int) * (16 / (n : Int)) = b := by rw [hbe]; unfold bk; exact Int.mul_comm _ _
    rw [this]; exact IntWalk.i64_in _ (by omega)
  clear hl hs hp s1 s2 s3 hk hbe b1 b2
  go_enter Tryz.func59, Tryz.ntmps59
  go_wp2_with fail
  refine (HC.out _ hx).mono ?_
  rintro e w' ⟨rfl, m, rfl⟩
  have HX1 : Hid (Cs (w.drewN m) A n xs) := Cs.drewN hx m
  go_wp2_with fail
  refine (l1In_any _ _ _ _).mono ?_
  rintro e w2 ⟨rfl, hw2⟩
  obtain rfl := hw2.symm
  rw [HIN.out]
  go_wp2_with fail
  refine (HT.out _ HX1.out).mono ?_
  rintro e w2 ⟨rfl, hb2⟩
  have HB2 : Hid (Below w.heap.size w w2) := (below_drewN (Below.refl _ _) m).trans hb2
  rw [← HY.out]
  generalize oneF xs (j : Int) = o at *
  clear hb2 hx
  unfold cv
  go_wp2_with fail
  go_ret2
  exact ⟨rfl, HB2.out⟩
def tNone : Txt := [110, 111, 110, 101]
/-- A text, or none. -/
def orN (o : Option Txt) : Txt := o.getD tNone
theorem orN_any (t : Txt) (b : Bool) (w : World) : Calls Tryz.prog 94 #[.string (bs t), .bool b] w fun e w' => e = .returned (.string (bs (if b then t else tNone))) ∧ w' = w := by
  cases b
  all_goals
    go_enter Tryz.func94, Tryz.ntmps94
    go_wp2_with fail
    go_ret
    exact ⟨rfl, rfl⟩
theorem sOr_any (t : Txt) (b : Bool) (w : World) : Calls Tryz.prog 54 #[.string (bs t), .bool b] w fun e w' => e = .returned (.string (bs (if b then t else tNone))) ∧ w' = w := by
  cases b
  all_goals
    go_enter Tryz.func54, Tryz.ntmps54
    go_wp2_with fail
    go_ret
    exact ⟨rfl, rfl⟩
/-- Numbers, one behind the other. -/
def digT (is : List Int) : Txt := is.flatMap itoa
theorem digT_snoc {is : List Int} {k : Nat} {x : Int} (h : is[k]? = some x) : digT (is.take (k + 1)) = digT (is.take k) ++ itoa x := by
  unfold digT
  rw [List.take_add_one, h, List.flatMap_append]
  simp
theorem digT_len {is : List Int} (h : ∀ x ∈ is, -9999999 ≤ x ∧ x ≤ 9999999) : (digT is).length ≤ is.length * 21 := by
  induction is with
  | nil => exact Nat.zero_le _
  | cons a l ih =>
    have h1 := h a List.mem_cons_self
    have h2 := itoa_small a h1.1 h1.2
    have h3 := ih fun x hx => h x (List.mem_cons_of_mem _ hx)
    show ((a :: l).flatMap itoa).length ≤ _
    rw [List.flatMap_cons, List.length_append, List.length_cons]
    have : (l.flatMap itoa).length ≤ l.length * 21 := h3
    omega

set_option maxHeartbeats 1000000 in
set_option maxRecDepth 100000 in
theorem iDigitsOf (A : Option Addr) (n c : Nat) (is : List Int) (w : World) (hn : n ≤ 16) (hx : Sl w A n (is.map iv)) (hb : ∀ x ∈ is, -9999999 ≤ x ∧ x ≤ 9999999) (hE : EnvT w) :
    Calls Tryz.prog 99 #[.slice A n c] w fun e w' => e = .returned (.string (bs (digT is))) ∧ Below w.heap.size w w' := by
  have hl : is.length = n := by have := hx.len; rwa [List.length_map] at this
  have HE := Lib.hid hE
  have HX := Lib.hid hx
  have HBD := Lib.hid hb
  have HL := Lib.hid hl
  have HB0 : Hid (IsBuilder 101 5 w.heap.size w.heap.size (byteCells []) (w.alloc (.cells #[.pointer none, .slice none 0 0] 101))) :=
    .inl ⟨Nat.le_refl _, .slice none 0 0, heap_alloc_new w _, World.ownsRow_nil _ _ _ _, by simp [Value.ownBlock]⟩
  have HBW0 := Lib.hid (below_alloc w (.cells #[.pointer none, .slice none 0 0] 101))
  clear hx hb hE hl
  go_enter Tryz.func99, Tryz.ntmps99
  go_wp2_with fail
  go_loopw [8] (fun i wr => ∃ (k : Nat), k ≤ n ∧ i = .int .i64 k ∧ IsBuilder 101 5 w.heap.size w.heap.size (byteCells (digT (is.take k))) wr ∧ Below w.heap.size w wr) (fun i _ => n - (intOf i).toNat)
  case atStart => first | exact ⟨0, by omega, rfl, HB0.out, HBW0.out⟩ | ((repeat apply Exists.intro); exact ⟨by omega, rfl, HB0.out, HBW0.out⟩)
  case round =>
    obtain ⟨k, hk, rfl, hbu, hb⟩ := hrel
    have HBU := Lib.hid hbu
    have HB := Lib.hid hb
    clear hbu hb
    by_cases hlt : k < n
    · obtain ⟨b, o, rfl, hbl, hc⟩ := (Sl.below HX.out HB.out).int_at hlt
      have hck := hc k hlt
      obtain ⟨x, hxk⟩ : ∃ x, is[k]? = some x := ⟨_, List.getElem?_eq_getElem (by rw [HL.out]; exact hlt)⟩
      have hin : inth is k = x := by unfold inth; rw [List.getD_eq_getElem?_getD, hxk]; rfl
      have hxb := HBD.out x (List.mem_of_getElem? hxk)
      have HS := Lib.hid (digT_snoc hxk)
      have htl : (digT (is.take k)).length ≤ (is.take k).length * 21 := digT_len fun y hy => HBD.out y (List.mem_of_mem_take hy)
      have htk : (is.take k).length ≤ 16 := by rw [List.length_take]; omega
      have hit := itoa_small x hxb.1 hxb.2
      have HL1 : Hid ((byteCells (digT (is.take k))).length + (bs (itoa x)).size ≤ 140737488355328) := by show _ ≤ _; rw [byteCells_len, bs_size]; omega
      have HIT : Hid (∀ w, EnvT w → Calls Tryz.prog 68 #[.int .i64 x] w fun e w' => e = .returned (.string (bs (itoa x))) ∧ Below w.heap.size w w') := fun w h => iItoa x (by omega) (by omega) w h
      rw [hin] at hck
      clear hc hxk hin hxb htl htk hit
      go_wp2_with fail
      refine (HIT.out _ (HE.out.kp (Kp.below HB.out))).mono ?_
      rintro e w1 ⟨rfl, hb1⟩
      have HBU1 := Lib.hid (IsBuilder.below HBU.out hb1)
      have HB1 : Hid (Below w.heap.size w w1) := HB.out.trans (hb1.mono HB.out.size)
      clear hb1
      go_wp2_with fail
      refine (Tryz.Builder_WriteString w.heap.size w.heap.size (byteCells (digT (is.take k))) (bs (itoa x)) w1 HBU1.out HL1.out HB1.out.size).mono ?_
      rintro e w2 ⟨rfl, hbu2, hb2⟩
      have HBU2 : Hid (IsBuilder 101 5 w.heap.size w.heap.size (byteCells (digT (is.take (k + 1)))) w2) := by
        show IsBuilder _ _ _ _ _ _
        rw [HS.out, byteCells_append]
        exact .inr hbu2
      have HB2 : Hid (Below w.heap.size w w2) := HB1.out.trans hb2
      clear hbu2 hb2
      go_wp2_with fail
      go_roundw
      case rel => exact ⟨k + 1, by omega, by go_num, HBU2.out, HB2.out⟩
      case measure => simp [intOf]; omega
    · obtain rfl : k = n := by omega
      have HR : Hid (digT (is.take k) = digT is) := by show _ = _; rw [List.take_of_length_le (by rw [HL.out]; exact Nat.le_refl _)]
      go_wp2_with fail
      refine (Tryz.Builder_String_any w.heap.size w.heap.size (digT (is.take k)) wr HBU.out HB.out.size).mono ?_
      rintro e w' ⟨rfl, hb'⟩
      go_wp2_with fail
      go_ret
      exact ⟨by rw [← HR.out]; rfl, HB.out.trans hb'⟩
end Go.Proofs.YtnomlkkhkacajaaGreatDoor
