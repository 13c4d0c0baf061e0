/- Texts on the way to a law (J11, J13, H12), each with its own remark. -/
import Derived.Test.YtnomlkkhkacajaaGreatDoorPB28
import Derived.Test.YtnomlkkhkacajaaGreatDoorPB38
import Derived.Test.YtnomlkkhkacajaaGreatDoorPB42
import Derived.Test.YtnomlkkhkacajaaGreatDoorPB41
import Derived.Maps.AppendAt
import Derived.Test.YtnomlkkhkacajaaGreatDoorPB36
namespace Go.Proofs.YtnomlkkhkacajaaGreatDoor
open Go.RowKit
open Go.Lib hiding intOf

theorem jGo_step {ds : List Dd} {k : Nat} {a : Dd} (h : ds[k]? = some a) (hne : dText a ≠ []) (acc : Txt) : jGo acc (ds.drop k) = jGo (acc ++ dText a ++ [10]) (ds.drop (k + 1)) := by
  obtain ⟨hk, rfl⟩ := List.getElem?_eq_some_iff.1 h
  rw [List.drop_eq_getElem_cons hk]
  show (if dText ds[k] = [] then _ else _) = _
  rw [if_neg hne]
theorem jGo_stop {ds : List Dd} {k : Nat} {a : Dd} (h : ds[k]? = some a) (h0 : dText a = []) (acc : Txt) : jGo acc (ds.drop k) = [] := by
  obtain ⟨hk, rfl⟩ := List.getElem?_eq_some_iff.1 h
  rw [List.drop_eq_getElem_cons hk]
  show (if dText ds[k] = [] then _ else _) = _
  rw [if_pos h0]
theorem jGo_end {ds : List Dd} {k : Nat} (h : ds.length ≤ k) (acc : Txt) : jGo acc (ds.drop k) = acc := by
  rw [List.drop_of_length_le h]; rfl
theorem dText_len2 (a : Dd) (M : Nat) (h : a.text.length ≤ M) : (dText a).length ≤ M + 28 := by
  by_cases h0 : dText a = []
  · rw [h0]; simp
  · rcases dText_cases h0 with ⟨_, _, _, e⟩ | ⟨h1, _, h3, h4, e⟩ | ⟨h1, _, _, e⟩
    · rw [e, List.length_append, List.length_cons]
      have : (wordOf 0).length = 5 := rfl
      omega
    · rw [e, List.length_append, List.length_cons]
      have := wordOf_len a.kind
      have := itoa_small a.num (by omega) (by omega)
      omega
    · rw [e]
      have := wordOf_len a.kind
      omega
theorem BuilderAt.below {T e : TypeId} {B b : Nat} {p : Value} {bs : List Value} {w w' : World} (h : BuilderAt T e B b p bs w) (hb : Below w.heap.size w w') : BuilderAt T e B b p bs w' := by
  have hlt := BuilderAt.lt h
  obtain ⟨hB, v, hh, hown, hne⟩ := h
  exact ⟨hB, v, (hb.block b hlt).trans hh, Ow.below hown hb, hne⟩
theorem IsBuilder.below {T e : TypeId} {B b : Nat} {bs : List Value} {w w' : World} (h : IsBuilder T e B b bs w) (hb : Below w.heap.size w w') : IsBuilder T e B b bs w' :=
  h.elim (fun x => .inl (BuilderAt.below x hb)) (fun x => .inr (BuilderAt.below x hb))
theorem byteCells_append (a b : Txt) : byteCells (a ++ b) = byteCells a ++ byteCells b := by simp [byteCells]
theorem strCells_bs (t : Txt) : strCells (bs t) = byteCells t := rfl
theorem byteCells_len (t : Txt) : (byteCells t).length = t.length := by simp [byteCells]

set_option maxHeartbeats 2000000 in
set_option maxRecDepth 100000 in
theorem iJournalText (A : Option Addr) (n c : Nat) (ds : List Dd) (w : World) (hn : n ≤ 1048576) (hd : Ds w A n ds) (ht : ∀ a ∈ ds, a.text.length ≤ 1048576) (hE : EnvT w) :
    Calls Tryz.prog 31 #[.slice A n c] w fun e w' => e = .returned (.string (bs (jText ds))) ∧ Below w.heap.size w w' := by
  have HD := Lib.hid hd
  have HT := Lib.hid ht
  have HE := Lib.hid hE
  have HB0 : Hid (IsBuilder 101 5 w.heap.size w.heap.size (byteCells []) (w.alloc (.cells #[.pointer none, .slice none 0 0] 101))) :=
    .inl ⟨Nat.le_refl _, .slice none 0 0, heap_alloc_new w _, World.ownsRow_nil _ _ _ _, by simp [Value.ownBlock]⟩
  have HBW0 := Lib.hid (below_alloc w (.cells #[.pointer none, .slice none 0 0] 101))
  clear hd ht hE
  go_enter Tryz.func31, Tryz.ntmps31
  go_wp2_with fail
  go_loopw [5, 6, 9] (fun _ _ i wr => ∃ (k : Nat) (acc : Txt), k ≤ n ∧ i = .int .i64 k ∧ IsBuilder 101 5 w.heap.size w.heap.size (byteCells acc) wr ∧ jText ds = jGo acc (ds.drop k) ∧ acc.length ≤ k * 1048605 ∧ Below w.heap.size w wr) (fun _ _ i _ => n - (intOf i).toNat)
  case atStart => exact ⟨0, [], by omega, rfl, HB0.out, rfl, by simp, HBW0.out⟩
  case round =>
    obtain ⟨k, acc, hk, rfl, hbu, hj, hal, hb⟩ := hrel
    have HBU := Lib.hid hbu
    have HJ := Lib.hid hj
    have HB := Lib.hid hb
    clear hbu hj hb
    by_cases hlt : k < n
    · obtain ⟨b, o, a, rfl, hbl, ha, c0, c1, c2⟩ := (HD.out.below HB.out).at_ hlt
      have HA := Lib.hid ha
      have hat : a.text.length ≤ 1048576 := HT.out a (List.mem_of_getElem? ha)
      have hdl := dText_len2 a _ hat
      have HDT := Lib.hid (fun w h => iDeedText a (by omega) w h)
      have hto := bs_toList (dText a)
      unfold dv at HDT
      clear ha
      go_wp2_with fail
      refine (HDT.out _ ((HE.out.kp (Kp.below HB.out)).kp (Kp.below (below_alloc _ _)))).mono ?_
      rintro e w1 ⟨rfl, hb1⟩
      have HBU1 : Hid (IsBuilder 101 5 w.heap.size w.heap.size (byteCells acc) w1) := IsBuilder.below (IsBuilder.below HBU.out (below_alloc _ _)) hb1
      have HB1 : Hid (Below w.heap.size w w1) := HB.out.trans ((below_box _ _ hb1).mono HB.out.size)
      clear hb1
      by_cases hd : dText a = []
      · have hd2 : (dText a).isEmpty = true := by rw [hd]; rfl
        have HR : Hid (jText ds = []) := by show _ = _; rw [HJ.out]; exact jGo_stop HA.out hd acc
        clear hd
        go_wp2_with fail
        go_ret
        exact ⟨by rw [HR.out]; rfl, HB1.out⟩
      · have hd2 : (dText a).isEmpty = false := by simpa using hd
        have HNX : Hid (jText ds = jGo (acc ++ dText a ++ [10]) (ds.drop (k + 1))) := by show _ = _; rw [HJ.out]; exact jGo_step HA.out hd acc
        have hlen : (byteCells acc).length + (bs (dText a)).size ≤ 140737488355328 := by rw [byteCells_len, bs_size]; omega
        have hlen2 : (byteCells acc ++ strCells (bs (dText a))).length + 1 ≤ 140737488355328 := by rw [List.length_append, strCells_bs, byteCells_len, byteCells_len]; omega
        have HL1 := Lib.hid hlen
        have HL2 := Lib.hid hlen2
        clear hd hlen hlen2
        go_wp2_with fail
        refine (Tryz.Builder_WriteString w.heap.size w.heap.size (byteCells acc) (bs (dText a)) w1 HBU1.out HL1.out HB1.out.size).mono ?_
        rintro e w2 ⟨rfl, hbu2, hb2⟩
        have HBU2 := Lib.hid hbu2
        have HB2 : Hid (Below w.heap.size w w2) := HB1.out.trans hb2
        clear hbu2 hb2
        go_wp2_with fail
        refine (Tryz.Builder_WriteByte w.heap.size w.heap.size _ 10 w2 (.inr HBU2.out) HL2.out HB2.out.size).mono ?_
        rintro e w3 ⟨rfl, hbu3, hb3⟩
        have HBU3 : Hid (IsBuilder 101 5 w.heap.size w.heap.size (byteCells (acc ++ dText a ++ [10])) w3) := by
          show IsBuilder _ _ _ _ _ _
          rw [byteCells_append, byteCells_append]
          exact .inr hbu3
        have HB3 : Hid (Below w.heap.size w w3) := HB2.out.trans hb3
        clear hbu3 hb3
        go_wp2_with fail
        go_roundw
        case rel => exact ⟨k + 1, acc ++ dText a ++ [10], by omega, by go_num, HBU3.out, HNX.out, by rw [List.length_append, List.length_append]; simp; omega, HB3.out⟩
        case measure => simp [intOf]; omega
    · obtain rfl : k = n := by omega
      have HR : Hid (jText ds = acc) := by show _ = _; rw [HJ.out]; exact jGo_end (by rw [HD.out.1]; omega) acc
      go_wp2_with fail
      refine (Tryz.Builder_String_any w.heap.size w.heap.size acc wr HBU.out HB.out.size).mono ?_
      rintro e w' ⟨rfl, hb'⟩
      go_wp2_with fail
      go_ret
      exact ⟨by rw [HR.out]; rfl, HB.out.trans hb'⟩
set_option maxHeartbeats 2000000 in
set_option maxRecDepth 100000 in
theorem sJournalText (A : Option Addr) (n c : Nat) (ds : List Dd) (w : World) (hn : n ≤ 1048576) (hd : Ds w A n ds) (ht : ∀ a ∈ ds, a.text.length ≤ 1048576) :
    Calls Tryz.prog 63 #[.slice A n c] w fun e w' => e = .returned (.string (bs (jText ds))) ∧ Below w.heap.size w w' := by
  have HD := Lib.hid hd
  have HT := Lib.hid ht
  clear hd ht
  go_enter Tryz.func63, Tryz.ntmps63
  go_wp2_with fail
  go_loopw [3, 4] (fun v i wr => ∃ (k : Nat) (acc : Txt), k ≤ n ∧ i = .int .i64 k ∧ v = .string (bs acc) ∧ jText ds = jGo acc (ds.drop k) ∧ acc.length ≤ k * 1048605 ∧ Below w.heap.size w wr) (fun _ i _ => n - (intOf i).toNat)
  case atStart => exact ⟨0, [], by omega, rfl, rfl, rfl, by simp, Below.refl _ _⟩
  case round =>
    obtain ⟨k, acc, hk, rfl, rfl, hj, hal, hb⟩ := hrel
    have HJ := Lib.hid hj
    have HB := Lib.hid hb
    clear hj hb
    by_cases hlt : k < n
    · obtain ⟨b, o, a, rfl, hbl, ha, c0, c1, c2⟩ := (HD.out.below HB.out).at_ hlt
      have HA := Lib.hid ha
      have hat : a.text.length ≤ 1048576 := HT.out a (List.mem_of_getElem? ha)
      have hdl := dText_len2 a _ hat
      have HDT := Lib.hid (fun w => sDeedText a (by omega) w)
      have hto := bs_toList (dText a)
      unfold dv at HDT
      clear ha
      go_wp2_with fail
      refine (HDT.out _).mono ?_
      rintro e w1 ⟨rfl, hb1⟩
      have d0 := (hb1.cell (p := ⟨b, o + k * 3, none⟩) hbl).trans c0
      have d1 := (hb1.cell (p := ⟨b, o + k * 3 + 1, none⟩) hbl).trans c1
      have d2 := (hb1.cell (p := ⟨b, o + k * 3 + 2, none⟩) hbl).trans c2
      have HB1 : Hid (Below w.heap.size w w1) := HB.out.trans (hb1.mono HB.out.size)
      clear hb1 c0 c1 c2
      by_cases hd : dText a = []
      · have hd2 : (dText a).isEmpty = true := by rw [hd]; rfl
        have HR : Hid (jText ds = []) := by show _ = _; rw [HJ.out]; exact jGo_stop HA.out hd acc
        clear hd
        go_wp2_with fail
        go_ret
        exact ⟨by rw [HR.out]; rfl, HB1.out⟩
      · have hd2 : (dText a).isEmpty = false := by simpa using hd
        have HNX : Hid (jText ds = jGo (acc ++ dText a ++ [10]) (ds.drop (k + 1))) := by show _ = _; rw [HJ.out]; exact jGo_step HA.out hd acc
        have HEQ : Hid ((bs acc ++ bs (dText a)) ++ { data := #[10] } = bs (acc ++ dText a ++ [10])) := by
          show (bs acc ++ bs (dText a)) ++ bs [10] = _
          rw [bs_append, bs_append]
        have z1 : ¬ 9223372036854775807 < (bs acc).size + (bs (dText a)).size := by rw [bs_size, bs_size]; omega
        have z2 : ¬ 9223372036854775807 < (bs acc).size + (bs (dText a)).size + 1 := by rw [bs_size, bs_size]; omega
        clear hd
        go_wp2_with fail
        refine (HDT.out _).mono ?_
        rintro e w2 ⟨rfl, hb2⟩
        have HB2 : Hid (Below w.heap.size w w2) := HB1.out.trans (hb2.mono HB1.out.size)
        clear hb2
        go_wp2_with fail
        go_roundw
        case rel => exact ⟨k + 1, acc ++ dText a ++ [10], by omega, by go_num, by rw [← HEQ.out], HNX.out, by rw [List.length_append, List.length_append]; simp; omega, HB2.out⟩
        case measure => simp [intOf]; omega
    · obtain rfl : k = n := by omega
      have HR : Hid (jText ds = acc) := by show _ = _; rw [HJ.out]; exact jGo_end (by rw [HD.out.1]; omega) acc
      go_wp2_with fail
      go_ret
      exact ⟨by rw [HR.out]; rfl, HB.out⟩
end Go.Proofs.YtnomlkkhkacajaaGreatDoor

namespace Go.Proofs.YtnomlkkhkacajaaGreatDoor
open Go.RowKit
open Go.Lib hiding intOf

/-- A list of deeds, and how many bytes they have. -/
def RetJ (w : World) (r : List Dd × Nat) (e : Ending) (w' : World) : Prop := ∃ A m c, e = .returned (.tuple #[.slice A m c, .int .i64 r.2]) ∧ Od w' w.heap.size (.slice A m c) m r.1 ∧ Below w.heap.size w w'
theorem retJ_mk {w w' : World} {r : List Dd × Nat} {A : Option Addr} {c f : Nat} {ds : List Dd} (hr : r = (ds, f)) (ho : Od w' w.heap.size (.slice A ds.length c) ds.length ds) (hb : Below w.heap.size w w') :
    RetJ w r (.returned (.tuple #[.slice A ds.length c, .int .i64 f])) w' := by subst hr; exact ⟨_, _, _, rfl, ho, hb⟩
theorem rj_stop {l : Txt} {f : Nat} {ds : List Dd} (h : rj l = (ds ++ (rj (l.drop f)).1, f + (rj (l.drop f)).2)) (h0 : rj (l.drop f) = ([], 0)) : rj l = (ds, f) := by
  rw [h, h0]; simp
theorem rj_next {l a b : Txt} {f : Nat} {ds : List Dd} {d : Dd} (h : rj l = (ds ++ (rj (l.drop f)).1, f + (rj (l.drop f)).2)) (he : l.drop f = a ++ 10 :: b) (ha : (10 : UInt8) ∉ a) (hd : readDd a = some d) :
    l.drop (f + (a.length + 1)) = b ∧ rj l = ((ds ++ [d]) ++ (rj (l.drop (f + (a.length + 1)))).1, f + (a.length + 1) + (rj (l.drop (f + (a.length + 1)))).2) := by
  have hb : l.drop (f + (a.length + 1)) = b := by
    rw [← List.drop_drop, he]
    simp [List.drop_append]
  refine ⟨hb, ?_⟩
  rw [h, he, rj_at b ha, hd, hb]
  simp only [List.append_assoc, List.singleton_append, Prod.mk.injEq, true_and]
  omega
theorem rj_bad {l a b : Txt} {f : Nat} (he : l.drop f = a ++ 10 :: b) (ha : (10 : UInt8) ∉ a) (hd : readDd a = none) : rj (l.drop f) = ([], 0) := by
  rw [he, rj_at b ha, hd]

set_option maxHeartbeats 2000000 in
set_option maxRecDepth 100000 in
theorem iReadJournal (l : Txt) (hl : l.length ≤ 16777216) (w : World) (hE : EnvX w) :
    Calls Tryz.prog 27 #[.string (bs l)] w (RetJ w (rj l)) := by
  obtain ⟨N, hN⟩ : ∃ N, N = l.length := ⟨_, rfl⟩
  have hsz : (bs l).size = N := by rw [bs_size, hN]
  have hx := bs_extract l
  have HN := Lib.hid hN
  have HE := Lib.hid hE
  have hN2 : N ≤ 16777216 := by omega
  clear hN hE hl
  go_enter Tryz.func27, Tryz.ntmps27
  go_wp2_with fail
  go_loopw [4, 5, 6, 7, 8, 9, 10] (fun v fv _ _ _ _ _ wr => ∃ (f : Nat) (ds : List Dd), f ≤ N ∧ fv = .int .i64 f ∧ ds.length ≤ f ∧ rj l = (ds ++ (rj (l.drop f)).1, f + (rj (l.drop f)).2) ∧ Od wr w.heap.size v ds.length ds ∧ Below w.heap.size w wr) (fun _ fv _ _ _ _ _ _ => N - (intOf fv).toNat)
  case atStart => exact ⟨0, [], by omega, rfl, by simp, by simp, Od.nil_ _ _, Below.refl _ _⟩
  case round =>
    obtain ⟨f, ds, hf, rfl, hdl, hrj, ho, hb⟩ := hrel
    have HRJ := Lib.hid hrj
    have HO := Lib.hid ho
    have HB := Lib.hid hb
    obtain ⟨A, c, rfl⟩ := ho.shape
    clear hrj ho hb
    have htk : List.take (N - f) (List.drop f l) = List.drop f l := List.take_of_length_le (by rw [List.length_drop, ← HN.out]; omega)
    have hfi : (f : Int) ≤ (N : Int) := by omega
    have HC := Lib.hid (fun w h => iCut (l.drop f) 10 (by rw [List.length_drop, ← HN.out]; omega) w h)
    have hcut := cut_cases 10 (l.drop f)
    have HCUT := Lib.hid hcut
    clear hcut
    rcases HCUT.out with hno | ⟨a, b, hab, hna⟩
    · rw [cut1_no hno] at HC
      have HRES := Lib.hid (rj_stop HRJ.out (rj_no hno))
      unfold sv at HC
      clear hno
      go_wp2_with fail
      refine (HC.out _ (HE.out.kp (Kp.below HB.out))).mono ?_
      rintro e w1 ⟨rfl, hb1⟩
      have HB1 : Hid (Below w.heap.size w w1) := HB.out.trans (hb1.mono HB.out.size)
      have HO1 := Lib.hid (Od.below HO.out hb1)
      clear hb1
      go_wp2_with fail
      go_ret2
      exact retJ_mk HRES.out HO1.out HB1.out
    · have HAB := Lib.hid hab
      have HNA := Lib.hid hna
      have hal : f + (a.length + 1) ≤ N := by
        have := congrArg List.length hab
        rw [List.length_drop, List.length_append, List.length_cons, ← HN.out] at this
        omega
      rw [hab, cut1_at b hna] at HC
      unfold sv at HC
      simp only at HC
      rw [hab] at htk
      have HR := Lib.hid (fun w h => iReadDeed a (by omega) w h)
      unfold RetDd at HR
      unfold dv at HR
      have hasz : (bs a).size = a.length := bs_size a
      have e1 : IntKind.i64.wrap ((a.length : Int) + 1) = (a.length : Int) + 1 := IntWalk.i64_in _ (by omega)
      have e2 : IntKind.i64.wrap ((f : Int) + ((a.length : Int) + 1)) = (f : Int) + ((a.length : Int) + 1) := IntWalk.i64_in _ (by omega)
      clear hna
      go_wp2_with fail
      refine (HC.out _ (HE.out.kp (Kp.below HB.out))).mono ?_
      rintro e w1 ⟨rfl, hb1⟩
      have HB1 : Hid (Below w.heap.size w w1) := HB.out.trans (hb1.mono HB.out.size)
      have HO1 := Lib.hid (Od.below HO.out hb1)
      clear hb1
      go_wp2_with fail
      refine (HR.out _ (HE.out.kp (Kp.below HB1.out))).mono ?_
      rintro e w2 ⟨rfl, hb2⟩
      have HB2 : Hid (Below w.heap.size w w2) := HB1.out.trans (hb2.mono HB1.out.size)
      have HO2 := Lib.hid (Od.below HO1.out hb2)
      clear hb2
      cases hrd : readDd a with
      | none =>
        have HRES := Lib.hid (rj_stop HRJ.out (rj_bad HAB.out HNA.out hrd))
        simp only [od, Option.getD_none, Option.isSome_none]
        clear hrd
        go_wp2_with fail
        go_ret2
        exact retJ_mk HRES.out (Od.below HO2.out (below_alloc _ _)) (HB2.out.alloc HB2.out.size _)
      | some d =>
        have HNX := Lib.hid (rj_next HRJ.out HAB.out HNA.out hrd)
        have HO3 := Lib.hid (Od.below HO2.out (below_alloc w2 (.cells #[.int .i64 d.kind, .int .i64 d.num, .string (bs d.text)] 28)))
        have hs3 : w.heap.size ≤ (w2.alloc (.cells #[.int .i64 d.kind, .int .i64 d.num, .string (bs d.text)] 28)).heap.size := by have := HB2.out.size; simp; omega
        have HS3 := Lib.hid hs3
        have HB3 : Hid (Below w.heap.size w (w2.alloc (.cells #[.int .i64 d.kind, .int .i64 d.num, .string (bs d.text)] 28))) := HB2.out.alloc HB2.out.size _
        simp only [od, Option.getD_some, Option.isSome_some]
        clear hrd hs3 hab
        go_wp2_with (at_builtin; refine wl_appDd w.heap.size d HS3.out rfl (.tmp 32) (.tmp 34) 37 rfl Tryz.eDd _ ds.length ds rfl HO3.out (by show Value.slice (some ⟨w2.heap.size + 1, 0, none⟩) 1 1 = _; simp) (by simp only [maxLen]; omega) (by omega) ?_; intro v' w4 ho4 hb4 _; have HO4 := Lib.hid ho4; have HB4 := Lib.hid hb4; clear ho4 hb4)
        go_roundw
        case rel => exact ⟨f + (a.length + 1), ds ++ [d], hal, by go_num, by rw [List.length_append]; simp; omega, HNX.out.2, by rw [List.length_append]; exact HO4.out, HB3.out.trans HB4.out⟩
        case measure => simp [intOf]; omega
set_option maxHeartbeats 2000000 in
set_option maxRecDepth 100000 in
theorem sReadJournal (l : Txt) (hl : l.length ≤ 16777216) (w : World) :
    Calls Tryz.prog 28 #[.string (bs l)] w (RetJ w (rj l)) := by
  obtain ⟨N, hN⟩ : ∃ N, N = l.length := ⟨_, rfl⟩
  have hsz : (bs l).size = N := by rw [bs_size, hN]
  have hx := bs_extract l
  have HN := Lib.hid hN
  have hN2 : N ≤ 16777216 := by omega
  have HA : Hid (∀ (k : Nat) (_ : k < N), ∃ d : Nat, d < 256 ∧ (∀ h, ((bs l)[k]'h).toNat = d) ∧ ∀ h : k < l.length, (l[k]).toNat = d) := fun k hk =>
    ⟨(l[k]'(by omega)).toNat, UInt8.toNat_lt _, fun h => bs_get l k (by omega) h, fun _ => rfl⟩
  have HO0 : Hid (Od (w.alloc (.cells #[] 28)) w.heap.size (.slice (some ⟨w.heap.size, 0, none⟩) 0 0) 0 []) := Od.lit [] (by simp) #[] rfl
  have HB0 := Lib.hid (below_alloc w (.cells #[] 28))
  clear hN hl
  go_enter Tryz.func28, Tryz.ntmps28
  go_wp2_with fail
  go_loopw [4, 5, 6, 7, 8] (fun v fv kv _ _ wr => ∃ (k f : Nat) (ds : List Dd), f ≤ k ∧ k ≤ N ∧ fv = .int .i64 f ∧ kv = .int .i64 k ∧ ds.length ≤ f ∧ (10 : UInt8) ∉ (l.drop f).take (k - f) ∧ rj l = (ds ++ (rj (l.drop f)).1, f + (rj (l.drop f)).2) ∧ Od wr w.heap.size v ds.length ds ∧ Below w.heap.size w wr) (fun _ _ kv _ _ _ => N - (intOf kv).toNat)
  case atStart => exact ⟨0, 0, [], by omega, by omega, rfl, rfl, by simp, by simp, by simp, HO0.out, HB0.out⟩
  case round =>
    obtain ⟨k, f, ds, hf, hk, rfl, rfl, hdl, hno, hrj, ho, hb⟩ := hrel
    have HNO := Lib.hid hno
    have HRJ := Lib.hid hrj
    have HO := Lib.hid ho
    have HB := Lib.hid hb
    obtain ⟨A, c, rfl⟩ := ho.shape
    clear hno hrj ho hb
    by_cases hlt : k < N
    · have hltl : k < l.length := by rw [← HN.out]; exact hlt
      obtain ⟨d, hd, hbk, hd2⟩ := HA.out k hlt
      have HD := Lib.hid (hd2 hltl)
      have HLT := Lib.hid hltl
      clear hd2
      by_cases h10 : d = 10
      · have hck : ((d : Int) == 10) = true := by rw [beq_iff_eq]; omega
        have hc : l[k]'hltl = 10 := UInt8.toNat_inj.1 (by rw [HD.out, h10]; rfl)
        have hsp := drop_split (l := l) hf hltl
        rw [hc] at hsp
        have hal : ((l.drop f).take (k - f)).length = k - f := by rw [List.length_take, List.length_drop]; omega
        have hna := HNO.out
        generalize hgen : (l.drop f).take (k - f) = a at *
        have HAB := Lib.hid hsp
        have hkf : f + (a.length + 1) = k + 1 := by omega
        have HKF := Lib.hid hkf
        have HR := Lib.hid (fun w => sReadDeed a (by omega) w)
        unfold RetDd at HR
        unfold dv at HR
        clear hsp hc h10 HD HLT hltl hkf hna
        go_wp2_with fail
        refine (HR.out _).mono ?_
        rintro e w2 ⟨rfl, hb2⟩
        have HB2 : Hid (Below w.heap.size w w2) := HB.out.trans (hb2.mono HB.out.size)
        have HO2 := Lib.hid (Od.below HO.out hb2)
        clear hb2
        cases hrd : readDd a with
        | none =>
          have HRES := Lib.hid (rj_stop HRJ.out (rj_bad HAB.out HNO.out hrd))
          simp only [od, Option.getD_none, Option.isSome_none]
          clear hrd hgen
          go_wp2_with fail
          go_ret2
          exact retJ_mk HRES.out (Od.below HO2.out (below_alloc _ _)) (HB2.out.alloc HB2.out.size _)
        | some d' =>
          have HNX := Lib.hid (rj_next HRJ.out HAB.out HNO.out hrd)
          have HO3 := Lib.hid (Od.below HO2.out (below_alloc w2 (.cells #[.int .i64 d'.kind, .int .i64 d'.num, .string (bs d'.text)] 28)))
          have hs3 : w.heap.size ≤ (w2.alloc (.cells #[.int .i64 d'.kind, .int .i64 d'.num, .string (bs d'.text)] 28)).heap.size := by have := HB2.out.size; simp; omega
          have HS3 := Lib.hid hs3
          have HB3 : Hid (Below w.heap.size w (w2.alloc (.cells #[.int .i64 d'.kind, .int .i64 d'.num, .string (bs d'.text)] 28))) := HB2.out.alloc HB2.out.size _
          simp only [od, Option.getD_some, Option.isSome_some]
          rw [HKF.out] at HNX
          clear hrd hs3 hgen
          go_wp2_with (at_builtin; refine wl_appDd w.heap.size d' HS3.out rfl (.tmp 32) (.tmp 34) 37 rfl Tryz.eDd _ ds.length ds rfl HO3.out (by show Value.slice (some ⟨w2.heap.size + 1, 0, none⟩) 1 1 = _; simp) (by simp only [maxLen]; omega) (by omega) ?_; intro v' w4 ho4 hb4 _; have HO4 := Lib.hid ho4; have HB4 := Lib.hid hb4; clear ho4 hb4)
          go_roundw
          case rel => exact ⟨k + 1, k + 1, ds ++ [d'], by omega, by omega, by go_num, by go_num, by rw [List.length_append]; simp; omega, by simp, HNX.out.2, by rw [List.length_append]; exact HO4.out, HB3.out.trans HB4.out⟩
          case measure => simp [intOf]; omega
      · have hck : ((d : Int) == 10) = false := by rw [beq_eq_false_iff_ne]; omega
        have HNN : Hid ((10 : UInt8) ∉ (l.drop f).take (k + 1 - f)) := fun hm => by
          rw [drop_take_next hf hltl] at hm
          rcases List.mem_append.1 hm with hm | hm
          · exact HNO.out hm
          · have hc := List.mem_singleton.1 hm
            have := HD.out
            rw [← hc] at this
            exact h10 this.symm
        clear h10 HD HLT hltl
        go_wp2_with fail
        go_roundw
        case rel => exact ⟨k + 1, f, ds, by omega, by omega, by go_num, by go_num, by omega, HNN.out, HRJ.out, HO.out, HB.out⟩
        case measure => simp [intOf]; omega
    · obtain rfl : k = N := by omega
      have e : (l.drop f).take (k - f) = l.drop f := List.take_of_length_le (by rw [List.length_drop, ← HN.out]; omega)
      have h2 := HNO.out
      rw [e] at h2
      have HRES := Lib.hid (rj_stop HRJ.out (rj_no h2))
      clear h2 e
      go_wp2_with fail
      go_ret2
      exact retJ_mk HRES.out HO.out HB.out
end Go.Proofs.YtnomlkkhkacajaaGreatDoor
namespace Go.Proofs.YtnomlkkhkacajaaGreatDoor
open Go.RowKit
open Go.Lib hiding intOf

theorem Od.pk {w w' : World} {B n g : Nat} {v : Value} {ds : List Dd} (h : Od w B v n ds) (hp : Pk g w w') (hg : g < B) : Od w' B v n ds := by
  refine ⟨h.1, ?_⟩
  rcases h.2 with hn | ⟨g', cap, cur, hv, hg', hh, r⟩
  · exact .inl hn
  · exact .inr ⟨g', cap, cur, hv, hg', by rw [hp.block g' (Array.getElem?_eq_some_iff.1 hh).1 (by omega)]; exact hh, r⟩
theorem Od.keep {w w' : World} {B n c : Nat} {A : Option Addr} {ds : List Dd} (h : Od w B (.slice A n c) n ds) (hk : ∀ g, A = some ⟨g, 0, none⟩ → g < w.heap.size → w'.heap[g]? = w.heap[g]?) : Od w' B (.slice A n c) n ds := by
  refine ⟨h.1, ?_⟩
  rcases h.2 with h0 | ⟨g, cap, cur, hv, hg, hh, r⟩
  · exact .inl h0
  · injection hv with h1 h2 h3
    subst h1; subst h3
    exact .inr ⟨g, c, cur, rfl, hg, by rw [hk g rfl (Array.getElem?_eq_some_iff.1 hh).1]; exact hh, r⟩
theorem Od.bound {w : World} {B n c : Nat} {A : Option Addr} {ds : List Dd} (h : Od w B (.slice A n c) n ds) : ∀ g, A = some ⟨g, 0, none⟩ → B ≤ g ∧ g < w.heap.size := fun g hg => by
  subst hg
  exact World.ownsRow.lt h g rfl
section
variable {P : Program} {w : World} {ops : Array Oper} {rest : List Oper} {o : Oper} {a : Act} {Q : Exit → Act → World → Prop}
/-- append(out, a deed): where the new row lies. -/
theorem wl_appDl (B : Nat) (d : Dd) (hB : B ≤ w.heap.size) (hgd : o.guard = none) (s x : Operand) (t : TypeId) (ho : o.op = .call { callee := .builtin .append, args := #[s, x], argTypes := #[t, t] })
    (he : ElemD P t) (v : Value) (n : Nat) (ds : List Dd) (hs : a.eval s = v) (hown : Od w B v n ds)
    (hx : a.eval x = .slice (some ⟨w.heap.size, 0, none⟩) 1 1) (h63 : n + 1 ≤ maxLen) (hbytes : (n + 1) * 32 ≤ 140737488355328)
    (h : ∀ v' w', Od w' B v' (n + 1) (ds ++ [d]) → Below B w w' → (∀ b, b < w.heap.size → v.ownBlock ≠ some b → w'.heap[b]? = w.heap[b]?) → (∀ b, b < w.heap.size → v.ownBlock ≠ some b → v'.ownBlock ≠ some b) → wpList P ops Q rest (a.put o.dst v') w') : wpList P ops Q (o :: rest) a (w.alloc (.cells #[.int .i64 d.kind, .int .i64 d.num, .string (bs d.text)] 28)) := by
  obtain ⟨i, z, h2, h3, h4, h5, h6⟩ := he.info
  refine wpList_append_own_at (w.alloc (.cells #[.int .i64 d.kind, .int .i64 d.num, .string (bs d.text)] 28)) hgd s x t ho B 28 i z 3 32 he.und h2 h3 h4 h5 h6 (by decide) v n _ hs (World.ownsRow.alloc hown _) ⟨w.heap.size, 0, none⟩ 1 1 (dcs d) hx rfl ?_ (dcs_one d) h63 hbytes ?_ ?_
  · intro j u' hj
    rw [add_none0, World.cell?_alloc_at _ _ _ _ rfl]
    simpa [dcs] using hj
  · simp
    omega
  · intro v' w' h1 h2 _ hl
    refine h v' w' ?_ (((Below.refl B w).alloc hB _).grown h2 (by simp; omega) ?_) (fun b hb hne => ?_) fun b hb hne => ?_
    · unfold Od
      rw [List.flatMap_append, List.flatMap_cons, List.flatMap_nil, List.append_nil]
      exact h1
    · intro k hk
      exact (World.ownsRow.lt hown k hk).1
    · rw [h2.block b (by simp; omega) (fun e => hne e.symm)]
      exact (World.grownBy_alloc w _ none).block b hb (by simp)
    · rcases hl with hl | hl
      · rw [hl]; exact hne
      · rw [hl]
        intro e
        injection e with e
        simp at e
        omega
end
/-- Deeds that are drawn. -/
def OkD (a : Dd) : Prop := a.text.length ≤ 706 ∧ -1000 ≤ a.num ∧ a.num ≤ 1000
def RetDs (w : World) (g p : Nat) (Q : Dd → Prop) (e : Ending) (w' : World) : Prop := ∃ A m c ds, e = .returned (.slice A m c) ∧ Od w' w.heap.size (.slice A m c) m ds ∧ m ≤ 5 ∧ (∀ a ∈ ds, OkD a ∧ Q a) ∧ Rd w' g p ∧ Pk g w w'

set_option maxHeartbeats 1000000 in
theorem deeds_any (g p : Nat) (w : World) (hp : p ≤ 500000) (hr : Rd w g p) :
    Calls Tryz.prog 46 #[.pointer (some ⟨g, 0, none⟩)] w (RetDs w g (p + 351) fun _ => True) := by
  have hlt := hr.lt
  have he := Od.lit (w := w) [] (by simp) #[] rfl
  have hb0 := below_alloc w (.cells #[] 28)
  go_enter Tryz.func46, Tryz.ntmps46
  go_wp2_with fail
  refine (pick_any g p 6 _ (by omega) (by omega) (hr.below hb0)).mono ?_
  rintro e w1 ⟨q, rfl, ⟨q1, q2, _⟩, hr1, hp1⟩
  obtain ⟨q, rfl⟩ := Int.eq_ofNat_of_zero_le q1
  have q3 : q < 6 := by have := q2 (by omega); omega
  have HO1 : Hid (Od w1 w.heap.size (.slice (some ⟨w.heap.size, 0, none⟩) 0 0) 0 []) := Od.pk he hp1 hlt
  have HP1 : Hid (Pk g w w1) := (Pk.of_below hb0).trans hp1
  have HR1 := Lib.hid hr1
  clear he hb0 hr hp1 hr1 q1 q2
  go_wp2_with fail
  go_loopw [3, 4] (fun v i wr => ∃ (k : Nat) (ds : List Dd), k ≤ q ∧ i = .int .i64 k ∧ ds.length + k = q ∧ Od wr w.heap.size v ds.length ds ∧ (∀ a ∈ ds, OkD a ∧ True) ∧ Rd wr g (p + 1 + 70 * ds.length) ∧ Pk g w wr) (fun _ i _ => (intOf i).toNat)
  case atStart => exact ⟨q, [], by omega, rfl, by simp, HO1.out, by simp, HR1.out.mono (by simp), HP1.out⟩
  case round =>
    obtain ⟨k, ds, hk, rfl, hlen, ho, hok, hrd, hpk⟩ := hrel
    have HO := Lib.hid ho
    have HOK := Lib.hid hok
    have HP := Lib.hid hpk
    have HR := Lib.hid hrd
    have hll : ds.length ≤ 5 := by omega
    have HL := Lib.hid hlen
    clear ho hok hpk hlen hrd
    by_cases hlt2 : 0 < k
    · have hki : (0 : Int) < (k : Int) := by omega
      have e4 : IntKind.i64.wrap ((k : Int) - 1) = (k : Int) - 1 := IntWalk.i64_in _ (by omega)
      go_wp2_with fail
      refine (deed_any g (p + 1 + 70 * ds.length) wr (by omega) HR.out).mono ?_
      rintro e w2 ⟨a, rfl, ha1, ha2, ha3, hr2, hp2⟩
      have HP2 : Hid (Pk g w w2) := HP.out.trans hp2
      have HO2 := Lib.hid (Od.pk HO.out hp2 hlt)
      have HR2 := Lib.hid hr2
      have hsz := HP2.out.size
      have HNX : Hid (∀ x ∈ ds ++ [a], OkD x ∧ True) := fun x hx => by
        rcases List.mem_append.1 hx with hx | hx
        · exact HOK.out x hx
        · rw [List.mem_singleton.1 hx]; exact ⟨⟨ha1, ha2, ha3⟩, trivial⟩
      unfold dv
      clear hp2 hr2
      go_wp2_with (at_builtin; refine wl_appDd w.heap.size a hsz rfl (.tmp 12) (.tmp 15) 37 rfl Tryz.eDd _ ds.length ds rfl HO2.out rfl (by simp only [maxLen]; omega) (by omega) ?_; intro v' w4 ho4 hb4 _; have HO4 := Lib.hid ho4; have HB4 := Lib.hid hb4; clear ho4 hb4)
      go_roundw
      case rel => exact ⟨k - 1, ds ++ [a], by omega, by go_num, by rw [List.length_append]; have := HL.out; simp; omega, by rw [List.length_append]; exact HO4.out, HNX.out, (HR2.out.belowB HB4.out hlt).mono (by rw [List.length_append]; simp; omega), HP2.out.belowB HB4.out (Nat.le_refl _)⟩
      case measure => simp [intOf]; omega
    · obtain rfl : k = 0 := by omega
      obtain ⟨A1, c1, rfl⟩ := HO.out.shape
      go_wp2_with fail
      go_ret
      exact ⟨A1, _, c1, ds, rfl, HO.out, hll, HOK.out, HR.out.mono (by omega), HP.out⟩
set_option maxHeartbeats 1000000 in
set_option maxRecDepth 100000 in
theorem written_any (g p : Nat) (w : World) (hp : p ≤ 400000) (hr : Rd w g p) :
    Calls Tryz.prog 64 #[.pointer (some ⟨g, 0, none⟩)] w (RetDs w g (p + 351) fun a => dText a ≠ []) := by
  have hlt := hr.lt
  have he := Od.lit (w := w) [] (by simp) #[] rfl
  have hb0 := below_alloc w (.cells #[] 28)
  have hs1 : (w.alloc (.cells #[] 28)).heap.size = w.heap.size + 1 := by simp
  have HS1 := Lib.hid hs1
  clear hs1
  go_enter Tryz.func64, Tryz.ntmps64
  go_wp2_with fail
  refine (deeds_any g p _ (by omega) (hr.below hb0)).mono ?_
  rintro e w1 ⟨A, m, c, dl, rfl, hol, hm5, hokl, hr1, hp1⟩
  have HO1 : Hid (Od w1 w.heap.size (.slice (some ⟨w.heap.size, 0, none⟩) 0 0) 0 []) := Od.pk he hp1 hlt
  have HOL1 : Hid (Od w1 (w.heap.size + 1) (.slice A m c) m dl) := by show Od _ _ _ _ _; rw [← HS1.out]; exact hol
  have HP1 : Hid (Pk g w w1) := (Pk.of_below hb0).trans hp1
  have HR1 := Lib.hid hr1
  have HOK := Lib.hid hokl
  have HNE1 : Hid (∀ g', A = some ⟨g', 0, none⟩ → (Value.slice (some ⟨w.heap.size, 0, none⟩) 0 0).ownBlock ≠ some g') := fun g' hg' e => by
    have := (HOL1.out.bound g' hg').1
    injection e with e
    have : w.heap.size = g' := e
    omega
  clear he hb0 hr hp1 hr1 hol hokl
  go_wp2_with fail
  go_loopw [3, 5] (fun v i wr => ∃ (k : Nat) (ds : List Dd), k ≤ m ∧ i = .int .i64 k ∧ ds.length ≤ k ∧ Od wr w.heap.size v ds.length ds ∧ Od wr (w.heap.size + 1) (.slice A m c) m dl ∧ (∀ g', A = some ⟨g', 0, none⟩ → v.ownBlock ≠ some g') ∧ (∀ a ∈ ds, OkD a ∧ dText a ≠ []) ∧ Rd wr g (p + 351) ∧ Pk g w wr) (fun _ i _ => m - (intOf i).toNat)
  case atStart => exact ⟨0, [], by omega, rfl, by simp, HO1.out, HOL1.out, HNE1.out, by simp, HR1.out, HP1.out⟩
  case round =>
    obtain ⟨k, ds, hk, rfl, hlen, ho, hol, hne, hok, hrd, hpk⟩ := hrel
    have HO := Lib.hid ho
    have HL := Lib.hid hol
    have HNE := Lib.hid hne
    have HOK2 := Lib.hid hok
    have HP := Lib.hid hpk
    have HR := Lib.hid hrd
    clear ho hol hne hok hpk hrd
    by_cases hlt2 : k < m
    · obtain ⟨g', a, hA, ha, c0, c1, c2, hgl⟩ := HL.out.cells hlt2
      have HA := Lib.hid ha
      have HAS := Lib.hid hA
      have hoa := HOK.out a (List.mem_of_getElem? ha)
      have HOA := Lib.hid hoa
      have hat : a.text.length ≤ 706 := hoa.1.1
      have HDT := Lib.hid (fun w => sDeedText a (by omega) w)
      have hto := bs_toList (dText a)
      unfold dv at HDT
      clear ha hoa
      subst hA
      go_wp2_with fail
      refine (HDT.out _).mono ?_
      rintro e w2 ⟨rfl, hb2⟩
      have d0 := (hb2.cell (p := ⟨g', k * 3, none⟩) hgl).trans c0
      have d1 := (hb2.cell (p := ⟨g', k * 3 + 1, none⟩) hgl).trans c1
      have d2 := (hb2.cell (p := ⟨g', k * 3 + 2, none⟩) hgl).trans c2
      have HO2 := Lib.hid (Od.below HO.out hb2)
      have HL2 := Lib.hid (Od.below HL.out hb2)
      have HP2 : Hid (Pk g w w2) := HP.out.trans (Pk.of_below hb2)
      have HR2 := Lib.hid (HR.out.below hb2)
      have hsz : w.heap.size ≤ w2.heap.size := HP2.out.size
      have hg2 : g' < w2.heap.size := Nat.lt_of_lt_of_le hgl hb2.size
      clear hb2 c0 c1 c2
      by_cases hd : dText a = []
      · have hd2 : (dText a).isEmpty = true := by rw [hd]; rfl
        clear hd
        go_wp2_with fail
        go_roundw
        case rel => exact ⟨k + 1, ds, by omega, by go_num, by omega, HO2.out, HL2.out, HNE.out, HOK2.out, HR2.out, HP2.out⟩
        case measure => simp [intOf]; omega
      · have hd2 : (dText a).isEmpty = false := by simpa using hd
        have HNX : Hid (∀ x ∈ ds ++ [a], OkD x ∧ dText x ≠ []) := fun x hx => by
          rcases List.mem_append.1 hx with hx | hx
          · exact HOK2.out x hx
          · rw [List.mem_singleton.1 hx]; exact ⟨HOA.out.1, hd⟩
        clear hd
        go_wp2_with (at_builtin; refine wl_appDl w.heap.size a hsz rfl (.tmp 21) (.tmp 26) 37 rfl Tryz.eDd _ ds.length ds rfl HO2.out rfl (by simp only [maxLen]; omega) (by omega) ?_; intro v' w4 ho4 hb4 hf4 hn4; have HO4 := Lib.hid ho4; have HB4 := Lib.hid hb4; have HF4 := Lib.hid hf4; have HN4 := Lib.hid hn4; clear ho4 hb4 hf4 hn4)
        have HL4 : Hid (Od w4 (w.heap.size + 1) (.slice (some ⟨g', 0, none⟩) m c) m dl) := HL2.out.keep fun g2 hg2' hlt' => HF4.out g2 hlt' (HNE.out g2 hg2')
        have HNE4 : Hid (∀ g2, (some ⟨g', 0, none⟩ : Option Addr) = some ⟨g2, 0, none⟩ → v'.ownBlock ≠ some g2) := fun g2 h2 => HN4.out g2 (by injection h2 with h2; injection h2 with h2; omega) (HNE.out g2 h2)
        go_roundw
        case rel => exact ⟨k + 1, ds ++ [a], by omega, by go_num, by rw [List.length_append]; simp; omega, by rw [List.length_append]; exact HO4.out, HL4.out, HNE4.out, HNX.out, HR2.out.belowB HB4.out hlt, HP2.out.belowB HB4.out (Nat.le_refl _)⟩
        case measure => simp [intOf]; omega
    · obtain rfl : k = m := by omega
      obtain ⟨A1, c1, rfl⟩ := HO.out.shape
      go_wp2_with fail
      go_ret
      exact ⟨A1, _, c1, ds, rfl, HO.out, by omega, HOK2.out, HR.out, HP.out⟩
/-- The deeds of the law FnJournalText. -/
def RetDJ (w : World) (e : Ending) (w' : World) : Prop := ∃ A m c ds, e = .returned (.slice A m c) ∧ Od w' w.heap.size (.slice A m c) m ds ∧ m ≤ 6 ∧ (∀ a ∈ ds, a.text.length ≤ 706) ∧ Below w.heap.size w w'
set_option maxHeartbeats 1000000 in
theorem sameDeeds_true (A A' : Option Addr) (n c c' : Nat) (ds : List Dd) (w : World) (hn : n ≤ 1073741824) (hx : Ds w A n ds) (hy : Ds w A' n ds) :
    Calls Tryz.prog 29 #[.slice A n c, .slice A' n c'] w fun e w' => e = .returned (.bool true) ∧ Dr w w' := by
  have HX := Lib.hid hx
  have HY := Lib.hid hy
  clear hx hy
  go_enter Tryz.func29, Tryz.ntmps29
  go_wp2_with fail
  go_loopw [5] (fun i wr => ∃ k : Nat, k ≤ n ∧ i = .int .i64 k ∧ ∃ m, wr = w.drewN m) (fun i _ => n - (intOf i).toNat)
  case atStart => exact ⟨0, by omega, rfl, 0, rfl⟩
  case round =>
    obtain ⟨k, hk, rfl, m, rfl⟩ := hrel
    by_cases hlt : k < n
    · obtain ⟨b, o, a, rfl, hb, ha, x0, x1, x2⟩ := HX.out.at_ hlt
      obtain ⟨b', o', a', rfl, hb', ha', y0, y1, y2⟩ := HY.out.at_ hlt
      obtain rfl : a' = a := by rw [ha] at ha'; injection ha' with h; exact h.symm
      have h0 : (w.drewN m).cell? ⟨b, o + k * 3, none⟩ = some (.int .i64 a'.kind) := x0
      have h1 : (w.drewN m).cell? ⟨b, o + k * 3 + 1, none⟩ = some (.int .i64 a'.num) := x1
      have h2 : (w.drewN m).cell? ⟨b, o + k * 3 + 2, none⟩ = some (.string (bs a'.text)) := x2
      have g0 : (w.drewN m).cell? ⟨b', o' + k * 3, none⟩ = some (.int .i64 a'.kind) := y0
      have g1 : (w.drewN m).cell? ⟨b', o' + k * 3 + 1, none⟩ = some (.int .i64 a'.num) := y1
      have g2 : (w.drewN m).cell? ⟨b', o' + k * 3 + 2, none⟩ = some (.string (bs a'.text)) := y2
      have hto := bs_toList a'.text
      have hk0 : (0 : Int) ≤ (k : Int) := by omega
      have hkn : (k : Int) < (n : Int) := by omega
      clear x0 x1 x2 y0 y1 y2 ha ha' hb hb'
      obtain ⟨wr, hwr⟩ : ∃ wr, wr = w.drewN m := ⟨_, rfl⟩
      rw [← hwr] at h0 h1 h2 g0 g1 g2 ⊢
      have HW := Lib.hid hwr
      clear hwr
      go_wp2_with fail
      go_quiet (fail)
      go_wp2_with fail
      go_roundw
      case rel => exact ⟨k + 1, by omega, by go_num, m + nq, by rw [HW.out, World.drewN_drewN]⟩
      case measure => simp [intOf]; omega
    · go_wp2_with fail
      go_ret
      exact ⟨rfl, m, rfl⟩
end Go.Proofs.YtnomlkkhkacajaaGreatDoor

namespace Go.Proofs.YtnomlkkhkacajaaGreatDoor
open Go.RowKit
open Go.Lib hiding intOf

theorem jAll_len {M : Nat} : ∀ {ds : List Dd}, (∀ a ∈ ds, a.text.length ≤ M) → (jAll ds).length ≤ ds.length * (M + 29)
  | [], _ => by simp [jAll]
  | a :: r, h => by
    have h1 := dText_len2 a M (h a List.mem_cons_self)
    have h2 := jAll_len (ds := r) fun b hb => h b (List.mem_cons_of_mem _ hb)
    have e : jAll (a :: r) = dText a ++ 10 :: jAll r := by simp [jAll]
    rw [e, List.length_append, List.length_cons, List.length_cons, Nat.add_mul]
    omega
theorem jText_len {M : Nat} {ds : List Dd} (h : ∀ a ∈ ds, a.text.length ≤ M) : (jText ds).length ≤ ds.length * (M + 29) := by
  rcases jText_cases ds with ⟨_, e⟩ | ⟨_, e⟩
  · rw [e]; exact jAll_len h
  · rw [e]; simp
end Go.Proofs.YtnomlkkhkacajaaGreatDoor
namespace Go.Proofs.YtnomlkkhkacajaaGreatDoor
open Go.RowKit
open Go.Lib hiding intOf

theorem Ds.take_ {w : World} {A : Option Addr} {l h : Nat} {ds : List Dd} (hd : Ds w A l ds) (hh : h ≤ l) : Ds w A h (ds.take h) := by
  refine ⟨by rw [List.length_take, hd.1]; omega, ?_⟩
  rcases hd.2 with h0 | ⟨b, o, hA, hb, hc⟩
  · exact .inl (by omega)
  · refine .inr ⟨b, o, hA, hb, fun k a ha => hc k a ?_⟩
    rw [List.getElem?_take] at ha
    split at ha
    · exact ha
    · cases ha
theorem Ds.drop_ {w : World} {b o l h : Nat} {ds : List Dd} (hd : Ds w (some ⟨b, o, none⟩) l ds) (hh : h < l) : Ds w (some ⟨b, o + h * 3, none⟩) (l - h) (ds.drop h) := by
  refine ⟨by rw [List.length_drop, hd.1], ?_⟩
  rcases hd.2 with h0 | ⟨b', o', hA, hb, hc⟩
  · omega
  · injection hA with hA
    injection hA with h1 h2
    subst h1; subst h2
    refine .inr ⟨b, o + h * 3, rfl, hb, fun k a ha => ?_⟩
    rw [List.getElem?_drop] at ha
    have := hc (h + k) a ha
    rwa [show o + (h + k) * 3 = o + h * 3 + k * 3 by omega] at this
theorem Ds.some_ {w : World} {A : Option Addr} {l : Nat} {ds : List Dd} (hd : Ds w A l ds) (hl : 0 < l) : ∃ b o, A = some ⟨b, o, none⟩ := by
  rcases hd.2 with h0 | ⟨b, o, hA, _⟩
  · omega
  · exact ⟨b, o, hA⟩
theorem dz_cells : (madeCells (Value.agg #[.int .i64 0, .int .i64 0, .string ⟨#[]⟩]).cells (41 * 3)).toList = (List.replicate 41 (⟨0, 0, []⟩ : Dd)).flatMap dcs := by kernel_rfl
theorem makeD_run (w : World) :
    ∃ w', Sem.run Tryz.prog (Instr.makeSlice 37 (.int .i64 41) (.int .i64 41)) w = .ok (.slice (some ⟨w.heap.size, 0, none⟩) 41 41) w' ∧ Od w' w.heap.size (.slice (some ⟨w.heap.size, 0, none⟩) 41 41) 41 (List.replicate 41 ⟨0, 0, []⟩) ∧ Below w.heap.size w w' := by
  have hinf : (Tryz.prog.info? 28).map (fun i => (i.zero, i.size, i.bytes)) = some (some (.agg #[.int .i64 0, .int .i64 0, .string ⟨#[]⟩]), 3, 32) := by kernel_rfl
  obtain ⟨i, h2, h3, h4, h5⟩ := info_parts hinf
  obtain ⟨w', hrun, r1, r2⟩ := run_make_full (P := Tryz.prog) (w := w) w.heap.size 37 28 i (.agg #[.int .i64 0, .int .i64 0, .string ⟨#[]⟩]) 3 Tryz.underlying37 h2 h3 h4 .i64 .i64 41 (by rw [h5]; omega) (by unfold maxLen; omega) (Nat.le_refl _)
  refine ⟨w', hrun, ?_, (Below.refl _ _).grown r2 (Nat.le_refl _) (by simp)⟩
  unfold Od
  rw [← dz_cells]
  exact r1
/-- A desk and deeds, drawn. -/
def RetDR (w : World) (e : Ending) (w' : World) : Prop :=
  ∃ A n c A' m c' d L l lc ds, e = .returned (.tuple #[.agg #[.slice A n c, .slice A' m c'], .slice L l lc]) ∧ DkV w' w.heap.size A n c A' m d ∧ DkS d ∧ (dkB d = true → DkL d 39) ∧ Ds w' L l ds ∧ l ≤ lc ∧ lc ≤ maxLen ∧ (L = none ∧ l = 0 ∧ lc = 0 ∨ ∃ g, L = some ⟨g, 0, none⟩) ∧ l ≤ 41 ∧ (l ≤ 40 → l ≤ 5) ∧ (∀ a ∈ ds, a.text.length ≤ 706) ∧ Below w.heap.size w w'
theorem Od.nil0 {w : World} {B n c : Nat} {A : Option Addr} {ds : List Dd} (h : Od w B (.slice A n c) n ds) : n ≤ c ∧ c ≤ maxLen ∧ (A = none ∧ n = 0 ∧ c = 0 ∨ ∃ g, A = some ⟨g, 0, none⟩) := by
  rcases h.2 with ⟨hv, hn⟩ | ⟨g, cap, cur, hv, hg, hh, hnc, hcm, _⟩
  · injection hv with h1 h2 h3
    exact ⟨by omega, by omega, .inl ⟨h1, hn, h3⟩⟩
  · injection hv with h1 h2 h3
    subst h1
    exact ⟨by omega, by omega, .inr ⟨g, rfl⟩⟩
set_option maxHeartbeats 2000000 in
set_option maxRecDepth 100000 in
theorem drawDeskRun_any (A : Option Addr) (n c : Nat) (w : World) (hnc : n ≤ c) (hn : n ≤ 1048576) (h : Code8 w A n) :
    Calls Tryz.prog 14 #[.slice A n c] w (RetDR w) := by
  have HC := Lib.hid h
  clear h
  obtain ⟨w0, hw0⟩ : ∃ w0, w0 = w.alloc (.cells #[.slice none 0 0, .slice none 0 0] 26) := ⟨_, rfl⟩
  have HSZ : Hid (w0.heap.size = w.heap.size + 1) := by show _ = _; rw [hw0, size_alloc]
  have HB0 : Hid (Below w.heap.size w w0) := by rw [hw0]; exact below_alloc _ _
  have HK0 : Hid (KAt w0 w.heap.size (.slice none 0 0) (.slice none 0 0)) := by rw [hw0]; exact KAt.new w _ _ _
  go_enter Tryz.func14, Tryz.ntmps14
  go_wp2_with fail
  rw [← hw0]
  clear hw0
  refine (open_any A n c _ hnc hn (code8_below HC.out HB0.out)).mono ?_
  rintro e w1 ⟨g, rfl, hg, hr1, hb1⟩
  have HB1 : Hid (Below w.heap.size w w1) := HB0.out.trans (hb1.mono (by rw [HSZ.out]; omega))
  have HK1 := Lib.hid (HK0.out.below hb1 (by rw [HSZ.out]; omega))
  have HG : Hid (w.heap.size + 1 ≤ g) := by show _ ≤ _; rw [← HSZ.out]; exact hg
  clear hb1 hg
  go_wp2_with fail
  refine (desk_any g 0 12 w1 (by omega) (by omega) hr1).mono ?_
  rintro e w2 ⟨A2, n2, c2, A3, m2, c3, d, rfl, hdk, hds, hdl, hr2, hp2⟩
  have hgn : w.heap.size ≠ g := by have := HG.out; omega
  have hgl := hr1.lt
  have HP2 := Lib.hid hp2
  have HK2 := Lib.hid (HK1.out.pk hp2 hgn)
  have hg2 : g < w2.heap.size := Nat.lt_of_lt_of_le hgl hp2.size
  obtain ⟨w3, hw3⟩ : ∃ w3, w3 = w2.alloc (.cells #[.slice A2 n2 c2, .slice A3 m2 c3] 26) := ⟨_, rfl⟩
  have HB3 : Hid (Below w2.heap.size w2 w3) := by rw [hw3]; exact below_alloc _ _
  have HX3 : Hid (KAt w3 w2.heap.size (.slice A2 n2 c2) (.slice A3 m2 c3)) := by rw [hw3]; exact KAt.new w2 _ _ _
  have HK3 := Lib.hid (HK2.out.below HB3.out HK2.out.lt)
  have HV3 := Lib.hid (hdk.below HB3.out)
  have HR3 := Lib.hid (hr2.below HB3.out)
  have HP3 : Hid (Pk g w1 w3) := HP2.out.trans (Pk.of_below HB3.out)
  clear hdk hp2 hr1 hr2
  go_wp2_with fail
  rw [← hw3]
  clear hw3
  refine (odd_any g (0 + 400) 30 w3 (by omega) (by omega) HR3.out).mono ?_
  rintro e w4 ⟨b, rfl, _, hr4, hp4⟩
  have hgx : w2.heap.size ≠ g := by omega
  have HK4 := Lib.hid (HK3.out.pk hp4 hgn)
  have HX4 := Lib.hid (HX3.out.pk hp4 hgx)
  have HV4 := Lib.hid (HV3.out.pk hp4 hgl)
  have HP4 : Hid (Pk g w1 w4) := HP3.out.trans hp4
  have HR4 := Lib.hid hr4
  have hx1 : w.heap.size < w1.heap.size := HK1.out.lt
  have hx2 : w1.heap.size ≤ w2.heap.size := HP2.out.size
  have hne : ¬ w2.heap.size = w.heap.size := by omega
  have hne2 : ¬ w.heap.size = w2.heap.size := by omega
  clear hr4 hp4
  obtain ⟨x0, x1, y0, y1, y2⟩ := HX4.out
  obtain ⟨r0, r1, s0, s1, rl⟩ := HK4.out
  cases b with
  | true =>
    obtain ⟨w5, hrun, ho5, hb5⟩ := makeD_run w4.drew
    have hrun2 : Sem.run Tryz.prog (Instr.makeSlice 37 (.int .i64 41) (.int .i64 41)) w4.drew = .ok (.slice (some ⟨w4.heap.size, 0, none⟩) 41 41) w5 := hrun
    have HB5 := Lib.hid (below_d hb5)
    have HV5 := Lib.hid (HV4.out.below HB5.out)
    have HK5 := Lib.hid (HK4.out.below HB5.out HK4.out.lt)
    have HX5 := Lib.hid (HX4.out.below HB5.out HX4.out.lt)
    have HO5 := Lib.hid ho5
    have HW5 : Hid (Below w.heap.size w w5) := HB1.out.trans ((HP4.out.below (by have := HG.out; omega) HB1.out.size).trans (HB5.out.mono (Nat.le_trans HB1.out.size HP4.out.size)))
    clear hrun ho5 hb5
    obtain ⟨x5, x6, y5, y6, y7⟩ := HX5.out
    obtain ⟨r5, r6, s5, s6, r7⟩ := HK5.out
    have hpk : Hid (Pk w.heap.size w5 ((w5.setCell ⟨w.heap.size, 0, none⟩ (.slice A2 n2 c2)).setCell ⟨w.heap.size, 1, none⟩ (.slice A3 m2 c3))) := ((Pk.refl _ _).setCell 0 _).setCell 1 _
    have hpk4 : Hid (Pk w.heap.size w4 ((w4.setCell ⟨w.heap.size, 0, none⟩ (.slice A2 n2 c2)).setCell ⟨w.heap.size, 1, none⟩ (.slice A3 m2 c3))) := ((Pk.refl _ _).setCell 0 _).setCell 1 _
    obtain ⟨w6, hrun6, ho6, hb6⟩ := makeD_run ((w4.setCell ⟨w.heap.size, 0, none⟩ (.slice A2 n2 c2)).setCell ⟨w.heap.size, 1, none⟩ (.slice A3 m2 c3)).drew
    have hrun7 : Sem.run Tryz.prog (Instr.makeSlice 37 (.int .i64 41) (.int .i64 41)) ((w4.setCell ⟨w.heap.size, 0, none⟩ (.slice A2 n2 c2)).setCell ⟨w.heap.size, 1, none⟩ (.slice A3 m2 c3)).drew = .ok (.slice (some ⟨w4.heap.size, 0, none⟩) 41 41) w6 := by
      have e : ((w4.setCell ⟨w.heap.size, 0, none⟩ (.slice A2 n2 c2)).setCell ⟨w.heap.size, 1, none⟩ (.slice A3 m2 c3)).drew.heap.size = w4.heap.size := by show ((w4.setCell ⟨w.heap.size, 0, none⟩ (.slice A2 n2 c2)).setCell ⟨w.heap.size, 1, none⟩ (.slice A3 m2 c3)).heap.size = _; rw [size_set, size_set]
      rw [← e]; exact hrun6
    have HB6 := Lib.hid (below_d hb6)
    have HV6 := Lib.hid ((HV4.out.pk hpk4.out (by omega)).below HB6.out)
    have HK6 := Lib.hid (((HK4.out.set0 (.slice A2 n2 c2)).set1 (.slice A3 m2 c3)).below HB6.out ((HK4.out.set0 (.slice A2 n2 c2)).set1 (.slice A3 m2 c3)).lt)
    have HO6 : Hid (Od w6 w.heap.size (.slice (some ⟨w4.heap.size, 0, none⟩) 41 41) 41 (List.replicate 41 ⟨0, 0, []⟩)) := by
      have e : ((w4.setCell ⟨w.heap.size, 0, none⟩ (.slice A2 n2 c2)).setCell ⟨w.heap.size, 1, none⟩ (.slice A3 m2 c3)).drew.heap.size = w4.heap.size := by show ((w4.setCell ⟨w.heap.size, 0, none⟩ (.slice A2 n2 c2)).setCell ⟨w.heap.size, 1, none⟩ (.slice A3 m2 c3)).heap.size = _; rw [size_set, size_set]
      have h := ho6.mono (show w.heap.size ≤ _ from Nat.le_trans (Nat.le_of_lt HK4.out.lt) hpk4.out.size)
      rw [e] at h
      exact h
    have HW6 : Hid (Below w.heap.size w w6) := HB1.out.trans ((HP4.out.below (by have := HG.out; omega) HB1.out.size).trans (((Below.refl w.heap.size w4).setCell (p := ⟨w.heap.size, 0, none⟩) (Nat.le_refl _) _).setCell (p := ⟨w.heap.size, 1, none⟩) (Nat.le_refl _) _ |>.trans (HB6.out.mono (Nat.le_trans (Nat.le_of_lt HK4.out.lt) hpk4.out.size))))
    clear hrun6 ho6 hb6
    obtain ⟨r8, r9, s8, s9, r10⟩ := HK6.out
    go_wp2_with fail
    go_region_law fail
    all_goals
      go_wp2_with fail
      refine bodyPost_ret (v := .tuple #[.agg #[.slice A2 n2 c2, .slice A3 m2 c3], .slice (some ⟨w4.heap.size, 0, none⟩) 41 41]) (by first | (simp [results, Tryz.results14, go_sem, r5, r6]; done) | (simp [results, Tryz.results14, go_sem, r8, r9]; done)) rfl ?_
      first
      | exact ⟨_, _, _, _, _, _, d, _, _, _, _, rfl, HV6.out.mono (by omega), hds, hdl, HO6.out.toDs, by omega, by unfold maxLen; omega, (.inr ⟨_, rfl⟩), by omega, by omega, (fun a ha => by rw [(List.mem_replicate.1 ha).2]; decide), HW6.out⟩
      | exact ⟨_, _, _, _, _, _, d, _, _, _, _, rfl, (HV5.out.pk hpk.out (by omega)).mono (by omega), hds, hdl, (HO5.out.pk hpk.out (by show w.heap.size < w4.heap.size; have := HX4.out.lt; omega)).toDs, by omega, by unfold maxLen; omega, (.inr ⟨_, rfl⟩), by omega, by omega, (fun a ha => by rw [(List.mem_replicate.1 ha).2]; decide), (HW5.out.setCell (p := ⟨w.heap.size, 0, none⟩) (Nat.le_refl _) _).setCell (p := ⟨w.heap.size, 1, none⟩) (Nat.le_refl _) _⟩
  | false =>
    have KDE : Hid (∀ w', Rd w' g (0 + 400 + 1) → Calls Tryz.prog 46 #[.pointer (some ⟨g, 0, none⟩)] w' (RetDs w' g (0 + 400 + 1 + 351) fun _ => True)) := fun w' h => deeds_any g (0 + 400 + 1) w' (by omega) h
    go_wp2_with fail
    go_region_law ((go_simp; go_at_call 46; (with_reducible refine Calls.mono (KDE.out _ (Rd.drew HR4.out)) ?_); rintro e w5 ⟨A5, m5, c5, ds, rfl, ho5, hm5, hda, _, hp5⟩; have HP5 : Hid (Pk g w4 w5) := Pk.of_drewN (m := 1) hp5; have HO5 := Lib.hid ho5; have HDA := Lib.hid hda; have hm6 := hm5; clear ho5 hda hp5; obtain ⟨x5, x6, y5, y6, y7⟩ := HX4.out.pk HP5.out hgx; obtain ⟨r5, r6, s5, s6, r7⟩ := HK4.out.pk HP5.out hgn))
    all_goals
      have HV5 := Lib.hid (HV4.out.pk HP5.out hgl)
      have HW5 : Hid (Below w.heap.size w w5) := HB1.out.trans ((HP4.out.trans HP5.out).below (by have := HG.out; omega) HB1.out.size)
      have hpk : Hid (Pk w.heap.size w5 ((w5.setCell ⟨w.heap.size, 0, none⟩ (.slice A2 n2 c2)).setCell ⟨w.heap.size, 1, none⟩ (.slice A3 m2 c3))) := ((Pk.refl _ _).setCell 0 _).setCell 1 _
      obtain ⟨q1, q2, q3⟩ := HO5.out.nil0
      go_wp2_with fail
      refine bodyPost_ret (v := .tuple #[.agg #[.slice A2 n2 c2, .slice A3 m2 c3], .slice A5 m5 c5]) (by simp [results, Tryz.results14, go_sem, r5, r6]) rfl ?_
      exact ⟨_, _, _, _, _, _, d, _, _, _, _, rfl, (HV5.out.pk hpk.out (by omega)).mono (by omega), hds, hdl, (HO5.out.pk hpk.out (by show w.heap.size < w4.heap.size; have := HX4.out.lt; omega)).toDs, q1, q2, q3, by omega, fun _ => hm6, fun a ha => (HDA.out a ha).1.1, (HW5.out.setCell (p := ⟨w.heap.size, 0, none⟩) (Nat.le_refl _) _).setCell (p := ⟨w.heap.size, 1, none⟩) (Nat.le_refl _) _⟩
set_option maxHeartbeats 1000000 in
theorem noDesk_true (A A' : Option Addr) (n c m c' : Nat) (w : World) (h : DkV w 0 A n c A' m dk0) :
    Calls Tryz.prog 18 #[.agg #[.slice A n c, .slice A' m c']] w fun e w' => e = .returned (.bool true) ∧ Below w.heap.size w w' := by
  obtain ⟨w0, hw0⟩ : ∃ w0, w0 = w.alloc (.cells #[.slice A n c, .slice A' m c'] 26) := ⟨_, rfl⟩
  have HB0 : Hid (Below w.heap.size w w0) := by rw [hw0]; exact below_alloc _ _
  have HV0 := Lib.hid (h.below HB0.out)
  clear h
  go_enter Tryz.func18, Tryz.ntmps18
  go_wp2_with fail
  rw [← hw0]
  clear hw0
  refine (sameDesk_true A A' none none n c m c' 0 0 0 0 dk0 w0 HV0.out (DkV.zero _ _) DkS.zero DkF.zero).mono ?_
  rintro e w1 ⟨rfl, hb1⟩
  have HB1 : Hid (Below w.heap.size w w1) := HB0.out.trans (hb1.mono HB0.out.size)
  clear hb1
  go_wp2_with fail
  go_ret
  exact ⟨rfl, HB1.out⟩
end Go.Proofs.YtnomlkkhkacajaaGreatDoor
