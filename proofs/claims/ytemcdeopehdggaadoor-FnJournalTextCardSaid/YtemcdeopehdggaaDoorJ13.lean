/- The draw of the law FnJournalText; lists of deeds that are the same. -/
import Derived.Test.YtemcdeopehdggaaDoorJ9
import Derived.Test.YtemcdeopehdggaaDoorJ11
import Derived.Test.YtemcdeopehdggaaDoorJ7
import Derived.Maps.AppendAt
namespace Go.Proofs.YtemcdeopehdggaaDoor
open Go.RowKit
open Go.Lib hiding intOf

theorem Od.pk {w w' : World} {B n g : Nat} {v : Value} {ds : List Dd} (h : Od w B v n ds) (hp : Pk g w w') (hg : g < B) : Od w' B v n ds := by
  refine ⟨h.1, ?_⟩
  rcases h.2 with hn | ⟨g', cap, cur, hv, hg', hh, r⟩
  · exact .inl hn
  · exact .inr ⟨g', cap, cur, hv, hg', by rw [hp.block g' (Array.getElem?_eq_some_iff.1 hh).1 (by omega)]; exact hh, r⟩
theorem Od.keep {w w' : World} {B n c : Nat} {A : Option Addr} {ds : List Dd} (h : Od w B (.slice A n c) n ds) (hk : ∀ g, A = some ⟨g, 0, none⟩ → g < w.heap.size → w'.heap[g]? = w.heap[g]?) : Od w' B (.slice A n c) n ds := by
  refine ⟨h.1, ?_⟩
  rcases h.2 with h0 | ⟨g, cap, cur, hv, hg, hh, r⟩
  · exact .inl h0
  · injection hv with h1 h2 h3
    subst h1; subst h3
    exact .inr ⟨g, c, cur, rfl, hg, by rw [hk g rfl (Array.getElem?_eq_some_iff.1 hh).1]; exact hh, r⟩
theorem Od.bound {w : World} {B n c : Nat} {A : Option Addr} {ds : List Dd} (h : Od w B (.slice A n c) n ds) : ∀ g, A = some ⟨g, 0, none⟩ → B ≤ g ∧ g < w.heap.size := fun g hg => by
  subst hg
  exact World.ownsRow.lt h g rfl
section
variable {P : Program} {w : World} {ops : Array Oper} {rest : List Oper} {o : Oper} {a : Act} {Q : Exit → Act → World → Prop}
/-- append(out, a deed): where the new row lies. -/
theorem wl_appDl (B : Nat) (d : Dd) (hB : B ≤ w.heap.size) (hgd : o.guard = none) (s x : Operand) (t : TypeId) (ho : o.op = .call { callee := .builtin .append, args := #[s, x], argTypes := #[t, t] })
    (he : ElemD P t) (v : Value) (n : Nat) (ds : List Dd) (hs : a.eval s = v) (hown : Od w B v n ds)
    (hx : a.eval x = .slice (some ⟨w.heap.size, 0, none⟩) 1 1) (h63 : n + 1 ≤ maxLen) (hbytes : (n + 1) * 32 ≤ 140737488355328)
    (h : ∀ v' w', Od w' B v' (n + 1) (ds ++ [d]) → Below B w w' → (∀ b, b < w.heap.size → v.ownBlock ≠ some b → w'.heap[b]? = w.heap[b]?) → (∀ b, b < w.heap.size → v.ownBlock ≠ some b → v'.ownBlock ≠ some b) → wpList P ops Q rest (a.put o.dst v') w') : wpList P ops Q (o :: rest) a (w.alloc (.cells #[.int .i64 d.kind, .int .i64 d.num, .string (bs d.text)] 44)) := by
  obtain ⟨i, z, h2, h3, h4, h5, h6⟩ := he.info
  refine wpList_append_own_at (w.alloc (.cells #[.int .i64 d.kind, .int .i64 d.num, .string (bs d.text)] 44)) hgd s x t ho B 44 i z 3 32 he.und h2 h3 h4 h5 h6 (by decide) v n _ hs (World.ownsRow.alloc hown _) ⟨w.heap.size, 0, none⟩ 1 1 (dcs d) hx rfl ?_ (dcs_one d) h63 hbytes ?_ ?_
  · intro j u' hj
    rw [add_none0, World.cell?_alloc_at _ _ _ _ rfl]
    simpa [dcs] using hj
  · simp
    omega
  · intro v' w' h1 h2 _ hl
    refine h v' w' ?_ (((Below.refl B w).alloc hB _).grown h2 (by simp; omega) ?_) (fun b hb hne => ?_) fun b hb hne => ?_
    · unfold Od
      rw [List.flatMap_append, List.flatMap_cons, List.flatMap_nil, List.append_nil]
      exact h1
    · intro k hk
      exact (World.ownsRow.lt hown k hk).1
    · rw [h2.block b (by simp; omega) (fun e => hne e.symm)]
      exact (World.grownBy_alloc w _ none).block b hb (by simp)
    · rcases hl with hl | hl
      · rw [hl]; exact hne
      · rw [hl]
        intro e
        injection e with e
        simp at e
        omega
end
/-- Deeds that are drawn. -/
def OkD (a : Dd) : Prop := a.text.length ≤ 706 ∧ -1000 ≤ a.num ∧ a.num ≤ 1000
def RetDs (w : World) (g p : Nat) (Q : Dd → Prop) (e : Ending) (w' : World) : Prop := ∃ A m c ds, e = .returned (.slice A m c) ∧ Od w' w.heap.size (.slice A m c) m ds ∧ m ≤ 5 ∧ (∀ a ∈ ds, OkD a ∧ Q a) ∧ Rd w' g p ∧ Pk g w w'

set_option maxHeartbeats 1000000 in
theorem deeds_any (g p : Nat) (w : World) (hp : p ≤ 500000) (hr : Rd w g p) :
    Calls Tryd.prog 92 #[.pointer (some ⟨g, 0, none⟩)] w (RetDs w g (p + 351) fun _ => True) := by
  have hlt := hr.lt
  have he := Od.lit (w := w) [] (by simp) #[] rfl
  have hb0 := below_alloc w (.cells #[] 44)
  go_enter Tryd.func92, Tryd.ntmps92
  go_wp2_with fail
  refine (pick_any g p 6 _ (by omega) (by omega) (hr.below hb0)).mono ?_
  rintro e w1 ⟨q, rfl, ⟨q1, q2, _⟩, hr1, hp1⟩
  obtain ⟨q, rfl⟩ := Int.eq_ofNat_of_zero_le q1
  have q3 : q < 6 := by have := q2 (by omega); omega
  have HO1 : Hid (Od w1 w.heap.size (.slice (some ⟨w.heap.size, 0, none⟩) 0 0) 0 []) := Od.pk he hp1 hlt
  have HP1 : Hid (Pk g w w1) := (Pk.of_below hb0).trans hp1
  have HR1 := Lib.hid hr1
  clear he hb0 hr hp1 hr1 q1 q2
  go_wp2_with fail
  go_loopw [3, 4] (fun v i wr => ∃ (k : Nat) (ds : List Dd), k ≤ q ∧ i = .int .i64 k ∧ ds.length + k = q ∧ Od wr w.heap.size v ds.length ds ∧ (∀ a ∈ ds, OkD a ∧ True) ∧ Rd wr g (p + 1 + 70 * ds.length) ∧ Pk g w wr) (fun _ i _ => (intOf i).toNat)
  case atStart => exact ⟨q, [], by omega, rfl, by simp, HO1.out, by simp, HR1.out.mono (by simp), HP1.out⟩
  case round =>
    obtain ⟨k, ds, hk, rfl, hlen, ho, hok, hrd, hpk⟩ := hrel
    have HO := Lib.hid ho
    have HOK := Lib.hid hok
    have HP := Lib.hid hpk
    have HR := Lib.hid hrd
    have hll : ds.length ≤ 5 := by omega
    have HL := Lib.hid hlen
    clear ho hok hpk hlen hrd
    by_cases hlt2 : 0 < k
    · have hki : (0 : Int) < (k : Int) := by omega
      have e4 : IntKind.i64.wrap ((k : Int) - 1) = (k : Int) - 1 := IntWalk.i64_in _ (by omega)
      go_wp2_with fail
      refine (deed_any g (p + 1 + 70 * ds.length) wr (by omega) HR.out).mono ?_
      rintro e w2 ⟨a, rfl, ha1, ha2, ha3, hr2, hp2⟩
      have HP2 : Hid (Pk g w w2) := HP.out.trans hp2
      have HO2 := Lib.hid (Od.pk HO.out hp2 hlt)
      have HR2 := Lib.hid hr2
      have hsz := HP2.out.size
      have HNX : Hid (∀ x ∈ ds ++ [a], OkD x ∧ True) := fun x hx => by
        rcases List.mem_append.1 hx with hx | hx
        · exact HOK.out x hx
        · rw [List.mem_singleton.1 hx]; exact ⟨⟨ha1, ha2, ha3⟩, trivial⟩
      unfold dv
      clear hp2 hr2
      go_wp2_with (at_builtin; refine wl_appDd w.heap.size a hsz rfl (.tmp 12) (.tmp 15) 54 rfl Tryd.eDd _ ds.length ds rfl HO2.out rfl (by simp only [maxLen]; omega) (by omega) ?_; intro v' w4 ho4 hb4 _; have HO4 := Lib.hid ho4; have HB4 := Lib.hid hb4; clear ho4 hb4)
      go_roundw
      case rel => exact ⟨k - 1, ds ++ [a], by omega, by go_num, by rw [List.length_append]; have := HL.out; simp; omega, by rw [List.length_append]; exact HO4.out, HNX.out, (HR2.out.belowB HB4.out hlt).mono (by rw [List.length_append]; simp; omega), HP2.out.belowB HB4.out (Nat.le_refl _)⟩
      case measure => simp [intOf]; omega
    · obtain rfl : k = 0 := by omega
      obtain ⟨A1, c1, rfl⟩ := HO.out.shape
      go_wp2_with fail
      go_ret
      exact ⟨A1, _, c1, ds, rfl, HO.out, hll, HOK.out, HR.out.mono (by omega), HP.out⟩
set_option maxHeartbeats 1000000 in
set_option maxRecDepth 100000 in
theorem written_any (g p : Nat) (w : World) (hp : p ≤ 400000) (hr : Rd w g p) :
    Calls Tryd.prog 80 #[.pointer (some ⟨g, 0, none⟩)] w (RetDs w g (p + 351) fun a => dText a ≠ []) := by
  have hlt := hr.lt
  have he := Od.lit (w := w) [] (by simp) #[] rfl
  have hb0 := below_alloc w (.cells #[] 44)
  have hs1 : (w.alloc (.cells #[] 44)).heap.size = w.heap.size + 1 := by simp
  have HS1 := Lib.hid hs1
  clear hs1
  go_enter Tryd.func80, Tryd.ntmps80
  go_wp2_with fail
  refine (deeds_any g p _ (by omega) (hr.below hb0)).mono ?_
  rintro e w1 ⟨A, m, c, dl, rfl, hol, hm5, hokl, hr1, hp1⟩
  have HO1 : Hid (Od w1 w.heap.size (.slice (some ⟨w.heap.size, 0, none⟩) 0 0) 0 []) := Od.pk he hp1 hlt
  have HOL1 : Hid (Od w1 (w.heap.size + 1) (.slice A m c) m dl) := by show Od _ _ _ _ _; rw [← HS1.out]; exact hol
  have HP1 : Hid (Pk g w w1) := (Pk.of_below hb0).trans hp1
  have HR1 := Lib.hid hr1
  have HOK := Lib.hid hokl
  have HNE1 : Hid (∀ g', A = some ⟨g', 0, none⟩ → (Value.slice (some ⟨w.heap.size, 0, none⟩) 0 0).ownBlock ≠ some g') := fun g' hg' e => by
    have := (HOL1.out.bound g' hg').1
    injection e with e
    have : w.heap.size = g' := e
    omega
  clear he hb0 hr hp1 hr1 hol hokl
  go_wp2_with fail
  go_loopw [3, 5] (fun v i wr => ∃ (k : Nat) (ds : List Dd), k ≤ m ∧ i = .int .i64 k ∧ ds.length ≤ k ∧ Od wr w.heap.size v ds.length ds ∧ Od wr (w.heap.size + 1) (.slice A m c) m dl ∧ (∀ g', A = some ⟨g', 0, none⟩ → v.ownBlock ≠ some g') ∧ (∀ a ∈ ds, OkD a ∧ dText a ≠ []) ∧ Rd wr g (p + 351) ∧ Pk g w wr) (fun _ i _ => m - (intOf i).toNat)
  case atStart => exact ⟨0, [], by omega, rfl, by simp, HO1.out, HOL1.out, HNE1.out, by simp, HR1.out, HP1.out⟩
  case round =>
    obtain ⟨k, ds, hk, rfl, hlen, ho, hol, hne, hok, hrd, hpk⟩ := hrel
    have HO := Lib.hid ho
    have HL := Lib.hid hol
    have HNE := Lib.hid hne
    have HOK2 := Lib.hid hok
    have HP := Lib.hid hpk
    have HR := Lib.hid hrd
    clear ho hol hne hok hpk hrd
    by_cases hlt2 : k < m
    · obtain ⟨g', a, hA, ha, c0, c1, c2, hgl⟩ := HL.out.cells hlt2
      have HA := Lib.hid ha
      have HAS := Lib.hid hA
      have hoa := HOK.out a (List.mem_of_getElem? ha)
      have HOA := Lib.hid hoa
      have hat : a.text.length ≤ 706 := hoa.1.1
      have HDT := Lib.hid (fun w => sDeedText a (by omega) w)
      have hto := bs_toList (dText a)
      unfold dv at HDT
      clear ha hoa
      subst hA
      go_wp2_with fail
      refine (HDT.out _).mono ?_
      rintro e w2 ⟨rfl, hb2⟩
      have d0 := (hb2.cell (p := ⟨g', k * 3, none⟩) hgl).trans c0
      have d1 := (hb2.cell (p := ⟨g', k * 3 + 1, none⟩) hgl).trans c1
      have d2 := (hb2.cell (p := ⟨g', k * 3 + 2, none⟩) hgl).trans c2
      have HO2 := Lib.hid (Od.below HO.out hb2)
      have HL2 := Lib.hid (Od.below HL.out hb2)
      have HP2 : Hid (Pk g w w2) := HP.out.trans (Pk.of_below hb2)
      have HR2 := Lib.hid (HR.out.below hb2)
      have hsz : w.heap.size ≤ w2.heap.size := HP2.out.size
      have hg2 : g' < w2.heap.size := Nat.lt_of_lt_of_le hgl hb2.size
      clear hb2 c0 c1 c2
      by_cases hd : dText a = []
      · have hd2 : (dText a).isEmpty = true := by rw [hd]; rfl
        clear hd
        go_wp2_with fail
        go_roundw
        case rel => exact ⟨k + 1, ds, by omega, by go_num, by omega, HO2.out, HL2.out, HNE.out, HOK2.out, HR2.out, HP2.out⟩
        case measure => simp [intOf]; omega
      · have hd2 : (dText a).isEmpty = false := by simpa using hd
        have HNX : Hid (∀ x ∈ ds ++ [a], OkD x ∧ dText x ≠ []) := fun x hx => by
          rcases List.mem_append.1 hx with hx | hx
          · exact HOK2.out x hx
          · rw [List.mem_singleton.1 hx]; exact ⟨HOA.out.1, hd⟩
        clear hd
        go_wp2_with (at_builtin; refine wl_appDl w.heap.size a hsz rfl (.tmp 21) (.tmp 26) 54 rfl Tryd.eDd _ ds.length ds rfl HO2.out rfl (by simp only [maxLen]; omega) (by omega) ?_; intro v' w4 ho4 hb4 hf4 hn4; have HO4 := Lib.hid ho4; have HB4 := Lib.hid hb4; have HF4 := Lib.hid hf4; have HN4 := Lib.hid hn4; clear ho4 hb4 hf4 hn4)
        have HL4 : Hid (Od w4 (w.heap.size + 1) (.slice (some ⟨g', 0, none⟩) m c) m dl) := HL2.out.keep fun g2 hg2' hlt' => HF4.out g2 hlt' (HNE.out g2 hg2')
        have HNE4 : Hid (∀ g2, (some ⟨g', 0, none⟩ : Option Addr) = some ⟨g2, 0, none⟩ → v'.ownBlock ≠ some g2) := fun g2 h2 => HN4.out g2 (by injection h2 with h2; injection h2 with h2; omega) (HNE.out g2 h2)
        go_roundw
        case rel => exact ⟨k + 1, ds ++ [a], by omega, by go_num, by rw [List.length_append]; simp; omega, by rw [List.length_append]; exact HO4.out, HL4.out, HNE4.out, HNX.out, HR2.out.belowB HB4.out hlt, HP2.out.belowB HB4.out (Nat.le_refl _)⟩
        case measure => simp [intOf]; omega
    · obtain rfl : k = m := by omega
      obtain ⟨A1, c1, rfl⟩ := HO.out.shape
      go_wp2_with fail
      go_ret
      exact ⟨A1, _, c1, ds, rfl, HO.out, by omega, HOK2.out, HR.out, HP.out⟩
/-- The deeds of the law FnJournalText. -/
def RetDJ (w : World) (e : Ending) (w' : World) : Prop := ∃ A m c ds, e = .returned (.slice A m c) ∧ Od w' w.heap.size (.slice A m c) m ds ∧ m ≤ 6 ∧ (∀ a ∈ ds, a.text.length ≤ 706) ∧ Below w.heap.size w w'
set_option maxHeartbeats 1000000 in
theorem drawJournalText_any (A : Option Addr) (n c : Nat) (w : World) (hnc : n ≤ c) (hn : n ≤ 1048576) (h : Code8 w A n) :
    Calls Tryd.prog 45 #[.slice A n c] w (RetDJ w) := by
  go_enter Tryd.func45, Tryd.ntmps45
  go_wp2_with fail
  refine (open_any A n c w hnc hn h).mono ?_
  rintro e w0 ⟨g, rfl, hg, hr0, hb0⟩
  have HB0 := Lib.hid hb0
  have HG := Lib.hid hg
  clear hb0 hg h
  go_wp2_with fail
  refine (written_any g 0 w0 (by omega) hr0).mono ?_
  rintro e w1 ⟨A1, m1, c1, ds, rfl, ho1, hm1, hok, hr1, hp1⟩
  have HO1 := Lib.hid ho1
  have HP1 := Lib.hid hp1
  have HOK := Lib.hid hok
  have hlt := hr0.lt
  have hml : ds.length = m1 := ho1.len
  subst hml
  clear ho1 hp1 hok hr0
  go_wp2_with fail
  refine (odd_any g 351 12 w1 (by omega) (by omega) hr1).mono ?_
  rintro e w2 ⟨v, rfl, _, hr2, hp2⟩
  have HO2 := Lib.hid (Od.pk HO1.out hp2 hlt)
  have HP2 : Hid (Pk g w0 w2) := HP1.out.trans hp2
  have hsz : w0.heap.size ≤ w2.heap.size := HP2.out.size
  clear hp2 hr2 hr1
  cases v with
  | false =>
    go_wp2_with fail
    go_ret
    exact ⟨A1, _, c1, ds, rfl, HO2.out.mono HB0.out.size, by omega, fun a ha => (HOK.out a ha).1.1, HB0.out.trans (HP2.out.below HG.out HB0.out.size)⟩
  | true =>
    go_wp2_with (at_builtin; refine wl_appDd w0.heap.size ⟨9, 0, []⟩ hsz rfl (.tmp 11) (.tmp 13) 54 rfl Tryd.eDd _ ds.length ds rfl HO2.out rfl (by simp only [maxLen]; omega) (by omega) ?_; intro v' w4 ho4 hb4 _; have HO4 := Lib.hid ho4; have HB4 := Lib.hid hb4; clear ho4 hb4)
    obtain ⟨A4, c4, rfl⟩ := HO4.out.shape
    go_ret
    refine ⟨A4, _, c4, ds ++ [⟨9, 0, []⟩], rfl, HO4.out.mono HB0.out.size, by omega, fun a ha => ?_, HB0.out.trans ((HP2.out.belowB HB4.out (Nat.le_refl _)).below HG.out HB0.out.size)⟩
    rcases List.mem_append.1 ha with ha | ha
    · exact (HOK.out a ha).1.1
    · rw [List.mem_singleton.1 ha]; simp
set_option maxHeartbeats 1000000 in
theorem sameDeeds_true (A A' : Option Addr) (n c c' : Nat) (ds : List Dd) (w : World) (hn : n ≤ 1073741824) (hx : Ds w A n ds) (hy : Ds w A' n ds) :
    Calls Tryd.prog 46 #[.slice A n c, .slice A' n c'] w fun e w' => e = .returned (.bool true) ∧ Dr w w' := by
  have HX := Lib.hid hx
  have HY := Lib.hid hy
  clear hx hy
  go_enter Tryd.func46, Tryd.ntmps46
  go_wp2_with fail
  go_loopw [5] (fun i wr => ∃ k : Nat, k ≤ n ∧ i = .int .i64 k ∧ ∃ m, wr = w.drewN m) (fun i _ => n - (intOf i).toNat)
  case atStart => exact ⟨0, by omega, rfl, 0, rfl⟩
  case round =>
    obtain ⟨k, hk, rfl, m, rfl⟩ := hrel
    by_cases hlt : k < n
    · obtain ⟨b, o, a, rfl, hb, ha, x0, x1, x2⟩ := HX.out.at_ hlt
      obtain ⟨b', o', a', rfl, hb', ha', y0, y1, y2⟩ := HY.out.at_ hlt
      obtain rfl : a' = a := by rw [ha] at ha'; injection ha' with h; exact h.symm
      have h0 : (w.drewN m).cell? ⟨b, o + k * 3, none⟩ = some (.int .i64 a'.kind) := x0
      have h1 : (w.drewN m).cell? ⟨b, o + k * 3 + 1, none⟩ = some (.int .i64 a'.num) := x1
      have h2 : (w.drewN m).cell? ⟨b, o + k * 3 + 2, none⟩ = some (.string (bs a'.text)) := x2
      have g0 : (w.drewN m).cell? ⟨b', o' + k * 3, none⟩ = some (.int .i64 a'.kind) := y0
      have g1 : (w.drewN m).cell? ⟨b', o' + k * 3 + 1, none⟩ = some (.int .i64 a'.num) := y1
      have g2 : (w.drewN m).cell? ⟨b', o' + k * 3 + 2, none⟩ = some (.string (bs a'.text)) := y2
      have hto := bs_toList a'.text
      have hk0 : (0 : Int) ≤ (k : Int) := by omega
      have hkn : (k : Int) < (n : Int) := by omega
      clear x0 x1 x2 y0 y1 y2 ha ha' hb hb'
      obtain ⟨wr, hwr⟩ : ∃ wr, wr = w.drewN m := ⟨_, rfl⟩
      rw [← hwr] at h0 h1 h2 g0 g1 g2 ⊢
      have HW := Lib.hid hwr
      clear hwr
      go_wp2_with fail
      go_quiet (fail)
      go_wp2_with fail
      go_roundw
      case rel => exact ⟨k + 1, by omega, by go_num, m + nq, by rw [HW.out, World.drewN_drewN]⟩
      case measure => simp [intOf]; omega
    · go_wp2_with fail
      go_ret
      exact ⟨rfl, m, rfl⟩
end Go.Proofs.YtemcdeopehdggaaDoor

namespace Go.Proofs.YtemcdeopehdggaaDoor
open Go.RowKit
open Go.Lib hiding intOf

theorem jAll_len {M : Nat} : ∀ {ds : List Dd}, (∀ a ∈ ds, a.text.length ≤ M) → (jAll ds).length ≤ ds.length * (M + 29)
  | [], _ => by simp [jAll]
  | a :: r, h => by
    have h1 := dText_len2 a M (h a List.mem_cons_self)
    have h2 := jAll_len (ds := r) fun b hb => h b (List.mem_cons_of_mem _ hb)
    have e : jAll (a :: r) = dText a ++ 10 :: jAll r := by simp [jAll]
    rw [e, List.length_append, List.length_cons, List.length_cons, Nat.add_mul]
    omega
theorem jText_len {M : Nat} {ds : List Dd} (h : ∀ a ∈ ds, a.text.length ≤ M) : (jText ds).length ≤ ds.length * (M + 29) := by
  rcases jText_cases ds with ⟨_, e⟩ | ⟨_, e⟩
  · rw [e]; exact jAll_len h
  · rw [e]; simp
set_option maxHeartbeats 2000000 in
set_option maxRecDepth 100000 in
theorem lawJournalText (A : Option Addr) (n c : Nat) (w : World) (hnc : n ≤ c) (h : Code8 w A n) (hE : EnvX w) :
    Calls Tryd.prog 12 #[.slice A n c] w fun e w' => e = .returned (.bool true) ∧ Below w.heap.size w w' := by
  by_cases hbig : 1048576 < n
  · clear hE
    go_enter Tryd.func12, Tryd.ntmps12
    go_wp2_with fail
    go_ret
    exact ⟨rfl, Below.refl _ _⟩
  have hn2 : n ≤ 1048576 := by omega
  have HE := Lib.hid hE
  clear hE
  go_enter Tryd.func12, Tryd.ntmps12
  go_wp2_with fail
  refine (drawJournalText_any A n c w hnc hn2 h).mono ?_
  rintro e w1 ⟨A1, m, c1, ds, rfl, ho1, hm, ht, hb1⟩
  have HD1 := Lib.hid ho1.toDs
  have HB1 := Lib.hid hb1
  have hml : ds.length = m := ho1.len
  have hjl : (jText ds).length ≤ 4410 := by
    have := jText_len ht
    have : ds.length * (706 + 29) ≤ 6 * (706 + 29) := Nat.mul_le_mul_right _ (by omega)
    omega
  have HI := Lib.hid (fun w h1 h2 => iJournalText A1 m c1 ds w (by omega) h1 (fun a ha => by have := ht a ha; omega) h2)
  have HS := Lib.hid (fun w h1 => sJournalText A1 m c1 ds w (by omega) h1 (fun a ha => by have := ht a ha; omega))
  have HR := Lib.hid (fun w h => iReadJournal (jText ds) (by omega) w h)
  have HT : Hid (jText ds ≠ [] → rj (jText ds) = (ds, (jText ds).length)) := rj_text
  have hto := bs_toList (jText ds)
  have hsz := bs_size (jText ds)
  clear h ho1 hb1 ht
  go_wp2_with fail
  refine (HI.out w1 HD1.out (HE.out.kp (Kp.below HB1.out)).a.tab).mono ?_
  rintro e w2 ⟨rfl, hb2⟩
  have HD2 := Lib.hid (HD1.out.below hb2)
  have HB2 : Hid (Below w.heap.size w w2) := HB1.out.trans (hb2.mono HB1.out.size)
  clear hb2
  go_wp2_with fail
  refine (HS.out w2 HD2.out).mono ?_
  rintro e w3 ⟨rfl, hb3⟩
  have HD3 := Lib.hid (HD2.out.below hb3)
  have HB3 : Hid (Below w.heap.size w w3) := HB2.out.trans (hb3.mono HB2.out.size)
  clear hb3
  by_cases hj : jText ds = []
  · have hj2 : (jText ds).isEmpty = true := by rw [hj]; rfl
    clear hj
    go_wp2_with fail
    refine (alive_true _).mono ?_
    rintro e w4 ⟨rfl, rfl⟩
    go_wp2_with fail
    go_ret
    exact ⟨rfl, HB3.out⟩
  · have hj2 : (jText ds).isEmpty = false := by simpa using hj
    have hrr := HT.out hj
    have HRR := Lib.hid hrr
    clear hj hrr
    go_wp2_with fail
    refine (HR.out w3 (HE.out.kp (Kp.below HB3.out))).mono ?_
    rw [HRR.out]
    rintro e w4 ⟨A4, m4, c4, rfl, ho4, hb4⟩
    simp only at ho4 ⊢
    obtain rfl : m4 = m := by rw [← ho4.len]; exact hml
    have HX4 := Lib.hid ho4.toDs
    have HD4 := Lib.hid (HD3.out.below hb4)
    have HB4 : Hid (Below w.heap.size w w4) := HB3.out.trans (hb4.mono HB3.out.size)
    clear ho4 hb4
    go_wp2_with fail
    refine (sameDeeds_true A4 A1 m4 c4 c1 ds w4 (by omega) HX4.out HD4.out).mono ?_
    rintro e w5 ⟨rfl, k5, rfl⟩
    go_wp2_with fail
    go_ret
    exact ⟨rfl, below_drewN HB4.out _⟩
end Go.Proofs.YtemcdeopehdggaaDoor
