/- The laws' own words on lists of deeds; the laws FnExactJournalText and FnExactReadJournal, walked. -/
import Derived.Test.YtemcdeopehdggaaDoorJ8
import Derived.Test.YtemcdeopehdggaaDoorJ11
namespace Go.Proofs.YtemcdeopehdggaaDoor
open Go.RowKit
open Go.Lib hiding intOf

/-- What szDeedS leaves of a purse; -1 if it is overdrawn. -/
def szGo (left : Int) : List Dd → Int
  | [] => left
  | a :: r => if szD a.text.length left < 0 then -1 else szGo (szD a.text.length left) r
def szDs (ds : List Dd) (left : Int) : Int := if left - ds.length < 0 then -1 else szGo (left - ds.length) ds
theorem szGo_ok : ∀ {ds : List Dd} {left : Int}, 0 ≤ left → 0 ≤ szGo left ds → szGo left ds ≤ left ∧ ∀ a ∈ ds, (a.text.length : Int) ≤ left
  | [], left, _, _ => ⟨Int.le_refl _, fun a h => by cases h⟩
  | b :: r, left, h0, h => by
    unfold szGo at h ⊢
    by_cases h1 : szD b.text.length left < 0
    · rw [if_pos h1] at h; omega
    · rw [if_neg h1] at h ⊢
      have h2 : szD b.text.length left = left - b.text.length := by
        unfold szD at h1 ⊢
        split at h1
        · omega
        · rename_i h3; rw [if_neg h3]
      rw [h2] at h h1 ⊢
      obtain ⟨h3, h4⟩ := szGo_ok (ds := r) (by omega) h
      refine ⟨by omega, fun a ha => ?_⟩
      rcases List.mem_cons.1 ha with rfl | ha
      · omega
      · have := h4 a ha; omega
theorem szDs_ok {ds : List Dd} {left : Int} (h : 0 ≤ szDs ds left) : (ds.length : Int) ≤ left ∧ ∀ a ∈ ds, (a.text.length : Int) ≤ left := by
  unfold szDs at h
  split at h
  · omega
  · have := szGo_ok (ds := ds) (left := left - ds.length) (by omega) h
    exact ⟨by omega, fun a ha => by have := this.2 a ha; omega⟩
theorem szGo_drop {ds : List Dd} {k : Nat} {a : Dd} (h : ds[k]? = some a) (left : Int) : szGo left (ds.drop k) = if szD a.text.length left < 0 then -1 else szGo (szD a.text.length left) (ds.drop (k + 1)) := by
  obtain ⟨hk, rfl⟩ := List.getElem?_eq_some_iff.1 h
  rw [List.drop_eq_getElem_cons hk]
  rfl
theorem szD_le {len : Nat} {left : Int} (h : ¬ szD len left < 0) : 0 ≤ szD len left ∧ szD len left ≤ left := by
  unfold szD at h ⊢
  split
  · rename_i h1; rw [if_pos h1] at h; omega
  · omega

set_option maxHeartbeats 1000000 in
theorem szDeedS_any (A : Option Addr) (n c : Nat) (ds : List Dd) (w : World) (hn : n ≤ 9223372036854775807) (hd : Ds w A n ds) (ht : ∀ a ∈ ds, a.text.length ≤ 9223372036854775807) :
    Calls Tryd.prog 36 #[.slice A n c, .int .i64 1048576] w fun e w' => e = .returned (.int .i64 (szDs ds 1048576)) ∧ Below w.heap.size w w' := by
  have HD := Lib.hid hd
  have HT := Lib.hid ht
  have hln : ds.length = n := hd.1
  have e1 : IntKind.i64.wrap (1048576 - (n : Int)) = 1048576 - (n : Int) := IntWalk.i64_in _ (by omega)
  by_cases h : 1048576 - (n : Int) < 0
  · have HR : Hid (szDs ds 1048576 = -1) := by show _ = _; unfold szDs; rw [hln, if_pos h]
    clear hd ht hln
    go_enter Tryd.func36, Tryd.ntmps36
    go_wp2_with fail
    go_ret
    exact ⟨by rw [HR.out]; rfl, Below.refl _ _⟩
  · have HR : Hid (szDs ds 1048576 = szGo (1048576 - (n : Int)) ds) := by show _ = _; unfold szDs; rw [hln, if_neg h]
    have HL := Lib.hid hln
    obtain ⟨z0, hz⟩ : ∃ z0 : Int, z0 = 1048576 - (n : Int) := ⟨_, rfl⟩
    rw [← hz] at HR
    have HZ0 := Lib.hid hz
    have hn2 : n ≤ 1048576 := by omega
    clear hd ht hln hz
    go_enter Tryd.func36, Tryd.ntmps36
    go_wp2_with fail
    go_loopw [1, 5] (fun v i wr => ∃ (k : Nat) (z : Int), k ≤ n ∧ i = .int .i64 k ∧ v = .int .i64 z ∧ 0 ≤ z ∧ z ≤ 1048576 ∧ szGo z0 ds = szGo z (ds.drop k) ∧ Below w.heap.size w wr) (fun _ i _ => n - (intOf i).toNat)
    case atStart => exact ⟨0, _, by omega, rfl, rfl, by omega, by omega, by rw [HZ0.out]; rfl, Below.refl _ _⟩
    case round =>
      obtain ⟨k, z, hk, rfl, rfl, hz2, hz3, hsz, hb⟩ := hrel
      have HS := Lib.hid hsz
      have HB := Lib.hid hb
      clear hsz hb
      by_cases hlt : k < n
      · obtain ⟨b, o, a, rfl, hbl, ha, c0, c1, c2⟩ := (HD.out.below HB.out).at_ hlt
        have HA := Lib.hid ha
        have HZ := Lib.hid (fun w => szDeed_any a z w hz2 hz3 (HT.out a (List.mem_of_getElem? ha)))
        unfold dv at HZ
        have HG := Lib.hid (szGo_drop ha z)
        clear ha
        by_cases hneg : szD a.text.length z < 0
        · have HRR : Hid (szGo z0 ds = -1) := by show _ = _; rw [HS.out, HG.out, if_pos hneg]
          go_wp2_with fail
          refine (HZ.out _).mono ?_
          rintro e w1 ⟨rfl, hb1⟩
          have HB1 : Hid (Below w.heap.size w w1) := HB.out.trans (hb1.mono HB.out.size)
          clear hb1
          go_wp2_with fail
          go_ret
          exact ⟨by rw [HR.out, HRR.out]; rfl, HB1.out⟩
        · have HRR : Hid (szGo z0 ds = szGo (szD a.text.length z) (ds.drop (k + 1))) := by show _ = _; rw [HS.out, HG.out, if_neg hneg]
          obtain ⟨hp1, hp2⟩ := szD_le hneg
          generalize szD a.text.length z = z' at *
          go_wp2_with fail
          refine (HZ.out _).mono ?_
          rintro e w1 ⟨rfl, hb1⟩
          have HB1 : Hid (Below w.heap.size w w1) := HB.out.trans (hb1.mono HB.out.size)
          clear hb1
          go_wp2_with fail
          go_roundw
          case rel => exact ⟨k + 1, z', by omega, by go_num, rfl, by omega, by omega, HRR.out, HB1.out⟩
          case measure => simp [intOf]; omega
      · obtain rfl : k = n := by omega
        have HRR : Hid (szGo z0 ds = z) := by show _ = _; rw [HS.out, List.drop_of_length_le (by rw [HL.out]; omega)]; rfl
        go_wp2_with fail
        go_ret
        exact ⟨by rw [HR.out, HRR.out]; rfl, HB.out⟩
/-- No deed. -/
def d00 : Dd := ⟨0, 0, []⟩
theorem flat_set : ∀ {ds : List Dd} {k : Nat} (_ : k < ds.length) (a : Dd), (((ds.flatMap dcs).set (k * 3) (.int .i64 a.kind)).set (k * 3 + 1) (.int .i64 a.num)).set (k * 3 + 2) (.string (bs a.text)) = (ds.set k a).flatMap dcs
  | [], k, h, a => by simp at h
  | b :: r, 0, _, a => rfl
  | b :: r, k + 1, h, a => by
    have ih := flat_set (ds := r) (k := k) (by simpa using h) a
    have e : ∀ (l : List Value) (j : Nat) (v : Value), (dcs b ++ l).set (j + 3) v = dcs b ++ l.set j v := fun l j v => by
      rw [List.set_append_right _ _ (by show 3 ≤ _; omega)]
      congr 2
    rw [List.flatMap_cons, List.set_cons_succ, List.flatMap_cons, ← ih, show (k + 1) * 3 = k * 3 + 3 by omega, show k * 3 + 3 + 1 = (k * 3 + 1) + 3 by omega, show k * 3 + 3 + 2 = (k * 3 + 2) + 3 by omega, e, e, e]
theorem Od.set {w : World} {B n c g : Nat} {ds : List Dd} (h : Od w B (.slice (some ⟨g, 0, none⟩) n c) n ds) {k : Nat} (hk : k < n) (a : Dd) :
    Od (((w.setCell ⟨g, k * 3, none⟩ (.int .i64 a.kind)).setCell ⟨g, k * 3 + 1, none⟩ (.int .i64 a.num)).setCell ⟨g, k * 3 + 2, none⟩ (.string (bs a.text))) B (.slice (some ⟨g, 0, none⟩) n c) n (ds.set k a) := by
  have hl := h.len
  have h1 := (World.ownsRow.stored h (k * 3) (.int .i64 a.kind)).1
  have h2 := (World.ownsRow.stored h1 (k * 3 + 1) (.int .i64 a.num)).1
  have h3 := (World.ownsRow.stored h2 (k * 3 + 2) (.string (bs a.text))).1
  rw [flat_set (by omega) a] at h3
  exact h3
theorem made_flat : ∀ n : Nat, (madeCells #[.int .i64 0, .int .i64 0, .string ⟨#[]⟩] (n * 3)).toList = (List.replicate n d00).flatMap dcs := by
  intro n
  apply List.ext_getElem?
  intro j
  by_cases hj : j < n * 3
  · obtain ⟨q, r, hr, rfl⟩ : ∃ q r, r < 3 ∧ j = q * 3 + r := ⟨j / 3, j % 3, Nat.mod_lt _ (by omega), by omega⟩
    have hq : q < n := by omega
    have hrep : (List.replicate n d00)[q]? = some d00 := by rw [List.getElem?_replicate, if_pos hq]
    obtain ⟨e0, e1, e2⟩ := dcs_get hrep
    have hm : (madeCells #[.int .i64 0, .int .i64 0, .string ⟨#[]⟩] (n * 3)).toList[q * 3 + r]? = some ((#[.int .i64 0, .int .i64 0, .string ⟨#[]⟩] : Array Value)[(q * 3 + r) % 3]!) := by
      simp [madeCells, hj]
    rw [hm]
    have h3 : r = 0 ∨ r = 1 ∨ r = 2 := by omega
    rcases h3 with rfl | rfl | rfl
    · rw [Nat.add_zero, e0, show q * 3 % 3 = 0 by omega]; rfl
    · rw [e1, show (q * 3 + 1) % 3 = 1 by omega]; rfl
    · rw [e2, show (q * 3 + 2) % 3 = 2 by omega]; rfl
  · rw [List.getElem?_eq_none, List.getElem?_eq_none]
    · rw [dcs_len, List.length_replicate]; omega
    · rw [Array.length_toList, size_madeCells]; omega
theorem set_next (ds : List Dd) (x : Dd) (m : Nat) {k : Nat} {a : Dd} (h : ds[k]? = some a) : (ds.take k ++ List.replicate (m + 1) x).set k a = ds.take (k + 1) ++ List.replicate m x := by
  obtain ⟨hk, rfl⟩ := List.getElem?_eq_some_iff.1 h
  have hl : (ds.take k).length = k := by rw [List.length_take]; omega
  rw [List.set_append_right _ _ (by omega), hl, Nat.sub_self, List.replicate_succ, List.set_cons_zero, List.take_succ_eq_append_getElem hk, List.append_assoc]
  rfl
section
variable {P : Program} {w w0 : World} {ops : Array Oper} {rest : List Oper} {o : Oper} {a : Act} {Q : Exit → Act → World → Prop}
/-- make([]Deed, n) -/
theorem wl_makeD (hg : o.guard = none) (l c : Operand) (t : TypeId) (hop : o.op = Op.makeSlice t l c) (hund : P.underlying t = some (.slice 44))
    (hinf : (P.info? 44).map (fun i => (i.zero, i.size, i.bytes)) = some (some (.agg #[.int .i64 0, .int .i64 0, .string ⟨#[]⟩]), 3, 32))
    (kl kc : IntKind) (m : Nat) (L C : Int) (hl : a.eval l = .int kl L) (hc : a.eval c = .int kc C) (hL : L = (m : Int)) (hC : C = (m : Int)) (b2 : 32 * m ≤ 281474976710656) (b3 : m ≤ maxLen)
    (hK : ∀ w', Od w' w.heap.size (.slice (some ⟨w.heap.size, 0, none⟩) m m) m (List.replicate m d00) → Below w.heap.size w w' → wpList P ops Q rest (a.put o.dst (.slice (some ⟨w.heap.size, 0, none⟩) m m)) w') :
    wpList P ops Q (o :: rest) a w := by
  obtain ⟨i, h2, h3, h4, h5⟩ := info_parts hinf
  refine wpList_make_full w hg l c t hop w.heap.size 44 i (.agg #[.int .i64 0, .int .i64 0, .string ⟨#[]⟩]) 3 hund h2 h3 h4 kl kc L C m hl hc hL hC (by rw [h5]; exact b2) b3 (Nat.le_refl _) ?_
  intro w' h1 h2
  refine hK w' ?_ ((Below.refl _ _).grown h2 (Nat.le_refl _) (by simp))
  unfold Od
  rw [← made_flat]
  exact h1
end
set_option maxHeartbeats 1000000 in
theorem toDeedS_any (A : Option Addr) (n c : Nat) (ds : List Dd) (w : World) (hn : n ≤ 1048576) (hd : Ds w A n ds) :
    Calls Tryd.prog 38 #[.slice A n c] w fun e w' => ∃ A' c', e = .returned (.slice A' n c') ∧ Od w' w.heap.size (.slice A' n c') n ds ∧ Below w.heap.size w w' := by
  have HD := Lib.hid hd
  have hln : ds.length = n := hd.1
  have HL := Lib.hid hln
  clear hd hln
  go_enter Tryd.func38, Tryd.ntmps38
  go_wp2_with (at_make; refine wl_makeD rfl (.tmp 6) (.tmp 6) 54 rfl Tryd.underlying54 (by kernel_rfl) .i64 .i64 n _ _ rfl rfl rfl rfl (by omega) (by unfold maxLen; omega) ?_; intro w1 ho1 hb1)
  have HO := Lib.hid ho1
  have HB1 := Lib.hid hb1
  obtain ⟨G, hG⟩ : ∃ G, G = w.heap.size := ⟨_, rfl⟩
  rw [← hG] at HO ⊢
  have HG := Lib.hid hG
  clear ho1 hb1 hG
  go_wp2_with fail
  go_loopw [4] (fun i wr => ∃ k : Nat, k ≤ n ∧ i = .int .i64 k ∧ Od wr G (.slice (some ⟨G, 0, none⟩) n n) n (ds.take k ++ List.replicate (n - k) d00) ∧ Below w.heap.size w wr) (fun i _ => n - (intOf i).toNat)
  case atStart => exact ⟨0, by omega, rfl, by simpa using HO.out, HB1.out⟩
  case round =>
    obtain ⟨k, hk, rfl, ho, hb⟩ := hrel
    have HO2 := Lib.hid ho
    have HB := Lib.hid hb
    clear ho hb
    by_cases hlt : k < n
    · obtain ⟨b, o, a, rfl, hbl, ha, c0, c1, c2⟩ := (HD.out.below HB.out).at_ hlt
      have HA := Lib.hid ha
      have HT := Lib.hid (fun w => toDeed_any a w)
      unfold dv at HT
      clear ha
      go_wp2_with fail
      refine (HT.out _).mono ?_
      rintro e w2 ⟨rfl, hb2⟩
      have HB2 : Hid (Below w.heap.size w w2) := HB.out.trans (hb2.mono HB.out.size)
      have HO3 := Lib.hid (Od.below HO2.out hb2)
      obtain ⟨g', a', hA', ha', d0, d1, d2, hgl⟩ := HO3.out.cells hlt
      injection hA' with hA'
      injection hA' with hA'
      subst hA'
      have f0 : w2.frozen? ⟨G, k * 3, none⟩ = false := World.ownsRow.frozenAt HO3.out _
      have f1 : w2.frozen? ⟨G, k * 3 + 1, none⟩ = false := World.ownsRow.frozenAt HO3.out _
      have f2 : w2.frozen? ⟨G, k * 3 + 2, none⟩ = false := World.ownsRow.frozenAt HO3.out _
      have HS : Hid (Od (((w2.setCell ⟨G, k * 3, none⟩ (.int .i64 a.kind)).setCell ⟨G, k * 3 + 1, none⟩ (.int .i64 a.num)).setCell ⟨G, k * 3 + 2, none⟩ (.string (bs a.text))) G (.slice (some ⟨G, 0, none⟩) n n) n (ds.take (k + 1) ++ List.replicate (n - (k + 1)) d00)) := by
        have h1 := HO3.out.set hlt a
        have h2 := set_next ds d00 (n - (k + 1)) HA.out
        rw [show n - (k + 1) + 1 = n - k by omega] at h2
        rw [h2] at h1
        exact h1
      have HBS : Hid (Below w.heap.size w (((w2.setCell ⟨G, k * 3, none⟩ (.int .i64 a.kind)).setCell ⟨G, k * 3 + 1, none⟩ (.int .i64 a.num)).setCell ⟨G, k * 3 + 2, none⟩ (.string (bs a.text)))) :=
        ((HB2.out.setCell (p := ⟨G, k * 3, none⟩) (by rw [HG.out]; exact Nat.le_refl _) _).setCell (p := ⟨G, k * 3 + 1, none⟩) (by rw [HG.out]; exact Nat.le_refl _) _).setCell (p := ⟨G, k * 3 + 2, none⟩) (by rw [HG.out]; exact Nat.le_refl _) _
      clear hb2 c0 c1 c2 ha' hbl
      go_wp2_with fail
      go_roundw
      case rel => exact ⟨k + 1, by omega, by go_num, HS.out, HBS.out⟩
      case measure => simp [intOf]; omega
    · obtain rfl : k = n := by omega
      go_wp2_with fail
      go_ret
      refine ⟨_, _, rfl, ?_, HB.out⟩
      have h := HO2.out
      rw [Nat.sub_self, List.replicate_zero, List.append_nil, List.take_of_length_le (by rw [HL.out]; exact Nat.le_refl _), HG.out] at h
      rw [HG.out]
      exact h
end Go.Proofs.YtemcdeopehdggaaDoor
