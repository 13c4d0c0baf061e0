/- Texts on the way to a law (U10), each with its own remark. -/
import Derived.Test.YtnomlkkhkacajaaGreatDoorPC18
import Derived.Test.YtnomlkkhkacajaaGreatDoorPC04
namespace Go.Proofs.YtnomlkkhkacajaaGreatDoor
open Go.RowKit
open Go.Lib hiding intOf

theorem cutAll_length (sep : UInt8) : ∀ l : Txt, (cutAll sep l).length ≤ l.length + 1
  | [] => by simp [cutAll]
  | c :: r => by
    have := cutAll_length sep r
    unfold cutAll
    split
    · simp; omega
    · split
      · simp
      · rename_i h t he
        rw [he] at this
        simp at this ⊢; omega
theorem cutAll_word (sep : UInt8) : ∀ (l : Txt), ∀ w ∈ cutAll sep l, w.length ≤ l.length
  | [], w, hw => by simp [cutAll] at hw; simp [hw]
  | c :: r, w, hw => by
    have ih := cutAll_word sep r
    unfold cutAll at hw
    split at hw
    · rcases List.mem_cons.1 hw with rfl | hw
      · simp
      · have := ih w hw; simp; omega
    · split at hw
      · rename_i he; exact absurd he (cutAll_ne _ _)
      · rename_i h t he
        rcases List.mem_cons.1 hw with rfl | hw
        · have := ih h (by rw [he]; exact List.mem_cons_self); simp; omega
        · have := ih w (by rw [he]; exact List.mem_cons_of_mem _ hw); simp; omega
theorem pairsOf_snoc : ∀ {ws : List Txt} {ps : List Pr} {x : Txt} {p : Pr}, pairsOf ws = some ps → pairOf x = some p → pairsOf (ws ++ [x]) = some (ps ++ [p])
  | [], ps, x, p, h, hx => by cases h; simp [pairsOf, hx]
  | y :: r, ps, x, p, h, hx => by
    unfold pairsOf at h
    split at h
    · cases h
    · rename_i q hq
      cases hr : pairsOf r with
      | none => rw [hr] at h; cases h
      | some qs =>
        rw [hr] at h; cases h
        show pairsOf (y :: (r ++ [x])) = _
        unfold pairsOf
        rw [hq]
        simp only [pairsOf_snoc hr hx, Option.map_some, List.cons_append]
theorem pairsOf_none : ∀ {ws : List Txt} {k : Nat} (h : k < ws.length), pairOf ws[k] = none → pairsOf ws = none
  | [], k, h, _ => by simp at h
  | y :: r, 0, _, hz => by unfold pairsOf; rw [show pairOf y = none from hz]
  | y :: r, k + 1, h, hz => by
    have := pairsOf_none (ws := r) (k := k) (by simp at h; omega) (by simpa using hz)
    unfold pairsOf
    cases pairOf y with
    | none => rfl
    | some p => simp [this]
theorem pairsOf_length : ∀ {ws : List Txt} {ps : List Pr}, pairsOf ws = some ps → ps.length = ws.length
  | [], ps, h => by cases h; rfl
  | y :: r, ps, h => by
    unfold pairsOf at h
    split at h
    · cases h
    · cases hr : pairsOf r with
      | none => rw [hr] at h; cases h
      | some qs => rw [hr] at h; cases h; simp [pairsOf_length hr]
theorem own_ne2 {w : World} {B B' n n' c : Nat} {E E' : TypeId} {v : Value} {vs vs' : List Value} {g : Nat} (h : Ow w B E v n vs) (h' : Ow w B' E' (.slice (some ⟨g, 0, none⟩) n' c) n' vs') (hE : E ≠ E') : v.ownBlock ≠ some g := by
  intro he
  rcases h.2 with ⟨rfl, _⟩ | ⟨g1, cap, cur, hv, _, hh, _⟩
  · cases he
  · subst hv
    have : some g1 = some g := he
    cases this
    rcases h'.2 with ⟨hv', _⟩ | ⟨g2, cap2, cur2, hv2, _, hh2, _⟩
    · cases hv'
    · injection hv2 with h1
      injection h1 with h1
      injection h1 with h1
      subst h1
      rw [hh] at hh2
      cases hh2
      exact hE rfl
theorem retC_empty {w w1 : World} (hb : Below w.heap.size w w1) : RetC w [] false (.returned (.tuple #[.slice (some ⟨w1.heap.size, 0, none⟩) 0 0, .bool false])) (w1.alloc (.cells #[] 73)) :=
  RetC.empty ((Ow.empty w1 73).mono hb.size) (hb.alloc hb.size _)
theorem ow_keep {w w' : World} {B B' n c : Nat} {E : TypeId} {A : Option Addr} {vs : List Value} (h : Ow w B E (.slice A n c) n vs) (hk : ∀ g, A = some ⟨g, 0, none⟩ → w'.heap[g]? = w.heap[g]?) (hB : B' ≤ B) : Ow w' B' E (.slice A n c) n vs := by
  refine ⟨h.1, ?_⟩
  rcases h.2 with h0 | ⟨g, cap, cur, hv, hg, hh, r⟩
  · exact .inl h0
  · injection hv with h1 h2 h3
    subst h1; subst h3
    exact .inr ⟨g, c, cur, rfl, by omega, by rw [hk g rfl]; exact hh, r⟩

set_option maxRecDepth 100000 in
set_option maxHeartbeats 2000000 in
theorem sReadSignal (l : Txt) (hl : l.length ≤ 1073741824) (w : World) :
    Calls Tryz.prog 81 #[.string (bs l)] w (RetO w ((readSig l).map mils)) := by
  have hto := bs_toList l
  have he := Ow.empty w 73
  have hb0 := below_alloc w (.cells #[] 73)
  by_cases h45 : l = [45]
  · subst h45
    go_enter Tryz.func81, Tryz.ntmps81
    go_wp2_with fail
    go_ret2
    exact ⟨_, _, _, rfl, he, hb0⟩
  have h45b : (l == [45]) = false := by rw [beq_eq_false_iff_ne]; exact h45
  have NOT : Hid (pairsOf (cutAll 59 l) = none → (readSig l).map mils = none) := fun h => by
    unfold readSig; rw [if_neg h45, h]; rfl
  have BIG : Hid (∀ ps, pairsOf (cutAll 59 l) = some ps → 16 < ps.length → (readSig l).map mils = none) := fun ps h h2 => by
    unfold readSig; rw [if_neg h45, h]
    show (if ps.length ≤ 16 then some ps else none).map mils = none
    rw [if_neg (by omega)]; rfl
  have YES : Hid (∀ ps, pairsOf (cutAll 59 l) = some ps → ps.length ≤ 16 → (readSig l).map mils = some (mils ps)) := fun ps h h2 => by
    unfold readSig; rw [if_neg h45, h]
    show (if ps.length ≤ 16 then some ps else none).map mils = _
    rw [if_pos h2]; rfl
  have hcut := fun w => sCut l 59 (by omega) w
  have HCUT := Lib.hid hcut
  have HWL : Hid (∀ x ∈ cutAll 59 l, x.length ≤ 1073741824) := fun x hx => Nat.le_trans (cutAll_word 59 l x hx) hl
  have hml := cutAll_length 59 l
  generalize cutAll 59 l = ws at *
  generalize (readSig l).map mils = res at *
  have HE0 := Lib.hid he
  have HB0 := Lib.hid hb0
  clear he hb0 h45 hcut
  go_enter Tryz.func81, Tryz.ntmps81
  go_wp2_with fail
  refine (HCUT.out _).mono ?_
  rintro e w1 ⟨A, m, c, rfl, ho, hb⟩
  have hm : ws.length = m := by simpa using ho.len
  have HM := Lib.hid hm
  have hm2 : m ≤ 1073741825 := by omega
  have HB1 : Hid (Below w.heap.size w w1) := HB0.out.trans (hb.mono HB0.out.size)
  have HO1 : Hid (Ow w1 w.heap.size 73 (.slice (some ⟨w.heap.size, 0, none⟩) 0 0) 0 []) := Ow.below HE0.out hb
  have HW1 : Hid (Ow w1 w.heap.size 9 (.slice A m c) m (ws.map sv)) := ho.mono HB0.out.size
  clear hb ho hm hml hl
  go_wp2_with fail
  go_loopw [4, 6] (fun v i wr => ∃ (k : Nat) (ps : List Pr), k ≤ m ∧ i = .int .i64 k ∧ pairsOf (ws.take k) = some ps ∧ Ow wr w.heap.size 73 v ps.length ((mils ps).map cv) ∧ Ow wr w.heap.size 9 (.slice A m c) m (ws.map sv) ∧ Below w.heap.size w wr) (fun _ i _ => m - (intOf i).toNat)
  case atStart => exact ⟨0, [], by omega, rfl, rfl, HO1.out, HW1.out, HB1.out⟩
  case round =>
    obtain ⟨k, ps, hk, rfl, hps, ho, hw, hb⟩ := hrel
    have HP := Lib.hid hps
    have HO := Lib.hid ho
    have HW := Lib.hid hw
    have HB := Lib.hid hb
    have hpl : ps.length = k := by rw [pairsOf_length hps, List.length_take, HM.out]; omega
    have HPL := Lib.hid hpl
    clear hps ho hw hb hpl
    by_cases hlt : k < m
    · have hltw : k < ws.length := by rw [HM.out]; exact hlt
      obtain ⟨g, hg, hge, hgl, hcell, _, _⟩ := HW.out.at_ hlt
      obtain ⟨x, hx⟩ : ∃ x, x = ws[k]'hltw := ⟨_, rfl⟩
      have hck : wr.cell? ⟨g, k, none⟩ = some (.string (bs x)) := by
        rw [hcell k hlt, List.getElem?_map, List.getElem?_eq_getElem hltw, hx]; rfl
      have hxl : x.length ≤ 1073741824 := HWL.out x (by rw [hx]; exact List.getElem_mem hltw)
      have HX := Lib.hid hx
      have HPN : Hid (pairOf x = none → res = none) := fun h => NOT.out (pairsOf_none hltw (by rw [← HX.out]; exact h))
      have HPS : Hid (∀ p, pairOf x = some p → pairsOf (ws.take (k + 1)) = some (ps ++ [p])) := fun p h => by
        rw [List.take_succ_eq_append_getElem hltw, ← HX.out]
        exact pairsOf_snoc HP.out h
      have HC := Lib.hid (fun w => sCut x 44 (by omega) w)
      have hwl := cutAll_word 44 x
      clear HX hx hcell hltw
      subst hg
      go_wp2_with fail
      refine (HC.out _).mono ?_
      rintro e w2 ⟨A2, m2, c2, rfl, ho2, hb2⟩
      have HB2 : Hid (Below w.heap.size w w2) := HB.out.trans (hb2.mono HB.out.size)
      have HO2 : Hid (Ow w2 w.heap.size 73 u4 ps.length ((mils ps).map cv)) := Ow.below HO.out hb2
      have HW2 : Hid (Ow w2 w.heap.size 9 (.slice (some ⟨g, 0, none⟩) m c) m (ws.map sv)) := Ow.below HW.out hb2
      have hl2 : (cutAll 44 x).length = m2 := by simpa using ho2.len
      clear hb2 hck
      by_cases hm2' : m2 = 2
      · subst hm2'
        obtain ⟨a, b, hab⟩ : ∃ a b, cutAll 44 x = [a, b] := by
          cases h : cutAll 44 x with
          | nil => rw [h] at hl2; cases hl2
          | cons a t =>
            cases t with
            | nil => rw [h] at hl2; cases hl2
            | cons b t =>
              cases t with
              | nil => exact ⟨a, b, rfl⟩
              | cons _ _ => rw [h] at hl2; simp at hl2
        have hp : pairOf x = match digs a, digs b with
            | some y, some z => some (y, z)
            | _, _ => none := by unfold pairOf; rw [hab]; rfl
        have hla := hwl a (by rw [hab]; simp)
        have hlb := hwl b (by rw [hab]; simp)
        rw [hab] at ho2
        obtain ⟨g2, hg2, _, _, hc2, _, _⟩ := ho2.at_ (k := 0) (by omega)
        have k0 := hc2 0 (by omega)
        have k1 := hc2 1 (by omega)
        have k0' : w2.cell? ⟨g2, 0, none⟩ = some (.string (bs a)) := k0
        have k1' : w2.cell? ⟨g2, 1, none⟩ = some (.string (bs b)) := k1
        have DA := Lib.hid (fun w => sDigits a (by omega) w)
        have DB := Lib.hid (fun w => sDigits b (by omega) w)
        have HPP := Lib.hid hp
        clear k0 k1 hc2 ho2 hp hab hl2 hwl
        subst hg2
        go_wp2_with fail
        refine (DA.out _).mono ?_
        rintro e w3 ⟨ya, rfl, hya, h1, h2, rfl⟩
        have HYA := Lib.hid hya
        clear hya
        go_wp2_with fail
        refine (DB.out _).mono ?_
        rintro e w4 ⟨yb, rfl, hyb, h3, h4, rfl⟩
        have HYB := Lib.hid hyb
        clear hyb
        cases hda : digs a with
        | none =>
          have HN : Hid (res = none) := HPN.out (by rw [HPP.out, hda])
          clear hda
          go_wp2_with fail
          go_ret2
          rw [HN.out]
          exact retC_empty HB2.out
        | some y =>
          have hy := HYA.out y hda
          cases hdb : digs b with
          | none =>
            have HN : Hid (res = none) := HPN.out (by rw [HPP.out, hda, hdb])
            clear hda hdb hy
            go_wp2_with fail
            go_ret2
            rw [HN.out]
            exact retC_empty HB2.out
          | some z =>
            have hz := HYB.out z hdb
            have HNX : Hid (pairsOf (ws.take (k + 1)) = some (ps ++ [(ya, yb)])) := HPS.out _ (by rw [HPP.out, hda, hdb, hy, hz])
            have HMI := Lib.hid (fun w => sMilli ya yb w)
            have HMM : Hid (mils (ps ++ [(ya, yb)]) = mils ps ++ [milli ya yb]) := by show _ = _; simp [mils]
            clear hda hdb hy hz
            generalize milli ya yb = zz at *
            unfold cv at HMI
            have hsz := HB2.out.size
            have hpk : ps.length ≤ 1073741825 := by rw [HPL.out]; omega
            have HNE := Lib.hid (own_ne2 HO2.out HW2.out (by decide))
            go_wp2_with fail
            refine (HMI.out _).mono ?_
            rintro e w5 ⟨rfl, rfl⟩
            go_wp2_with (at_builtin; refine wl_appK w.heap.size [.complex .f32 zz.1 zz.2] hsz rfl (.tmp 54) (.tmp 58) 23 rfl Tryz.eC u4 ps.length _ rfl HO2.out rfl (by simp [Value.oneCell']) (by simp [maxLen]; omega) (by simp; omega) ?_; intro v' w4 ho4 hb4 hf4; have HO4 := Lib.hid ho4; have HB4 := Lib.hid hb4; have HF4 := Lib.hid hf4; clear ho4 hb4 hf4)
            have HW4 : Hid (Ow w4 w.heap.size 9 (.slice (some ⟨g, 0, none⟩) m c) m (ws.map sv)) := ow_keep HW2.out (fun g' hg' => by
              cases hg'
              exact HF4.out g (by have := (HW2.out.at_ hlt); obtain ⟨g3, h3, _, h4, _⟩ := this; cases h3; exact h4) HNE.out) (Nat.le_refl _)
            go_roundw
            case rel => exact ⟨k + 1, ps ++ [(ya, yb)], by omega, by go_num, HNX.out, by rw [HMM.out, List.map_append, List.length_append]; exact HO4.out, HW4.out, HB2.out.trans HB4.out⟩
            case measure => simp [intOf]; omega
      · have HN : Hid (res = none) := HPN.out (by
          unfold pairOf
          split
          · rename_i a b hab; rw [hab] at hl2; exact absurd hl2.symm hm2'
          · rfl)
        have hne : ((m2 : Int) != 2) = true := by rw [bne_iff_ne]; omega
        clear hl2 ho2 hm2' hwl
        go_wp2_with fail
        go_ret2
        rw [HN.out]
        exact retC_empty HB2.out
    · obtain rfl : k = m := by omega
      have HPA : Hid (pairsOf ws = some ps) := by
        show _ = _
        have := HP.out
        rw [List.take_of_length_le (by rw [HM.out]; omega)] at this
        exact this
      obtain ⟨A4, c4, rfl⟩ := HO.out.shape
      by_cases h16 : 16 < ps.length
      · have HN : Hid (res = none) := BIG.out ps HPA.out h16
        go_wp2_with fail
        go_ret2
        rw [HN.out]
        exact retC_empty HB.out
      · have HY : Hid (res = some (mils ps)) := YES.out ps HPA.out (by omega)
        go_wp2_with fail
        go_ret2
        rw [HY.out]
        exact ⟨_, _, _, rfl, HO.out, HB.out⟩
end Go.Proofs.YtnomlkkhkacajaaGreatDoor
