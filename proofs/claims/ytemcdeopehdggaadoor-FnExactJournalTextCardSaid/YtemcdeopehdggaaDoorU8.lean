/- The text of a signal, by the program. -/
import Derived.Test.YtemcdeopehdggaaDoorU7
namespace Go.Proofs.YtemcdeopehdggaaDoor
open Go.RowKit
open Go.Lib hiding intOf

theorem bs_nil_eq : (⟨#[]⟩ : ByteArray) = bs [] := rfl
theorem set_mid (ws : List Value) (x u : Value) (m : Nat) : (ws ++ List.replicate (m + 1) x).set ws.length u = (ws ++ [u]) ++ List.replicate m x := by
  rw [List.set_append_right _ _ (Nat.le_refl _), Nat.sub_self, List.replicate_succ, List.set_cons_zero, List.append_assoc]
  rfl
set_option maxRecDepth 100000 in
set_option maxHeartbeats 1000000 in
theorem iSignalText (A : Option Addr) (n c : Nat) (xs : List C) (w : World) (hn : n ≤ 9223372036854775807) (hx : Cs w A n xs) (hE : EnvT w) :
    Calls Tryd.prog 19 #[.slice A n c] w (RetX w (sigT xs)) := by
  have HL := Lib.hid hx.len
  have HE := Lib.hid hE
  clear hE
  go_enter Tryd.func19, Tryd.ntmps19
  go_wp2_with fail
  refine (iSignalOk A n c xs w hn hx).mono ?_
  rintro e w0 ⟨rfl, m, rfl⟩
  cases hs : sigB xs with
  | false =>
    have HS := Lib.hid hs
    clear hs
    go_wp2_with fail
    go_ret2
    exact RetX.no (sigT_no (.inl HS.out)) (below_drewN (Below.refl _ _) m)
  | true =>
    have HS := Lib.hid hs
    have hn16 : n ≤ 16 := by rw [← HL.out]; exact sigB_len hs
    have HX : Hid (Cs (w.drewN m) A n xs) := Cs.drewN hx m
    have HB0 : Hid (Below w.heap.size w (w.drewN m)) := below_drewN (Below.refl _ _) m
    clear hs hx
    generalize w.drewN m = w0 at *
    by_cases hn0 : n = 0
    · subst hn0
      have HY : Hid (sigT xs = some [45]) := by
        show _ = _
        have : xs = [] := List.length_eq_zero_iff.1 HL.out
        have hs := HS.out
        subst this
        exact sigT_yes hs rfl
      go_wp2_with fail
      go_ret2
      exact RetX.yes HY.out rfl HB0.out
    have h0 : ((n : Int) == 0) = false := by rw [beq_eq_false_iff_ne]; omega
    go_wp2_with (at_make; refine wl_make (w0 := w0) rfl (.tmp 16) (.tmp 16) 62 rfl Tryd.eS .i64 .i64 n _ _ rfl rfl rfl rfl (by omega) (by unfold maxLen; omega) (Below.refl _ _) ?_; intro w1 hown _ hb1)
    have HO := Lib.hid hown
    have HB1 := Lib.hid hb1
    obtain ⟨G, hG⟩ : ∃ G : Option Addr, G = some ⟨w0.heap.size, 0, none⟩ := ⟨_, rfl⟩
    rw [← hG] at HO ⊢
    have HG := Lib.hid hG
    clear hown hb1 hG
    go_wp2_with fail
    go_loopw [5, 6, 7, 8, 20] (fun _ _ _ _ i wr => ∃ (k : Nat) (ps : List Pr), k ≤ n ∧ i = .int .i64 k ∧ thoAll (xs.take k) = some ps ∧ Ow wr w0.heap.size 9 (.slice G n n) n ((ps.map fun p => sv (pairText p)) ++ List.replicate (n - k) (.string ⟨#[]⟩)) ∧ Below w0.heap.size w0 wr) (fun _ _ _ _ i _ => n - (intOf i).toNat)
    case atStart => exact ⟨0, [], by omega, rfl, rfl, by simpa using HO.out, HB1.out⟩
    case round =>
      obtain ⟨k, ps, hk, rfl, hps, ho, hb⟩ := hrel
      have HP := Lib.hid hps
      have HB := Lib.hid hb
      have HO2 := Lib.hid ho
      have hlen : ps.length = k := by rw [thoAll_len hps, List.length_take, HL.out]; omega
      have HK := Lib.hid hlen
      clear hps hb hlen ho
      by_cases hlt : k < n
      · have hx2 : Cs wr A n xs := Sl.below HX.out HB.out
        obtain ⟨b, o, rfl, hbl, hc⟩ := hx2.at_ hlt
        have hck := hc k hlt
        unfold cv at hck
        have HZ := Lib.hid (fun w h => iText (nth xs k) w h)
        unfold cv at HZ
        clear hc
        go_wp2_with fail
        refine (HZ.out _ ((HE.out.kp (Kp.below HB0.out)).kp (Kp.below HB.out))).mono ?_
        rintro e w1 ⟨rfl, hb1⟩
        have HB3 : Hid (Below w0.heap.size w0 w1) := HB.out.trans (hb1.mono HB.out.size)
        have HO3 : Hid (Ow w1 w0.heap.size 9 (.slice G n n) n ((ps.map fun p => sv (pairText p)) ++ List.replicate (n - k) (.string ⟨#[]⟩))) := Ow.below HO2.out hb1
        clear hb1
        cases hz : zText (nth xs k) with
        | none =>
          have HN : Hid (sigT xs = none) := sigT_no (.inr (thoAll_none (k := k) (by rw [HL.out]; exact hlt) (zText_none (by rw [hz]; rfl))))
          clear hz
          go_wp2_with fail
          go_ret2
          exact RetX.no HN.out (HB0.out.trans (HB3.out.mono HB0.out.size))
        | some u =>
          obtain ⟨p, hp, hup⟩ := zText_some hz
          have HNX : Hid (thoAll (xs.take (k + 1)) = some (ps ++ [p])) := by
            show _ = _
            rw [take_nth (by rw [HL.out]; exact hlt)]
            exact thoAll_snoc HP.out hp
          have HU := Lib.hid hup
          clear hz hp hup
          obtain ⟨g, hg, hge, hgl, hcell, hfr, hst⟩ := HO3.out.at_ hlt
          have hcl := (hcell k hlt).trans (List.getElem?_eq_getElem (by rw [HO3.out.len]; exact hlt))
          have hfr2 := hfr k
          have HST : Hid (Ow (w1.setCell ⟨g, k, none⟩ (.string (bs u))) w0.heap.size 9 (.slice G n n) n (((ps ++ [p]).map fun p => sv (pairText p)) ++ List.replicate (n - (k + 1)) (.string ⟨#[]⟩))) := by
            have h1 := hst k (.string (bs u))
            have h2 := set_mid (ps.map fun p => sv (pairText p)) (.string ⟨#[]⟩) (.string (bs u)) (n - (k + 1))
            rw [List.length_map, HK.out, show n - (k + 1) + 1 = n - k by omega] at h2
            rw [h2] at h1
            rw [hg, List.map_append, List.map_cons, List.map_nil]
            show Ow _ _ _ _ _ (((ps.map fun p => sv (pairText p)) ++ [Value.string (bs (pairText p))]) ++ _)
            rw [← HU.out]
            exact h1
          have HBS : Hid (Below w0.heap.size w0 (w1.setCell ⟨g, k, none⟩ (.string (bs u)))) := HB3.out.trans ((Below.refl _ _).setCell hge _)
          generalize ((ps.map fun p => sv (pairText p)) ++ List.replicate (n - k) (Value.string ⟨#[]⟩))[k]'_ = old at hcl
          clear hcell hfr hst
          subst hg
          go_wp2_with fail
          go_roundw
          case rel => exact ⟨k + 1, ps ++ [p], by omega, by go_num, HNX.out, HST.out, HBS.out⟩
          case measure => simp [intOf]; omega
      · obtain rfl : k = n := by omega
        have HTA : Hid (thoAll xs = some ps) := by
          show _ = _
          rw [← HP.out, List.take_of_length_le (by rw [HL.out]; omega)]
        have HY := Lib.hid (sigT_yes HS.out HTA.out)
        have HW : Hid (Ow wr w0.heap.size 9 (.slice G k k) k (ps.map fun p => sv (pairText p))) := by
          show Ow _ _ _ _ _ _
          simpa using HO2.out
        obtain ⟨g, hg, hge, hgl, hcell, _, _⟩ := HW.out.at_ (k := 0) (by omega)
        have hlist : (ps.map fun p => bs (pairText p)).map (·.data.toList) = ps.map pairText := by
          rw [List.map_map]; exact List.map_congr_left fun p _ => bs_data _
        have hjl := join_len ps (thoAll_inR HTA.out)
        have J := Tryd.strings_Join g 0 k (ps.map fun p => bs (pairText p)) (bs [59]) wr (fun j x hj => by
          rw [Nat.zero_add, hcell j (by have := (List.getElem?_eq_some_iff.1 hj).1; rw [List.length_map, HK.out] at this; exact this)]
          rw [List.getElem?_map] at hj ⊢
          cases hj2 : ps[j]? with
          | none => rw [hj2] at hj; cases hj
          | some p => rw [hj2] at hj; cases hj; rfl) hgl (by rw [List.length_map, HK.out]; omega) (by rw [List.length_map, HK.out]; exact Nat.le_refl _) (by rw [hlist, bs_data]; have := HK.out; omega)
        rw [hlist, bs_data, List.length_map, HK.out] at J
        have HJ := Lib.hid J
        have HQ : Hid (ps ≠ []) := by rintro rfl; have := HK.out; simp at this; omega
        clear J hlist hjl hcell
        subst hg
        go_wp2_with fail
        refine HJ.out.mono ?_
        rintro e w2 ⟨rfl, hb2⟩
        go_wp2_with fail
        go_ret2
        refine RetX.yes HY.out ?_ (HB0.out.trans ((HB.out.trans (hb2.mono HB.out.size)).mono HB0.out.size))
        unfold sigText
        rw [if_neg HQ.out]; rfl
end Go.Proofs.YtemcdeopehdggaaDoor
