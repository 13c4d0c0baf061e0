/- The words of a text, plain texts, the text of a complex number. -/
import Derived.Test.YtemcdeopehdggaaDoorU4
namespace Go.Proofs.YtemcdeopehdggaaDoor
open Go.RowKit
open Go.Lib hiding intOf

theorem Tryd.eS : Elem Tryd.prog 62 9 (.string ⟨#[]⟩) 16 := Elem.mk' Tryd.underlying62 (by kernel_rfl) rfl
theorem drop_take_next {l : Txt} {f k : Nat} (hf : f ≤ k) (hk : k < l.length) : (l.drop f).take (k + 1 - f) = (l.drop f).take (k - f) ++ [l[k]] := by
  rw [show k + 1 - f = (k - f) + 1 by omega, List.take_succ_eq_append_getElem (by rw [List.length_drop]; omega), List.getElem_drop]
  congr 3; omega
theorem drop_split {l : Txt} {f k : Nat} (hf : f ≤ k) (hk : k < l.length) : l.drop f = (l.drop f).take (k - f) ++ l[k] :: l.drop (k + 1) := by
  conv => lhs; rw [← List.take_append_drop (k - f) (l.drop f)]
  rw [List.drop_drop, show f + (k - f) = k by omega, List.drop_eq_getElem_cons hk]
/-- A list of texts. -/
def RetW (w : World) (ws : List Txt) (e : Ending) (w' : World) : Prop := ∃ A m c, e = .returned (.slice A m c) ∧ Ow w' w.heap.size 9 (.slice A m c) m (ws.map sv) ∧ Below w.heap.size w w'
theorem sv_one (l : Txt) : ∀ u ∈ [Value.string (bs l)], u.oneCell' = true := by intro u hu; rw [List.mem_singleton.1 hu]; rfl

set_option maxRecDepth 100000 in
set_option maxHeartbeats 1000000 in
theorem sCut (l : Txt) (sp : UInt8) (hl : l.length ≤ 4294967280) (w : World) : Calls Tryd.prog 47 #[.string (bs l), .int .u8 sp.toNat] w (RetW w (cutAll sp l)) := by
  obtain ⟨n, hn⟩ : ∃ n, n = l.length := ⟨_, rfl⟩
  have hsz : (bs l).size = n := by rw [bs_size, hn]
  have hn2 : n ≤ 4294967280 := by omega
  have hx := bs_extract l
  have he := Ow.empty w 9
  have hb0 := below_alloc w (.cells #[] 9)
  have HN := Lib.hid hn
  have HE := Lib.hid he
  have HB0 := Lib.hid hb0
  have HA : Hid (∀ (k : Nat) (_ : k < n), ∃ d : Nat, d < 256 ∧ (∀ h, ((bs l)[k]'h).toNat = d) ∧ ∀ h : k < l.length, (l[k]).toNat = d) := fun k hk =>
    ⟨(l[k]'(by omega)).toNat, UInt8.toNat_lt _, fun h => bs_get l k (by omega) h, fun _ => rfl⟩
  obtain ⟨s, hs⟩ : ∃ s, s = sp.toNat := ⟨_, rfl⟩
  rw [← hs]
  have HS := Lib.hid hs
  clear hn he hb0 hs hl
  go_enter Tryd.func47, Tryd.ntmps47
  go_wp2_with fail
  go_loopw [5, 6, 7] (fun v fv i wr => ∃ (k f : Nat) (ws : List Txt), f ≤ k ∧ k ≤ n ∧ fv = .int .i64 f ∧ i = .int .i64 k ∧ ws.length ≤ k ∧ sp ∉ (l.drop f).take (k - f) ∧ cutAll sp l = ws ++ cutAll sp (l.drop f) ∧ Ow wr w.heap.size 9 v ws.length (ws.map sv) ∧ Below w.heap.size w wr) (fun _ _ i _ => n - (intOf i).toNat)
  case atStart => exact ⟨0, 0, [], by omega, by omega, rfl, rfl, by simp, by simp, by simp, HE.out, HB0.out⟩
  case round =>
    obtain ⟨k, f, ws, hf, hk, rfl, rfl, hws, hno, hcut, ho, hb⟩ := hrel
    have HNO := Lib.hid hno
    have HC := Lib.hid hcut
    have HB := Lib.hid hb
    have HO := Lib.hid ho
    clear hno hcut hb ho
    by_cases hlt : k < n
    · obtain ⟨d, hd, hbk, hd2⟩ := HA.out k hlt
      have HD := Lib.hid (hd2 (by rw [← HN.out]; exact hlt))
      clear hd2
      by_cases hds : d = s
      · have hck : ((d : Int) == (s : Int)) = true := by rw [beq_iff_eq]; omega
        have hc : l[k]'(by rw [← HN.out]; exact hlt) = sp := UInt8.toNat_inj.1 (by rw [HD.out, ← HS.out]; exact hds)
        have HNX : Hid (cutAll sp l = (ws ++ [(l.drop f).take (k - f)]) ++ cutAll sp (l.drop (k + 1))) := by
          show _ = _
          have e := drop_split (l := l) hf (by rw [← HN.out]; exact hlt)
          have e2 := cutAll_at (l.drop (k + 1)) HNO.out
          rw [hc] at e
          rw [← e] at e2
          rw [HC.out, e2, List.append_assoc]
          rfl
        have hsz2 := HB.out.size
        clear hds hc
        go_wp2_with (at_builtin; refine wl_appB w.heap.size [.string (bs ((l.drop f).take (k - f)))] hsz2 rfl (.tmp 20) (.tmp 25) 62 rfl Tryd.eS _ ws.length _ rfl HO.out rfl (sv_one _) (by simp [maxLen]; omega) (by simp; omega) ?_; intro v' w4 ho4 hb4)
        go_roundw
        case rel => exact ⟨k + 1, k + 1, ws ++ [(l.drop f).take (k - f)], by omega, by omega, by go_num, by go_num, by simp; omega, by simp, HNX.out, by rw [List.map_append, List.length_append]; exact ho4, HB.out.trans (hb4.mono (Nat.le_refl _))⟩
        case measure => simp [intOf]; omega
      · have hck : ((d : Int) == (s : Int)) = false := by rw [beq_eq_false_iff_ne]; omega
        clear hds
        go_wp2_with fail
        go_roundw
        case rel =>
          refine ⟨k + 1, f, ws, by omega, by omega, by go_num, by go_num, by omega, ?_, HC.out, HO.out, HB.out⟩
          rw [drop_take_next hf (by rw [← HN.out]; exact hlt)]
          intro hm
          rcases List.mem_append.1 hm with hm | hm
          · exact HNO.out hm
          · have hc := List.mem_singleton.1 hm
            have := HD.out
            rw [← hc, ← HS.out] at this
            rw [this] at hck
            simp at hck
        case measure => simp [intOf]; omega
    · obtain rfl : k = n := by omega
      have hsz2 := HB.out.size
      have HW : Hid (cutAll sp l = ws ++ [(l.drop f).take (k - f)]) := by
        show _ = _
        have e : (l.drop f).take (k - f) = l.drop f := List.take_of_length_le (by rw [List.length_drop, ← HN.out]; omega)
        have h2 := HNO.out
        rw [e] at h2
        rw [HC.out, cutAll_no h2, e]
      go_wp2_with (at_builtin; refine wl_appB w.heap.size [.string (bs ((l.drop f).take (k - f)))] hsz2 rfl (.tmp 29) (.tmp 33) 62 rfl Tryd.eS _ ws.length _ rfl HO.out rfl (sv_one _) (by simp [maxLen]; omega) (by simp; omega) ?_; intro v' w4 ho4 hb4)
      obtain ⟨A4, c4, rfl⟩ := ho4.shape
      go_ret
      refine ⟨A4, _, c4, rfl, ?_, HB.out.trans hb4⟩
      rw [HW.out, List.map_append]
      exact ho4
end Go.Proofs.YtemcdeopehdggaaDoor
