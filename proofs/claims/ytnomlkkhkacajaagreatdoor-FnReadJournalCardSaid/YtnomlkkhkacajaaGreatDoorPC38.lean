/- Texts on the way to a law (H25, H26, H27, H28, Row8, Q4), each with its own remark. -/
import Derived.Test.YtnomlkkhkacajaaGreatDoorPC37
import Derived.Test.YtnomlkkhkacajaaGreatDoorPC35
import Derived.Test.YtnomlkkhkacajaaGreatDoorPC02
import Derived.Test.YtnomlkkhkacajaaGreatDoorPC11
import Derived.Test.YtnomlkkhkacajaaGreatDoorPC15
import Derived.Test.YtnomlkkhkacajaaGreatDoorCards
import Derived.Test.YtnomlkkhkacajaaGreatDoorTie
import Derived.Stop.LaidErr
import Derived.LaidMore
import Derived.MakeChecks
import Derived.LaidHandle
import Derived.Test.YtnomlkkhkacajaaGreatDoorPC19
import Derived.Shelf.Vars
import Derived.Lib.SmallJoins
import Derived.Deep.Slices
import Derived.Deep.Fields
import Derived.ChangeSame
namespace Go.Proofs.YtnomlkkhkacajaaGreatDoor
open Go.RowKit
open Go.Lib hiding intOf

set_option maxHeartbeats 4000000 in
set_option maxRecDepth 100000 in
theorem sDeskSay (A A' : Option Addr) (n c m c' : Nat) (d : Dk) (L : Option Addr) (l lc : Nat) (ls : List Txt) (w : World) (hd : DkV w 0 A n c A' m d) (hz : DkS d) (hls : Sl w L l (ls.map sv)) (hl : l ≤ 1048576) (ht : ∀ a ∈ ls, a.length ≤ 1048576)
    (hg : dkB d = true → ls.length ≤ 40 → ∃ a0, DkL d a0 ∧ 14 ≤ a0 ∧ a0 + 5 * (ls.length : Int) ≤ 122) :
    Calls Tryz.prog 24 #[.agg #[.slice A n c, .slice A' m c'], .slice L l lc] w (RetKS w (sayF d ls)) := by
  have hdl : ls.length = l := by have := hls.len; rwa [List.length_map] at this
  obtain ⟨w0, hw0⟩ : ∃ w0, w0 = ((w.alloc (.cells #[.slice A n c, .slice A' m c'] 26)).alloc (.cells #[.slice none 0 0, .slice none 0 0] 26)).alloc (.cells #[] 9) := ⟨_, rfl⟩
  have HB0 : Hid (Below w.heap.size w w0) := by rw [hw0]; exact (below2 w _ _).trans ((below_alloc _ _).mono (below2 w _ _).size)
  have HS0 : Hid (w0.heap.size = w.heap.size + 1 + 1 + 1) := by show _ = _; rw [hw0, size_alloc, size_alloc, size_alloc]
  have HK0 : Hid (KAt w0 w.heap.size (.slice A n c) (.slice A' m c')) := by rw [hw0]; exact ((KAt.new w _ _ _).below (below_alloc _ _) (by rw [size_alloc]; omega)).below (below_alloc _ _) (by rw [size_alloc, size_alloc]; omega)
  have HR0 : Hid (KAt w0 (w.heap.size + 1) (.slice none 0 0) (.slice none 0 0)) := by
    have h := KAt.new (w.alloc (.cells #[.slice A n c, .slice A' m c'] 26)) (.slice none 0 0) (.slice none 0 0) 26
    rw [size_alloc] at h
    rw [hw0]; exact h.below (below_alloc _ _) h.lt
  have HO0 : Hid (Ow w0 (w.heap.size + 1 + 1) 9 (.slice (some ⟨w.heap.size + 1 + 1, 0, none⟩) 0 0) 0 []) := by
    have h := Ow.empty ((w.alloc (.cells #[.slice A n c, .slice A' m c'] 26)).alloc (.cells #[.slice none 0 0, .slice none 0 0] 26)) 9
    rw [size_alloc, size_alloc] at h
    rw [hw0]; exact h
  have HV0 : Hid (DkV w0 0 A n c A' m d) := hd.below HB0.out
  have HOK : Hid (∀ w, DkV w 0 A n c A' m d → Calls Tryz.prog 17 #[.agg #[.slice A n c, .slice A' m c']] w fun e w' => e = .returned (.bool (dkB d)) ∧ Below w.heap.size w w') := fun w h => sDeskOk A A' n c m c' d w h hz
  have HCP : Hid (∀ w, DkV w 0 A n c A' m d → Calls Tryz.prog 39 #[.agg #[.slice A n c, .slice A' m c']] w (RetK w d)) := fun w h => sCopy A A' n c m c' d w h hz
  obtain ⟨k0, k1, l0, l1, l2⟩ := HK0.out
  by_cases hno : dkB d = false ∨ 40 < ls.length
  · have HF := Lib.hid (sayF_no hno)
    have key : dkB d = false ∨ (dkB d = true ∧ (40 : Int) < (l : Int)) := by
      cases hb : dkB d
      · exact .inl rfl
      · rcases hno with h | h
        · rw [h] at hb; cases hb
        · exact .inr ⟨rfl, by omega⟩
    clear hd hz hls hg ht hno hdl
    rcases key with hb | ⟨hb, h40⟩
    all_goals
      rw [hb] at HOK
      clear hb
      go_enter Tryz.func24, Tryz.ntmps24
      go_wp2_with fail
      rw [← hw0]
      clear hw0
      refine (HOK.out _ HV0.out).mono ?_
      rintro e w1 ⟨rfl, hb1⟩
      have HB1 : Hid (Below w.heap.size w w1) := HB0.out.trans (hb1.mono HB0.out.size)
      obtain ⟨r0, r1, s0, s1, s2⟩ := HR0.out.below hb1 HR0.out.lt
      have HO1 : Hid (Ow ((w1.setCell ⟨w.heap.size + 1, 0, none⟩ (.slice none 0 0)).setCell ⟨w.heap.size + 1, 1, none⟩ (.slice none 0 0)) (w.heap.size + 1 + 1) 9 (.slice (some ⟨w.heap.size + 1 + 1, 0, none⟩) 0 0) 0 []) := (HO0.out.below hb1).pk (((Pk.refl (w.heap.size + 1) _).setCell 0 _).setCell 1 _) (Nat.lt_succ_self _)
      clear hb1 k0 k1 l0 l1 l2
      go_wp2_with fail
      refine bodyPost_ret (v := .tuple #[.agg #[.slice none 0 0, .slice none 0 0], .slice (some ⟨w.heap.size + 1 + 1, 0, none⟩) 0 0]) (by simp [results, Tryz.results24, go_sem, r0, r1]) rfl ?_
      rw [HF.out]
      exact ⟨_, _, _, _, _, _, _, _, _, rfl, rfl, DkV.zero _ _, HO1.out, (HB1.out.setCell (p := ⟨w.heap.size + 1, 0, none⟩) (by show w.heap.size ≤ w.heap.size + 1; omega) _).setCell (p := ⟨w.heap.size + 1, 1, none⟩) (by show w.heap.size ≤ w.heap.size + 1; omega) _⟩
  have hb : dkB d = true := eq_true_of_ne_false fun h => hno (.inl h)
  have h40 : ls.length ≤ 40 := Nat.le_of_not_lt fun h => hno (.inr h)
  have h40i : ¬ (40 : Int) < (l : Int) := by omega
  have hl40 : l ≤ 40 := by omega
  obtain ⟨a0, ha1, ha2, ha3⟩ := hg hb h40
  have HF := Lib.hid (sayF_yes hb h40)
  have HG : Hid (∀ k, k < l → dkB (sayG (d, []) (ls.take k)).1 = true ∧ LvOk (sayG (d, []) (ls.take k)).1.now) := fun k hk => by
    have hlt : ((ls.take k).length : Int) ≤ (k : Int) := by rw [List.length_take]; omega
    obtain ⟨q1, q2⟩ := sayG_ok hb ha1 ha2 [] (ls.take k) (by omega)
    exact ⟨q1, (q2.mono (show a0 + 5 * ((ls.take k).length : Int) ≤ a0 + 5 * (k : Int) by omega)).lvok (by omega) (by omega)⟩
  have HDO : Hid (∀ (k : Nat) (x : Dk) (q : List Txt) (a : Txt) (w' : World) (A n c A' m c'), k < l → sayG (d, []) (ls.take k) = (x, q) → ls[k]? = some a → DkV w' 0 A n c A' m x → Calls Tryz.prog 21 #[.agg #[.slice A n c, .slice A' m c'], .string (bs a)] w' (RetKT w' (lineF x a))) := fun k x q a w' A n c A' m c' hk hx ha h => by
    obtain ⟨q1, q2⟩ := HG.out k hk
    rw [hx] at q1 q2
    exact sDeskLine A A' n c m c' x a w' h (DkS.ok q1) (fun _ => q2) (ht a (List.mem_of_getElem? ha))
  have HFL : Hid (sayG (d, []) (ls.take l) = sayF d ls) := by show _ = _; rw [HF.out, List.take_of_length_le (by omega)]
  have HTS : Hid (∀ k, k ≤ l → (sayG (d, []) (ls.take k)).2.length = k) := fun k hk => sayG_ts d ls k (by omega)
  have HLS := Lib.hid hls
  have HLL := Lib.hid hdl
  rw [hb] at HOK
  clear hd hz hls hg ht hno hb ha1 ha2 ha3 h40 hdl HG
  go_enter Tryz.func24, Tryz.ntmps24
  go_wp2_with fail
  rw [← hw0]
  clear hw0
  refine (HOK.out _ HV0.out).mono ?_
  rintro e w1 ⟨rfl, hb1⟩
  have HB1 : Hid (Below w.heap.size w w1) := HB0.out.trans (hb1.mono HB0.out.size)
  have HS1 : Hid (w.heap.size + 1 + 1 < w1.heap.size) := by show _ < _; have h1 := HS0.out; have h2 := hb1.size; omega
  have HO1 := Lib.hid (HO0.out.below hb1)
  have HR1 := Lib.hid (HR0.out.below hb1 HR0.out.lt)
  have HV1 := Lib.hid (HV0.out.below hb1)
  clear k0 k1 l0 l1 l2
  obtain ⟨k0, k1, l0, l1, l2⟩ := HK0.out.below hb1 HK0.out.lt
  clear hb1
  go_wp2_with fail
  refine (HCP.out _ HV1.out).mono ?_
  rintro e w2 ⟨A2, n2, c2, A3, m3, c3, rfl, hs2, hp2, hb2, _⟩
  have HS2 : Hid (w.heap.size + 1 + 1 < w2.heap.size) := Nat.lt_of_lt_of_le HS1.out hb2.size
  have HO2 := Lib.hid (HO1.out.below hb2)
  have HB2 : Hid (Below w.heap.size w w2) := HB1.out.trans (hb2.mono HB1.out.size)
  have HR2 := Lib.hid (HR1.out.below hb2 HR1.out.lt)
  have HN2 : Hid (DkV w2 w1.heap.size A2 n2 c2 A3 m3 d) := ⟨hs2, hp2.ps⟩
  obtain ⟨w3, hw3⟩ : ∃ w3, w3 = w2.alloc (.cells #[.slice A2 n2 c2, .slice A3 m3 c3] 26) := ⟨_, rfl⟩
  have HB3 : Hid (Below w2.heap.size w2 w3) := by rw [hw3]; exact below_alloc _ _
  have HK3 : Hid (KAt w3 w2.heap.size (.slice A2 n2 c2) (.slice A3 m3 c3)) := by rw [hw3]; exact KAt.new w2 _ _ _
  have HI3 : Hid (RunT w w2.heap.size w3 A2 n2 c2 A3 m3 c3 d (.slice (some ⟨w.heap.size + 1 + 1, 0, none⟩) 0 0) 0 []) := by
    have h1 := HS1.out
    have h2 := HS2.out
    have hx : DkX w3 w1.heap.size (Xt w w2.heap.size (.slice (some ⟨w.heap.size + 1 + 1, 0, none⟩) 0 0)) A2 n2 c2 A3 m3 d := (HN2.out.dkx (X := Xt w w2.heap.size (.slice (some ⟨w.heap.size + 1 + 1, 0, none⟩) 0 0)) fun b g1 g2 hx => by
      rcases hx with hx | hx | hx
      · omega
      · omega
      · have : some (w.heap.size + 1 + 1) = some b := hx
        injection this with this
        omega).kx (Kx.of HB3.out)
    exact ⟨HK3.out, HR2.out.below HB3.out HR2.out.lt, hx.mono HB1.out.size, HO2.out.below HB3.out, fun e => by
      have : some (w.heap.size + 1 + 1) = some w2.heap.size := e
      injection this with this
      omega, HB2.out.trans (HB3.out.mono HB2.out.size), by omega⟩
  clear k0 k1 l0 l1 l2 hs2 hp2 hb2
  obtain ⟨gb, hgb⟩ : ∃ gb, gb = w2.heap.size := ⟨_, rfl⟩
  go_wp2_with fail
  rw [← hw3, ← hgb]
  rw [← hgb] at HI3
  clear hw3 hgb HS0 HS1 HS2 HB0 HB1 HB2 HB3 HK3 HN2 HR0 HR1 HR2 HV0 HV1 HK0 HO0 HO1 HO2
  go_loopw [6, 8] (fun v i wr => ∃ (k : Nat) (q : List Txt) (A : Option Addr) (n c : Nat) (A' : Option Addr) (m c' : Nat) (x : Dk), k ≤ l ∧ i = .int .i64 k ∧ sayG (d, []) (ls.take k) = (x, q) ∧ RunT w gb wr A n c A' m c' x v q.length (q.map sv)) (fun _ i _ => l - (intOf i).toNat)
  case atStart => first | exact ⟨0, [], _, _, _, _, _, _, d, by omega, rfl, rfl, HI3.out⟩ | ((repeat apply Exists.intro); exact ⟨by omega, rfl, rfl, HI3.out⟩)
  case round =>
    obtain ⟨k, q, A4, n4, c4, A5, m5, c5, x, hk, rfl, hrun, hi⟩ := hrel
    have HI := Lib.hid hi
    have HRUN := Lib.hid hrun
    have HQL : Hid (q.length = k) := by have h := HTS.out k hk; rw [hrun] at h; exact h
    clear hrun hi
    by_cases hlt : k < l
    · obtain ⟨b, o, rfl, hbl, hc⟩ := HLS.out.at_ hlt
      obtain ⟨a, ha⟩ : ∃ a, ls[k]? = some a := ⟨_, List.getElem?_eq_getElem (by rw [HLL.out]; exact hlt)⟩
      have hck : wr.cell? ⟨b, o + k, none⟩ = some (.string (bs a)) := (HI.out.below.cell (p := ⟨b, o + k, none⟩) hbl).trans (hc k _ (by rw [List.getElem?_map, ha]; rfl))
      have HT : Hid (sayG (d, []) (ls.take (k + 1)) = ((lineF x a).1, q ++ [(lineF x a).2])) := by show _ = _; rw [sayG_take ha, HRUN.out]; rfl
      have KDO := Lib.hid (fun w' h => HDO.out k x q a w' A4 n4 c4 A5 m5 c5 hlt HRUN.out ha h)
      have hbr : b < wr.heap.size := Nat.lt_of_lt_of_le hbl HI.out.below.size
      have HCK := Lib.hid hck
      clear ha hc
      obtain ⟨g0, g1, q0, q1, q2⟩ := HI.out.at_
      obtain ⟨⟨y, t⟩, hy⟩ : ∃ r, lineF x a = r := ⟨_, rfl⟩
      rw [hy] at HT KDO
      clear hy
      go_wp2_with fail
      go_region_law ((go_simp; go_at_call 21; first
        | ((with_reducible refine Calls.mono (KDO.out _ ((HI.out.step (Below.refl _ wr).drew).dk.dkv.mono (Nat.zero_le _))) ?_); rintro e w5 ⟨A6, n6, c6, A7, m7, c7, rfl, hn5, hb5⟩; have HB5 := Lib.hid (below_d hb5); have HN5 : Hid (DkV w5 wr.heap.size A6 n6 c6 A7 m7 y) := hn5; have HI5 := Lib.hid (HI.out.step HB5.out); obtain ⟨w8, hw8⟩ : ∃ w8, w8 = (((w5.setCell ⟨gb, 0, none⟩ (.slice A6 n6 c6)).setCell ⟨gb, 1, none⟩ (.slice A7 m7 c7)).alloc (.cells #[.slice A6 n6 c6, .slice A7 m7 c7] 26)) := ⟨_, rfl⟩; have HR8 : Hid (RunT w gb w8 A6 n6 c6 A7 m7 c7 y u6 q.length (q.map sv)) := (by rw [hw8]; exact (HI.out.new (c7 := c7) HB5.out HN5.out).step (below_alloc _ _)); have hn9 : ¬ gb = w5.heap.size := (Nat.ne_of_lt HI5.out.at_.lt); clear hn5 hb5; obtain ⟨g3, g4, q3, q4, q5⟩ := HI5.out.at_)
        | ((with_reducible refine Calls.mono (KDO.out _ ((HI.out.step (below_alloc wr (.cells #[.slice none 0 0, .slice none 0 0] 26)).drew).dk.dkv.mono (Nat.zero_le _))) ?_); rintro e w5 ⟨A6, n6, c6, A7, m7, c7, rfl, hn5, hb5⟩; have HB5 := Lib.hid (below_da hb5); have HN6 : Hid (DkV w5 (wr.heap.size + 1) A6 n6 c6 A7 m7 y) := hn5.mono (Nat.le_of_eq (size_alloc wr (.cells #[.slice none 0 0, .slice none 0 0] 26)).symm); have HX5 := Lib.hid (((KAt.new wr (.slice none 0 0) (.slice none 0 0) 26).below (Below.refl _ _).drew (KAt.new wr (.slice none 0 0) (.slice none 0 0) 26).lt).below hb5 (KAt.new wr (.slice none 0 0) (.slice none 0 0) 26).lt); have HI5 := Lib.hid (HI.out.step HB5.out); obtain ⟨w8, hw8⟩ : ∃ w8, w8 = ((((w5.setCell ⟨wr.heap.size, 0, none⟩ (.slice A6 n6 c6)).setCell ⟨wr.heap.size, 1, none⟩ (.slice A7 m7 c7)).setCell ⟨gb, 0, none⟩ (.slice A6 n6 c6)).setCell ⟨gb, 1, none⟩ (.slice A7 m7 c7)) := ⟨_, rfl⟩; have HR8 : Hid (RunT w gb w8 A6 n6 c6 A7 m7 c7 y u6 q.length (q.map sv)) := (by rw [hw8]; exact HI.out.new (c7 := c7) ((HB5.out.setCell (p := ⟨wr.heap.size, 0, none⟩) (Nat.le_refl _) (.slice A6 n6 c6)).setCell (p := ⟨wr.heap.size, 1, none⟩) (Nat.le_refl _) (.slice A7 m7 c7)) ((HN6.out.pk (((Pk.refl wr.heap.size w5).setCell 0 (.slice A6 n6 c6)).setCell 1 (.slice A7 m7 c7)) (Nat.lt_succ_self _)).mono (Nat.le_succ _))); have hn9 : ¬ gb = wr.heap.size := (Nat.ne_of_lt HI.out.at_.lt); clear hn5 hb5; obtain ⟨x3, x4, y3, y4, y5⟩ := HX5.out; obtain ⟨g3, g4, q3, q4, q5⟩ := HI5.out.at_)))
      all_goals
        have hq40 : q.length ≤ 40 := by rw [HQL.out]; omega
        go_upto_region 10 with fail
        rw [← hw8]
        clear hw8
        go_wp2_with (at_builtin; refine wl_appW (w.heap.size + 1 + 1) (.string (bs t)) (by have h1 := HR8.out.gt; have h2 := HR8.out.at_.lt; omega) rfl (.tmp 40) (.tmp 42) 45 rfl Tryz.eS _ q.length _ rfl HR8.out.out rfl rfl (by unfold maxLen; omega) (by omega) ?_; intro v9 w9 ho9 hb9 hk9 hl9; have HR9 := Lib.hid (HR8.out.app ho9 hb9 hk9 hl9); clear ho9 hb9 hk9 hl9)
        go_roundw
        case rel => exact ⟨k + 1, q ++ [t], _, _, _, _, _, _, y, by omega, by go_num, HT.out, by rw [List.length_append, List.map_append]; exact HR9.out⟩
        case measure => simp [intOf]; omega
    · obtain rfl : k = l := by omega
      obtain ⟨T, tc, rfl⟩ := HI.out.out.shape
      have HR : Hid (RetKS w (sayF d ls) (.returned (.tuple #[.agg #[.slice A4 n4 c4, .slice A5 m5 c5], .slice T q.length tc])) ((wr.setCell ⟨w.heap.size + 1, 0, none⟩ (.slice A4 n4 c4)).setCell ⟨w.heap.size + 1, 1, none⟩ (.slice A5 m5 c5))) := by
        have h := HI.out
        have h2 := h.ret rfl
        rw [← HRUN.out, HFL.out] at h2
        exact h2
      obtain ⟨g0, g1, q0, q1, q2⟩ := HI.out.at_
      obtain ⟨r0, r1, s0, s1, s2⟩ := HI.out.res
      have hgr := HI.out.gt
      go_wp2_with fail
      refine bodyPost_ret (v := .tuple #[.agg #[.slice A4 n4 c4, .slice A5 m5 c5], .slice T q.length tc]) (by simp [results, Tryz.results24, go_sem, r0, r1]) rfl ?_
      exact HR.out
end Go.Proofs.YtnomlkkhkacajaaGreatDoor
namespace Go.Proofs.YtnomlkkhkacajaaGreatDoor
open Go.RowKit
open Go.Lib hiding intOf

theorem Sl.txt_at {w : World} {A : Option Addr} {n k : Nat} {ts : List Txt} (h : Sl w A n (ts.map sv)) (hk : k < n) :
    ∃ b o t, A = some ⟨b, o, none⟩ ∧ b < w.heap.size ∧ ts[k]? = some t ∧ w.cell? ⟨b, o + k, none⟩ = some (.string (bs t)) := by
  obtain ⟨b, o, rfl, hb, hc⟩ := h.at_ hk
  have hl := h.len
  rw [List.length_map] at hl
  have ht : ts[k]? = some (ts[k]'(by omega)) := List.getElem?_eq_getElem (by omega)
  exact ⟨b, o, _, rfl, hb, ht, hc k _ (by rw [List.getElem?_map, ht]; rfl)⟩
set_option maxHeartbeats 1000000 in
theorem sameTexts_true (A B : Option Addr) (n c m c2 : Nat) (ts : List Txt) (w : World) (hn : n ≤ 1048576) (h1 : Sl w A n (ts.map sv)) (h2 : Sl w B m (ts.map sv)) :
    Calls Tryz.prog 25 #[.slice A n c, .slice B m c2] w fun e w' => e = .returned (.bool true) ∧ Below w.heap.size w w' := by
  obtain rfl : n = m := by rw [← h1.len, ← h2.len]
  have H1 := Lib.hid h1
  have H2 := Lib.hid h2
  clear h1 h2
  go_enter Tryz.func25, Tryz.ntmps25
  go_wp2_with fail
  go_loopw [5] (fun i wr => ∃ k j : Nat, k ≤ n ∧ i = .int .i64 k ∧ wr = w.drewN j) (fun i _ => n - (intOf i).toNat)
  case atStart => first | exact ⟨0, 0, by omega, rfl, rfl⟩ | ((repeat apply Exists.intro); exact ⟨by omega, rfl, rfl⟩)
  case round =>
    obtain ⟨k, j, hk, rfl, rfl⟩ := hrel
    by_cases hlt : k < n
    · obtain ⟨b, o, t, rfl, hb, ht, hc⟩ := H1.out.txt_at hlt
      obtain ⟨b2, o2, t2, rfl, hb2, ht2, hc2⟩ := H2.out.txt_at hlt
      obtain rfl : t = t2 := Option.some.inj (ht.symm.trans ht2)
      have hd : (w.drewN j).cell? ⟨b, o + k, none⟩ = some (.string (bs t)) := hc
      have hd2 : (w.drewN j).cell? ⟨b2, o2 + k, none⟩ = some (.string (bs t)) := hc2
      obtain ⟨wr, hwr⟩ : ∃ wr, wr = w.drewN j := ⟨_, rfl⟩
      rw [← hwr] at hd hd2 ⊢
      have HW := Lib.hid hwr
      clear hwr hc hc2 ht ht2
      go_wp2_with fail
      go_quiet (fail)
      go_wp2_with fail
      go_roundw
      case rel => exact ⟨k + 1, j + nq, by omega, by go_num, by rw [HW.out, World.drewN_drewN]⟩
      case measure => simp [intOf]; omega
    · obtain rfl : k = n := by omega
      go_wp2_with fail
      go_ret
      exact ⟨rfl, below_drewN (Below.refl _ _) j⟩
end Go.Proofs.YtnomlkkhkacajaaGreatDoor
namespace Go.Proofs.YtnomlkkhkacajaaGreatDoor
open Go.RowKit
open Go.Lib hiding intOf

/-- A desk and lines, drawn. -/
def RetDY (w : World) (e : Ending) (w' : World) : Prop :=
  ∃ (A : Option Addr) (n c : Nat) (A' : Option Addr) (m c' : Nat) (d : Dk) (L : Option Addr) (l lc : Nat) (ls : List Txt), e = .returned (.tuple #[.agg #[.slice A n c, .slice A' m c'], .slice L l lc]) ∧ DkV w' w.heap.size A n c A' m d ∧ DkS d ∧ (dkB d = true → DkL d 39) ∧ Ow w' w.heap.size 9 (.slice L l lc) l (ls.map sv) ∧ l ≤ 41 ∧ (l ≤ 40 → l ≤ 6) ∧ (∀ a ∈ ls, a.length ≤ 1048576) ∧ Below w.heap.size w w'
set_option maxHeartbeats 2000000 in
set_option maxRecDepth 100000 in
theorem drawDeskSay_any (A : Option Addr) (n c : Nat) (w : World) (hnc : n ≤ c) (hn : n ≤ 1048576) (h : Code8 w A n) :
    Calls Tryz.prog 22 #[.slice A n c] w (RetDY w) := by
  have HC := Lib.hid h
  clear h
  obtain ⟨w0, hw0⟩ : ∃ w0, w0 = w.alloc (.cells #[.slice none 0 0, .slice none 0 0] 26) := ⟨_, rfl⟩
  have HSZ : Hid (w0.heap.size = w.heap.size + 1) := by show _ = _; rw [hw0, size_alloc]
  have HB0 : Hid (Below w.heap.size w w0) := by rw [hw0]; exact below_alloc _ _
  have HK0 : Hid (KAt w0 w.heap.size (.slice none 0 0) (.slice none 0 0)) := by rw [hw0]; exact KAt.new w _ _ _
  go_enter Tryz.func22, Tryz.ntmps22
  go_wp2_with fail
  rw [← hw0]
  clear hw0
  refine (open_any A n c _ hnc hn (code8_below HC.out HB0.out)).mono ?_
  rintro e w1 ⟨g, rfl, hg, hr1, hb1⟩
  have HB1 : Hid (Below w.heap.size w w1) := HB0.out.trans (hb1.mono (by rw [HSZ.out]; omega))
  have HK1 := Lib.hid (HK0.out.below hb1 (by rw [HSZ.out]; omega))
  have HG : Hid (w.heap.size + 1 ≤ g) := by show _ ≤ _; rw [← HSZ.out]; exact hg
  clear hb1 hg
  go_wp2_with fail
  refine (desk_any g 0 12 w1 (by omega) (by omega) hr1).mono ?_
  rintro e w2 ⟨A2, n2, c2, A3, m2, c3, d, rfl, hdk, hds, hdl, hr2, hp2⟩
  have hgn : w.heap.size ≠ g := by have := HG.out; omega
  have hgl := hr1.lt
  have HP2 := Lib.hid hp2
  have HK2 := Lib.hid (HK1.out.pk hp2 hgn)
  have hg2 : g < w2.heap.size := Nat.lt_of_lt_of_le hgl hp2.size
  obtain ⟨w3, hw3⟩ : ∃ w3, w3 = w2.alloc (.cells #[.slice A2 n2 c2, .slice A3 m2 c3] 26) := ⟨_, rfl⟩
  have HB3 : Hid (Below w2.heap.size w2 w3) := by rw [hw3]; exact below_alloc _ _
  have HX3 : Hid (KAt w3 w2.heap.size (.slice A2 n2 c2) (.slice A3 m2 c3)) := by rw [hw3]; exact KAt.new w2 _ _ _
  have HK3 := Lib.hid (HK2.out.below HB3.out HK2.out.lt)
  have HV3 := Lib.hid (hdk.below HB3.out)
  have HR3 := Lib.hid (hr2.below HB3.out)
  have HP3 : Hid (Pk g w1 w3) := HP2.out.trans (Pk.of_below HB3.out)
  obtain ⟨w4, hw4⟩ : ∃ w4, w4 = w3.alloc (.cells #[] 9) := ⟨_, rfl⟩
  have HB4 : Hid (Below w3.heap.size w3 w4) := by rw [hw4]; exact below_alloc _ _
  have HO4 : Hid (Ow w4 w3.heap.size 9 (.slice (some ⟨w3.heap.size, 0, none⟩) 0 0) 0 []) := by rw [hw4]; exact Ow.empty w3 _
  have HR4 := Lib.hid (HR3.out.below HB4.out)
  have HP4 : Hid (Pk g w3 w4) := Pk.of_below HB4.out
  have hgx : w2.heap.size ≠ g := by omega
  have hg3 : g < w3.heap.size := HR3.out.lt
  have hS3 : Hid (w3.heap.size = w2.heap.size + 1) := by show _ = _; rw [hw3, size_alloc]
  obtain ⟨B, hB⟩ : ∃ B, B = w3.heap.size := ⟨_, rfl⟩
  have HBB := Lib.hid hB
  clear hdk hp2 hr1 hr2
  go_upto_region 4 with fail
  rw [← hw3, ← hw4, ← hS3.out, ← hB]
  rw [← hB] at HO4 hg3
  clear hw3 hw4 hB
  go_wp2_with fail
  refine (pick_any g (0 + 400) 7 w4 (by omega) (by omega) HR4.out).mono ?_
  rintro e w5 ⟨v, rfl, ⟨v1, v2, _⟩, hr5, hp5⟩
  obtain ⟨v, rfl⟩ := Int.eq_ofNat_of_zero_le v1
  have hv : v < 7 := by have := v2 (by omega); omega
  have HR5 := Lib.hid hr5
  have HP5 : Hid (Pk g w3 w5) := HP4.out.trans hp5
  have HO5 := Lib.hid (HO4.out.pk hp5 hg3)
  clear hr5 hp5 v1 v2
  go_wp2_with fail
  go_loopw [6, 7] (fun s i wr => ∃ (j p : Nat) (ls : List Txt), i = .int .i64 j ∧ j + ls.length ≤ 6 ∧ p ≤ 401 + 80 * ls.length ∧ Rd wr g p ∧ Pk g w3 wr ∧ Ow wr B 9 s ls.length (ls.map sv) ∧ ∀ a ∈ ls, a.length ≤ 1048576) (fun _ i _ => (intOf i).toNat)
  case atStart => first | exact ⟨v, 0 + 400 + 1, [], rfl, by simp; omega, by simp, HR5.out, HP5.out, HO5.out, fun a ha => by cases ha⟩ | ((repeat apply Exists.intro); exact ⟨rfl, by simp; omega, by simp, HR5.out, HP5.out, HO5.out, fun a ha => by cases ha⟩)
  case round =>
    obtain ⟨j, p, ls, rfl, hj, hp, hr, hpk, ho, hall⟩ := hrel
    have HR := Lib.hid hr
    have HPK := Lib.hid hpk
    have HO := Lib.hid ho
    have HALL := Lib.hid hall
    clear hr hpk ho hall
    by_cases hlt : 0 < j
    · obtain ⟨j, rfl⟩ : ∃ i, j = i + 1 := ⟨j - 1, by omega⟩
      have hji : (0 : Int) < ((j + 1 : Nat) : Int) := by omega
      have e1 : IntKind.i64.wrap (((j + 1 : Nat) : Int) - 1) = (j : Int) := by rw [IntWalk.i64_in _ (by omega)]; omega
      have hl6 : ls.length ≤ 5 := by omega
      go_wp2_with fail
      refine (line_any g p wr (by omega) HR.out).mono ?_
      rintro e w6 ⟨a, rfl, ha, hr6, hp6⟩
      have HR6 := Lib.hid hr6
      have HP6 : Hid (Pk g w3 w6) := HPK.out.trans hp6
      have HO6 := Lib.hid (HO.out.pk hp6 hg3)
      have hsz : B ≤ w6.heap.size := by rw [HBB.out]; exact HP6.out.size
      have HA := Lib.hid ha
      clear hr6 hp6 ha
      go_wp2_with (at_builtin; refine wl_appB B [.string (bs a)] hsz rfl (.tmp 19) (.tmp 22) 45 rfl Tryz.eS _ ls.length _ rfl HO6.out rfl (sv_one _) (by simp [maxLen]; omega) (by simp; omega) ?_; intro v' w7 ho7 hb7; have HO7 := Lib.hid ho7; have HB7 := Lib.hid hb7; clear ho7 hb7)
      go_roundw
      case rel => exact ⟨j, p + 80, ls ++ [a], by rfl, by rw [List.length_append, List.length_singleton]; omega, by rw [List.length_append, List.length_singleton]; omega, HR6.out.belowB HB7.out hg3, HP6.out.belowB HB7.out (by rw [HBB.out]; exact Nat.le_refl _), by rw [List.map_append, List.length_append]; exact HO7.out, fun b hb => by
        rcases List.mem_append.1 hb with hb | hb
        · exact HALL.out b hb
        · rw [List.mem_singleton.1 hb]; exact HA.out⟩
      case measure => simp [intOf]
    · obtain rfl : j = 0 := by omega
      go_wp2_with fail
      refine (odd_any g p 30 wr (by omega) (by omega) HR.out).mono ?_
      rintro e w6 ⟨b, rfl, _, _, hp6⟩
      have HP6 : Hid (Pk g w3 w6) := HPK.out.trans hp6
      have HO6 := Lib.hid (HO.out.pk hp6 hg3)
      have HK6 := Lib.hid (HK3.out.pk HP6.out hgn)
      have HX6 := Lib.hid (HX3.out.pk HP6.out hgx)
      have HV6 := Lib.hid (HV3.out.pk HP6.out hgl)
      have hx1 : w.heap.size < w1.heap.size := HK1.out.lt
      have hxB : w.heap.size < B := by rw [HBB.out]; exact HK3.out.lt
      have HW6 : Hid (Below w.heap.size w w6) := HB1.out.trans ((HP3.out.trans HP6.out).below (by have := HG.out; omega) HB1.out.size)
      clear hp6
      obtain ⟨x0, x1, y0, y1, y2⟩ := HX6.out
      obtain ⟨r0, r1, s0, s1, s2⟩ := HK6.out
      cases b with
      | true =>
        go_wp2_with (at_make; refine wl_make (w0 := w6) rfl (.const (.int .i64 41)) (.const (.int .i64 41)) 45 rfl Tryz.eS .i64 .i64 41 _ _ rfl rfl rfl rfl (by omega) (by unfold maxLen; omega) (Below.refl _ _) ?_; intro w7 hown hb7 _; have HO7 := Lib.hid hown; have HB7 := Lib.hid hb7; obtain ⟨x3, x4, y3, y4, y5⟩ := HX6.out.below hb7 HX6.out.lt; obtain ⟨r3, r4, s3, s4, s5⟩ := HK6.out.below hb7 HK6.out.lt; clear hown hb7 x0 x1 y0 y1 y2 r0 r1 s0 s1 s2)
        have HV7 := Lib.hid (HV6.out.below HB7.out)
        have HW7 : Hid (Below w.heap.size w w7) := HW6.out.trans (HB7.out.mono HW6.out.size)
        have hpk : Hid (Pk w.heap.size w7 ((w7.setCell ⟨w.heap.size, 0, none⟩ (.slice A2 n2 c2)).setCell ⟨w.heap.size, 1, none⟩ (.slice A3 m2 c3))) := ((Pk.refl _ _).setCell 0 _).setCell 1 _
        have hl6 : w.heap.size < w6.heap.size := HK6.out.lt
        have HO8 : Hid (Ow w7 w6.heap.size 9 (.slice (some ⟨w6.heap.size, 0, none⟩) 41 41) 41 ((List.replicate 41 ([] : Txt)).map sv)) := HO7.out
        go_wp2_with fail
        refine bodyPost_ret (v := .tuple #[.agg #[.slice A2 n2 c2, .slice A3 m2 c3], .slice (some ⟨w6.heap.size, 0, none⟩) 41 41]) (by simp [results, Tryz.results22, go_sem, r3, r4]) rfl ?_
        exact ⟨_, _, _, _, _, _, d, _, _, _, List.replicate 41 [], rfl, (HV7.out.pk hpk.out (by omega)).mono (by omega), hds, hdl, (HO8.out.pk hpk.out hl6).mono (by omega), by omega, by omega, (fun a ha => by rw [(List.mem_replicate.1 ha).2]; decide), (HW7.out.setCell (p := ⟨w.heap.size, 0, none⟩) (Nat.le_refl _) _).setCell (p := ⟨w.heap.size, 1, none⟩) (Nat.le_refl _) _⟩
      | false =>
        have hpk : Hid (Pk w.heap.size w6 ((w6.setCell ⟨w.heap.size, 0, none⟩ (.slice A2 n2 c2)).setCell ⟨w.heap.size, 1, none⟩ (.slice A3 m2 c3))) := ((Pk.refl _ _).setCell 0 _).setCell 1 _
        obtain ⟨L, lc, rfl⟩ := HO6.out.shape
        go_wp2_with fail
        refine bodyPost_ret (v := .tuple #[.agg #[.slice A2 n2 c2, .slice A3 m2 c3], .slice L ls.length lc]) (by simp [results, Tryz.results22, go_sem, r0, r1]) rfl ?_
        exact ⟨_, _, _, _, _, _, d, _, _, _, ls, rfl, (HV6.out.pk hpk.out (by omega)).mono (by omega), hds, hdl, (HO6.out.pk hpk.out hxB).mono (by omega), by omega, by omega, HALL.out, (HW6.out.setCell (p := ⟨w.heap.size, 0, none⟩) (Nat.le_refl _) _).setCell (p := ⟨w.heap.size, 1, none⟩) (Nat.le_refl _) _⟩
end Go.Proofs.YtnomlkkhkacajaaGreatDoor
namespace Go.Proofs.YtnomlkkhkacajaaGreatDoor
open Go.RowKit
open Go.Lib hiding intOf

theorem Sl.take_ {w : World} {A : Option Addr} {l h : Nat} {ts : List Txt} (hd : Sl w A l (ts.map sv)) (hh : h ≤ l) : Sl w A h ((ts.take h).map sv) := by
  have hl := hd.len
  rw [List.length_map] at hl
  refine ⟨by rw [List.length_map, List.length_take]; omega, ?_⟩
  rcases hd.2 with h0 | ⟨b, o, hA, hb, hc⟩
  · exact .inl (by omega)
  · refine .inr ⟨b, o, hA, hb, fun k v hv => hc k v ?_⟩
    rw [List.map_take, List.getElem?_take] at hv
    split at hv
    · exact hv
    · cases hv
theorem Sl.drop_ {w : World} {b o l h : Nat} {ts : List Txt} (hd : Sl w (some ⟨b, o, none⟩) l (ts.map sv)) (hh : h < l) : Sl w (some ⟨b, o + h, none⟩) (l - h) ((ts.drop h).map sv) := by
  have hl := hd.len
  rw [List.length_map] at hl
  refine ⟨by rw [List.length_map, List.length_drop]; omega, ?_⟩
  rcases hd.2 with h0 | ⟨b', o', hA, hb, hc⟩
  · omega
  · injection hA with hA
    injection hA with h1 h2
    subst h1; subst h2
    refine .inr ⟨b, o + h, rfl, hb, fun k v hv => ?_⟩
    rw [List.map_drop, List.getElem?_drop] at hv
    have := hc (h + k) v hv
    rwa [show o + (h + k) = o + h + k by omega] at this
/-- Halves of the lines, said one after the other. -/
theorem say_half {d : Dk} {ls : List Txt} {k : Nat} (hk : dkB d = true) (hd : DkL d 39) (h6 : ls.length ≤ 6) :
    dkB (sayF d (ls.take k)).1 = true ∧ DkL (sayF d (ls.take k)).1 69 ∧ (sayF (sayF d (ls.take k)).1 (ls.drop k)).1 = (sayF d ls).1 ∧ (sayF d (ls.take k)).2 ++ (sayF (sayF d (ls.take k)).1 (ls.drop k)).2 = (sayF d ls).2 := by
  have e : ls.take k ++ ls.drop k = ls := List.take_append_drop k ls
  have hlt : (ls.take k).length ≤ 6 := by rw [List.length_take]; omega
  obtain ⟨h1, h2, h3, h4⟩ := sayF_two (l1 := ls.take k) (l2 := ls.drop k) hk hd (by omega) (by rw [e]; omega) (by rw [e]; omega)
  rw [e] at h3 h4
  exact ⟨h1, h2.mono (by omega), h3, h4⟩
/-- What the lines leave: a desk, and as many answers, none of them empty. -/
theorem say_good {d : Dk} {ls : List Txt} (hk : dkB d = true) (hd : DkL d 39) (h6 : ls.length ≤ 6) :
    dkB (sayF d ls).1 = true ∧ DkL (sayF d ls).1 69 ∧ (sayF d ls).2.length = ls.length ∧ ∀ t ∈ (sayF d ls).2, t ≠ [] := by
  rw [sayF_yes hk (by omega)]
  obtain ⟨h1, h2⟩ := sayG_ok hk hd (by omega) [] ls (by omega)
  exact ⟨h1, h2.mono (by omega), sayG_len d ls, sayG_ne hk hd (by omega) ls (by omega)⟩
theorem Ow.nil0 {w : World} {B n c : Nat} {E : TypeId} {A : Option Addr} {vs : List Value} (h : Ow w B E (.slice A n c) n vs) : n ≤ c ∧ c ≤ maxLen ∧ (A = none ∧ n = 0 ∧ c = 0 ∨ ∃ g, A = some ⟨g, 0, none⟩) := by
  rcases h.2 with ⟨hv, hn⟩ | ⟨g, cap, cur, hv, hg, hh, hnc, hcm, _⟩
  · injection hv with h1 h2 h3
    exact ⟨by omega, by rw [h3]; exact Nat.zero_le _, .inl ⟨h1, hn, h3⟩⟩
  · injection hv with h1 h2 h3
    subst h1
    exact ⟨by omega, by omega, .inr ⟨g, rfl⟩⟩
/-- append(out, us...) under a guard that holds. -/
theorem wl_appSg {P : Program} {w : World} {ops : Array Oper} {rest : List Oper} {o : Oper} {a : Act} {Q : Exit → Act → World → Prop} (B : Nat) (us : List Value) (hB : B ≤ w.heap.size) (hw : Region.wanted o (yielded ops a.tmps) = true) (s x : Operand) (t : TypeId) (ho : o.op = .call { callee := .builtin .append, args := #[s, x], argTypes := #[t, t] })
    {E : TypeId} {z : Value} {bytes : Nat} (he : Elem P t E z bytes) (v : Value) (n : Nat) (vs : List Value) (hs : a.eval s = v) (hown : Ow w B E v n vs)
    (A : Option Addr) (m c : Nat) (hx : a.eval x = .slice A m c) (hnil : A = none → c = 0) (hsl : Sl w A m us) (hu : ∀ u ∈ us, u.oneCell' = true) (h63 : n + m ≤ maxLen) (hbytes : (n + m) * bytes ≤ 140737488355328)
    (h : ∀ v' w', Ow w' B E v' (n + m) (vs ++ us) → Below B w w' → wpList P ops Q rest (a.put o.dst v') w') : wpList P ops Q (o :: rest) a w :=
  wpList_step fun K hK => by
    rw [if_pos hw]
    exact wp_appS B us hB s x t ho he v n vs hs hown A m c hx hnil hsl hu h63 hbytes fun v' w' h1 h2 => hK _ _ (h v' w' h1 h2)
/-- What is said of a desk's signal, and again behind the line that writes it. -/
theorem say_fin {x : Dk} {tx ok ag : Txt} {z : Dk} (h : dkB x = true) (hl : DkL x 69) (e1 : orN (sigT x.now) = tx) (e2 : lineF x (tWrite tx) = (z, ok)) (e3 : orN (sigT z.now) = ag) :
    tx.length ≤ 705 ∧ dkB z = true ∧ DkL z 74 ∧ ((tx == [110, 111, 110, 101]) = true ∨ ((tx == [110, 111, 110, 101]) = false ∧ ok = [111, 107] ∧ ag = tx)) := by
  obtain ⟨h1, h2⟩ := lineF_lv (l := tWrite tx) h hl (by omega) (by omega)
  rw [e2] at h1 h2
  have hlen : tx.length ≤ 705 := by
    have := sigT_len x.now
    rw [← e1]
    cases hs : sigT x.now with
    | none => show tNone.length ≤ 705; decide
    | some t => rw [hs] at this; exact this
  refine ⟨hlen, h1, h2, ?_⟩
  cases hn : tx == [110, 111, 110, 101]
  · refine .inr ⟨rfl, ?_⟩
    cases hs : sigT x.now with
    | none => rw [hs] at e1; subst e1; exact absurd hn (by decide)
    | some t =>
      obtain rfl : t = tx := by rw [← e1, hs]; rfl
      obtain ⟨a1, a2⟩ := say_again h hs
      rw [e2] at a1 a2
      exact ⟨a1, by rw [← e3, show sigT z.now = some t from a2]; rfl⟩
  · exact .inl rfl
theorem svs_one (ts : List Txt) : ∀ u ∈ ts.map sv, u.oneCell' = true := fun u hu => by
  obtain ⟨t, _, rfl⟩ := List.mem_map.1 hu
  rfl
end Go.Proofs.YtnomlkkhkacajaaGreatDoor
namespace Go.Proofs.YtnomlkkhkacajaaGreatDoor
open Go.RowKit

theorem cell_spot {w : World} {x : Addr} {v : Value} (h : w.cell? x = some v) : x = ⟨x.block, x.off, none⟩ ∧ x.block < w.heap.size := by
  refine ⟨?_, World.block_lt_of_cell? w x h⟩
  obtain ⟨b, o, s⟩ := x
  cases s with
  | none => rfl
  | some s =>
    unfold World.cell? at h
    split at h
    · simp at h
    · cases h
theorem add_none (b o i : Nat) : (⟨b, o, none⟩ : Addr).add i = ⟨b, o + i, none⟩ := by
  unfold Addr.add
  split
  · rename_i h; subst h; rfl
  · rfl
end Go.Proofs.YtnomlkkhkacajaaGreatDoor

namespace Go.Proofs.YtnomlkkhkacajaaGreatDoor
open Go.RowKit

theorem code_of_cells {w : World} {a : Option Addr} {len cap : Nat} {zs : List Int}
    (h : (a = none ∧ len = 0 ∧ cap = 0 ∧ zs = []) ∨
      ∃ x, a = some x ∧ len ≤ cap ∧ cap ≤ maxLen ∧ zs.length = cap ∧ (∀ i, i < zs.length → w.cell? (x.add i) = some (.int .u8 (zs.getD i 0))) ∧ ∀ n ∈ zs, (Lit.int .u8 n).wf = true) :
    Code8 w a len ∧ len ≤ cap := by
  rcases h with ⟨rfl, rfl, rfl, rfl⟩ | ⟨x, rfl, hl, hm, hz, hc, hw⟩
  · exact ⟨.inl rfl, Nat.le_refl _⟩
  · refine ⟨?_, hl⟩
    rcases Nat.eq_zero_or_pos len with h0 | h0
    · exact .inl h0
    · right
      have h1 := hc 0 (by omega)
      have e0 : x.add 0 = x := rfl
      rw [e0] at h1
      obtain ⟨e, hb⟩ := cell_spot h1
      refine ⟨x.block, x.off, by rw [← e], hb, fun i hi => ?_⟩
      have h2 := hc i (by omega)
      rw [e, add_none] at h2
      have h3 : i < zs.length := by omega
      rw [List.getD_eq_getElem?_getD, List.getElem?_eq_getElem h3] at h2
      have h4 := hw _ (List.getElem_mem h3)
      simp only [Option.getD_some] at h2
      have h5 : 0 ≤ zs[i] ∧ zs[i] < 256 := by
        simp [Lit.wf, IntKind.min, IntKind.max, IntKind.signed, IntKind.bits] at h4
        omega
      exact ⟨zs[i].toNat, by omega, by rw [h2]; congr 2; omega⟩
end Go.Proofs.YtnomlkkhkacajaaGreatDoor
namespace Go.Proofs.YtnomlkkhkacajaaGreatDoor
open Go.RowKit
open Go.Lib hiding intOf

theorem own : ownKnob Tryz.prog.godebug = none := by kernel_rfl
theorem gTabT : (Tryz.prog.globals[1]?).map (·.type) = some 179 := by kernel_rfl
theorem gSynT : (Tryz.prog.globals[2]?).map (·.type) = some 103 := by kernel_rfl
theorem gRngT : (Tryz.prog.globals[3]?).map (·.type) = some 103 := by kernel_rfl
theorem tabC : Tryz.prog.cellsOf 179 = 20 := by kernel_rfl
theorem u64C : Tryz.prog.cellsOf 160 = 1 := by kernel_rfl
theorem errC : Tryz.prog.cellsOf 193 = 1 := by kernel_rfl
theorem strC : Tryz.prog.cellsOf 9 = 1 := by kernel_rfl
theorem starErr : "*" ++ "errors.errorString" = "*errors.errorString" := by decide
theorem rowErr (u : TypeId) (h : Tryz.prog.typeName? 3 u = some "*errors.errorString") : u = 191 :=
  typeName_ptr_named (nm := "errors.errorString") (by rw [starErr]; kernel_rfl) (by kernel_rfl) (by decide) u (by rw [starErr]; exact h)
/-- The tables and the errors. -/
def laid5 : List (String × DataW Unit) := Rows.fnDeskDoRow.laid
theorem envT_of {W : World} {d32 d64 : String × DataW Unit} {rest : List (String × DataW Unit)} (h : laidMet Tryz.prog (d32 :: d64 :: (Tryz.tabName, tabData .u64 pow10Tab) :: rest) W) : EnvT W :=
  ⟨tabIs_of_head gTab gTabT Tryz.underlying179 Tryz.underlying160 u64C tabC h.tail.tail⟩
theorem envA_laid5 {W : World} (h : laidMetH Tryz.prog laid5 W) : EnvA W := by
  rw [MakeChecks.laidMetH_plain _ _ _ (by kernel_rfl)] at h
  obtain ⟨a0, s0, hv0, -, -, -⟩ := laid_sentinel (h.tail.tail.tail : laidMet Tryz.prog (("strconv.ErrRange", Rows.laid_strconv_ErrRange) :: _) W) gRng gRngT Tryz.underlying103 rowErr Tryz.underlying191 Tryz.underlying193 rfl rfl Tryz.underlying9 errC strC
  obtain ⟨a1, s1, hv1, -, -, -⟩ := laid_sentinel (h.tail.tail.tail.tail : laidMet Tryz.prog (("strconv.ErrSyntax", Rows.laid_strconv_ErrSyntax) :: _) W) gSyn gSynT Tryz.underlying103 rowErr Tryz.underlying191 Tryz.underlying193 rfl rfl Tryz.underlying9 errC strC
  exact ⟨envT_of h, ⟨_, _, hv1⟩, ⟨_, _, hv0⟩⟩
theorem door_met5 (os : Os) (args : Array Value) : laidMetH Tryz.prog laid5 ((World.doorLaid Tryz.prog 62 os).forCall (fun _ _ => 0) ⟨#[], args, []⟩).memory :=
  laidMetH_of_parts3 (fuel := 8) (laidMet_of_run' 8 (by kernel_rfl) (by kernel_rfl)) (by kernel_rfl) (by kernel_rfl)
theorem envX_laid5 {W : World} (hL : laidMetH Tryz.prog laid5 W) (hsh : W.ShapedOpen Tryz.prog) : EnvX W :=
  ⟨envA_laid5 hL, cell_of_shapedOpen_int (P := Tryz.prog) (g := 0) (t := 3) (zero := #[.int .i64 0]) hsh (of_decide_eq_true (by kernel_rfl)) (by kernel_rfl) rfl (by kernel_rfl) (by kernel_rfl) Tryz.underlying3⟩
end Go.Proofs.YtnomlkkhkacajaaGreatDoor
