/- Texts on the way to a law (H23, H24, H11), each with its own remark. -/
import Derived.Test.YtnomlkkhkacajaaGreatDoorPC36
import Derived.Test.YtnomlkkhkacajaaGreatDoorPC07
import Derived.Test.YtnomlkkhkacajaaGreatDoorPC32
import Derived.Test.YtnomlkkhkacajaaGreatDoorPC31
namespace Go.Proofs.YtnomlkkhkacajaaGreatDoor
open Go.RowKit
open Go.Lib hiding intOf

theorem DkX.swap {w : World} {B : Nat} {X X' : Nat → Prop} {A A' : Option Addr} {n c m : Nat} {d : Dk} (h : DkX w B X A n c A' m d) (hX : ∀ b, b < w.heap.size → ¬ X b → ¬ X' b) : DkX w B X' A n c A' m d := by
  obtain ⟨h1, vs, h2, h3, h4, h5, h6⟩ := h
  exact ⟨⟨h1.sg, fun ad e => hX _ (h1.sg.ge ad e).2 (h1.ne ad e)⟩, vs, h2, h3, h4, fun ad e => hX _ (h4 ad e).2 (h5 ad e), fun ad n c hm => by
    obtain ⟨z, hz⟩ := h3.mem hm
    exact hX _ (hz.ge ad rfl).2 (h6 ad n c hm)⟩
theorem DkX.weak {w : World} {B : Nat} {X X' : Nat → Prop} {A A' : Option Addr} {n c m : Nat} {d : Dk} (h : DkX w B X A n c A' m d) (hX : ∀ b, ¬ X b → ¬ X' b) : DkX w B X' A n c A' m d := h.swap fun b _ => hX b
/-- The blocks that a desk must not lie in: its own one, the result's, that of the answers. -/
def Xt (w : World) (gb : Nat) (v : Value) : Nat → Prop := fun b => b = gb ∨ b = w.heap.size + 1 ∨ v.ownBlock = some b
/-- A desk that is being changed, in its own block; the result's block; the answers. -/
structure RunT (w : World) (gb : Nat) (wr : World) (A : Option Addr) (n c : Nat) (A' : Option Addr) (m c' : Nat) (d : Dk) (v : Value) (N : Nat) (vs : List Value) : Prop where
  at_ : KAt wr gb (.slice A n c) (.slice A' m c')
  res : KAt wr (w.heap.size + 1) (.slice none 0 0) (.slice none 0 0)
  dk : DkX wr w.heap.size (Xt w gb v) A n c A' m d
  out : Ow wr (w.heap.size + 1 + 1) 9 v N vs
  ng : v.ownBlock ≠ some gb
  below : Below w.heap.size w wr
  gt : w.heap.size + 1 < gb
theorem Ow.own_lt {w : World} {B n : Nat} {E : TypeId} {v : Value} {vs : List Value} (h : Ow w B E v n vs) {b : Nat} (hb : v.ownBlock = some b) : B ≤ b ∧ b < w.heap.size := by
  obtain ⟨A, c, rfl⟩ := h.shape
  cases A with
  | none => cases hb
  | some ad =>
    obtain ⟨h1, h2⟩ := h.ge ad rfl
    have : some ad.block = some b := hb
    injection this with this
    subst this
    exact ⟨h1, h2⟩
variable {w wr w' w7 : World} {gb N : Nat} {A A' A6 A7 : Option Addr} {n c m c' n6 c6 m7 c7 : Nat} {d y : Dk} {v v' : Value} {vs vs' : List Value}
theorem RunT.step (h : RunT w gb wr A n c A' m c' d v N vs) (hb : Below wr.heap.size wr w') : RunT w gb w' A n c A' m c' d v N vs :=
  ⟨h.at_.below hb h.at_.lt, h.res.below hb h.res.lt, h.dk.kx (Kx.of hb), h.out.below hb, h.ng, h.below.trans (hb.mono h.below.size), h.gt⟩
/-- Another desk is laid into the desk's block. -/
theorem RunT.new (h : RunT w gb wr A n c A' m c' d v N vs) (hb : Below wr.heap.size wr w7) (hn : DkV w7 wr.heap.size A6 n6 c6 A7 m7 y) :
    RunT w gb ((w7.setCell ⟨gb, 0, none⟩ (.slice A6 n6 c6)).setCell ⟨gb, 1, none⟩ (.slice A7 m7 c7)) A6 n6 c6 A7 m7 c7 y v N vs := by
  have h7 := h.step hb
  have hgt := h.gt
  have hlt := h.at_.lt
  have hpk : Pk gb w7 ((w7.setCell ⟨gb, 0, none⟩ (.slice A6 n6 c6)).setCell ⟨gb, 1, none⟩ (.slice A7 m7 c7)) := ((Pk.refl gb _).setCell 0 _).setCell 1 _
  have hX : ∀ b, wr.heap.size ≤ b → b < w7.heap.size → ¬ Xt w gb v b := fun b h1 h2 hx => by
    rcases hx with hx | hx | hx
    · omega
    · omega
    · have := (h.out.own_lt hx).2; omega
  have hk : Kx (Xt w gb v) w7 ((w7.setCell ⟨gb, 0, none⟩ (.slice A6 n6 c6)).setCell ⟨gb, 1, none⟩ (.slice A7 m7 c7)) := Kx.pk hpk (.inl rfl)
  exact ⟨(h7.at_.set0 _).set1 _, h7.res.pk hpk (by omega), ((hn.dkx hX).kx hk).mono h.below.size, Ow.pk' h7.out hpk (fun a m c e hg => h.ng (by rw [e, ← hg]; rfl)), h.ng, (h7.below.setCell (p := ⟨gb, 0, none⟩) (by show w.heap.size ≤ gb; omega) _).setCell (p := ⟨gb, 1, none⟩) (by show w.heap.size ≤ gb; omega) _, h.gt⟩
/-- The answers are another list. -/
theorem RunT.app {N' : Nat} (h : RunT w gb wr A n c A' m c' d v N vs) (ho : Ow w' (w.heap.size + 1 + 1) 9 v' N' vs') (hb : Below (w.heap.size + 1 + 1) wr w')
    (hk : ∀ b, b < wr.heap.size → v.ownBlock ≠ some b → w'.heap[b]? = wr.heap[b]?) (hl : ∀ b, b < wr.heap.size → v.ownBlock ≠ some b → v'.ownBlock ≠ some b) : RunT w gb w' A n c A' m c' d v' N' vs' := by
  have hs := hb.size
  have hr : v.ownBlock ≠ some (w.heap.size + 1) := fun e => by have := (h.out.own_lt e).1; omega
  refine ⟨h.at_.keep hs (hk gb h.at_.lt h.ng), h.res.keep hs (hk _ h.res.lt hr), ?_, ho, hl gb h.at_.lt h.ng, h.below.trans (hb.mono (by omega)), h.gt⟩
  have hX : ∀ b, b < wr.heap.size → ¬ Xt w gb v b → ¬ (Xt w gb v b ∨ Xt w gb v' b) := fun b hlt hx hy => by
    rcases hy with hy | hy | hy | hy
    · exact hx hy
    · exact hx (.inl hy)
    · exact hx (.inr (.inl hy))
    · exact hl b hlt (fun e => hx (.inr (.inr e))) hy
  have hkx : Kx (fun b => Xt w gb v b ∨ Xt w gb v' b) wr w' := ⟨hs, fun b hlt hx => hk b hlt fun e => hx (.inl (.inr (.inr e)))⟩
  exact ((h.dk.swap hX).kx hkx).weak fun b hx hy => hx (.inr hy)
/-- One answer is laid into its place. -/
theorem RunT.seti {g cap : Nat} (h : RunT w gb wr A n c A' m c' d (.slice (some ⟨g, 0, none⟩) N cap) N vs) (k : Nat) (u : Value) : RunT w gb (wr.setCell ⟨g, k, none⟩ u) A n c A' m c' d (.slice (some ⟨g, 0, none⟩) N cap) N (vs.set k u) := by
  have hg := h.out.own_lt (b := g) rfl
  have ho : Ow (wr.setCell ⟨g, k, none⟩ u) (w.heap.size + 1 + 1) 9 (.slice (some ⟨g, 0, none⟩) N cap) N (vs.set k u) := (World.ownsRow.stored h.out k u).1
  exact h.app ho ((Below.refl _ wr).setCell (p := ⟨g, k, none⟩) hg.1 _) (fun b _ hne => ((Pk.refl g wr).setCell k u).block b (by assumption) fun e => hne (by rw [e]; rfl)) fun b _ hne => hne
/-- A desk, and texts. -/
def RetKS (w : World) (r : Dk × List Txt) (e : Ending) (w' : World) : Prop :=
  ∃ A n c A' m c' T N tc, e = .returned (.tuple #[.agg #[.slice A n c, .slice A' m c'], .slice T N tc]) ∧ N = r.2.length ∧ DkV w' w.heap.size A n c A' m r.1 ∧ Ow w' (w.heap.size + 1 + 1) 9 (.slice T N tc) N (r.2.map sv) ∧ Below w.heap.size w w'
theorem RunT.ret {T : Option Addr} {tc : Nat} {ts : List Txt} (h : RunT w gb wr A n c A' m c' d (.slice T N tc) N (ts.map sv)) (hN : N = ts.length) :
    RetKS w (d, ts) (.returned (.tuple #[.agg #[.slice A n c, .slice A' m c'], .slice T N tc])) ((wr.setCell ⟨w.heap.size + 1, 0, none⟩ (.slice A n c)).setCell ⟨w.heap.size + 1, 1, none⟩ (.slice A' m c')) := by
  have hpk : Pk (w.heap.size + 1) wr ((wr.setCell ⟨w.heap.size + 1, 0, none⟩ (.slice A n c)).setCell ⟨w.heap.size + 1, 1, none⟩ (.slice A' m c')) := ((Pk.refl _ _).setCell 0 _).setCell 1 _
  have hk : Kx (Xt w gb (.slice T N tc)) wr ((wr.setCell ⟨w.heap.size + 1, 0, none⟩ (.slice A n c)).setCell ⟨w.heap.size + 1, 1, none⟩ (.slice A' m c')) := Kx.pk hpk (.inr (.inl rfl))
  exact ⟨_, _, _, _, _, _, _, _, _, rfl, hN, (h.dk.kx hk).dkv, h.out.pk hpk (by omega), (h.below.setCell (p := ⟨w.heap.size + 1, 0, none⟩) (by show w.heap.size ≤ w.heap.size + 1; omega) _).setCell (p := ⟨w.heap.size + 1, 1, none⟩) (by show w.heap.size ≤ w.heap.size + 1; omega) _⟩
end Go.Proofs.YtnomlkkhkacajaaGreatDoor
namespace Go.Proofs.YtnomlkkhkacajaaGreatDoor
open Go.RowKit
open Go.Lib hiding intOf

theorem say_set (ts : List Txt) (x : Value) (m k : Nat) (t : Txt) (h : ts.length = k) : (ts.map sv ++ List.replicate (m + 1) x).set k (sv t) = (ts ++ [t]).map sv ++ List.replicate m x := by
  rw [List.set_append_right _ _ (by rw [List.length_map]; omega), List.length_map, h, Nat.sub_self, List.replicate_succ, List.set_cons_zero, List.map_append, List.append_assoc]
  rfl
theorem sayG_ts (d : Dk) (ls : List Txt) (k : Nat) (h : k ≤ ls.length) : (sayG (d, []) (ls.take k)).2.length = k := by rw [sayG_len, List.length_take]; omega

set_option maxHeartbeats 4000000 in
set_option maxRecDepth 100000 in
theorem iDeskSay (A A' : Option Addr) (n c m c' : Nat) (d : Dk) (L : Option Addr) (l lc : Nat) (ls : List Txt) (w : World) (hd : DkV w 0 A n c A' m d) (hz : DkS d) (hls : Sl w L l (ls.map sv)) (hl : l ≤ 1048576) (ht : ∀ a ∈ ls, a.length ≤ 1048576)
    (hg : dkB d = true → ls.length ≤ 40 → ∃ a0, DkL d a0 ∧ 14 ≤ a0 ∧ a0 + 5 * (ls.length : Int) ≤ 122) (hE : EnvX w) :
    Calls Tryz.prog 23 #[.agg #[.slice A n c, .slice A' m c'], .slice L l lc] w (RetKS w (sayF d ls)) := by
  have hdl : ls.length = l := by have := hls.len; rwa [List.length_map] at this
  obtain ⟨w0, hw0⟩ : ∃ w0, w0 = (w.alloc (.cells #[.slice A n c, .slice A' m c'] 26)).alloc (.cells #[.slice none 0 0, .slice none 0 0] 26) := ⟨_, rfl⟩
  have HB0 : Hid (Below w.heap.size w w0) := by rw [hw0]; exact below2 _ _ _
  have HS0 : Hid (w0.heap.size = w.heap.size + 1 + 1) := by show _ = _; rw [hw0, size_alloc, size_alloc]
  have HK0 : Hid (KAt w0 w.heap.size (.slice A n c) (.slice A' m c')) := by rw [hw0]; exact (KAt.new w _ _ _).below (below_alloc _ _) (by rw [size_alloc]; omega)
  have HR0 : Hid (KAt w0 (w.heap.size + 1) (.slice none 0 0) (.slice none 0 0)) := by
    have h := KAt.new (w.alloc (.cells #[.slice A n c, .slice A' m c'] 26)) (.slice none 0 0) (.slice none 0 0) 26
    rw [size_alloc] at h
    rw [hw0]; exact h
  have HV0 : Hid (DkV w0 0 A n c A' m d) := hd.below HB0.out
  have HOK : Hid (∀ w, DkV w 0 A n c A' m d → Calls Tryz.prog 12 #[.agg #[.slice A n c, .slice A' m c']] w fun e w' => e = .returned (.bool (dkB d)) ∧ Below w.heap.size w w') := fun w h => iDeskOk A A' n c m c' d w h hz
  have HCP : Hid (∀ w, DkV w 0 A n c A' m d → Calls Tryz.prog 35 #[.agg #[.slice A n c, .slice A' m c']] w (RetK w d)) := fun w h => iCopied A A' n c m c' d w h hz
  obtain ⟨k0, k1, l0, l1, l2⟩ := HK0.out
  by_cases hno : dkB d = false ∨ 40 < ls.length
  · have HF := Lib.hid (sayF_no hno)
    have key : dkB d = false ∨ (dkB d = true ∧ (40 : Int) < (l : Int)) := by
      cases hb : dkB d
      · exact .inl rfl
      · rcases hno with h | h
        · rw [h] at hb; cases hb
        · exact .inr ⟨rfl, by omega⟩
    clear hd hz hls hg ht hno hdl hE
    rcases key with hb | ⟨hb, h40⟩
    all_goals
      rw [hb] at HOK
      clear hb
      go_enter Tryz.func23, Tryz.ntmps23
      go_wp2_with fail
      rw [← hw0]
      clear hw0
      refine (HOK.out _ HV0.out).mono ?_
      rintro e w1 ⟨rfl, hb1⟩
      have HB1 : Hid (Below w.heap.size w w1) := HB0.out.trans (hb1.mono HB0.out.size)
      obtain ⟨r0, r1, s0, s1, s2⟩ := HR0.out.below hb1 HR0.out.lt
      clear hb1 k0 k1 l0 l1 l2
      go_wp2_with fail
      refine bodyPost_ret (v := .tuple #[.agg #[.slice none 0 0, .slice none 0 0], .slice none 0 0]) (by simp [results, Tryz.results23, go_sem, r0, r1]) rfl ?_
      rw [HF.out]
      exact ⟨_, _, _, _, _, _, _, _, _, rfl, rfl, DkV.zero _ _, Ow.nil_ _ _ _, (HB1.out.setCell (p := ⟨w.heap.size + 1, 0, none⟩) (by show w.heap.size ≤ w.heap.size + 1; omega) _).setCell (p := ⟨w.heap.size + 1, 1, none⟩) (by show w.heap.size ≤ w.heap.size + 1; omega) _⟩
  have hb : dkB d = true := eq_true_of_ne_false fun h => hno (.inl h)
  have h40 : ls.length ≤ 40 := Nat.le_of_not_lt fun h => hno (.inr h)
  have h40i : ¬ (40 : Int) < (l : Int) := by omega
  have hl40 : l ≤ 40 := by omega
  obtain ⟨a0, ha1, ha2, ha3⟩ := hg hb h40
  have HF := Lib.hid (sayF_yes hb h40)
  have HG : Hid (∀ k, k < l → dkB (sayG (d, []) (ls.take k)).1 = true ∧ LvOk (sayG (d, []) (ls.take k)).1.now) := fun k hk => by
    have hlt : ((ls.take k).length : Int) ≤ (k : Int) := by rw [List.length_take]; omega
    obtain ⟨q1, q2⟩ := sayG_ok hb ha1 ha2 [] (ls.take k) (by omega)
    exact ⟨q1, (q2.mono (show a0 + 5 * ((ls.take k).length : Int) ≤ a0 + 5 * (k : Int) by omega)).lvok (by omega) (by omega)⟩
  have HDO : Hid (∀ (k : Nat) (x : Dk) (q : List Txt) (a : Txt) (w' : World) (A n c A' m c'), k < l → sayG (d, []) (ls.take k) = (x, q) → ls[k]? = some a → DkV w' 0 A n c A' m x → EnvX w' → Calls Tryz.prog 20 #[.agg #[.slice A n c, .slice A' m c'], .string (bs a)] w' (RetKT w' (lineF x a))) := fun k x q a w' A n c A' m c' hk hx ha h he => by
    obtain ⟨q1, q2⟩ := HG.out k hk
    rw [hx] at q1 q2
    exact iDeskLine A A' n c m c' x a w' h (DkS.ok q1) (fun _ => q2) (ht a (List.mem_of_getElem? ha)) he
  have HFL : Hid (sayG (d, []) (ls.take l) = sayF d ls) := by show _ = _; rw [HF.out, List.take_of_length_le (by omega)]
  have HTS : Hid (∀ k, k ≤ l → (sayG (d, []) (ls.take k)).2.length = k) := fun k hk => sayG_ts d ls k (by omega)
  have HLS := Lib.hid hls
  have HLL := Lib.hid hdl
  have HE := Lib.hid hE
  rw [hb] at HOK
  clear hd hz hls hg ht hno hb ha1 ha2 ha3 h40 hdl hE HG
  go_enter Tryz.func23, Tryz.ntmps23
  go_wp2_with fail
  rw [← hw0]
  clear hw0
  refine (HOK.out _ HV0.out).mono ?_
  rintro e w1 ⟨rfl, hb1⟩
  have HB1 : Hid (Below w.heap.size w w1) := HB0.out.trans (hb1.mono HB0.out.size)
  have HS1 : Hid (w.heap.size + 1 + 1 ≤ w1.heap.size) := by show _ ≤ _; rw [← HS0.out]; exact hb1.size
  have HR1 := Lib.hid (HR0.out.below hb1 HR0.out.lt)
  have HV1 := Lib.hid (HV0.out.below hb1)
  clear k0 k1 l0 l1 l2
  obtain ⟨k0, k1, l0, l1, l2⟩ := HK0.out.below hb1 HK0.out.lt
  clear hb1
  go_wp2_with fail
  refine (HCP.out _ HV1.out).mono ?_
  rintro e w2 ⟨A2, n2, c2, A3, m3, c3, rfl, hs2, hp2, hb2, _⟩
  have HS2 : Hid (w.heap.size + 1 + 1 ≤ w2.heap.size) := Nat.le_trans HS1.out hb2.size
  have HB2 : Hid (Below w.heap.size w w2) := HB1.out.trans (hb2.mono HB1.out.size)
  have HR2 := Lib.hid (HR1.out.below hb2 HR1.out.lt)
  have HN2 : Hid (DkV w2 w1.heap.size A2 n2 c2 A3 m3 d) := ⟨hs2, hp2.ps⟩
  obtain ⟨w3, hw3⟩ : ∃ w3, w3 = w2.alloc (.cells #[.slice A2 n2 c2, .slice A3 m3 c3] 26) := ⟨_, rfl⟩
  have HB3 : Hid (Below w2.heap.size w2 w3) := by rw [hw3]; exact below_alloc _ _
  have HK3 : Hid (KAt w3 w2.heap.size (.slice A2 n2 c2) (.slice A3 m3 c3)) := by rw [hw3]; exact KAt.new w2 _ _ _
  have HS3 : Hid (w3.heap.size = w2.heap.size + 1) := by show _ = _; rw [hw3, size_alloc]
  clear k0 k1 l0 l1 l2 hs2 hp2 hb2
  obtain ⟨gb, hgb⟩ : ∃ gb, gb = w2.heap.size := ⟨_, rfl⟩
  go_upto_region 4 with fail
  rw [← hw3, ← hgb]
  rw [← hgb] at HK3
  have HGB := Lib.hid hgb
  clear hw3 hgb
  go_wp2_with (at_make; refine wl_make (w0 := w3) rfl (.tmp 22) (.tmp 22) 45 rfl Tryz.eS .i64 .i64 l _ _ rfl rfl rfl rfl (by omega) (by unfold maxLen; omega) (Below.refl _ _) ?_; intro w4 hown hb4 _; have HO4 := Lib.hid hown; have HB4 := Lib.hid hb4; clear hown hb4)
  obtain ⟨tb, htb⟩ : ∃ tb, tb = w3.heap.size := ⟨_, rfl⟩
  rw [← htb] at HO4 ⊢
  have hgt : gb < tb := by rw [htb, HGB.out, HS3.out]; omega
  have HI4 : Hid (RunT w gb w4 A2 n2 c2 A3 m3 c3 d (.slice (some ⟨tb, 0, none⟩) l l) l (List.replicate l (.string ⟨#[]⟩))) := by
    have hx : DkX w4 w1.heap.size (Xt w gb (.slice (some ⟨tb, 0, none⟩) l l)) A2 n2 c2 A3 m3 d := (((HN2.out.dkx (X := Xt w gb (.slice (some ⟨tb, 0, none⟩) l l)) fun b g1 g2 hx => by
      have h1 := HS1.out
      have h2 := HGB.out
      rcases hx with hx | hx | hx
      · omega
      · omega
      · have : some tb = some b := hx
        injection this with this
        omega).kx (Kx.of HB3.out))).kx (Kx.of HB4.out)
    have h2 := HS2.out
    have h3 := HGB.out
    exact ⟨(HK3.out).below HB4.out HK3.out.lt, (HR2.out.below HB3.out HR2.out.lt).below HB4.out (Nat.lt_of_lt_of_le HR2.out.lt HB3.out.size), hx.mono HB1.out.size, HO4.out.mono (by omega), fun e => by
      have : some tb = some gb := e
      injection this with this
      omega, HB2.out.trans ((HB3.out.trans (HB4.out.mono HB3.out.size)).mono HB2.out.size), by omega⟩
  clear HS0 HS1 HS2 HS3 HB0 HB1 HB2 HB3 HB4 HK3 HN2 HR0 HR1 HR2 HV0 HV1 HK0 htb HGB HO4
  go_wp2_with fail
  go_loopw [26] (fun i wr => ∃ (k : Nat) (q : List Txt) (A : Option Addr) (n c : Nat) (A' : Option Addr) (m c' : Nat) (x : Dk), k ≤ l ∧ i = .int .i64 k ∧ sayG (d, []) (ls.take k) = (x, q) ∧ RunT w gb wr A n c A' m c' x (.slice (some ⟨tb, 0, none⟩) l l) l (q.map sv ++ List.replicate (l - k) (.string ⟨#[]⟩))) (fun i _ => l - (intOf i).toNat)
  case atStart => first | exact ⟨0, [], _, _, _, _, _, _, d, by omega, rfl, rfl, HI4.out⟩ | ((repeat apply Exists.intro); exact ⟨by omega, rfl, rfl, HI4.out⟩)
  case round =>
    obtain ⟨k, q, A4, n4, c4, A5, m5, c5, x, hk, rfl, hrun, hi⟩ := hrel
    have HI := Lib.hid hi
    have HRUN := Lib.hid hrun
    have HQL : Hid (q.length = k) := by have h := HTS.out k hk; rw [hrun] at h; exact h
    clear hrun hi
    by_cases hlt : k < l
    · obtain ⟨b, o, rfl, hbl, hc⟩ := HLS.out.at_ hlt
      obtain ⟨a, ha⟩ : ∃ a, ls[k]? = some a := ⟨_, List.getElem?_eq_getElem (by rw [HLL.out]; exact hlt)⟩
      have hck : wr.cell? ⟨b, o + k, none⟩ = some (.string (bs a)) := (HI.out.below.cell (p := ⟨b, o + k, none⟩) hbl).trans (hc k _ (by rw [List.getElem?_map, ha]; rfl))
      have HT : Hid (sayG (d, []) (ls.take (k + 1)) = ((lineF x a).1, q ++ [(lineF x a).2])) := by show _ = _; rw [sayG_take ha, HRUN.out]; rfl
      have KDO := Lib.hid (fun w' h he => HDO.out k x q a w' A4 n4 c4 A5 m5 c5 hlt HRUN.out ha h he)
      clear ha hc
      obtain ⟨g0, g1, q0, q1, q2⟩ := HI.out.at_
      go_wp2_with fail
      refine (KDO.out wr (HI.out.dk.dkv.mono (Nat.zero_le _)) (HE.out.kp (Kp.below HI.out.below))).mono ?_
      obtain ⟨⟨y, t⟩, hy⟩ : ∃ r, lineF x a = r := ⟨_, rfl⟩
      rw [hy] at HT
      rw [hy]
      rintro e w5 ⟨A6, n6, c6, A7, m7, c7, rfl, hn5, hb5⟩
      have HI5 := Lib.hid (HI.out.step hb5)
      have HI6 := Lib.hid (HI.out.new (c7 := c7) hb5 hn5)
      have HI7 : Hid (RunT w gb (((w5.setCell ⟨gb, 0, none⟩ (.slice A6 n6 c6)).setCell ⟨gb, 1, none⟩ (.slice A7 m7 c7)).setCell ⟨tb, k, none⟩ (.string (bs t))) A6 n6 c6 A7 m7 c7 y (.slice (some ⟨tb, 0, none⟩) l l) l ((q ++ [t]).map sv ++ List.replicate (l - (k + 1)) (.string ⟨#[]⟩))) := by
        have h := HI6.out.seti k (.string (bs t))
        have e : l - k = l - (k + 1) + 1 := by omega
        rw [e, show Value.string (bs t) = sv t from rfl, say_set q _ _ k t HQL.out] at h
        exact h
      obtain ⟨g', hg', _, _, hcl, hfr, _⟩ := HI5.out.out.at_ hlt
      injection hg' with hg'
      injection hg' with hg'
      subst hg'
      obtain ⟨u, hu⟩ : ∃ u, w5.cell? ⟨tb, k, none⟩ = some u := ⟨_, (hcl k hlt).trans (List.getElem?_eq_getElem (by rw [HI5.out.out.len]; exact hlt))⟩
      have hf := hfr k
      have hne1 : ¬ tb = gb := by omega
      have hne2 : ¬ gb = tb := by omega
      clear hn5 hb5 hcl hfr g0 g1 q0 q1 q2 hck
      obtain ⟨g0, g1, q0, q1, q2⟩ := HI5.out.at_
      go_wp2_with fail
      go_roundw
      case rel => first | exact ⟨k + 1, q ++ [t], _, _, _, _, _, _, y, by omega, by go_num, HT.out, HI7.out⟩ | ((repeat apply Exists.intro); exact ⟨by omega, by go_num, HT.out, HI7.out⟩)
      case measure => simp [intOf]; omega
    · obtain rfl : k = l := by omega
      have HR : Hid (RetKS w (sayF d ls) (.returned (.tuple #[.agg #[.slice A4 n4 c4, .slice A5 m5 c5], .slice (some ⟨tb, 0, none⟩) k k])) ((wr.setCell ⟨w.heap.size + 1, 0, none⟩ (.slice A4 n4 c4)).setCell ⟨w.heap.size + 1, 1, none⟩ (.slice A5 m5 c5))) := by
        have h := HI.out
        rw [Nat.sub_self, List.replicate_zero, List.append_nil] at h
        have h2 := h.ret HQL.out.symm
        rw [← HRUN.out, HFL.out] at h2
        exact h2
      obtain ⟨g0, g1, q0, q1, q2⟩ := HI.out.at_
      obtain ⟨r0, r1, s0, s1, s2⟩ := HI.out.res
      have hgr := HI.out.gt
      go_wp2_with fail
      refine bodyPost_ret (v := .tuple #[.agg #[.slice A4 n4 c4, .slice A5 m5 c5], .slice (some ⟨tb, 0, none⟩) k k]) (by simp [results, Tryz.results23, go_sem, r0, r1]) rfl ?_
      exact HR.out
end Go.Proofs.YtnomlkkhkacajaaGreatDoor
namespace Go.Proofs.YtnomlkkhkacajaaGreatDoor
open Go.RowKit
open Go.Lib hiding intOf

theorem below_da {w w' : World} {o : Obj} (h : Below (w.alloc o).drew.heap.size (w.alloc o).drew w') : Below w.heap.size w w' :=
  (below_alloc w o).drew.trans (h.mono (below_alloc w o).size)

set_option maxHeartbeats 4000000 in
set_option maxRecDepth 100000 in
theorem iDeskRun (A A' : Option Addr) (n c m c' : Nat) (d : Dk) (L : Option Addr) (l lc : Nat) (ds : List Dd) (w : World) (hd : DkV w 0 A n c A' m d) (hz : DkS d) (hds : Ds w L l ds) (hl : l ≤ 1048576) (ht : ∀ a ∈ ds, a.text.length ≤ 1073741824)
    (hg : dkB d = true → ds.length ≤ 40 → ∃ a0, DkL d a0 ∧ 14 ≤ a0 ∧ a0 + 5 * (ds.length : Int) ≤ 122) (hE : EnvA w) :
    Calls Tryz.prog 15 #[.agg #[.slice A n c, .slice A' m c'], .slice L l lc] w (RetKN w (runF d ds)) := by
  have hdl := hds.1
  obtain ⟨w0, hw0⟩ : ∃ w0, w0 = (w.alloc (.cells #[.slice A n c, .slice A' m c'] 26)).alloc (.cells #[.slice none 0 0, .slice none 0 0] 26) := ⟨_, rfl⟩
  have HB0 : Hid (Below w.heap.size w w0) := by rw [hw0]; exact below2 _ _ _
  have HK0 : Hid (KAt w0 w.heap.size (.slice A n c) (.slice A' m c')) := by rw [hw0]; exact (KAt.new w _ _ _).below (below_alloc _ _) (by rw [size_alloc]; omega)
  have HR0 : Hid (KAt w0 (w.heap.size + 1) (.slice none 0 0) (.slice none 0 0)) := by
    have h := KAt.new (w.alloc (.cells #[.slice A n c, .slice A' m c'] 26)) (.slice none 0 0) (.slice none 0 0) 26
    rw [size_alloc] at h
    rw [hw0]; exact h
  have HV0 : Hid (DkV w0 0 A n c A' m d) := hd.below HB0.out
  have HOK : Hid (∀ w, DkV w 0 A n c A' m d → Calls Tryz.prog 12 #[.agg #[.slice A n c, .slice A' m c']] w fun e w' => e = .returned (.bool (dkB d)) ∧ Below w.heap.size w w') := fun w h => iDeskOk A A' n c m c' d w h hz
  have HCP : Hid (∀ w, DkV w 0 A n c A' m d → Calls Tryz.prog 35 #[.agg #[.slice A n c, .slice A' m c']] w (RetK w d)) := fun w h => iCopied A A' n c m c' d w h hz
  obtain ⟨k0, k1, l0, l1, l2⟩ := HK0.out
  by_cases hno : dkB d = false ∨ 40 < ds.length
  · have HF := Lib.hid (runF_no hno)
    have key : dkB d = false ∨ (dkB d = true ∧ (40 : Int) < (l : Int)) := by
      cases hb : dkB d
      · exact .inl rfl
      · rcases hno with h | h
        · rw [h] at hb; cases hb
        · exact .inr ⟨rfl, by omega⟩
    clear hd hz hds hg ht hno hdl
    rcases key with hb | ⟨hb, h40⟩
    all_goals
      rw [hb] at HOK
      clear hb
      go_enter Tryz.func15, Tryz.ntmps15
      go_wp2_with fail
      rw [← hw0]
      clear hw0
      refine (HOK.out _ HV0.out).mono ?_
      rintro e w1 ⟨rfl, hb1⟩
      have HB1 : Hid (Below w.heap.size w w1) := HB0.out.trans (hb1.mono HB0.out.size)
      obtain ⟨r0, r1, s0, s1, s2⟩ := HR0.out.below hb1 HR0.out.lt
      clear hb1 k0 k1 l0 l1 l2
      go_wp2_with fail
      refine bodyPost_ret (v := .tuple #[.agg #[.slice none 0 0, .slice none 0 0], .int .i64 0]) (by simp [results, Tryz.results15, go_sem, r0, r1]) rfl ?_
      rw [HF.out]
      exact ⟨_, _, _, _, _, _, rfl, DkV.zero _ _, (HB1.out.setCell (p := ⟨w.heap.size + 1, 0, none⟩) (by show w.heap.size ≤ w.heap.size + 1; omega) _).setCell (p := ⟨w.heap.size + 1, 1, none⟩) (by show w.heap.size ≤ w.heap.size + 1; omega) _⟩
  have hb : dkB d = true := eq_true_of_ne_false fun h => hno (.inl h)
  have h40 : ds.length ≤ 40 := Nat.le_of_not_lt fun h => hno (.inr h)
  have h40i : ¬ (40 : Int) < (l : Int) := by omega
  obtain ⟨a0, ha1, ha2, ha3⟩ := hg hb h40
  have HF := Lib.hid (runF_yes hb h40)
  have HG : Hid (∀ k, k < l → dkB (runG (d, 0) (ds.take k)).1 = true ∧ LvOk (runG (d, 0) (ds.take k)).1.now) := fun k hk => by
    have hlt : ((ds.take k).length : Int) ≤ (k : Int) := by rw [List.length_take]; omega
    obtain ⟨q1, q2⟩ := runG_ok hb ha1 ha2 0 (ds.take k) (by omega)
    exact ⟨q1, (q2.mono (show a0 + 5 * ((ds.take k).length : Int) ≤ a0 + 5 * (k : Int) by omega)).lvok (by omega) (by omega)⟩
  have HDO : Hid (∀ (k : Nat) (x : Dk) (q : Nat) (a : Dd) (w' : World) (A n c A' m c'), k < l → runG (d, 0) (ds.take k) = (x, q) → ds[k]? = some a → DkV w' 0 A n c A' m x → EnvA w' → Calls Tryz.prog 9 #[.agg #[.slice A n c, .slice A' m c'], dv a] w' (RetKB w' (doF x a))) := fun k x q a w' A n c A' m c' hk hx ha h he => by
    obtain ⟨q1, q2⟩ := HG.out k hk
    rw [hx] at q1 q2
    exact iDeskDo A A' n c m c' x a w' h (DkS.ok q1) (fun _ => q2) (ht a (List.mem_of_getElem? ha)) he
  have HFL : Hid (runG (d, 0) (ds.take l) = runF d ds) := by show _ = _; rw [HF.out, List.take_of_length_le (by omega)]
  have HDS := Lib.hid hds
  have HNL := Lib.hid hd.now.len
  have HPL := Lib.hid hd.past.len
  have HE := Lib.hid hE
  clear hE
  rw [hb] at HOK
  clear hd hz hds hg ht hno hb ha1 ha2 ha3 h40 hdl
  go_enter Tryz.func15, Tryz.ntmps15
  go_wp2_with fail
  rw [← hw0]
  clear hw0
  refine (HOK.out _ HV0.out).mono ?_
  rintro e w1 ⟨rfl, hb1⟩
  have HB1 : Hid (Below w.heap.size w w1) := HB0.out.trans (hb1.mono HB0.out.size)
  have HR1 := Lib.hid (HR0.out.below hb1 HR0.out.lt)
  have HV1 := Lib.hid (HV0.out.below hb1)
  clear k0 k1 l0 l1 l2
  obtain ⟨k0, k1, l0, l1, l2⟩ := HK0.out.below hb1 HK0.out.lt
  clear hb1
  go_wp2_with fail
  refine (HCP.out _ HV1.out).mono ?_
  rintro e w2 ⟨A2, n2, c2, A3, m3, c3, rfl, hs2, hp2, hb2, _⟩
  have hs1 : w.heap.size + 1 < w1.heap.size := HR1.out.lt
  have hs12 : w1.heap.size ≤ w2.heap.size := hb2.size
  have HB2 : Hid (Below w.heap.size w w2) := HB1.out.trans (hb2.mono HB1.out.size)
  obtain ⟨w3, hw3⟩ : ∃ w3, w3 = w2.alloc (.cells #[.slice A2 n2 c2, .slice A3 m3 c3] 26) := ⟨_, rfl⟩
  have HB3 : Hid (Below w2.heap.size w2 w3) := by rw [hw3]; exact below_alloc _ _
  have HI3 : Hid (RunI w w2.heap.size w3 A2 n2 c2 A3 m3 c3 d) := by
    have h1 : KAt w3 w2.heap.size (.slice A2 n2 c2) (.slice A3 m3 c3) := by rw [hw3]; exact KAt.new w2 _ _ _
    have h2 : DkV w2 w1.heap.size A2 n2 c2 A3 m3 d := ⟨hs2, hp2.ps⟩
    exact ⟨h1, (HR1.out.below hb2 HR1.out.lt).below HB3.out (by omega), ((h2.dkx (X := fun b => b = w2.heap.size ∨ b = w.heap.size + 1) fun b g1 g2 hx => by rcases hx with hx | hx <;> omega).kx (Kx.of HB3.out)).mono HB1.out.size, HB2.out.trans (HB3.out.mono HB2.out.size), by omega⟩
  clear k0 k1 l0 l1 l2 hs2 hp2 hb2
  obtain ⟨gb, hgb⟩ : ∃ gb, gb = w2.heap.size := ⟨_, rfl⟩
  go_wp2_with fail
  rw [← hw3, ← hgb]
  rw [← hgb] at HI3
  clear hw3 hgb HB3
  go_loopw [7, 25] (fun cnt i wr => ∃ (k q : Nat) (A : Option Addr) (n c : Nat) (A' : Option Addr) (m c' : Nat) (x : Dk), k ≤ l ∧ i = .int .i64 k ∧ cnt = .int .i64 q ∧ q ≤ k ∧ runG (d, 0) (ds.take k) = (x, q) ∧ RunI w gb wr A n c A' m c' x) (fun _ i _ => l - (intOf i).toNat)
  case atStart => first | exact ⟨0, 0, _, _, _, _, _, _, d, by omega, rfl, rfl, by omega, rfl, HI3.out⟩ | ((repeat apply Exists.intro); exact ⟨by omega, rfl, rfl, by omega, rfl, HI3.out⟩)
  case round =>
    obtain ⟨k, q, A4, n4, c4, A5, m5, c5, x, hk, rfl, rfl, hqk, hrun, hi⟩ := hrel
    have HI := Lib.hid hi
    have HRUN := Lib.hid hrun
    clear hrun hi
    by_cases hlt : k < l
    · obtain ⟨b, o, a, rfl, hbl, ha, hc0, hc1, hc2⟩ := HDS.out.at_ hlt
      have hck0 := (HI.out.below.cell (p := ⟨b, o + k * 3, none⟩) hbl).trans hc0
      have hck1 := (HI.out.below.cell (p := ⟨b, o + k * 3 + 1, none⟩) hbl).trans hc1
      have hck2 := (HI.out.below.cell (p := ⟨b, o + k * 3 + 2, none⟩) hbl).trans hc2
      have HCK := Lib.hid (And.intro hck0 (And.intro hck1 hck2))
      have hbr : b < wr.heap.size := Nat.lt_of_lt_of_le hbl HI.out.below.size
      have HT : Hid (runG (d, 0) (ds.take (k + 1)) = runS (x, q) a) := by show _ = _; rw [runG_take ha, HRUN.out]
      have KDO := Lib.hid (fun w' h => HDO.out k x q a w' A4 n4 c4 A5 m5 c5 hlt HRUN.out ha h)
      unfold dv at KDO
      have e1 : IntKind.i64.wrap ((q : Int) + 1) = (q : Int) + 1 := IntWalk.i64_in _ (by omega)
      clear ha hc0 hc1 hc2
      obtain ⟨g0, g1, q0, q1, q2⟩ := HI.out.at_
      obtain ⟨wa, hwa⟩ : ∃ wa, wa = wr.alloc (.cells #[.int .i64 a.kind, .int .i64 a.num, .string (bs a.text)] 28) := ⟨_, rfl⟩
      have HBA : Hid (Below wr.heap.size wr wa) := by rw [hwa]; exact below_alloc _ _
      have HIA := Lib.hid (HI.out.step HBA.out)
      go_wp2_with fail
      rw [← hwa]
      clear hwa g0 g1 q0 q1 q2 hck0 hck1 hck2
      refine (KDO.out _ (HIA.out.dk.dkv.mono (Nat.zero_le _)) (HE.out.kp (Kp.below HIA.out.below))).mono ?_
      rintro e w5 ⟨A6, n6, c6, A7, m7, c7, rfl, hs5, hp5, _, hb5⟩
      have HB5 : Hid (Below wr.heap.size wr w5) := HBA.out.trans (hb5.mono HBA.out.size)
      have HN5 : Hid (DkV w5 wr.heap.size A6 n6 c6 A7 m7 (doF x a).1) := (DkV.mk hs5 hp5).mono HBA.out.size
      have HI5 := Lib.hid (HI.out.step HB5.out)
      have hgt7 : ¬ gb = w5.heap.size := by have h1 := HIA.out.at_.lt; have h2 := hb5.size; omega
      have hgt8 : ¬ w5.heap.size = gb := fun h => hgt7 h.symm
      obtain ⟨g0, g1, q0, q1, q2⟩ := HI5.out.at_
      clear hs5 hp5 hb5
      cases hok : (doF x a).2
      · have HS := Lib.hid (runS_no (r := (x, q)) hok)
        clear hok
        go_wp2_with fail
        go_roundw
        case rel => first | exact ⟨k + 1, q, _, _, _, _, _, _, x, by omega, by go_num, rfl, by omega, by rw [HT.out, HS.out], HI5.out.step (below_alloc _ _)⟩ | ((repeat apply Exists.intro); exact ⟨⟨k + 1, q, _, _, _, _, _, _, x, by omega, by go_num, rfl, by omega, by rw [HT.out, HS.out], HI5.out.step (below_alloc _ _)⟩, rfl⟩)
        case measure => simp [intOf]; omega
      · have HS := Lib.hid (runS_yes (r := (x, q)) hok)
        have HI8 := Lib.hid (HI.out.new (c7 := c7) HB5.out HN5.out)
        clear hok
        go_wp2_with fail
        go_roundw
        case rel => first | exact ⟨k + 1, q + 1, _, _, _, _, _, _, (doF x a).1, by omega, by go_num, by go_num, by omega, by rw [HT.out, HS.out], HI8.out.step (below_alloc _ _)⟩ | ((repeat apply Exists.intro); exact ⟨⟨k + 1, q + 1, _, _, _, _, _, _, (doF x a).1, by omega, by go_num, by go_num, by omega, by rw [HT.out, HS.out], HI8.out.step (below_alloc _ _)⟩, rfl⟩)
        case measure => simp [intOf]; omega
    · obtain rfl : k = l := by omega
      have HR : Hid (RetKN w (runF d ds) (.returned (.tuple #[.agg #[.slice A4 n4 c4, .slice A5 m5 c5], .int .i64 q])) ((wr.setCell ⟨w.heap.size + 1, 0, none⟩ (.slice A4 n4 c4)).setCell ⟨w.heap.size + 1, 1, none⟩ (.slice A5 m5 c5))) := by
        have h := HI.out.ret (q := q)
        rw [← HRUN.out, HFL.out] at h
        exact h
      obtain ⟨g0, g1, q0, q1, q2⟩ := HI.out.at_
      obtain ⟨r0, r1, s0, s1, s2⟩ := HI.out.res
      have hgr := HI.out.gt
      go_wp2_with fail
      refine bodyPost_ret (v := .tuple #[.agg #[.slice A4 n4 c4, .slice A5 m5 c5], .int .i64 q]) (by simp [results, Tryz.results15, go_sem, r0, r1]) rfl ?_
      exact HR.out

end Go.Proofs.YtnomlkkhkacajaaGreatDoor
